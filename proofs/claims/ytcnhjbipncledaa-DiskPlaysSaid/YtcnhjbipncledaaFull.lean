/- The walk of regattaref15.Full: bytes with noughts behind them. -/
import Derived.Test.YtcnhjbipncledaaDk4
import Derived.Deep.OwnRows
namespace Go.Proofs.Ytcnhjbipncledaa
open Go.RowKit

theorem full_step (b : List B8) (k : Nat) (hk : k < b.length) (hb : b.length ≤ 128) : ((b.take k ++ zeros (128 - k)).map byteV).set k (byteV b[k]) = (b.take (k + 1) ++ zeros (128 - (k + 1))).map byteV := by
  apply List.ext_getElem
  · simp [zeros]; omega
  · intro i h1 h2
    rw [List.getElem_set]
    by_cases hik : k = i
    · subst hik
      rw [if_pos rfl, List.getElem_map, List.getElem_append_left (by simp; omega), List.getElem_take]
    · rw [if_neg hik, List.getElem_map, List.getElem_map]
      congr 1
      by_cases hlt : i < k
      · rw [List.getElem_append_left (by simp; omega), List.getElem_append_left (by simp; omega), List.getElem_take, List.getElem_take]
      · rw [List.getElem_append_right (by simp; omega), List.getElem_append_right (by simp; omega)]
        simp [zeros]
set_option maxRecDepth 10000 in
set_option maxHeartbeats 1000000 in
theorem full_any (v : Value) (b : List B8) (w : World) (hv : IsBytes w v b) (hb : b.length ≤ 128) :
    Calls Try.prog 19 #[v] w fun e w' => ∃ v', e = .returned v' ∧ Own w' w.heap.size 5 v' ((full b).map byteV) ∧ Below w.heap.size w w' := by
  have hmk : ∀ w : World, (Instr.makeSlice 30 (.int .i64 128) (.int .i64 128)).run Try.prog w = .ok (.slice (some ⟨w.heap.size, 0, none⟩) 128 128) (w.alloc (.cells (madeCells #[.int .u8 0] 128) 5)) := run_make_row' (P := Try.prog) 30 5 (.int .u8 0) 1 Try.underlying30 info8 rfl .i64 .i64 128 (by omega) (by omega)
  have HB := Lib.hid hb
  obtain ⟨va, vn, vc, rfl⟩ : ∃ a n c, v = .slice a n c := by obtain ⟨a, n, c, h, _⟩ := hv; exact ⟨a, n, c, h⟩
  have hvn : vn = b.length := by obtain ⟨_, _, _, h, hl, _⟩ := hv; injection h with _ h _; rw [h, hl]
  have hvl : vn ≤ 128 := by rw [hvn]; exact hb
  have HVN := Lib.hid hvn
  have HV := Lib.hid hv
  obtain ⟨w1, hw1⟩ : ∃ w1, w1 = w.alloc (.cells (madeCells #[.int .u8 0] 128) 5) := ⟨_, rfl⟩
  have HO1 : Hid (OwnAt w1 w.heap.size 5 w.heap.size 128 ((b.take 0 ++ zeros (128 - 0)).map byteV)) := by
    unfold Hid
    rw [hw1]
    have h := made_own (e := 5) (w := w) rfl (show 128 ≤ maxLen by decide) (.int .u8 0)
    have e : (b.take 0 ++ zeros (128 - 0)).map byteV = List.replicate 128 (Value.int .u8 0) := by simp [zeros, byteV]
    rw [e]; exact h
  have HB1 : Hid (Below w.heap.size w w1) := by unfold Hid; rw [hw1]; exact (Below.refl _ _).alloc (Nat.le_refl _) _
  have HW1 := Lib.hid hw1
  clear hvn hv hb hw1
  go_enter Try.func19, Try.ntmps19
  go_wp2
  rw [← HW1.out]
  go_loopw [4] (fun i wr => ∃ k : Nat, k ≤ vn ∧ i = .int .i64 k ∧ Hid (OwnAt wr w.heap.size 5 w.heap.size 128 ((b.take k ++ zeros (128 - k)).map byteV)) ∧ Hid (Below w.heap.size w wr)) (fun i _ => vn - (intOf i).toNat)
  case atStart => exact ⟨0, Nat.zero_le _, rfl, HO1.out, HB1.out⟩
  case round =>
    obtain ⟨k, hk, rfl, how, hbl⟩ := hrel
    by_cases hlt : k < vn
    · have hkb : k < b.length := by rw [← HVN.out]; exact hlt
      have i1 : (0 : Int) ≤ (k : Int) ∧ (k : Int) < (vn : Int) := by omega
      have i2 : (k : Int) < 128 := by omega
      rcases HV.out.open_ with ⟨h0, _⟩ | ⟨_, B, off, cap, he, _, _, hBl, hB⟩
      · subst h0; simp at hkb
      · injection he with he _ _
        subst he
        have hBA := (hB.keep (hbl.out.block B hBl)) k hkb
        have hfz := how.out.frozen k
        have hcl := how.out.cell k (by simp [zeros]; omega)
        have HN : Hid (OwnAt (wr.setCell ⟨w.heap.size, k, none⟩ (byteV b[k])) w.heap.size 5 w.heap.size 128 ((b.take (k + 1) ++ zeros (128 - (k + 1))).map byteV)) := by
          unfold Hid
          have h := how.out.set_ k (byteV b[k])
          rw [full_step b k hkb HB.out] at h
          have e1 : ((b.take k ++ zeros (128 - k)).map byteV).length = ((b.take (k + 1) ++ zeros (128 - (k + 1))).map byteV).length := by simp [zeros]; omega
          exact h
        clear hB
        go_wp2
        go_roundw
        case rel => exact ⟨k + 1, by omega, by go_num, HN.out, hbl.out.setCell (Nat.le_refl _) _⟩
        case measure => simp [intOf]; omega
    · have hkv : k = vn := by omega
      have e : (b.take k ++ zeros (128 - k)) = full b := by
        unfold full
        rw [hkv, HVN.out, List.take_length]
      rw [e] at how
      have hl : ((full b).map byteV).length = 128 := by rw [List.length_map, full_length b HB.out]
      have hfin := how.out.1
      rw [hl] at hfin
      have HF := Lib.hid hfin
      clear hfin hl e
      go_wp2
      go_ret
      exact ⟨_, rfl, HF.out, hbl.out⟩
end Go.Proofs.Ytcnhjbipncledaa
