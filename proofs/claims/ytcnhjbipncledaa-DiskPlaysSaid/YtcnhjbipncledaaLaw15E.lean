/- The law DiskNone, walked. -/
import Derived.Test.YtcnhjbipncledaaLaw15A
import Derived.Test.YtcnhjbipncledaaFew15
import Derived.Test.YtcnhjbipncledaaDkN
namespace Go.Proofs.Ytcnhjbipncledaa
open Go.RowKit

theorem NoDisk.below {w w' : World} {v : Value} (h : NoDisk w v) (hb : Below w.heap.size w w') : NoDisk w' v := by
  rcases h with h | ⟨D, rfl, h0⟩
  · exact .inl h
  · exact .inr ⟨D, rfl, (hb.cell (p := ⟨D, 0, none⟩) (cell_lt h0)).trans h0⟩
theorem NoDisk.alloc {w : World} {v : Value} (h : NoDisk w v) (o : Obj) : NoDisk (w.alloc o) v := h.below ((Below.refl _ _).alloc (Nat.le_refl _) o)
set_option maxRecDepth 10000 in
set_option maxHeartbeats 4000000 in
theorem diskNone_law (vo : Value) (ts : List DOp) (w : World) (ho : OpsIs w vo ts) :
    Calls Try.prog 7 #[vo] w fun e w' => e = .returned (.bool true) ∧ Below w.heap.size w w' := by
  obtain ⟨oa, on, oc, rfl, hon⟩ : ∃ a n c, vo = .slice a n c ∧ n = ts.length := by obtain ⟨a, n, c, h, hl, _⟩ := ho; exact ⟨a, n, c, h, hl⟩
  have HO := Lib.hid ho
  have HON := Lib.hid hon
  clear ho hon
  cases hf : fewD 80 300 100 ts with
  | false =>
    have HF := Lib.hid hf
    clear hf
    go_enter Try.func7, Try.ntmps7
    go_wp2_with (first | (go_at_call 12; refine (awake15_any _).mono ?_; rintro e w1 ⟨rfl, HB1⟩; have HB2 := Lib.hid HB1; clear HB1) | (go_at_call 22; refine (few15_any _ ts _ (HO.out.below HB2.out)).mono ?_; rintro e w2 ⟨rfl, b2⟩; have HB3 : Hid (Below w.heap.size w w2) := HB2.out.trans (b2.mono HB2.out.size); clear b2 HB2; rw [HF.out]))
    go_ret
    exact ⟨rfl, HB3.out⟩
  | true =>
    have HF := Lib.hid hf
    have HOL : Hid (on ≤ 80) := by unfold Hid; rw [HON.out]; exact (fewD_is hf).1
    clear hf
    go_enter Try.func7, Try.ntmps7
    go_wp2_with (first | (go_at_call 12; refine (awake15_any _).mono ?_; rintro e w1 ⟨rfl, HB1⟩; have HB2 := Lib.hid HB1; clear HB1) | (go_at_call 22; refine (few15_any _ ts _ (HO.out.below HB2.out)).mono ?_; rintro e w2 ⟨rfl, b2⟩; have HB3 : Hid (Below w.heap.size w w2) := HB2.out.trans (b2.mono HB2.out.size); clear b2 HB2; rw [HF.out]))
    obtain ⟨wb, hwb⟩ : ∃ wb, wb = (w2.alloc (.cells #[.int .i64 0, .map none, .slice none 0 0, .bool false, .int .i64 0, .bool false] 58)).alloc (.cells #[.pointer none, .pointer (some ⟨w2.heap.size, 0, none⟩)] 24) := ⟨_, rfl⟩
    have BB : Hid (Below w.heap.size w wb) := by unfold Hid; rw [hwb]; exact (HB3.out.alloc HB3.out.size _).alloc (by have := HB3.out.size; simp; omega) _
    have r0 : wb.cell? ⟨w2.heap.size + 1, 0, none⟩ = some (.pointer none) := by rw [hwb]; simp
    have r1 : wb.cell? ⟨w2.heap.size + 1, 1, none⟩ = some (.pointer (some ⟨w2.heap.size, 0, none⟩)) := by rw [hwb]; simp
    have rd : wb.cell? ⟨w2.heap.size, 0, none⟩ = some (.int .i64 0) := by rw [hwb]; simp
    have R0 := Lib.hid r0
    have R1 := Lib.hid r1
    have RD := Lib.hid rd
    rw [← hwb]
    clear r0 r1 rd hwb
    go_loopw [22] (fun j wr => ∃ k : Nat, k ≤ 2 ∧ j = .int .i64 k ∧ Hid (Below wb.heap.size wb wr)) (fun j _ => 2 - (intOf j).toNat)
    case atStart => exact ⟨0, by omega, rfl, Below.refl _ _⟩
    case round =>
      obtain ⟨k, hk, rfl, hbl⟩ := hrel
      by_cases hlt : k < 2
      · have hcell : ∃ v, wr.cell? ⟨w2.heap.size + 1, k, none⟩ = some v ∧ NoDisk wr v := by
          rcases (show k = 0 ∨ k = 1 by omega) with rfl | rfl
          · exact ⟨_, (hbl.out.cell (p := ⟨_, 0, none⟩) (cell_lt R0.out)).trans R0.out, .inl rfl⟩
          · exact ⟨_, (hbl.out.cell (p := ⟨_, 1, none⟩) (cell_lt R1.out)).trans R1.out, .inr ⟨_, rfl, (hbl.out.cell (p := ⟨_, 0, none⟩) (cell_lt RD.out)).trans RD.out⟩⟩
        obtain ⟨vd, hcell, hnd⟩ := hcell
        have ND := Lib.hid hnd
        have i1 : (0 : Int) ≤ (k : Int) ∧ (k : Int) < 2 := by omega
        clear hnd
        go_wp2
        obtain ⟨wo, rfl⟩ : ∃ wo : World, wo = wr := ⟨_, rfl⟩
        go_loopw [7, 28] (fun _ j wr' => ∃ m : Nat, m ≤ on ∧ j = .int .i64 m ∧ Hid (Below wo.heap.size wo wr')) (fun _ j _ => on - (intOf j).toNat)
        case atStart => exact ⟨0, by omega, rfl, Below.refl _ _⟩
        case round =>
          obtain ⟨m, hm, rfl, hin⟩ := hrel
          have BW : Hid (Below w.heap.size w wr) := (BB.out.trans (hbl.out.mono BB.out.size)).trans (hin.out.mono (Nat.le_trans BB.out.size hbl.out.size))
          have NDA : Hid (NoDisk wr vd) := ND.out.below hin.out
          by_cases hlm : m < on
          · obtain ⟨B, off, t, rfl, htk, hat⟩ := HO.out.at_ m hlm
            obtain ⟨pb, pf, nb, cb, nf, cf, q0, q1, q2, q3, -⟩ := hat.below BW.out
            have mb : (m : Int) ≤ 80 := by have := HOL.out; omega
            obtain ⟨kind, ti, tb, tf⟩ := t
            simp only at q0 q1
            clear hat htk hcell
            go_wp2_with (first | (go_at_call 21; refine (read_none _ vd (NDA.out.alloc _) _).mono ?_; rintro e w6 ⟨rfl, rfl⟩) | (go_at_call 23; refine (safe_none _ vd (NDA.out.alloc _) _).mono ?_; rintro e w6 ⟨rfl, rfl⟩) | (go_at_call 14; refine (arm_none _ vd (NDA.out.alloc _) _).mono ?_; rintro e w6 ⟨rfl, rfl⟩) | (go_at_call 15; refine (write_none _ vd (NDA.out.alloc _) _ _ _ _).mono ?_; rintro e w6 ⟨rfl, rfl⟩) | (go_at_call 16; refine (flush_none _ vd (NDA.out.alloc _)).mono ?_; rintro e w6 ⟨rfl, rfl⟩) | (go_at_call 18; refine (crash_none _ vd (NDA.out.alloc _) _ _ _).mono ?_; rintro e w6 ⟨rfl, rfl⟩))
            exact ⟨⟨m + 1, hlm, by go_num, hin.out.alloc hin.out.size _⟩, by simp [intOf]; omega⟩
          · clear hcell
            go_wp2_with (first | (go_at_call 26; refine (blocks_none _ vd NDA.out).mono ?_; rintro e w6 ⟨rfl, rfl⟩) | (go_at_call 17; refine (down_none _ vd NDA.out).mono ?_; rintro e w6 ⟨rfl, rfl⟩) | (go_at_call 20; refine (under_none _ vd NDA.out).mono ?_; rintro e w6 ⟨rfl, rfl⟩))
            go_roundw
            case rel => exact ⟨k + 1, by omega, by go_num, hbl.out.trans (hin.out.mono hbl.out.size)⟩
            case measure => simp [intOf]; omega
      · go_wp2
        go_ret
        exact ⟨rfl, BB.out.trans (hbl.out.mono BB.out.size)⟩
end Go.Proofs.Ytcnhjbipncledaa
