/- The document's disk: Read, walked. -/
import Derived.Test.YtcnhjbipncledaaRkW2
namespace Go.Proofs.Ytcnhjbipncledaa
open Go.RowKit

/-- A write of the row, its cells. -/
theorem RkAt.und_at {w : World} {B : Nat} {F : List Nat} {R : Nat} {vb : Value} {ua : Option Addr} {un uc : Nat} {s : Dk} (h : RkAt w B F R vb (.slice ua un uc) s) (k : Nat) (hk : k < un) :
    ∃ g x a m c, ua = some ⟨g, 0, none⟩ ∧ s.under[k]? = some x ∧ w.cell? ⟨g, k * 2, none⟩ = some (.int .i64 x.1) ∧ w.cell? ⟨g, k * 2 + 1, none⟩ = some (.slice a m c) ∧ IsBytes w (.slice a m c) x.2 ∧ g < w.heap.size := by
  obtain ⟨a', c', e, _⟩ := h.und.form_
  injection e with e1 e2 e3
  have hx : s.under[k]? = some s.under[k] := List.getElem?_eq_getElem (by omega)
  obtain ⟨g, cap, a, m, c, e, h0, h1, hb⟩ := h.und.at_ k _ _ hx
  injection e with e1 e2 e3
  exact ⟨g, _, a, m, c, e1, hx, h0, h1, hb, cell_lt h0⟩
theorem Dk.read_no {s : Dk} {i : Int} (h : s.asked i ≠ 0) : s.read i = ([], s.asked i) := by unfold Dk.read; rw [if_pos h]
theorem Dk.read_ok {s : Dk} {i : Int} (h : s.asked i = 0) : s.read i = (s.cur i s.under, 0) := by unfold Dk.read; rw [if_neg (by simp [h])]
set_option maxHeartbeats 2000000 in
theorem read_rk (w : World) (B : Nat) (F : List Nat) (R : Nat) (s : Dk) (h : RkIs w B F R s) (i : Int) (hu : s.under.length ≤ 1000000) :
    Calls Try.prog 45 #[.pointer (some ⟨R, 0, none⟩), .int .i64 i] w fun e w' => ∃ a n c, e = .returned (.tuple #[.slice a n c, .int .i64 (s.read i).2]) ∧ IsBytes w (.slice a n c) (s.read i).1 ∧ w' = w := by
  obtain ⟨vb, vu, h⟩ := h
  have H := Lib.hid h
  have HA := Lib.hid (asked_rk w B F R vb vu s h i)
  have c0 := h.c0
  have c1 := h.c1
  by_cases ha : s.asked i = 0
  · rw [ha] at HA
    have E := Lib.hid (Dk.read_ok ha)
    have hin := Dk.asked_in ha
    obtain ⟨g, gn, gc, ba, bm, bc, rfl, hgn, hbc, hbb⟩ := h.blk_at i hin.1 hin.2
    obtain ⟨ua, uc, rfl, -⟩ := h.und.form_
    obtain ⟨un, hun⟩ : ∃ un, un = s.under.length := ⟨_, rfl⟩
    rw [← hun] at c1 H hu
    have HUN := Lib.hid hun
    have HBB := Lib.hid hbb
    have ub : (un : Int) ≤ 1000000 := by omega
    obtain ⟨ii, rfl⟩ : ∃ ii : Nat, (ii : Int) = i := ⟨i.toNat, by omega⟩
    have hig : (0 : Int) ≤ (ii : Int) ∧ (ii : Int) < (gn : Int) := by omega
    rw [Int.toNat_natCast] at hbc
    have HGN := Lib.hid hgn
    clear h ha hun hbb hin hgn
    go_enter Try.func45, Try.ntmps45
    go_wp2_with (go_at_call 59; refine HA.out.mono ?_; rintro e w1 ⟨rfl, rfl⟩; clear HA)
    go_loop [7] (fun k => ∃ (kk : Int) (j : Nat), k = .int .i64 kk ∧ kk + 1 = j ∧ j ≤ un ∧ Hid (s.cur ii s.under = s.cur ii (s.under.take j))) (fun k => (intOf k + 1).toNat)
    case atStart => exact ⟨(un : Int) - 1, un, by first | rfl | go_num, by omega, Nat.le_refl _, by unfold Hid; rw [HUN.out, List.take_length]⟩
    case round =>
      obtain ⟨kk, j, rfl, hkj, hj, hcur⟩ := hrel
      by_cases h0 : j = 0
      · have hk1 : kk = -1 := by omega
        subst hk1 h0
        have e : s.cur ii s.under = s.blk ii := by rw [hcur.out]; rfl
        have HE := Lib.hid e
        clear e hcur
        go_wp2
        go_ret2
        rw [E.out, HE.out]
        exact ⟨_, _, _, rfl, HBB.out, rfl⟩
      · obtain ⟨m, rfl⟩ : ∃ m, j = m + 1 := ⟨j - 1, by omega⟩
        obtain rfl : kk = (m : Int) := by omega
        obtain ⟨g2, x, a, mm, c, rfl, hx, d0, d1, hb, -⟩ := H.out.und_at m (by omega)
        have hstep : s.cur ii (s.under.take (m + 1)) = if x.1 = ii then x.2 else s.cur ii (s.under.take m) := by
          rw [List.take_add_one, hx]
          exact Dk.cur_snoc s ii _ x
        have m1 : (0 : Int) ≤ (m : Int) ∧ (m : Int) < (un : Int) := by omega
        have HB := Lib.hid hb
        by_cases he : x.1 = ii
        · rw [if_pos he, ← hcur.out] at hstep
          have HS := Lib.hid hstep
          have e0 : (x.1 == (ii : Int)) = true := by rw [he]; simp
          clear hstep he hcur hb hx h0 hkj
          go_wp2
          go_ret2
          rw [E.out, HS.out]
          exact ⟨_, _, _, rfl, HB.out, rfl⟩
        · rw [if_neg he, ← hcur.out] at hstep
          have HS := Lib.hid hstep
          have e0 : (x.1 == (ii : Int)) = false := by rw [beq_eq_false_iff_ne]; exact he
          clear hstep he hcur hb hx h0 hkj
          go_wp2
          go_round
          case rel => exact ⟨_, m, rfl, by omega, by omega, HS.out⟩
          case measure => simp [intOf]
  · have E := Lib.hid (Dk.read_no ha)
    have hne : (s.asked i != 0) = true := by rw [bne_iff_ne]; exact ha
    clear h ha c0 c1
    go_enter Try.func45, Try.ntmps45
    go_wp2_with (go_at_call 59; refine HA.out.mono ?_; rintro e w1 ⟨rfl, rfl⟩)
    go_ret2
    rw [E.out]
    exact ⟨none, 0, 0, rfl, ⟨none, 0, 0, rfl, rfl, Nat.le_refl _, Nat.zero_le _, .inl rfl⟩, rfl⟩
end Go.Proofs.Ytcnhjbipncledaa
