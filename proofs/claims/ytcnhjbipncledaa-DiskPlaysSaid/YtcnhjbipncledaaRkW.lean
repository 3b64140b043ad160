/- The small functions of the document's disk, walked: Asked, goes, Arm. -/
import Derived.Test.YtcnhjbipncledaaRkM
namespace Go.Proofs.Ytcnhjbipncledaa
open Go.RowKit

theorem asked_rk (w : World) (B : Nat) (F : List Nat) (R : Nat) (vb vu : Value) (s : Dk) (h : RkAt w B F R vb vu s) (i : Int) : Calls Try.prog 59 #[.pointer (some ⟨R, 0, none⟩), .int .i64 i] w fun e w' => e = .returned (.int .i64 (s.asked i)) ∧ w' = w := by
  have c0 := h.c0
  have c4 := h.c4
  obtain ⟨⟨a, n, c, rfl, hn⟩, -⟩ := h.forms
  have HN := Lib.hid hn
  clear h hn
  unfold Dk.asked
  by_cases hd : s.down = true
  · rw [hd] at c4
    rw [if_pos hd]
    go_enter Try.func59, Try.ntmps59
    go_wp2
    go_ret
    exact ⟨rfl, rfl⟩
  · have hd' : s.down = false := by simpa using hd
    rw [hd'] at c4
    rw [if_neg hd]
    by_cases hi : i < 0
    · rw [if_pos (.inl hi)]
      go_enter Try.func59, Try.ntmps59
      go_wp2
      go_ret
      exact ⟨rfl, rfl⟩
    · by_cases hb : s.blocks ≤ i
      · have hg : (n : Int) ≤ i := by rw [HN.out]; exact hb
        rw [if_pos (.inr hb)]
        clear hb
        go_enter Try.func59, Try.ntmps59
        go_wp2
        go_ret
        exact ⟨rfl, rfl⟩
      · have hg : i < (n : Int) := by rw [HN.out]; omega
        rw [if_neg (by omega)]
        clear hb
        go_enter Try.func59, Try.ntmps59
        go_wp2
        go_ret
        exact ⟨rfl, rfl⟩
theorem goes_rk (w : World) (B : Nat) (F : List Nat) (R : Nat) (vb vu : Value) (s : Dk) (h : RkAt w B F R vb vu s) : Calls Try.prog 60 #[.pointer (some ⟨R, 0, none⟩)] w fun e w' => e = .returned (.bool s.spend.2) ∧ RkAt w' B F R vb vu s.spend.1 ∧ Chg [R] w w' := by
  have H := Lib.hid h
  have c2 := h.c2
  obtain ⟨l, c3, hl, hlb⟩ := h.c3
  have c4 := h.c4
  have f3 := h.fz 3 (by decide)
  have f4 := h.fz 4 (by decide)
  have hok := Lib.hid h.ok
  have C0 := Lib.hid h.c0
  have C1 := Lib.hid h.c1
  have C2 := Lib.hid h.c2
  have C3 := Lib.hid h.c3
  have C4 := Lib.hid h.c4
  clear h
  by_cases ha : s.armed = true
  · rw [ha] at c2
    have hl := hl ha
    by_cases h0 : s.left = 0
    · rw [Dk.spend_last ha h0]
      have c3' := c3
      rw [hl, h0] at c3'
      clear hl c3
      go_enter Try.func60, Try.ntmps60
      go_wp2
      go_ret
      have hc : Chg [R] w (w.setCell ⟨R, 4, none⟩ (.bool true)) := (Chg.refl _ _).setCell _ _ (.inl (by simp))
      have o := fun k (hk : k ≠ 4) => show (w.setCell ⟨R, 4, none⟩ (.bool true)).cell? ⟨R, k, none⟩ = w.cell? ⟨R, k, none⟩ from World.cell?_setCell_other _ _ _ _ (by simp; try omega)
      refine ⟨rfl, H.out.own hc ⟨rfl, rfl, rfl⟩ ⟨hok.out.pos, hok.out.blk, hok.out.under, hok.out.left⟩ ((o 0 (by decide)).trans C0.out) ((o 1 (by decide)).trans C1.out) ((o 2 (by decide)).trans C2.out) ?_ (by go_simp) (fun k hk => by rw [World.frozen?_setCell]; exact H.out.fz k hk), hc⟩
      obtain ⟨l', h1, h2⟩ := C3.out
      exact ⟨l', (o 3 (by decide)).trans h1, h2⟩
    · rw [Dk.spend_more ha h0]
      have h0' : (s.left == 0) = false := by rw [beq_eq_false_iff_ne]; exact h0
      have hw : wrap64 (s.left - 1) = s.left - 1 := by have := hok.out.left; unfold wrap64; omega
      have c3' := c3
      rw [hl] at c3'
      have HL := Lib.hid hl
      clear hl c3
      go_enter Try.func60, Try.ntmps60
      go_wp2
      go_ret
      have hc : Chg [R] w (w.setCell ⟨R, 3, none⟩ (.int .i64 (s.left - 1))) := (Chg.refl _ _).setCell _ _ (.inl (by simp))
      have o := fun k (hk : k ≠ 3) => show (w.setCell ⟨R, 3, none⟩ (.int .i64 (s.left - 1))).cell? ⟨R, k, none⟩ = w.cell? ⟨R, k, none⟩ from World.cell?_setCell_other _ _ _ _ (by simp; try omega)
      have hll := hok.out.left
      refine ⟨rfl, H.out.own hc ⟨rfl, rfl, rfl⟩ ⟨hok.out.pos, hok.out.blk, hok.out.under, ⟨by show 0 ≤ s.left - 1; omega, by show s.left - 1 ≤ _; omega⟩⟩ ((o 0 (by decide)).trans C0.out) ((o 1 (by decide)).trans C1.out) ((o 2 (by decide)).trans C2.out) ⟨s.left - 1, by go_simp, fun _ => rfl, by omega, by omega⟩ ((o 4 (by decide)).trans C4.out) (fun k hk => by rw [World.frozen?_setCell]; exact H.out.fz k hk), hc⟩
  · have ha' : s.armed = false := by simpa using ha
    rw [ha'] at c2
    rw [Dk.spend_un ha']
    clear hl
    go_enter Try.func60, Try.ntmps60
    go_wp2
    go_ret
    exact ⟨rfl, H.out, Chg.refl _ _⟩
theorem arm_rk (w : World) (B : Nat) (F : List Nat) (R : Nat) (s : Dk) (h : RkIs w B F R s) (n : Int) (hn : -9223372036854775808 ≤ n ∧ n ≤ 9223372036854775807) : Calls Try.prog 47 #[.pointer (some ⟨R, 0, none⟩), .int .i64 n] w fun e w' => e = .returned (.tuple #[]) ∧ RkIs w' B F R (s.arm n) ∧ Off B F w w' := by
  obtain ⟨vb, vu, h⟩ := h
  have H := Lib.hid h
  have c2 := h.c2
  obtain ⟨l, c3, -⟩ := h.c3
  have f2 := h.fz 2 (by decide)
  have f3 := h.fz 3 (by decide)
  have HN := Lib.hid hn
  clear h hn
  have fin : ∀ b : Bool, b = decide (0 ≤ n) → RkIs ((w.setCell ⟨R, 2, none⟩ (.bool b)).setCell ⟨R, 3, none⟩ (.int .i64 n)) B F R (s.arm n) ∧ Off B F w ((w.setCell ⟨R, 2, none⟩ (.bool b)).setCell ⟨R, 3, none⟩ (.int .i64 n)) := fun b hb => by
    have hc : Chg [R] w ((w.setCell ⟨R, 2, none⟩ (.bool b)).setCell ⟨R, 3, none⟩ (.int .i64 n)) := ((Chg.refl _ _).setCell _ _ (.inl (by simp))).setCell _ _ (.inl (by simp))
    have o := fun k (hk : k ≠ 2) (hk' : k ≠ 3) => two_other (w := w) (p := ⟨R, 2, none⟩) (q := ⟨R, 3, none⟩) (r := ⟨R, k, none⟩) (x := .bool b) (y := .int .i64 n) (by simp; try omega) (by simp; try omega)
    have hok := H.out.ok
    have hn := HN.out
    refine ⟨⟨vb, vu, H.out.own hc ⟨rfl, rfl, rfl⟩ ⟨hok.pos, hok.blk, hok.under, ?_⟩ ((o 0 (by decide) (by decide)).trans H.out.c0) ((o 1 (by decide) (by decide)).trans H.out.c1) ?_ ⟨n, by go_simp, fun ha => ?_, hn.1, hn.2⟩ ((o 4 (by decide) (by decide)).trans H.out.c4) (fun k hk => by rw [World.frozen?_setCell, World.frozen?_setCell]; exact H.out.fz k hk)⟩, Off.of_chg hc (fun x hx => by simp at hx; subst hx; exact H.out.lo)⟩
    · show 0 ≤ (if n < 0 then 0 else n) ∧ (if n < 0 then 0 else n) ≤ _
      split <;> omega
    · rw [hb]; show _ = some (Value.bool (decide (0 ≤ n))); go_simp
    · have : (0 : Int) ≤ n := by simpa [Dk.arm] using ha
      show n = if n < 0 then 0 else n
      rw [if_neg (by omega)]
  by_cases h0 : n < 0
  · have g0 : decide (0 ≤ n) = false := decide_eq_false (by omega)
    have FIN := Lib.hid (fin false g0.symm)
    clear fin h0
    go_enter Try.func47, Try.ntmps47
    go_wp2
    go_end0
    exact ⟨rfl, FIN.out⟩
  · have g0 : decide (0 ≤ n) = true := decide_eq_true (by omega)
    have FIN := Lib.hid (fin true g0.symm)
    clear fin h0
    go_enter Try.func47, Try.ntmps47
    go_wp2
    go_end0
    exact ⟨rfl, FIN.out⟩
end Go.Proofs.Ytcnhjbipncledaa
