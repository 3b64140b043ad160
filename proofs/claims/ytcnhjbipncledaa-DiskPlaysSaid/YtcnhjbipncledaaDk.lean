/- A disk as it lies in memory, and its small functions, walked. -/
import Derived.Test.YtcnhjbipncledaaBlk
import Derived.Test.YtcnhjbipncledaaSame
import Derived.Test.YtcnhjbipncledaaRegV
import Derived.Test.YtcnhjbipncledaaProg
namespace Go.Proofs.Ytcnhjbipncledaa
open Go.RowKit

structure Dk where
  blocks : Int
  blk : Int → List B8
  under : List (Int × List B8)
  armed : Bool
  left : Int
  down : Bool
def undV (l : List (Int × List B8)) : List Value := l.flatMap fun x => .int .i64 x.1 :: x.2.map byteV
structure Dk.Ok (s : Dk) : Prop where
  pos : 0 < s.blocks
  blk : ∀ k, (s.blk k).length = 128
  under : ∀ x ∈ s.under, x.2.length = 128
  left : 0 ≤ s.left ∧ s.left ≤ 9223372036854775807
structure DiskAt (w : World) (D M : Nat) (u : Value) (s : Dk) : Prop where
  c0 : w.cell? ⟨D, 0, none⟩ = some (.int .i64 s.blocks)
  c1 : w.cell? ⟨D, 1, none⟩ = some (.map (some M))
  c2 : w.cell? ⟨D, 2, none⟩ = some u
  c3 : w.cell? ⟨D, 3, none⟩ = some (.bool s.armed)
  c4 : w.cell? ⟨D, 4, none⟩ = some (.int .i64 s.left)
  c5 : w.cell? ⟨D, 5, none⟩ = some (.bool s.down)
  fz : ∀ k, k < 6 → w.frozen? ⟨D, k, none⟩ = false
  map : ∃ f, IMap w M f ∧ ∀ k, (f k).getD (blkV (zeros 128)) = blkV (s.blk k)
  row : w.ownsRow 0 94 129 u s.under.length (undV s.under)
  rowD : ∀ j, u.ownBlock = some j → j ≠ D
  ok : s.Ok
/-- The blocks that a disk's calls may turn. -/
def fp (D M : Nat) (u : Value) : List Nat := D :: M :: u.ownBlock.toList
theorem DiskAt.lt {w : World} {D M : Nat} {u : Value} {s : Dk} (h : DiskAt w D M u s) : D < w.heap.size ∧ M < w.heap.size ∧ ∀ j, u.ownBlock = some j → j < w.heap.size := by
  obtain ⟨f, hf, _⟩ := h.map
  refine ⟨cell_lt h.c0, hf.lt, fun j hj => ?_⟩
  obtain ⟨_, hr⟩ := h.row
  rcases hr with ⟨rfl, _⟩ | ⟨g, cap, cur, rfl, _, hh, _⟩
  · cases hj
  · injection hj with hj; subst hj; exact (Array.getElem?_eq_some_iff.1 hh).1
theorem row_keep0 {w w' : World} {base size n : Nat} {e : TypeId} {v : Value} {xs : List Value} (h : w.ownsRow base e size v n xs) (hk : ∀ k, v.ownBlock = some k → w'.heap[k]? = w.heap[k]?) : w'.ownsRow base e size v n xs := by
  obtain ⟨h1, h⟩ := h
  refine ⟨h1, ?_⟩
  rcases h with h | ⟨g, cap, cur, rfl, hg, hh, r⟩
  · exact .inl h
  · exact .inr ⟨g, cap, cur, rfl, hg, (hk g rfl).trans hh, r⟩
theorem DiskAt.keep {w w' : World} {D M : Nat} {u : Value} {s : Dk} (h : DiskAt w D M u s) (hk : ∀ y ∈ fp D M u, w'.heap[y]? = w.heap[y]?) : DiskAt w' D M u s := by
  have kD := hk D (by simp [fp])
  have c := fun k => World.cell?_of_block (a := ⟨D, k, none⟩) kD
  have f := fun k => World.frozen?_of_block (a := ⟨D, k, none⟩) kD
  obtain ⟨g, hg, hb⟩ := h.map
  exact ⟨(c 0).trans h.c0, (c 1).trans h.c1, (c 2).trans h.c2, (c 3).trans h.c3, (c 4).trans h.c4, (c 5).trans h.c5, fun k hk => (f k).trans (h.fz k hk), ⟨g, hg.keep (hk M (by simp [fp])), hb⟩, row_keep0 h.row (fun k hk' => hk k (by simp [fp, hk'])), h.rowD, h.ok⟩
theorem DiskAt.chg {w w' : World} {D M : Nat} {u : Value} {s : Dk} {S : List Nat} (h : DiskAt w D M u s) (hc : Chg S w w') (hs : ∀ y ∈ fp D M u, y ∉ S) : DiskAt w' D M u s :=
  h.keep fun y hy => hc.block y (by
    have := h.lt
    simp [fp] at hy
    rcases hy with rfl | rfl | hy
    · exact this.1
    · exact this.2.1
    · exact this.2.2 y hy) (hs y hy)
theorem DiskAt.below {w w' : World} {D M : Nat} {u : Value} {s : Dk} (h : DiskAt w D M u s) (hb : Below w.heap.size w w') : DiskAt w' D M u s := h.chg (S := []) (Chg.of_below hb) (by simp)
/-- An error's number of a call for a block. -/
def Dk.asked (s : Dk) (i : Int) : Int := if s.down then 150 else if i < 0 ∨ s.blocks ≤ i then 151 else 0
def Dk.spend (s : Dk) : Dk × Bool :=
  if s.armed then (if s.left = 0 then ({ s with down := true }, false) else ({ s with left := s.left - 1 }, true)) else (s, true)
theorem is_any (w : World) (D M : Nat) (u : Value) (s : Dk) (h : DiskAt w D M u s) : Calls Try.prog 39 #[.pointer (some ⟨D, 0, none⟩)] w fun e w' => e = .returned (.bool true) ∧ w' = w := by
  have c0 := h.c0
  have hp := h.ok.pos
  clear h
  go_enter Try.func39, Try.ntmps39
  go_wp2
  go_ret
  exact ⟨rfl, rfl⟩
theorem down_any (w : World) (D M : Nat) (u : Value) (s : Dk) (h : DiskAt w D M u s) : Calls Try.prog 17 #[.pointer (some ⟨D, 0, none⟩)] w fun e w' => e = .returned (.bool s.down) ∧ w' = w := by
  have HI := Lib.hid (is_any w D M u s h)
  have c5 := h.c5
  clear h
  go_enter Try.func17, Try.ntmps17
  go_wp2_with (go_at_call 39; refine HI.out.mono ?_; rintro e w1 ⟨rfl, rfl⟩)
  go_ret
  exact ⟨rfl, rfl⟩
theorem asked_any (w : World) (D M : Nat) (u : Value) (s : Dk) (h : DiskAt w D M u s) (i : Int) : Calls Try.prog 40 #[.pointer (some ⟨D, 0, none⟩), .int .i64 i] w fun e w' => e = .returned (.int .i64 (s.asked i)) ∧ w' = w := by
  have HI := Lib.hid (is_any w D M u s h)
  have c5 := h.c5
  have c0 := h.c0
  clear h
  unfold Dk.asked
  by_cases hd : s.down = true
  · rw [hd] at c5
    rw [if_pos hd]
    go_enter Try.func40, Try.ntmps40
    go_wp2_with (go_at_call 39; refine HI.out.mono ?_; rintro e w1 ⟨rfl, rfl⟩)
    go_ret
    exact ⟨rfl, rfl⟩
  · have hd' : s.down = false := by simpa using hd
    rw [hd'] at c5
    rw [if_neg hd]
    by_cases hi : i < 0
    · rw [if_pos (.inl hi)]
      go_enter Try.func40, Try.ntmps40
      go_wp2_with (go_at_call 39; refine HI.out.mono ?_; rintro e w1 ⟨rfl, rfl⟩)
      go_ret
      exact ⟨rfl, rfl⟩
    · by_cases hb : s.blocks ≤ i
      · rw [if_pos (.inr hb)]
        go_enter Try.func40, Try.ntmps40
        go_wp2_with (go_at_call 39; refine HI.out.mono ?_; rintro e w1 ⟨rfl, rfl⟩)
        go_ret
        exact ⟨rfl, rfl⟩
      · rw [if_neg (by omega)]
        go_enter Try.func40, Try.ntmps40
        go_wp2_with (go_at_call 39; refine HI.out.mono ?_; rintro e w1 ⟨rfl, rfl⟩)
        go_ret
        exact ⟨rfl, rfl⟩
theorem blocks_any (w : World) (D M : Nat) (u : Value) (s : Dk) (h : DiskAt w D M u s) : Calls Try.prog 26 #[.pointer (some ⟨D, 0, none⟩)] w fun e w' => e = .returned (.int .i64 s.blocks) ∧ w' = w := by
  have HI := Lib.hid (is_any w D M u s h)
  have c0 := h.c0
  clear h
  go_enter Try.func26, Try.ntmps26
  go_wp2_with (go_at_call 39; refine HI.out.mono ?_; rintro e w1 ⟨rfl, rfl⟩)
  go_ret
  exact ⟨rfl, rfl⟩
theorem DiskAt.ne {w : World} {D M : Nat} {u : Value} {s : Dk} (h : DiskAt w D M u s) : M ≠ D ∧ ∀ j, u.ownBlock = some j → j ≠ M := by
  obtain ⟨f, hf, _⟩ := h.map
  obtain ⟨es, clock, hb, _⟩ := hf.ex
  refine ⟨fun e => ?_, fun j hj e => ?_⟩
  · subst e
    have := h.c0
    simp [World.cell?, hb] at this
  · subst e
    obtain ⟨_, hr⟩ := h.row
    rcases hr with ⟨rfl, _⟩ | ⟨g, cap, cur, rfl, _, hh, _⟩
    · cases hj
    · injection hj with hj; subst hj; rw [hb] at hh; cases hh
/-- Stores into the disk's own block alone. -/
theorem DiskAt.turn {w w' : World} {D M : Nat} {u : Value} {s s' : Dk} (h : DiskAt w D M u s) (hc : Chg [D] w w') (hs : s'.blocks = s.blocks ∧ s'.blk = s.blk ∧ s'.under = s.under) (hl : 0 ≤ s'.left ∧ s'.left ≤ 9223372036854775807)
    (c0 : w'.cell? ⟨D, 0, none⟩ = w.cell? ⟨D, 0, none⟩) (c1 : w'.cell? ⟨D, 1, none⟩ = w.cell? ⟨D, 1, none⟩) (c2 : w'.cell? ⟨D, 2, none⟩ = w.cell? ⟨D, 2, none⟩) (c3 : w'.cell? ⟨D, 3, none⟩ = some (.bool s'.armed)) (c4 : w'.cell? ⟨D, 4, none⟩ = some (.int .i64 s'.left)) (c5 : w'.cell? ⟨D, 5, none⟩ = some (.bool s'.down))
    (fz : ∀ k, w'.frozen? ⟨D, k, none⟩ = w.frozen? ⟨D, k, none⟩) : DiskAt w' D M u s' := by
  obtain ⟨f, hf, hb⟩ := h.map
  obtain ⟨n1, n2⟩ := h.ne
  obtain ⟨h1, h2, h3⟩ := hs
  have lt := h.lt
  refine ⟨by rw [h1]; exact c0.trans h.c0, c1.trans h.c1, c2.trans h.c2, c3, c4, c5, fun k hk => (fz k).trans (h.fz k hk), ⟨f, hf.chg hc (by simpa using n1), by rw [h2]; exact hb⟩, ?_, h.rowD, ⟨by rw [h1]; exact h.ok.pos, by rw [h2]; exact h.ok.blk, by rw [h3]; exact h.ok.under, hl⟩⟩
  rw [h3]
  exact row_keep0 h.row fun k hk => hc.block k (lt.2.2 k hk) (by simpa using h.rowD k hk)
def Dk.arm (s : Dk) (n : Int) : Dk := { s with armed := decide (0 ≤ n), left := if n < 0 then 0 else n }
theorem two_other {w : World} {p q r : Addr} {x y : Value} (h1 : p ≠ r) (h2 : q ≠ r) : ((w.setCell p x).setCell q y).cell? r = w.cell? r := (World.cell?_setCell_other _ _ _ _ h2).trans (World.cell?_setCell_other _ _ _ _ h1)
theorem arm_any (w : World) (D M : Nat) (u : Value) (s : Dk) (h : DiskAt w D M u s) (n : Int) (hn : n ≤ 9223372036854775807) : Calls Try.prog 14 #[.pointer (some ⟨D, 0, none⟩), .int .i64 n] w fun e w' => e = .returned (.tuple #[]) ∧ DiskAt w' D M u (s.arm n) ∧ Chg [D] w w' := by
  have HI := Lib.hid (is_any w D M u s h)
  have HD := Lib.hid h
  have c3 := h.c3
  have c4 := h.c4
  have c5 := h.c5
  have f3 := h.fz 3 (by decide)
  have f4 := h.fz 4 (by decide)
  have f5 := h.fz 5 (by decide)
  clear h
  have fin : ∀ (b : Bool) (z : Int), 0 ≤ z → z ≤ 9223372036854775807 → DiskAt ((w.setCell ⟨D, 3, none⟩ (.bool b)).setCell ⟨D, 4, none⟩ (.int .i64 z)) D M u { s with armed := b, left := z } := fun b z h0 h1 =>
    HD.out.turn (((Chg.refl _ _).setCell _ _ (.inl (by simp))).setCell _ _ (.inl (by simp))) ⟨rfl, rfl, rfl⟩ ⟨h0, h1⟩ (two_other (by simp) (by simp)) (two_other (by simp) (by simp)) (two_other (by simp) (by simp)) (by go_simp) (by go_simp) ((two_other (by simp) (by simp)).trans c5) (fun k => by rw [World.frozen?_setCell, World.frozen?_setCell])
  by_cases hlt : n < 0
  · have hg : ¬ (0 : Int) ≤ n := by omega
    go_enter Try.func14, Try.ntmps14
    go_wp2_with (go_at_call 39; refine HI.out.mono ?_; rintro e w1 ⟨rfl, rfl⟩)
    go_end0
    refine ⟨rfl, ?_, ((Chg.refl _ _).setCell _ _ (.inl (by simp))).setCell _ _ (.inl (by simp))⟩
    unfold Dk.arm
    rw [if_pos hlt]
    exact fin _ 0 (by omega) (by omega)
  · have hg : (0 : Int) ≤ n := by omega
    go_enter Try.func14, Try.ntmps14
    go_wp2_with (go_at_call 39; refine HI.out.mono ?_; rintro e w1 ⟨rfl, rfl⟩)
    go_end0
    refine ⟨rfl, ?_, ((Chg.refl _ _).setCell _ _ (.inl (by simp))).setCell _ _ (.inl (by simp))⟩
    unfold Dk.arm
    rw [if_neg (show ¬ n < 0 by omega), decide_eq_true (show (0 : Int) ≤ n by omega)]
    exact fin true n (by omega) hn
theorem spend_any (w : World) (D M : Nat) (u : Value) (s : Dk) (h : DiskAt w D M u s) : Calls Try.prog 41 #[.pointer (some ⟨D, 0, none⟩)] w fun e w' => e = .returned (.bool s.spend.2) ∧ DiskAt w' D M u s.spend.1 ∧ Chg [D] w w' := by
  have HD := Lib.hid h
  have c3 := h.c3
  have c4 := h.c4
  have c5 := h.c5
  have f4 := h.fz 4 (by decide)
  have f5 := h.fz 5 (by decide)
  have hl := h.ok.left
  clear h
  unfold Dk.spend
  by_cases ha : s.armed = true
  · rw [if_pos ha]
    have c3' := c3
    rw [ha] at c3'
    by_cases h0 : s.left = 0
    · rw [if_pos h0]
      have c4' := c4
      rw [h0] at c4'
      go_enter Try.func41, Try.ntmps41
      go_wp2
      go_ret
      refine ⟨rfl, HD.out.turn ((Chg.refl _ _).setCell _ _ (.inl (by simp))) ⟨rfl, rfl, rfl⟩ hl (World.cell?_setCell_other _ _ _ _ (by simp)) (World.cell?_setCell_other _ _ _ _ (by simp)) (World.cell?_setCell_other _ _ _ _ (by simp)) ((World.cell?_setCell_other _ _ _ _ (by simp)).trans c3) ((World.cell?_setCell_other _ _ _ _ (by simp)).trans c4) (by go_simp) (fun k => by rw [World.frozen?_setCell]), (Chg.refl _ _).setCell _ _ (.inl (by simp))⟩
    · rw [if_neg h0]
      have h0' : (s.left == 0) = false := by rw [beq_eq_false_iff_ne]; exact h0
      have hw : wrap64 (s.left - 1) = s.left - 1 := by unfold wrap64; omega
      go_enter Try.func41, Try.ntmps41
      go_wp2
      go_ret
      refine ⟨rfl, HD.out.turn ((Chg.refl _ _).setCell _ _ (.inl (by simp))) ⟨rfl, rfl, rfl⟩ ⟨by show 0 ≤ s.left - 1; omega, by show s.left - 1 ≤ _; omega⟩ (World.cell?_setCell_other _ _ _ _ (by simp)) (World.cell?_setCell_other _ _ _ _ (by simp)) (World.cell?_setCell_other _ _ _ _ (by simp)) ((World.cell?_setCell_other _ _ _ _ (by simp)).trans c3) (by go_simp) ((World.cell?_setCell_other _ _ _ _ (by simp)).trans c5) (fun k => by rw [World.frozen?_setCell]), (Chg.refl _ _).setCell _ _ (.inl (by simp))⟩
  · rw [if_neg ha]
    have ha' : s.armed = false := by simpa using ha
    have c3' := c3
    rw [ha'] at c3'
    go_enter Try.func41, Try.ntmps41
    go_wp2
    go_ret
    exact ⟨rfl, HD.out, Chg.refl _ _⟩
end Go.Proofs.Ytcnhjbipncledaa
