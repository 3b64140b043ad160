/- The walks of package pack, the reader: Error; a guard that lets nothing go. -/
import Derived.Test.YtajnhmkkgngbhaaPackG
namespace Go.Proofs.Ytajnhmkkgngbhaa
open Go.RowKit

theorem error_is (R : Nat) (e : Int) (w : World) (hR : ReaderEnd w R e) :
    Calls Try.prog 19 #[.pointer (some ⟨R, 0, none⟩)] w fun x w' => x = .returned (.int .i64 e) ∧ w = w' := by
  obtain ⟨hlt, c0, c2⟩ := hR
  go_enter Try.func19, Try.ntmps19
  go_wp2
  go_ret
  exact ⟨rfl, rfl⟩
theorem ReaderEnd.keep' {w w' : World} {R : Nat} {e : Int} (h : ReaderEnd w R e) (hc : Chg [] w w') : ReaderEnd w' R e :=
  ⟨Nat.lt_of_lt_of_le h.lt hc.size, (hc.cell R 0 h.lt (by simp)).trans h.made, (hc.cell R 2 h.lt (by simp)).trans h.err⟩
theorem error_nil (w : World) :
    Calls Try.prog 19 #[.pointer none] w fun x w' => x = .returned (.int .i64 1) ∧ w = w' := by
  go_enter Try.func19, Try.ntmps19
  go_wp2
  go_ret
  exact ⟨rfl, rfl⟩
theorem error_unmade (R : Nat) (w : World) (h0 : w.cell? ⟨R, 0, none⟩ = some (.bool false)) :
    Calls Try.prog 19 #[.pointer (some ⟨R, 0, none⟩)] w fun x w' => x = .returned (.int .i64 1) ∧ w = w' := by
  go_enter Try.func19, Try.ntmps19
  go_wp2
  go_ret
  exact ⟨rfl, rfl⟩
/-- A reader of which nothing is read: none; never made; with an error e. What Error says of it. -/
inductive Shut (w : World) : Option Addr → Int → Prop
  | absent : Shut w none 1
  | unmade (R : Nat) : w.cell? ⟨R, 0, none⟩ = some (.bool false) → Shut w (some ⟨R, 0, none⟩) 1
  | bad (R : Nat) (e : Int) : ReaderEnd w R e → e ≠ 0 → Shut w (some ⟨R, 0, none⟩) e
theorem Shut.chg {w w' : World} {p : Option Addr} {e : Int} (h : Shut w p e) (hb : Below w.heap.size w w') : Shut w' p e := by
  cases h with
  | absent => exact .absent
  | unmade R h => exact .unmade R ((hb.cell (p := ⟨R, 0, none⟩) (cell_lt h)).trans h)
  | bad R e h he => exact .bad R e ⟨Nat.lt_of_lt_of_le h.lt hb.size, (hb.cell (p := ⟨R, 0, none⟩) h.lt).trans h.made, (hb.cell (p := ⟨R, 2, none⟩) h.lt).trans h.err⟩ he
theorem Shut.ne {w : World} {p : Option Addr} {e : Int} (h : Shut w p e) : e ≠ 0 := by
  cases h with
  | absent => decide
  | unmade R h => decide
  | bad R e h he => exact he
theorem error_shut (p : Option Addr) (e : Int) (w : World) (h : Shut w p e) :
    Calls Try.prog 19 #[.pointer p] w fun x w' => x = .returned (.int .i64 e) ∧ w = w' := by
  cases h with
  | absent => exact error_nil w
  | unmade R h => exact error_unmade R w h
  | bad R e h he => exact error_is R e w h
theorem guard_shut (p : Option Addr) (e : Int) (f : Value) (w : World) (h : Shut w p e) :
    Calls Try.prog 72 #[.pointer p, f] w fun x w' => (∃ v, x = .returned v) ∧ Below w.heap.size w w' := by
  have h1 := h.chg ((Below.refl _ w).alloc (Nat.le_refl _) (.cells #[.pointer p] 44))
  have hb : Below w.heap.size w (w.alloc (.cells #[.pointer p] 44)) := (Below.refl _ w).alloc (Nat.le_refl _) _
  have HB := Lib.hid hb
  clear h hb
  cases h1 with
  | absent =>
    go_enter Try.func72, Try.ntmps72
    go_wp2
    refine bodyPost_ret (results_none rfl _ _ _) rfl ?_
    exact ⟨⟨_, rfl⟩, HB.out⟩
  | unmade R h =>
    go_enter Try.func72, Try.ntmps72
    go_wp2
    refine bodyPost_ret (results_none rfl _ _ _) rfl ?_
    exact ⟨⟨_, rfl⟩, HB.out⟩
  | bad R e h he =>
    obtain ⟨_, c0, c2⟩ := h
    have hne : (e != 0) = true := by rw [bne_iff_ne]; exact he
    clear he
    go_enter Try.func72, Try.ntmps72
    go_wp2
    refine bodyPost_ret (results_none rfl _ _ _) rfl ?_
    exact ⟨⟨_, rfl⟩, HB.out⟩
end Go.Proofs.Ytajnhmkkgngbhaa
