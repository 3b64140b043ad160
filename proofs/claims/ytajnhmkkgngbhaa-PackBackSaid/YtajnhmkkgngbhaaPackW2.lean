/- The walks of package pack, second part: put. -/
import Derived.Test.YtajnhmkkgngbhaaPackW
namespace Go.Proofs.Ytajnhmkkgngbhaa
open Go.RowKit
open Pack (form formTo)

/-- A writer in memory: what was written, a row of its own behind the writer's block; no room yet missed. -/
structure WriterIs (w : World) (P : Nat) (u : Value) (over : Bool) : Prop where
  lt : P < w.heap.size
  c0 : w.cell? ⟨P, 0, none⟩ = some u
  c1 : w.cell? ⟨P, 1, none⟩ = some (.bool over)
  f0 : w.frozen? ⟨P, 0, none⟩ = false
  f1 : w.frozen? ⟨P, 1, none⟩ = false
theorem WriterIs.keep {w w' : World} {P : Nat} {u : Value} {over : Bool} (h : WriterIs w P u over) (hs : w.heap.size ≤ w'.heap.size) (hk : w'.heap[P]? = w.heap[P]?) : WriterIs w' P u over := by
  refine ⟨Nat.lt_of_lt_of_le h.lt hs, ?_, ?_, ?_, ?_⟩
  · rw [World.cell?_of_block (a := ⟨P, 0, none⟩) hk]; exact h.c0
  · rw [World.cell?_of_block (a := ⟨P, 1, none⟩) hk]; exact h.c1
  · rw [← h.f0]; simp only [World.frozen?, hk]
  · rw [← h.f1]; simp only [World.frozen?, hk]
set_option maxHeartbeats 1000000 in
theorem put_room (P : Nat) (a : Option Addr) (n c : Nat) (bs xs : List (BitVec 8)) (v : Value) (w : World) (hW : WriterIs w P (.slice a n c) false) (ho : Own w (P + 1) 5 (.slice a n c) (bs.map byteV)) (hn : bs.length = n) (hv : IsBytes w v xs) (hr : n + xs.length ≤ 1048576) :
    Calls Try.prog 30 #[.pointer (some ⟨P, 0, none⟩), v] w fun e w' => (∃ r, e = .returned r) ∧ ∃ a' n' c', Hid (n' = n + xs.length) ∧ WriterIs w' P (.slice a' n' c') false ∧ Own w' (P + 1) 5 (.slice a' n' c') ((bs ++ xs).map byteV) ∧ Below P w w' := by
  have hv' := hv
  obtain ⟨va, vn, vc, rfl, hvn, _, _, _⟩ := hv'
  obtain ⟨hlt, c0, c1, f0, f1⟩ := hW
  have HV := Lib.hid hv
  have HO := Lib.hid ho
  have HN := Lib.hid hn
  have HVN := Lib.hid hvn
  have g : ¬ (1048576 : Int) - (n : Int) < (vn : Int) := by omega
  have hwr : IntKind.i64.wrap ((1048576 : Int) - (n : Int)) = (1048576 : Int) - (n : Int) := by rw [IntKind.wrap_i64]; omega
  have HR := Lib.hid hr
  have HW : Hid (WriterIs w P (.slice a n c) false) := ⟨hlt, c0, c1, f0, f1⟩
  clear hv ho hn hvn hr
  go_enter Try.func30, Try.ntmps30
  go_wp2_with (at_builtin; refine wpl_append rfl (.tmp 28) (.tmp 29) _ rfl elemU8 rfl HO.out rfl HV.out.reads one_byteV (by have := HR.out; have := HN.out; have := HVN.out; rw [List.length_map, List.length_map]; omega) (by have := HR.out; have := HN.out; have := HVN.out; rw [List.length_map, List.length_map]; unfold maxLen; omega) ?_; intro v' w2 hown2 hg1 hat1; obtain ⟨ra, rn, rc, rfl, hrn⟩ := hown2.form_; have hb2 : Hid (Below (P + 1) w w2) := below_grown (Below.refl _ _) HO.out hg1 (Nat.le_refl _); have W2 : WriterIs w2 P (.slice a n c) false := HW.out.keep hb2.out.size (hb2.out.block P (by omega)); obtain ⟨hlt2, d0, d1, e0, e1⟩ := W2; have O2 := Lib.hid hown2; clear hg1 hat1 hown2)
  go_end0
  refine ⟨⟨_, rfl⟩, ra, rn, ?_, rc, ?_, ?_, ?_⟩
  · have h1 := hrn.out
    rw [List.length_append, List.length_map, List.length_map] at h1
    have h2 := HN.out
    show rn = n + xs.length
    omega
  · refine ⟨by simp [World.setCell]; exact hlt2, World.cell?_setCell_same _ _ _ d0, (World.cell?_setCell_other _ _ _ _ (fun e => by simp at e)).trans d1, ?_, ?_⟩
    · rw [World.frozen?_setCell]; exact e0
    · rw [World.frozen?_setCell]; exact e1
  · refine O2.out.keep (by simp [World.setCell]) fun k hk => ?_
    have hge := O2.out.block_ge k hk
    exact Below.heap_setCell _ ⟨P, 0, none⟩ _ k (fun e => by simp at e; omega)
  · exact (hb2.out.mono (Nat.le_succ P)).setCell (p := ⟨P, 0, none⟩) (Nat.le_refl _) _
theorem put_none (v : Value) (w : World) :
    Calls Try.prog 30 #[.pointer none, v] w fun e w' => (∃ r, e = .returned r) ∧ w = w' := by
  go_enter Try.func30, Try.ntmps30
  go_wp2
  refine bodyPost_ret (results_none rfl _ _ _) rfl ?_
  exact ⟨⟨_, rfl⟩, rfl⟩
theorem put_over (P : Nat) (u v : Value) (w : World) (hW : WriterIs w P u true) :
    Calls Try.prog 30 #[.pointer (some ⟨P, 0, none⟩), v] w fun e w' => (∃ r, e = .returned r) ∧ w = w' := by
  obtain ⟨hlt, c0, c1, f0, f1⟩ := hW
  go_enter Try.func30, Try.ntmps30
  go_wp2
  refine bodyPost_ret (results_none rfl _ _ _) rfl ?_
  exact ⟨⟨_, rfl⟩, rfl⟩
theorem put_big (P : Nat) (a va : Option Addr) (n c vn vc : Nat) (w : World) (hW : WriterIs w P (.slice a n c) false) (hn : n ≤ 1048576) (hvn : vn ≤ 9223372036854775807) (hr : 1048576 < n + vn) :
    Calls Try.prog 30 #[.pointer (some ⟨P, 0, none⟩), .slice va vn vc] w fun e w' => (∃ r, e = .returned r) ∧ WriterIs w' P (.slice a n c) true ∧ Below P w w' := by
  obtain ⟨hlt, c0, c1, f0, f1⟩ := hW
  have g : (1048576 : Int) - (n : Int) < (vn : Int) := by omega
  have hwr : IntKind.i64.wrap ((1048576 : Int) - (n : Int)) = (1048576 : Int) - (n : Int) := by rw [IntKind.wrap_i64]; omega
  clear hn hvn hr
  go_enter Try.func30, Try.ntmps30
  go_wp2
  refine bodyPost_ret (results_none rfl _ _ _) rfl ?_
  refine ⟨⟨_, rfl⟩, ⟨by simp [World.setCell]; exact hlt, (World.cell?_setCell_other _ _ _ _ (fun e => by simp at e)).trans c0, World.cell?_setCell_same _ _ _ c1, ?_, ?_⟩, (Below.refl _ _).setCell (p := ⟨P, 1, none⟩) (Nat.le_refl _) _⟩
  · rw [World.frozen?_setCell]; exact f0
  · rw [World.frozen?_setCell]; exact f1
end Go.Proofs.Ytajnhmkkgngbhaa
