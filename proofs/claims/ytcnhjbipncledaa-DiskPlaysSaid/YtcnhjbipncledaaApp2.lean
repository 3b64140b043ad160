/- More words on rows of one's own. No program. -/
import Derived.Test.YtcnhjbipncledaaApp
namespace Go.Proofs.Ytcnhjbipncledaa
open Go.RowKit
theorem Own.empty_ {w : World} {base k : Nat} {e : TypeId} (hk : w.heap.size = k) (h : base ≤ k) : Own (w.alloc (.cells #[] e)) base e (.slice (some ⟨k, 0, none⟩) 0 0) [] := by
  subst hk
  exact ⟨⟨rfl, .inr ⟨w.heap.size, 0, #[], rfl, h, heap_alloc_new w _, Nat.le_refl _, Nat.zero_le _, rfl, rfl⟩⟩, by simp; omega⟩
theorem Reads.new {w : World} {k : Nat} (hk : w.heap.size = k) (cs : Array Value) (t : TypeId) (fr : Nat × Nat) (xs : List Value) (n : Nat) (hn : n = xs.length) (hm : n ≤ 9223372036854775807) (hc : cs.toList = xs) : Reads (w.alloc (.cells cs t fr)) (.slice (some ⟨k, 0, none⟩) n n) xs := by
  subst hk
  refine ⟨_, _, _, rfl, hn, Nat.le_refl _, by unfold maxLen; omega, .inr ⟨_, _, rfl, by simp, fun i h => ?_⟩⟩
  rw [Nat.zero_add, cell_of_row _ _ i cs t fr (heap_alloc_new w _)]
  rw [← Array.getElem?_toList, hc, List.getElem?_eq_getElem h]
theorem Reads.alloc {w : World} {v : Value} {xs : List Value} (h : Reads w v xs) (o : Obj) : Reads (w.alloc o) v xs := h.below ((Below.refl _ _).alloc (Nat.le_refl _) o)
/-- A row of one's own, as a slice whose length is a letter. -/
theorem Own.form_ {w : World} {base : Nat} {e : TypeId} {v : Value} {xs : List Value} (h : Own w base e v xs) : ∃ a n c, v = .slice a n c ∧ Hid (n = xs.length) := by
  obtain ⟨a, c, hv, _⟩ := h.len
  exact ⟨a, _, c, hv, rfl⟩
theorem made_own {w : World} {k n : Nat} {e : TypeId} (hk : w.heap.size = k) (hn : n ≤ maxLen) (z : Value) : OwnAt (w.alloc (.cells (madeCells #[z] n) e)) k e k n (List.replicate n z) := by
  subst hk
  have hl : (madeCells #[z] n).toList = List.replicate n z := by
    have hs : (madeCells #[z] n).size = n := size_madeCells _ _
    apply List.ext_getElem
    · simp [hs]
    · intro i h1 h2
      simp [madeCells, Nat.mod_one]
  have hsz : (madeCells #[z] n).size = n := size_madeCells _ _
  refine ⟨⟨⟨by simp, .inr ⟨w.heap.size, n, madeCells #[z] n, by simp, Nat.le_refl _, heap_alloc_new w _, by simp, hn, by omega, by simp [hl]⟩⟩, by simp⟩, madeCells #[z] n, heap_alloc_new w _, hsz, by simp [hl], by simp, hn, Nat.le_refl _⟩
end Go.Proofs.Ytcnhjbipncledaa
