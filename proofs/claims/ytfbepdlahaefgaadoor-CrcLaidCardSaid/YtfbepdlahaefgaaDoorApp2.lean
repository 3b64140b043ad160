/- More words on rows of one's own. No program. -/
import Derived.Test.YtfbepdlahaefgaaDoorApp
namespace Go.Proofs.YtfbepdlahaefgaaDoor
open Go.RowKit
theorem Own.empty_ {w : World} {base k : Nat} {e : TypeId} (hk : w.heap.size = k) (h : base ≤ k) : Own (w.alloc (.cells #[] e)) base e (.slice (some ⟨k, 0, none⟩) 0 0) [] := by
  subst hk
  exact ⟨⟨rfl, .inr ⟨w.heap.size, 0, #[], rfl, h, heap_alloc_new w _, Nat.le_refl _, Nat.zero_le _, rfl, rfl⟩⟩, by simp; omega⟩
end Go.Proofs.YtfbepdlahaefgaaDoor
