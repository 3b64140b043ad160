/- Plain mathematics of frames one behind the other: how many bytes they have, and where they end. No program. -/
import Derived.Test.YtfbepdlahaefgaaDoorFrameM2
namespace Go.Proofs.YtfbepdlahaefgaaDoor.Frm
open Crc (B R sum)

theorem opened_n (b : List B) (h : (opened b).err = 0) : (opened b).n = (opened b).payload.length + 12 := by
  unfold opened at h ⊢
  by_cases h1 : fixed b ≠ 0
  · rw [if_pos h1] at h; exact absurd h h1
  · rw [if_neg h1] at h ⊢
    by_cases h2 : b.length < 8
    · rw [if_pos h2] at h; cases h
    · rw [if_neg h2] at h ⊢
      by_cases h3 : 65536 < size b
      · rw [if_pos h3] at h; cases h
      · rw [if_neg h3] at h ⊢
        by_cases h4 : b.length < size b + 12
        · rw [if_pos h4] at h; cases h
        · rw [if_neg h4] at h ⊢
          by_cases h5 : num4 (b.drop (size b + 8)) ≠ sum (b.take (size b + 8))
          · rw [if_pos h5] at h; cases h
          · rw [if_neg h5]
            show size b + 12 = ((b.drop 8).take (size b)).length + 12
            rw [List.length_take, List.length_drop]
            omega
/-- How many bytes frames have together. -/
def total : List (Int × List B) → Nat
  | [] => 0
  | f :: fs => f.2.length + 12 + total fs
theorem total_append (a b : List (Int × List B)) : total (a ++ b) = total a + total b := by
  induction a with
  | nil => simp [total]
  | cons x a ih => simp only [List.cons_append, total, ih]; omega
theorem total_le (a : List (Int × List B)) : a.length ≤ total a := by
  induction a with
  | nil => exact Nat.le_refl _
  | cons x a ih => simp only [List.length_cons, total]; omega
theorem total_take (a : List (Int × List B)) (k : Nat) : total (a.take k) ≤ total a := by
  have := total_append (a.take k) (a.drop k)
  rw [List.take_append_drop] at this
  omega
theorem split_total : ∀ (m : Nat) (b : List B), b.length ≤ m → (split b).2.1 = total (split b).1 ∧ (split b).2.1 ≤ b.length ∧ ((split b).2.1 < b.length → (split b).2.2 = (opened (b.drop (split b).2.1)).err ∧ (opened (b.drop (split b).2.1)).err ≠ 0) ∧ ((split b).2.1 = b.length → (split b).2.2 = 0) := by
  intro m
  induction m with
  | zero =>
    intro b hb
    have : b = [] := List.eq_nil_of_length_eq_zero (by omega)
    subst this
    rw [split_nil]
    exact ⟨rfl, Nat.le_refl _, fun h => absurd h (Nat.lt_irrefl _), fun _ => rfl⟩
  | succ m ih =>
    intro b hb
    by_cases h0 : b.length = 0
    · have : b = [] := List.eq_nil_of_length_eq_zero h0
      subst this
      rw [split_nil]
      exact ⟨rfl, Nat.le_refl _, fun h => absurd h (Nat.lt_irrefl _), fun _ => rfl⟩
    · by_cases he : (opened b).err = 0
      · have hn := fault_bad b he
        have hp := opened_n b he
        obtain ⟨i1, i2, i3, i4⟩ := ih (b.drop (opened b).n) (by rw [List.length_drop]; omega)
        rw [split_step b h0 he]
        rw [List.length_drop] at i2 i3 i4
        refine ⟨?_, ?_, fun h => ?_, fun h => ?_⟩
        · show (opened b).n + _ = _
          rw [i1, hp]
          rfl
        · show (opened b).n + _ ≤ _
          omega
        · have h' : (opened b).n + (split (b.drop (opened b).n)).2.1 < b.length := h
          have := i3 (by omega)
          rw [List.drop_drop] at this
          exact this
        · have h' : (opened b).n + (split (b.drop (opened b).n)).2.1 = b.length := h
          exact i4 (by omega)
      · rw [split_end b h0 he]
        exact ⟨rfl, Nat.zero_le _, fun _ => ⟨rfl, he⟩, fun h => absurd h.symm h0⟩
end Go.Proofs.YtfbepdlahaefgaaDoor.Frm
