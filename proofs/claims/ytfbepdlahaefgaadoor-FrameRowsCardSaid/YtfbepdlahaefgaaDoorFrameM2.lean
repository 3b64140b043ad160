/- Plain mathematics of frames that stand one behind the other, and of frames that stand anywhere. No program. -/
import Derived.Test.YtfbepdlahaefgaaDoorFrameM
namespace Go.Proofs.YtfbepdlahaefgaaDoor.Frm
open Crc (B R sum)

theorem fault_bad (b : List B) (h : (opened b).err = 0) : 12 ≤ (opened b).n ∧ (opened b).n ≤ b.length := by
  unfold opened at h ⊢
  by_cases h1 : fixed b ≠ 0
  · rw [if_pos h1] at h; exact absurd h h1
  · rw [if_neg h1] at h ⊢
    by_cases h2 : b.length < 8
    · rw [if_pos h2] at h; cases h
    · rw [if_neg h2] at h ⊢
      by_cases h3 : 65536 < size b
      · rw [if_pos h3] at h; cases h
      · rw [if_neg h3] at h ⊢
        by_cases h4 : b.length < size b + 12
        · rw [if_pos h4] at h; cases h
        · rw [if_neg h4] at h ⊢
          by_cases h5 : num4 (b.drop (size b + 8)) ≠ sum (b.take (size b + 8))
          · rw [if_pos h5] at h; cases h
          · rw [if_neg h5]
            exact ⟨by show 12 ≤ size b + 12; omega, by show size b + 12 ≤ b.length; omega⟩
/-- Frames one behind the other: kinds and payloads, how many bytes, the error where they end. -/
def splitTo : Nat → List B → List (Int × List B) × Nat × Int
  | 0, _ => ([], 0, 0)
  | f + 1, b =>
    if b.length = 0 then ([], 0, 0)
    else if (opened b).err ≠ 0 then ([], 0, (opened b).err)
    else
      let r := splitTo f (b.drop (opened b).n)
      (((opened b).kind, (opened b).payload) :: r.1, (opened b).n + r.2.1, r.2.2)
theorem splitTo_more : ∀ (f g : Nat) (b : List B), b.length < f → b.length < g → splitTo f b = splitTo g b := by
  intro f
  induction f with
  | zero => intro g b h; exact absurd h (Nat.not_lt_zero _)
  | succ f ih =>
    intro g b hf hg
    cases g with
    | zero => exact absurd hg (Nat.not_lt_zero _)
    | succ g =>
      unfold splitTo
      by_cases h0 : b.length = 0
      · rw [if_pos h0, if_pos h0]
      · rw [if_neg h0, if_neg h0]
        by_cases he : (opened b).err ≠ 0
        · rw [if_pos he, if_pos he]
        · rw [if_neg he, if_neg he]
          have hn := fault_bad b (Classical.not_not.1 he)
          rw [ih g (b.drop (opened b).n) (by rw [List.length_drop]; omega) (by rw [List.length_drop]; omega)]
def split (b : List B) : List (Int × List B) × Nat × Int := splitTo (b.length + 1) b
theorem split_nil : split [] = ([], 0, 0) := rfl
theorem split_end (b : List B) (h0 : b.length ≠ 0) (he : (opened b).err ≠ 0) : split b = ([], 0, (opened b).err) := by
  unfold split splitTo
  rw [if_neg h0, if_pos he]
theorem split_step (b : List B) (h0 : b.length ≠ 0) (he : (opened b).err = 0) : split b = (((opened b).kind, (opened b).payload) :: (split (b.drop (opened b).n)).1, (opened b).n + (split (b.drop (opened b).n)).2.1, (split (b.drop (opened b).n)).2.2) := by
  have hn := fault_bad b he
  have e : splitTo b.length (b.drop (opened b).n) = split (b.drop (opened b).n) := splitTo_more _ _ _ (by rw [List.length_drop]; omega) (by omega)
  rw [← e]
  show splitTo (b.length + 1) b = _
  rw [splitTo, if_neg h0, if_neg (fun h => h he)]
/-- Frames anywhere: their places, kinds, payloads, from a place on. -/
def huntTo : Nat → Nat → List B → List (Nat × Int × List B)
  | 0, _, _ => []
  | f + 1, at_, b =>
    if b.length = 0 then []
    else if (opened b).err ≠ 0 then huntTo f (at_ + 1) (b.drop 1)
    else (at_, (opened b).kind, (opened b).payload) :: huntTo f (at_ + (opened b).n) (b.drop (opened b).n)
theorem huntTo_more : ∀ (f g at_ : Nat) (b : List B), b.length < f → b.length < g → huntTo f at_ b = huntTo g at_ b := by
  intro f
  induction f with
  | zero => intro g at_ b h; exact absurd h (Nat.not_lt_zero _)
  | succ f ih =>
    intro g at_ b hf hg
    cases g with
    | zero => exact absurd hg (Nat.not_lt_zero _)
    | succ g =>
      unfold huntTo
      by_cases h0 : b.length = 0
      · rw [if_pos h0, if_pos h0]
      · rw [if_neg h0, if_neg h0]
        by_cases he : (opened b).err ≠ 0
        · rw [if_pos he, if_pos he, ih g (at_ + 1) (b.drop 1) (by rw [List.length_drop]; omega) (by rw [List.length_drop]; omega)]
        · rw [if_neg he, if_neg he]
          have hn := fault_bad b (Classical.not_not.1 he)
          rw [ih g (at_ + (opened b).n) (b.drop (opened b).n) (by rw [List.length_drop]; omega) (by rw [List.length_drop]; omega)]
def hunt (at_ : Nat) (b : List B) : List (Nat × Int × List B) := huntTo (b.length + 1) at_ b
theorem hunt_nil (at_ : Nat) : hunt at_ [] = [] := rfl
theorem hunt_skip (at_ : Nat) (b : List B) (h0 : b.length ≠ 0) (he : (opened b).err ≠ 0) : hunt at_ b = hunt (at_ + 1) (b.drop 1) := by
  have e : huntTo b.length (at_ + 1) (b.drop 1) = hunt (at_ + 1) (b.drop 1) := huntTo_more _ _ _ _ (by rw [List.length_drop]; omega) (by omega)
  rw [← e]
  show huntTo (b.length + 1) at_ b = _
  rw [huntTo, if_neg h0, if_pos he]
theorem hunt_step (at_ : Nat) (b : List B) (h0 : b.length ≠ 0) (he : (opened b).err = 0) : hunt at_ b = (at_, (opened b).kind, (opened b).payload) :: hunt (at_ + (opened b).n) (b.drop (opened b).n) := by
  have hn := fault_bad b he
  have e : huntTo b.length (at_ + (opened b).n) (b.drop (opened b).n) = hunt (at_ + (opened b).n) (b.drop (opened b).n) := huntTo_more _ _ _ _ (by rw [List.length_drop]; omega) (by omega)
  rw [← e]
  show huntTo (b.length + 1) at_ b = _
  rw [huntTo, if_neg h0, if_neg (fun h => h he)]
end Go.Proofs.YtfbepdlahaefgaaDoor.Frm
