/- Plain mathematics of frames that stand one behind the other, with bytes ahead of them that begin none. No program. -/
import Derived.Test.YtfbepdlahaefgaaDoorFrameM2
namespace Go.Proofs.YtfbepdlahaefgaaDoor.Frm
open Crc (B R sum)

def rowOf (fs : List (Int × List B)) : List B := fs.flatMap fun x => frame (BitVec.ofNat 8 x.1.toNat) x.2
def Fit (fs : List (Int × List B)) : Prop := ∀ x ∈ fs, 1 ≤ x.1 ∧ x.1 ≤ 255 ∧ x.2.length ≤ 65536
theorem ofNat_kind {k : Int} (h1 : 1 ≤ k) (h2 : k ≤ 255) : BitVec.ofNat 8 k.toNat ≠ 0#8 ∧ ((BitVec.ofNat 8 k.toNat).toNat : Int) = k := by
  have e : (BitVec.ofNat 8 k.toNat).toNat = k.toNat := by rw [BitVec.toNat_ofNat, Nat.mod_eq_of_lt (by omega)]
  refine ⟨fun h => ?_, by rw [e]; omega⟩
  rw [h] at e
  simp at e
  omega
theorem opened_row (x : Int × List B) (fs : List (Int × List B)) (h : Fit (x :: fs)) : opened (rowOf (x :: fs)) = ⟨x.1, x.2, x.2.length + 12, 0⟩ ∧ (rowOf (x :: fs)).drop (x.2.length + 12) = rowOf fs ∧ (rowOf (x :: fs)).length = x.2.length + 12 + (rowOf fs).length := by
  obtain ⟨h1, h2, h3⟩ := h x (List.mem_cons_self ..)
  have hk := ofNat_kind h1 h2
  have hl := frame_length (BitVec.ofNat 8 x.1.toNat) x.2
  have e : rowOf (x :: fs) = frame (BitVec.ofNat 8 x.1.toNat) x.2 ++ rowOf fs := by simp [rowOf]
  rw [e]
  refine ⟨?_, ?_, ?_⟩
  · rw [opened_frame _ _ _ hk.1 h3, hk.2]
  · rw [List.drop_append_of_le_length (by omega), List.drop_of_length_le (by omega), List.nil_append]
  · rw [List.length_append, hl]; omega
theorem Fit.tail {x : Int × List B} {fs : List (Int × List B)} (h : Fit (x :: fs)) : Fit fs := fun y hy => h y (List.mem_cons_of_mem _ hy)
theorem split_rows : ∀ (fs : List (Int × List B)), Fit fs → split (rowOf fs) = (fs, (rowOf fs).length, 0)
  | [], _ => rfl
  | x :: fs, h => by
    obtain ⟨ho, hd, hl⟩ := opened_row x fs h
    rw [split_step _ (by omega) (by rw [ho]), ho]
    simp only []
    rw [hd, split_rows fs h.tail, hl]
theorem hunt_rows : ∀ (fs : List (Int × List B)) (at_ : Nat), Fit fs → (hunt at_ (rowOf fs)).map (·.2) = fs ∧ ∀ x ∈ hunt at_ (rowOf fs), at_ ≤ x.1
  | [], at_, _ => by
    rw [show rowOf [] = [] from rfl, hunt_nil]
    exact ⟨rfl, fun x hx => by cases hx⟩
  | x :: fs, at_, h => by
    obtain ⟨ho, hd, hl⟩ := opened_row x fs h
    obtain ⟨h1, h2⟩ := hunt_rows fs (at_ + (x.2.length + 12)) h.tail
    rw [hunt_step _ _ (by omega) (by rw [ho]), ho]
    simp only []
    rw [hd]
    refine ⟨by rw [List.map_cons, h1], fun y hy => ?_⟩
    rcases List.mem_cons.1 hy with rfl | hy
    · exact Nat.le_refl _
    · have := h2 y hy
      omega
theorem hunt_ahead (b : List B) : ∀ (ahead : List B) (at_ : Nat), (∀ c ∈ ahead, c ≠ 0x52#8) → hunt at_ (ahead ++ b) = hunt (at_ + ahead.length) b
  | [], at_, _ => rfl
  | c :: ahead, at_, h => by
    have hc := h c (List.mem_cons_self ..)
    have hf : fixed (c :: (ahead ++ b)) ≠ 0 := by
      rw [fixed_fault _ 0 (by simp) (by decide) (fun i hi => absurd hi (Nat.not_lt_zero _)) (by simp [fault, hc])]
      simp [fault, hc]
    have ho : (opened (c :: (ahead ++ b))).err ≠ 0 := by
      unfold opened
      rw [if_pos hf]
      exact hf
    rw [List.cons_append, hunt_skip _ _ (by simp) ho, List.drop_one, List.tail_cons, hunt_ahead b ahead (at_ + 1) (fun x hx => h x (List.mem_cons_of_mem _ hx)), List.length_cons]
    congr 1
    omega
theorem hunt_all {fs : List (Int × List B)} {ahead : List B} (h : Fit fs) (ha : ∀ c ∈ ahead, c ≠ 0x52#8) : (hunt 0 (ahead ++ rowOf fs)).map (·.2) = fs ∧ ∀ x ∈ hunt 0 (ahead ++ rowOf fs), ahead.length ≤ x.1 := by
  rw [hunt_ahead _ _ _ ha, Nat.zero_add]
  exact hunt_rows fs _ h
end Go.Proofs.YtfbepdlahaefgaaDoor.Frm
