/- What calls of a disk leave of a block; plain. -/
import Derived.Test.YtcnhjbipncledaaDkF
namespace Go.Proofs.Ytcnhjbipncledaa
open Go.RowKit
theorem Dk.puts_blk (j : Int) : ∀ (l : List (Int × List B8)) (s : Dk), (∀ x ∈ l, x.1 ≠ j) → (s.puts l).blk j = s.blk j
  | [], _, _ => rfl
  | x :: l, s, h => by
    show ((s.put x.1 x.2).puts l).blk j = _
    rw [Dk.puts_blk j l _ (fun y hy => h y (List.mem_cons_of_mem _ hy))]
    show (if j = x.1 then x.2 else s.blk j) = _
    rw [if_neg (fun e => h x (List.mem_cons_self ..) e.symm)]
theorem Dk.puts_put (j : Int) (b : List B8) (s : Dk) (l : List (Int × List B8)) : (s.puts (l ++ [(j, b)])).blk j = b := by
  rw [Dk.puts_snoc]
  show (if j = j then b else _) = b
  rw [if_pos rfl]
theorem Dk.strikes_blk (j : Int) : ∀ (l : List ((Int × List B8) × (Int × Int))) (s : Dk), (∀ x ∈ l, x.1.1 ≠ j) → (s.strikes l).blk j = s.blk j
  | [], _, _ => rfl
  | x :: l, s, h => by
    show ((s.strike x).strikes l).blk j = _
    rw [Dk.strikes_blk j l _ (fun y hy => h y (List.mem_cons_of_mem _ hy))]
    unfold Dk.strike
    split
    · show (if j = x.1.1 then _ else s.blk j) = _
      rw [if_neg (fun e => h x (List.mem_cons_self ..) e.symm)]
    · rfl
theorem zip_fst {α β : Type} {l : List α} {m : List β} {x : α × β} (h : x ∈ l.zip m) : x.1 ∈ l := (List.of_mem_zip h).1
theorem Dk.spend_same (s : Dk) : s.spend.1.blk = s.blk ∧ s.spend.1.blocks = s.blocks ∧ s.spend.1.under = s.under := by
  unfold Dk.spend
  split
  · split <;> exact ⟨rfl, rfl, rfl⟩
  · exact ⟨rfl, rfl, rfl⟩
theorem Dk.write_same (s : Dk) (i : Int) (b : List B8) : (s.write i b).1.blk = s.blk ∧ (s.write i b).1.blocks = s.blocks ∧ ((s.write i b).1.under = s.under ∨ (s.write i b).1.under = s.under ++ [(i, full b)]) := by
  unfold Dk.write
  split
  · exact ⟨rfl, rfl, .inl rfl⟩
  · split
    · exact ⟨rfl, rfl, .inl rfl⟩
    · have h := (s.lay i b).spend_same
      exact ⟨h.1, h.2.1, .inr h.2.2⟩
theorem Dk.flush_same (s : Dk) : (s.flush.1.blk = s.blk ∧ s.flush.1.under = s.under ∨ s.flush.1.blk = (s.puts s.under).blk ∧ s.flush.1.under = []) ∧ s.flush.1.blocks = s.blocks := by
  unfold Dk.flush
  have h := s.spend_same
  split
  · exact ⟨.inl ⟨rfl, rfl⟩, rfl⟩
  · split
    · have hp : ∀ (l : List (Int × List B8)) (s t : Dk), s.blk = t.blk → (s.puts l).blk = (t.puts l).blk := by
        intro l
        induction l with
        | nil => intro s t h; exact h
        | cons x l ih => intro s t h; exact ih _ _ (by show (fun j => if j = x.1 then x.2 else s.blk j) = _; rw [h]; rfl)
      refine ⟨.inr ⟨?_, rfl⟩, (Dk.flushed_same _).1.trans h.2.1⟩
      show (s.spend.1.puts s.spend.1.under).blk = _
      rw [h.2.2]
      exact hp _ _ _ h.1
    · exact ⟨.inl ⟨h.1, h.2.2⟩, h.2.1⟩
/-- Block i stays b: it is not written. -/
def Stays (B i : Int) (b : List B8) (k : Nat) (s : Dk) : Prop := s.blocks = B ∧ s.blk i = b ∧ (∀ x ∈ s.under, x.1 ≠ i) ∧ s.under.length ≤ k
theorem Stays.more {B i : Int} {b : List B8} {k : Nat} {s : Dk} (h : Stays B i b k s) : Stays B i b (k + 1) s := ⟨h.1, h.2.1, h.2.2.1, by have := h.2.2.2; omega⟩
theorem Stays.write {B i : Int} {b : List B8} {k : Nat} {s : Dk} (h : Stays B i b k s) (j : Int) (c : List B8) (hj : j ≠ i) : Stays B i b (k + 1) (s.write j c).1 := by
  obtain ⟨h1, h2, h3, h4⟩ := h
  obtain ⟨w1, w2, w3⟩ := s.write_same j c
  refine ⟨w2.trans h1, by rw [w1]; exact h2, ?_, ?_⟩
  · rcases w3 with w3 | w3 <;> rw [w3]
    · exact h3
    · intro x hx
      rcases List.mem_append.1 hx with hx | hx
      · exact h3 x hx
      · simp at hx; subst hx; exact hj
  · rcases w3 with w3 | w3 <;> rw [w3]
    · omega
    · simp; omega
theorem Stays.flush {B i : Int} {b : List B8} {k : Nat} {s : Dk} (h : Stays B i b k s) : Stays B i b (k + 1) s.flush.1 := by
  obtain ⟨h1, h2, h3, h4⟩ := h
  obtain ⟨w1, w2⟩ := s.flush_same
  rcases w1 with ⟨w1, w3⟩ | ⟨w1, w3⟩
  · exact ⟨w2.trans h1, by rw [w1]; exact h2, by rw [w3]; exact h3, by rw [w3]; omega⟩
  · exact ⟨w2.trans h1, by rw [w1, Dk.puts_blk i _ _ h3]; exact h2, by rw [w3]; simp, by rw [w3]; simp⟩
theorem Stays.arm {B i : Int} {b : List B8} {k : Nat} {s : Dk} (h : Stays B i b k s) (n : Int) : Stays B i b (k + 1) (s.arm n) := h.more
theorem Stays.crash {B i : Int} {b : List B8} {k : Nat} {s : Dk} (h : Stays B i b k s) (fs : List (Int × Int)) : Stays B i b (k + 1) (s.crash fs) := by
  obtain ⟨h1, h2, h3, h4⟩ := h
  refine ⟨(Dk.strikes_same _ s).2.trans h1, ?_, by simp [Dk.crash], by simp [Dk.crash]⟩
  show (s.strikes (s.under.zip fs)).blk i = _
  rw [Dk.strikes_blk i _ _ (fun x hx => h3 _ (zip_fst hx))]
  exact h2
end Go.Proofs.Ytcnhjbipncledaa
