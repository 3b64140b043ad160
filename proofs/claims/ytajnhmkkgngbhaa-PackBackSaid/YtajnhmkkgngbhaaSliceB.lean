/- A part of a slice of bytes. -/
import Derived.Test.YtajnhmkkgngbhaaSame
namespace Go.Proofs.Ytajnhmkkgngbhaa
open Go.RowKit
/-- A part of a slice of bytes: the operation's run, and how it reads. -/
theorem slice_sub {w : World} {p : Option Addr} {z c : Nat} {bs : List (BitVec 8)} (h : IsBytes w (.slice p z c) bs) (i j : Nat) (hij : i ≤ j) (hj : j ≤ z) (hz : z ≤ c) :
    ∃ p', (∀ w', (Instr.slice 24 (.slice p z c) (some (.int .i64 (i : Int))) (some (.int .i64 (j : Int))) none).run Try.prog w' = .ok (.slice p' (j - i) (c - i)) w') ∧ IsBytes w (.slice p' (j - i) (c - i)) ((bs.drop i).take (j - i)) := by
  have hrun : ∀ w', (Instr.slice 24 (.slice p z c) (some (.int .i64 (i : Int))) (some (.int .i64 (j : Int))) none).run Try.prog w' = .ok (.slice (if c = i then p else p.map (·.add (i * 1))) (j - i) (c - i)) w' := by
    intro w'
    have h1 : (i : Int) ≤ (j : Int) := by omega
    have h2 : (j : Int) ≤ (c : Int) := by omega
    have h0 : (0 : Int) ≤ (i : Int) := by omega
    clear h
    go_simp
  refine ⟨_, hrun, ?_⟩
  obtain ⟨p0, n0, c0, he, hl, hlc, hm, hb⟩ := h
  injection he with e1 e2 e3
  subst e1 e2 e3
  refine ⟨_, _, _, rfl, by rw [List.length_take, List.length_drop]; omega, by omega, by omega, ?_⟩
  by_cases hcz : c = i
  · left
    have : bs.drop i = [] := List.drop_of_length_le (by omega)
    rw [this]; simp
  · rcases hb with rfl | ⟨b, off, rfl, hlt, hb⟩
    · left; simp
    · right
      refine ⟨b, off + i, ?_, hlt, ?_⟩
      · rw [if_neg hcz]
        simp [Addr.add]
      · intro k hk
        rw [List.length_take, List.length_drop] at hk
        rw [Nat.add_assoc, hb (i + k) (by omega), List.getElem_take, List.getElem_drop]
end Go.Proofs.Ytajnhmkkgngbhaa
