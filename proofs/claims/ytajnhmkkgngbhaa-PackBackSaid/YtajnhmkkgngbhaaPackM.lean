/- Plain mathematics of the forms of chapter 12: a count's bytes. No program. -/
import Lean
namespace Go.Proofs.Ytajnhmkkgngbhaa.Pack
abbrev B := BitVec 8
/-- A count's form: seven bits a byte, the lowest first; k: how many bytes may follow. -/
def formTo : Nat → Nat → List B
  | 0, n => [BitVec.ofNat 8 n]
  | k + 1, n => if n ≤ 127 then [BitVec.ofNat 8 n] else BitVec.ofNat 8 (n % 128 + 128) :: formTo k (n / 128)
def form (n : Nat) : List B := formTo 9 n
theorem formTo_length : ∀ k n, 1 ≤ (formTo k n).length ∧ (formTo k n).length ≤ k + 1 := by
  intro k
  induction k with
  | zero => intro n; simp [formTo]
  | succ k ih =>
    intro n
    unfold formTo
    by_cases h : n ≤ 127
    · rw [if_pos h]; simp
    · rw [if_neg h, List.length_cons]
      have := ih (n / 128)
      omega
theorem formTo_last (k n : Nat) (h : n ≤ 127) : formTo k n = [BitVec.ofNat 8 n] := by
  cases k with
  | zero => rfl
  | succ k => unfold formTo; rw [if_pos h]
theorem formTo_step (k n : Nat) (h : ¬ n ≤ 127) : formTo (k + 1) n = BitVec.ofNat 8 (n % 128 + 128) :: formTo k (n / 128) := by
  rw [formTo, if_neg h]
end Go.Proofs.Ytajnhmkkgngbhaa.Pack
