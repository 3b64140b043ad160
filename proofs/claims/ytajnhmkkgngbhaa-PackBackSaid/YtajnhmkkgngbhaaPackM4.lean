/- Plain mathematics of chapter 12: what is written. No program. -/
import Derived.Test.YtajnhmkkgngbhaaPackM3
namespace Go.Proofs.Ytajnhmkkgngbhaa.Pack
/-- A whole number as a count. -/
def zig (n : Int) : Nat := if n < 0 then 2 * (-(n + 1)).toNat + 1 else 2 * n.toNat
/-- The first k bytes of a number, the lowest first. -/
def leB (k u : Nat) : List B := (List.range k).map fun i => BitVec.ofNat 8 (u / 2 ^ (8 * i))
theorem leB_length (k u : Nat) : (leB k u).length = k := by simp [leB]
theorem leB_succ (k u : Nat) : leB (k + 1) u = leB k u ++ [BitVec.ofNat 8 (u / 2 ^ (8 * k))] := by simp [leB, List.range_succ]
/-- A number of 64 bits without its sign. -/
def un (x : Int) : Nat := (x % 18446744073709551616).toNat
def eight (x : Int) : List B := leB 8 (un x)
def formI (x : Int) : List B := form (zig x)
def formT (b : List B) : List B := form b.length ++ b
def formL (f : Int → List B) (xs : List Int) : List B := form xs.length ++ xs.flatMap f
/-- The writer: what was written, and whether room was missed. -/
def room (st : List B × Bool) (xs : List B) : List B × Bool :=
  if st.2 then st else if 1048576 < st.1.length + xs.length then (st.1, true) else (st.1 ++ xs, false)
theorem zig_lt (n : Int) (h : -9223372036854775808 ≤ n) (h' : n ≤ 9223372036854775807) : zig n < 18446744073709551616 := by
  unfold zig; split <;> omega
end Go.Proofs.Ytajnhmkkgngbhaa.Pack
