/- Plain mathematics of chapter 12: what is read of a count's bytes. No program. -/
import Derived.Test.YtajnhmkkgngbhaaPackM
namespace Go.Proofs.Ytajnhmkkgngbhaa.Pack
/-- What is read: an error's number, or a thing and what is left. -/
inductive Got (α : Type) where
  | no (e : Int)
  | yes (x : α) (rest : List B)
/-- A count from its byte i on, n its elder bytes' number; k: how many bytes may come. -/
def cntTo : Nat → Nat → Nat → List B → Got Nat
  | 0, _, _, _ => .no 121
  | _ + 1, _, _, [] => .no 120
  | k + 1, i, n, c :: bs =>
    if i = 9 ∧ 1 < c.toNat then .no 121
    else if c.toNat < 128 then (if c.toNat = 0 ∧ 0 < i then .no 121 else .yes (n + c.toNat % 128 * 2 ^ (7 * i)) bs)
    else cntTo k (i + 1) (n + c.toNat % 128 * 2 ^ (7 * i)) bs
def cnt (bs : List B) : Got Nat := cntTo 10 0 0 bs
theorem cntTo_nil (k i n : Nat) : cntTo (k + 1) i n [] = .no 120 := rfl
theorem cntTo_cons (k i n : Nat) (c : B) (bs : List B) : cntTo (k + 1) i n (c :: bs) = if i = 9 ∧ 1 < c.toNat then .no 121
    else if c.toNat < 128 then (if c.toNat = 0 ∧ 0 < i then .no 121 else .yes (n + c.toNat % 128 * 2 ^ (7 * i)) bs)
    else cntTo k (i + 1) (n + c.toNat % 128 * 2 ^ (7 * i)) bs := rfl
/-- Seven bits more keep below the next power. -/
theorem cnt_step_lt (i n x : Nat) (hn : n < 2 ^ (7 * i)) (hx : x < 128) : n + x * 2 ^ (7 * i) < 2 ^ (7 * (i + 1)) := by
  have e : 2 ^ (7 * (i + 1)) = 128 * 2 ^ (7 * i) := by rw [show 7 * (i + 1) = 7 * i + 7 by omega, Nat.pow_add]; omega
  rw [e]
  have : x * 2 ^ (7 * i) ≤ 127 * 2 ^ (7 * i) := Nat.mul_le_mul_right _ (by omega)
  omega
end Go.Proofs.Ytajnhmkkgngbhaa.Pack
