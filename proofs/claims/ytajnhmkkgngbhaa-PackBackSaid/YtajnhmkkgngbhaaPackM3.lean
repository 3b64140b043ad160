/- Plain mathematics of chapter 12: what is read, thing by thing. No program. -/
import Derived.Test.YtajnhmkkgngbhaaPackM2
namespace Go.Proofs.Ytajnhmkkgngbhaa.Pack
theorem cntTo_lt : ∀ (k i n : Nat) (bs : List B) (m : Nat) (r : List B), k + i = 10 → n < 2 ^ (7 * i) → cntTo k i n bs = .yes m r → m < 18446744073709551616 ∧ r.length < bs.length := by
  intro k
  induction k with
  | zero => intro i n bs m r _ _ h; cases h
  | succ k ih =>
    intro i n bs m r hk hn h
    cases bs with
    | nil => cases h
    | cons c bs =>
      rw [cntTo_cons] at h
      by_cases h9 : i = 9 ∧ 1 < c.toNat
      · rw [if_pos h9] at h; cases h
      · rw [if_neg h9] at h
        have hs := cnt_step_lt i n (c.toNat % 128) hn (Nat.mod_lt _ (by omega))
        by_cases h128 : c.toNat < 128
        · rw [if_pos h128] at h
          by_cases h0 : c.toNat = 0 ∧ 0 < i
          · rw [if_pos h0] at h; cases h
          · rw [if_neg h0] at h
            injection h with h1 h2
            subst h1 h2
            refine ⟨?_, by simp⟩
            rcases Nat.lt_or_ge i 9 with hi | hi
            · have : 2 ^ (7 * (i + 1)) ≤ 2 ^ 63 := Nat.pow_le_pow_right (by omega) (by omega)
              omega
            · obtain rfl : i = 9 := by omega
              have hc1 : c.toNat ≤ 1 := by omega
              have : c.toNat % 128 * 2 ^ (7 * 9) ≤ 1 * 2 ^ (7 * 9) := Nat.mul_le_mul_right _ (by omega)
              omega
        · rw [if_neg h128] at h
          have := ih (i + 1) _ bs m r (by omega) hs h
          simp only [List.length_cons]
          omega
theorem cnt_lt {bs : List B} {m : Nat} {r : List B} (h : cnt bs = .yes m r) : m < 18446744073709551616 ∧ r.length < bs.length := cntTo_lt 10 0 0 bs m r rfl (by decide) h
theorem cntTo_no : ∀ (k i n : Nat) (bs : List B) (e : Int), cntTo k i n bs = .no e → e = 120 ∨ e = 121 := by
  intro k
  induction k with
  | zero => intro i n bs e h; injection h with h; omega
  | succ k ih =>
    intro i n bs e h
    cases bs with
    | nil => injection h with h; omega
    | cons c bs =>
      rw [cntTo_cons] at h
      by_cases h9 : i = 9 ∧ 1 < c.toNat
      · rw [if_pos h9] at h; injection h with h; omega
      · rw [if_neg h9] at h
        by_cases h128 : c.toNat < 128
        · rw [if_pos h128] at h
          by_cases h0 : c.toNat = 0 ∧ 0 < i
          · rw [if_pos h0] at h; injection h with h; omega
          · rw [if_neg h0] at h; cases h
        · rw [if_neg h128] at h; exact ih _ _ _ _ h
theorem cnt_no {bs : List B} {e : Int} (h : cnt bs = .no e) : e = 120 ∨ e = 121 := cntTo_no _ _ _ _ _ h
def Got.then {α β : Type} (g : Got α) (f : α → List B → Got β) : Got β :=
  match g with
  | .no e => .no e
  | .yes a r => f a r
/-- A count as a whole number. -/
def unzig (n : Nat) : Int := if n % 2 = 1 then -((n / 2 : Nat) : Int) - 1 else ((n / 2 : Nat) : Int)
def whole (bs : List B) : Got Int := (cnt bs).then fun n r => .yes (unzig n) r
/-- The number of bytes, the lowest first. -/
def le : List B → Nat
  | [] => 0
  | c :: bs => c.toNat + 256 * le bs
def signed64 (n : Nat) : Int := if n < 9223372036854775808 then (n : Int) else (n : Int) - 18446744073709551616
def fixed (bs : List B) : Got Int := if bs.length < 8 then .no 120 else .yes (signed64 (le (bs.take 8))) (bs.drop 8)
def sizeOf_ (each : Nat) (bs : List B) : Got Nat := (cnt bs).then fun n r => if r.length / each < n then .no 120 else .yes n r
def text (bs : List B) : Got (List B) := (sizeOf_ 1 bs).then fun n r => .yes (r.take n) (r.drop n)
def many (one : List B → Got Int) : Nat → List Int → List B → Got (List Int)
  | 0, acc, bs => .yes acc bs
  | k + 1, acc, bs => (one bs).then fun x r => many one k (acc ++ [x]) r
def ints (bs : List B) : Got (List Int) := (sizeOf_ 1 bs).then fun n r => many whole n [] r
def fixes (bs : List B) : Got (List Int) := (sizeOf_ 8 bs).then fun n r => many fixed n [] r
theorem le_lt : ∀ bs : List B, le bs < 256 ^ bs.length := by
  intro bs
  induction bs with
  | nil => decide
  | cons c bs ih =>
    have := c.isLt
    simp only [le, List.length_cons, Nat.pow_succ]
    omega
theorem le_snoc (bs : List B) (c : B) : le (bs ++ [c]) = le bs + c.toNat * 256 ^ bs.length := by
  induction bs with
  | nil => simp [le]
  | cons d bs ih =>
    simp only [List.cons_append, le, ih, List.length_cons, Nat.pow_succ]
    rw [Nat.mul_add, Nat.add_assoc, Nat.mul_comm (256 ^ bs.length) 256, ← Nat.mul_assoc 256, Nat.mul_comm 256 c.toNat, Nat.mul_assoc]
/-- No reading ends with the error 0. -/
def Bad {α : Type} (g : Got α) : Prop := ∀ e, g = .no e → e = 120 ∨ e = 121
theorem bad_cnt (bs : List B) : Bad (cnt bs) := fun _ h => cnt_no h
theorem bad_yes {α : Type} (a : α) (r : List B) : Bad (.yes a r : Got α) := fun _ h => by cases h
theorem bad_no {α : Type} : Bad (.no 120 : Got α) := fun _ h => by injection h with h; omega
theorem bad_then {α β : Type} {g : Got α} {f : α → List B → Got β} (hg : Bad g) (hf : ∀ a r, Bad (f a r)) : Bad (g.then f) := by
  cases g with
  | no e => intro e' h; exact hg e' (by injection h with h; rw [h])
  | yes a r => exact hf a r
theorem bad_whole (bs : List B) : Bad (whole bs) := bad_then (bad_cnt bs) fun _ _ => bad_yes _ _
theorem bad_fixed (bs : List B) : Bad (fixed bs) := by unfold fixed; split; exact bad_no; exact bad_yes _ _
theorem bad_size (each : Nat) (bs : List B) : Bad (sizeOf_ each bs) := bad_then (bad_cnt bs) fun _ _ => by split; exact bad_no; exact bad_yes _ _
theorem bad_text (bs : List B) : Bad (text bs) := bad_then (bad_size 1 bs) fun _ _ => bad_yes _ _
theorem bad_many {one : List B → Got Int} (h : ∀ bs, Bad (one bs)) : ∀ k acc bs, Bad (many one k acc bs) := by
  intro k
  induction k with
  | zero => intro acc bs; exact bad_yes _ _
  | succ k ih => intro acc bs; exact bad_then (h bs) fun _ _ => ih _ _
theorem bad_ints (bs : List B) : Bad (ints bs) := bad_then (bad_size 1 bs) fun _ _ => bad_many bad_whole _ _ _
theorem bad_fixes (bs : List B) : Bad (fixes bs) := bad_then (bad_size 8 bs) fun _ _ => bad_many bad_fixed _ _ _
theorem Bad.ne {α : Type} {g : Got α} (h : Bad g) : ∀ e, g = .no e → e ≠ 0 := fun e he => by have := h e he; omega
end Go.Proofs.Ytajnhmkkgngbhaa.Pack
