/- Plain mathematics of the 32-bit sum, second part: the product of polynomials (crc.times, crc.Join) and the division by definition (regattaref11.left, number). No program. -/
import Derived.Test.YtfbepdlahaefgaaDoorCrcM
namespace Go.Proofs.YtfbepdlahaefgaaDoor.Crc
/-! ### Products -/
def one : R := 0x80000000#32
def timesAcc (a b : R) : Nat → R
  | 0 => 0#32
  | i + 1 => timesAcc a b i ^^^ (if a.getLsbD (31 - i) then upN i b else 0#32)
def times (a b : R) : R := timesAcc a b 32
theorem timesAcc_up (a b : R) (n : Nat) : timesAcc a (up b) n = up (timesAcc a b n) := by
  induction n with
  | zero => exact up_zero.symm
  | succ n ih =>
    rw [timesAcc, timesAcc, ih, up_xor]
    congr 1
    cases a.getLsbD (31 - n)
    · simp [up_zero]
    · simp [upN_up]
theorem times_up (a b : R) : times a (up b) = up (times a b) := timesAcc_up a b 32
theorem times_upN (a b : R) (n : Nat) : times a (upN n b) = upN n (times a b) := by
  induction n with
  | zero => rfl
  | succ n ih => rw [upN_succ, upN_succ, times_up, ih]
theorem upN_one : ∀ n : Fin 32, upN n.val one = BitVec.twoPow 32 (31 - n.val) := by decide
theorem timesAcc_one (a : R) (n : Nat) (hn : n ≤ 32) : ∀ k, (timesAcc a one n).getLsbD k = (decide (32 - n ≤ k) && a.getLsbD k) := by
  induction n with
  | zero =>
    intro k
    simp only [timesAcc]
    by_cases h : 32 ≤ k
    · rw [BitVec.getLsbD_of_ge a k h]; simp
    · simp; omega
  | succ n ih =>
    intro k
    rw [timesAcc, BitVec.getLsbD_xor, ih (by omega)]
    by_cases hk : 32 ≤ k
    · rw [BitVec.getLsbD_of_ge a k hk, BitVec.getLsbD_of_ge _ k hk]; simp
    · have e : (if a.getLsbD (31 - n) = true then upN n one else 0#32).getLsbD k = (decide (k = 31 - n) && a.getLsbD k) := by
        by_cases h : k = 31 - n
        · subst h
          cases ha : a.getLsbD (31 - n)
          · simp
          · rw [if_pos rfl, upN_one ⟨n, by omega⟩, BitVec.getLsbD_twoPow]; simp; omega
        · split
          · rw [upN_one ⟨n, by omega⟩, BitVec.getLsbD_twoPow]
            simp [h]; omega
          · simp [h]
      rw [e]
      have e2 : decide (32 - (n + 1) ≤ k) = (decide (32 - n ≤ k) ^^ decide (k = 31 - n)) := by
        by_cases h1 : 32 - n ≤ k
        · rw [decide_eq_true h1, decide_eq_true (by omega : 32 - (n + 1) ≤ k), decide_eq_false (by omega : ¬ k = 31 - n)]; rfl
        · rw [decide_eq_false h1]
          by_cases h2 : k = 31 - n
          · rw [decide_eq_true h2, decide_eq_true (by omega : 32 - (n + 1) ≤ k)]; rfl
          · rw [decide_eq_false h2, decide_eq_false (by omega : ¬ 32 - (n + 1) ≤ k)]; rfl
      rw [e2]
      cases decide (32 - n ≤ k) <;> cases decide (k = 31 - n) <;> cases a.getLsbD k <;> rfl
theorem times_one (a : R) : times a one = a := by
  apply BitVec.eq_of_getLsbD_eq
  intro k _
  rw [times, timesAcc_one a 32 (by omega)]; simp
theorem times_pow (a : R) (n : Nat) : times a (upN n one) = upN n a := by rw [times_upN, times_one]

/-! ### The division by definition: coefficients as integers, the highest power first -/
def powersL : List Nat := [26, 23, 22, 16, 12, 11, 10, 8, 7, 5, 4, 2, 1, 0]
def flip1 (i : Nat) (l : List Int) (p : Nat) : List Int := l.set (i + 32 - p) (1 - l.getD (i + 32 - p) 0)
def flipsTo (i : Nat) (l : List Int) (k : Nat) : List Int := (powersL.take k).foldl (flip1 i) (l.set i 0)
def leftStep (l : List Int) (i : Nat) : List Int := if l.getD i 0 = 0 then l else flipsTo i l 14
def leftTo (l : List Int) : Nat → List Int
  | 0 => l
  | i + 1 => leftStep (leftTo l i) i
def leftL (l : List Int) : List Int := (leftTo l (l.length - 32)).drop (l.length - 32)
theorem flip1_length (i : Nat) (l : List Int) (p : Nat) : (flip1 i l p).length = l.length := by simp [flip1]
theorem foldl_flip_length (i : Nat) (ps : List Nat) : ∀ l, (ps.foldl (flip1 i) l).length = l.length := by
  induction ps with
  | nil => intro l; rfl
  | cons p ps ih => intro l; rw [List.foldl_cons, ih, flip1_length]
theorem flipsTo_length (i : Nat) (l : List Int) (k : Nat) : (flipsTo i l k).length = l.length := by rw [flipsTo, foldl_flip_length]; simp
theorem leftStep_length (l : List Int) (i : Nat) : (leftStep l i).length = l.length := by
  unfold leftStep; split
  · rfl
  · exact flipsTo_length ..
theorem leftTo_length (l : List Int) (i : Nat) : (leftTo l i).length = l.length := by
  induction i with
  | zero => rfl
  | succ i ih => rw [leftTo, leftStep_length, ih]
theorem leftL_length (l : List Int) (h : 32 ≤ l.length) : (leftL l).length = 32 := by
  rw [leftL, List.length_drop, leftTo_length]; omega
theorem flipsTo_succ (i : Nat) (l : List Int) (k : Nat) (h : k < 14) : flipsTo i l (k + 1) = flip1 i (flipsTo i l k) (powersL[k]'h) := by
  unfold flipsTo
  rw [List.take_succ_eq_append_getElem h, List.foldl_append]; rfl
def b2i (b : Bool) : Int := if b then 1 else 0
/-- The coefficients are noughts and ones. -/
def Bin (l : List Int) : Prop := ∀ x ∈ l, x = 0 ∨ x = 1
theorem Bin.getD {l : List Int} (h : Bin l) (i : Nat) : l.getD i 0 = 0 ∨ l.getD i 0 = 1 := by
  rw [List.getD_eq_getElem?_getD]
  cases e : l[i]? with
  | none => left; rfl
  | some x => exact h x (List.mem_of_getElem? e)
theorem Bin.set {l : List Int} (h : Bin l) (i : Nat) (x : Int) (hx : x = 0 ∨ x = 1) : Bin (l.set i x) := by
  intro y hy
  rcases List.mem_or_eq_of_mem_set hy with h1 | h1
  · exact h y h1
  · subst h1; exact hx
theorem Bin.flip1 {l : List Int} (h : Bin l) (i p : Nat) : Bin (flip1 i l p) := by
  refine h.set _ _ ?_
  rcases h.getD (i + 32 - p) with e | e <;> rw [e] <;> simp
theorem Bin.foldl {i : Nat} (ps : List Nat) : ∀ {l : List Int}, Bin l → Bin (ps.foldl (Crc.flip1 i) l) := by
  induction ps with
  | nil => intro l h; exact h
  | cons p ps ih => intro l h; exact ih (h.flip1 i p)
theorem Bin.flipsTo {l : List Int} (h : Bin l) (i k : Nat) : Bin (Crc.flipsTo i l k) := Bin.foldl _ (h.set i 0 (.inl rfl))
theorem Bin.leftStep {l : List Int} (h : Bin l) (i : Nat) : Bin (Crc.leftStep l i) := by
  unfold Crc.leftStep; split
  · exact h
  · exact h.flipsTo i 14
theorem Bin.leftTo {l : List Int} (h : Bin l) (i : Nat) : Bin (Crc.leftTo l i) := by
  induction i with
  | zero => exact h
  | succ i ih => exact ih.leftStep i
theorem getD_app_l (a b : List Int) (j : Nat) (h : j < a.length) : (a ++ b).getD j 0 = a.getD j 0 := by
  rw [List.getD_eq_getElem?_getD, List.getD_eq_getElem?_getD, List.getElem?_append_left h]
theorem getD_app_r (a b : List Int) (j : Nat) (h : a.length ≤ j) : (a ++ b).getD j 0 = b.getD (j - a.length) 0 := by
  rw [List.getD_eq_getElem?_getD, List.getD_eq_getElem?_getD, List.getElem?_append_right h]
theorem getD_set (l : List Int) (i j : Nat) (x : Int) (hi : i < l.length) : (l.set i x).getD j 0 = if j = i then x else l.getD j 0 := by
  rw [List.getD_eq_getElem?_getD, List.getD_eq_getElem?_getD, List.getElem?_set]
  by_cases h : i = j
  · subst h; simp [hi]
  · have : ¬ j = i := fun e => h e.symm
    simp [h, this]
/-- What flips that stand apart do to the coefficient j. -/
theorem foldl_flip (i : Nat) (ps : List Nat) : ∀ (l : List Int) (_ : ps.Nodup) (_ : ∀ p ∈ ps, p ≤ 31) (_ : i + 32 < l.length) (j : Nat) (_ : i + 32 - 31 ≤ j) (_ : j ≤ i + 32),
    (ps.foldl (flip1 i) l).getD j 0 = if ps.contains (i + 32 - j) then 1 - l.getD j 0 else l.getD j 0 := by
  induction ps with
  | nil => intro l _ _ _ j _ _; rfl
  | cons p ps ih =>
    intro l hnd hle hlen j h1 h2
    obtain ⟨hp, hnd'⟩ := List.nodup_cons.1 hnd
    have hp31 := hle p (by simp)
    rw [List.foldl_cons, ih (flip1 i l p) hnd' (fun q hq => hle q (by simp [hq])) (by rw [flip1_length]; exact hlen) j h1 h2]
    have e : (flip1 i l p).getD j 0 = if j = i + 32 - p then 1 - l.getD j 0 else l.getD j 0 := by
      unfold flip1
      rw [getD_set _ _ _ _ (by omega)]
      by_cases h : j = i + 32 - p
      · rw [if_pos h, if_pos h, h]
      · rw [if_neg h, if_neg h]
    rw [e]
    by_cases h : j = i + 32 - p
    · have hq : i + 32 - j = p := by omega
      rw [if_pos h, hq]
      have : ps.contains p = false := by simpa using hp
      rw [this]; simp
    · have hq : ¬ i + 32 - j = p := by omega
      rw [if_neg h]
      have : (p :: ps).contains (i + 32 - j) = ps.contains (i + 32 - j) := by
        rw [List.contains_cons]
        have : (i + 32 - j == p) = false := by simpa using hq
        rw [this]; rfl
      rw [this]
theorem poly_powers : ∀ k : Fin 32, poly.getLsbD k.val = powersL.contains (31 - k.val) := by decide
theorem powers_nodup : powersL.Nodup := by decide
theorem powers_le : ∀ p ∈ powersL, p ≤ 31 := by decide

/-- The division and the register go side by side. -/
theorem leftTo_run (l : List Int) (m : Nat → Bool) (r0 : R) (h0 : ∀ j, j < l.length → l.getD j 0 = b2i (r0.getLsbD j ^^ m j)) :
    ∀ i, i + 32 ≤ l.length → ∀ j, i ≤ j → j < l.length → (leftTo l i).getD j 0 = b2i ((runF m i r0).getLsbD (j - i) ^^ m j) := by
  intro i
  induction i with
  | zero => intro _ j _ hj; exact h0 j hj
  | succ i ih =>
    intro hi j hij hj
    have ih' := ih (by omega)
    rw [leftTo, runF]
    generalize hs : leftTo l i = s at ih'
    have hsl : s.length = l.length := by rw [← hs, leftTo_length]
    generalize runF m i r0 = r at ih'
    have top := ih' i (Nat.le_refl _) (by omega)
    rw [Nat.sub_self] at top
    have hup : ∀ k, (up (r ^^^ bitR (m i))).getLsbD k = (r.getLsbD (k + 1) ^^ ((r.getLsbD 0 ^^ m i) && poly.getLsbD k)) := by
      intro k
      have hb0 : (bitR (m i)).getLsbD 0 = m i := by cases m i <;> decide
      have hbk : (bitR (m i)).getLsbD (k + 1) = false := by unfold bitR; cases m i <;> simp
      unfold up
      rw [BitVec.getLsbD_xor, BitVec.getLsbD_ushiftRight, BitVec.getLsbD_xor, BitVec.getLsbD_xor, hb0, Nat.add_comm 1 k, hbk]
      cases (r.getLsbD 0 ^^ m i) <;> simp
    rw [hup, show j - (i + 1) + 1 = j - i from by omega]
    unfold leftStep
    cases hx : (r.getLsbD 0 ^^ m i) with
    | false =>
      rw [hx] at top
      rw [if_pos (by rw [top]; rfl), ih' j (by omega) hj]
      simp
    | true =>
      rw [hx] at top
      rw [if_neg (by rw [top]; decide)]
      have hset : ∀ q, i < q → (s.set i 0).getD q 0 = s.getD q 0 := fun q hq => by
        rw [getD_set _ _ _ _ (by omega), if_neg (by omega)]
      by_cases hfar : j ≤ i + 32
      · have := foldl_flip i powersL (s.set i 0) powers_nodup powers_le (by simp; omega) j (by omega) hfar
        rw [flipsTo, show powersL.take 14 = powersL from rfl, this, hset j (by omega), ih' j (by omega) hj]
        have hp := poly_powers ⟨j - (i + 1), by omega⟩
        simp only at hp
        rw [show 31 - (j - (i + 1)) = i + 32 - j from by omega] at hp
        rw [← hp]
        cases poly.getLsbD (j - (i + 1)) <;> cases r.getLsbD (j - i) <;> cases m j <;> rfl
      · have hkeep : ∀ (ps : List Nat) (l : List Int), (∀ p ∈ ps, p ≤ 31) → (ps.foldl (flip1 i) l).getD j 0 = l.getD j 0 := by
          intro ps
          induction ps with
          | nil => intro l _; rfl
          | cons p ps ih2 =>
            intro l hle
            rw [List.foldl_cons, ih2 _ (fun q hq => hle q (by simp [hq]))]
            unfold flip1
            by_cases hb : i + 32 - p < l.length
            · rw [getD_set _ _ _ _ hb, if_neg (by omega)]
            · rw [List.set_eq_of_length_le (by omega)]
        rw [flipsTo, show powersL.take 14 = powersL from rfl, hkeep _ _ powers_le, hset j (by omega), ih' j (by omega) hj]
        have : poly.getLsbD (j - (i + 1)) = false := BitVec.getLsbD_of_ge _ _ (by omega)
        rw [this]; simp

/-! ### 32 coefficients as a number -/
/-- What regattaref11.number has behind the coefficients 31 .. k. -/
def numTo (l : List Int) (k : Nat) : Nat := (List.range (32 - k)).foldl (fun n i => 2 * n + (l.getD (31 - i) 0).toNat) 0
theorem numTo_32 (l : List Int) : numTo l 32 = 0 := rfl
theorem numTo_step (l : List Int) (k : Nat) (h : k < 32) : numTo l k = 2 * numTo l (k + 1) + (l.getD k 0).toNat := by
  unfold numTo
  rw [show 32 - k = (32 - (k + 1)) + 1 from by omega, List.range_succ, List.foldl_append]
  simp only [List.foldl_cons, List.foldl_nil]
  rw [show 31 - (32 - (k + 1)) = k from by omega]
theorem numTo_bits (l : List Int) (r : R) (h : ∀ k, k < 32 → l.getD k 0 = b2i (r.getLsbD k)) : ∀ d k, k + d = 32 → numTo l k = (r >>> k).toNat := by
  intro d
  induction d with
  | zero =>
    intro k hk
    obtain rfl : k = 32 := by omega
    rw [numTo_32, BitVec.toNat_ushiftRight, Nat.shiftRight_eq_div_pow, Nat.div_eq_of_lt r.isLt]
  | succ d ih =>
    intro k hk
    rw [numTo_step l k (by omega), ih (k + 1) (by omega), h k (by omega)]
    rw [BitVec.toNat_ushiftRight, BitVec.toNat_ushiftRight, Nat.shiftRight_eq_div_pow, Nat.shiftRight_eq_div_pow, Nat.pow_succ, ← Nat.div_div_eq_div_mul]
    have hb : (b2i (r.getLsbD k)).toNat = r.toNat / 2 ^ k % 2 := by
      rw [BitVec.getLsbD, Nat.testBit_eq_decide_div_mod_eq]
      rcases Nat.mod_two_eq_zero_or_one (r.toNat / 2 ^ k) with e | e <;> rw [e] <;> rfl
    rw [hb]
    omega
theorem numTo_all (l : List Int) (r : R) (h : ∀ k, k < 32 → l.getD k 0 = b2i (r.getLsbD k)) : numTo l 0 = r.toNat := by
  rw [numTo_bits l r h 32 0 rfl]
  simp
theorem numTo_lt (l : List Int) (hb : Bin l) : ∀ d k, k + d = 32 → numTo l k < 2 ^ d := by
  intro d
  induction d with
  | zero => intro k hk; obtain rfl : k = 32 := by omega
            rw [numTo_32]; decide
  | succ d ih =>
    intro k hk
    have := ih (k + 1) (by omega)
    rw [numTo_step l k (by omega), Nat.pow_succ]
    rcases hb.getD k with e | e <;> rw [e] <;> simp <;> omega

/-! ### The reference's sum -/
def bitsL (bs : List B) : List Int := bs.flatMap fun c => (List.range 8).map fun k => b2i (c.getLsbD k)
theorem bitsL_append (a b : List B) : bitsL (a ++ b) = bitsL a ++ bitsL b := by simp [bitsL]
theorem bitsL_length (bs : List B) : (bitsL bs).length = 8 * bs.length := by
  induction bs with
  | nil => rfl
  | cons c bs ih => rw [show c :: bs = [c] ++ bs from rfl, bitsL_append, List.length_append, ih]; simp [bitsL]; omega
theorem bitsL_getD (bs : List B) : ∀ j, (bitsL bs).getD j 0 = b2i (mbit bs j) := by
  induction bs with
  | nil => intro j; simp [bitsL, mbit, b2i]
  | cons c bs ih =>
    intro j
    rw [show c :: bs = [c] ++ bs from rfl, bitsL_append]
    have hl : (bitsL [c]).length = 8 := by simp [bitsL]
    by_cases h : j < 8
    · rw [getD_app_l _ _ _ (by omega), List.cons_append, List.nil_append, mbit_cons_lt c bs j h]
      simp only [bitsL, List.flatMap_cons, List.flatMap_nil, List.append_nil]
      rw [List.getD_eq_getElem?_getD, List.getElem?_map, List.getElem?_range h]
      rfl
    · rw [getD_app_r _ _ _ (by omega), hl, ih, List.cons_append, List.nil_append]
      congr 1
      rw [← mbit_cons_add c bs (j - 8), show 8 + (j - 8) = j from by omega]
theorem bin_b2i (b : Bool) : b2i b = 0 ∨ b2i b = 1 := by cases b <;> simp [b2i]
theorem bitsL_bin (bs : List B) : Bin (bitsL bs) := by
  intro x hx
  simp only [bitsL, List.mem_flatMap, List.mem_map] at hx
  obtain ⟨c, _, k, _, rfl⟩ := hx
  exact bin_b2i _
/-- The first k of the first 32 coefficients turned. -/
def turnTo (l : List Int) : Nat → List Int
  | 0 => l
  | k + 1 => (turnTo l k).set k (1 - (turnTo l k).getD k 0)
theorem turnTo_length (l : List Int) (k : Nat) : (turnTo l k).length = l.length := by
  induction k with
  | zero => rfl
  | succ k ih => rw [turnTo, List.length_set, ih]
theorem turnTo_getD (l : List Int) : ∀ k, k ≤ l.length → ∀ j, (turnTo l k).getD j 0 = if j < k then 1 - l.getD j 0 else l.getD j 0 := by
  intro k
  induction k with
  | zero => intro _ j; simp [turnTo]
  | succ k ih =>
    intro hk j
    rw [turnTo, getD_set _ _ _ _ (by rw [turnTo_length]; omega), ih (by omega), ih (by omega)]
    by_cases h : j = k
    · subst h; simp
    · rw [if_neg h]
      by_cases h2 : j < k
      · rw [if_pos h2, if_pos (by omega)]
      · rw [if_neg h2, if_neg (by omega)]
theorem turnTo_bin (l : List Int) (h : Bin l) (k : Nat) : Bin (turnTo l k) := by
  induction k with
  | zero => exact h
  | succ k ih =>
    refine ih.set _ _ ?_
    rcases ih.getD k with e | e <;> rw [e] <;> simp
theorem bin_append {a b : List Int} (ha : Bin a) (hb : Bin b) : Bin (a ++ b) := by
  intro x hx
  rcases List.mem_append.1 hx with h | h
  · exact ha x h
  · exact hb x h
theorem bin_noughts (n : Nat) : Bin (List.replicate n 0) := by
  intro x hx
  exact .inl (List.eq_of_mem_replicate hx)
def refL (bs : List B) : List Int := turnTo (bitsL bs ++ List.replicate 32 0) 32
theorem refL_length (bs : List B) : (refL bs).length = 8 * bs.length + 32 := by
  rw [refL, turnTo_length, List.length_append, bitsL_length, List.length_replicate]
theorem refL_bin (bs : List B) : Bin (refL bs) := turnTo_bin _ (bin_append (bitsL_bin bs) (bin_noughts 32)) 32
theorem refL_run (bs : List B) : ∀ k, k < 32 → (leftL (refL bs)).getD k 0 = b2i ((more (~~~ 0#32) bs).getLsbD k) := by
  intro k hk
  have h0 : ∀ j, j < (refL bs).length → (refL bs).getD j 0 = b2i ((~~~ (0#32 : R)).getLsbD j ^^ mbit bs j) := by
    intro j hj
    rw [refL_length] at hj
    rw [refL, turnTo_getD _ _ (by simp)]
    have hb : (bitsL bs ++ List.replicate 32 0).getD j 0 = b2i (mbit bs j) := by
      by_cases h : j < 8 * bs.length
      · rw [getD_app_l _ _ _ (by rw [bitsL_length]; exact h), bitsL_getD]
      · rw [getD_app_r _ _ _ (by rw [bitsL_length]; omega), mbit_out bs j (by omega), List.getD_eq_getElem?_getD, bitsL_length, List.getElem?_replicate]
        split <;> rfl
    rw [hb]
    by_cases h : j < 32
    · rw [if_pos h]
      have ones : ∀ j : Fin 32, (~~~ (0#32 : R)).getLsbD j.val = true := by decide
      have : (~~~ (0#32 : R)).getLsbD j = true := ones ⟨j, h⟩
      rw [this]
      cases mbit bs j <;> rfl
    · rw [if_neg h]
      have : (~~~ (0#32 : R)).getLsbD j = false := BitVec.getLsbD_of_ge _ _ (by omega)
      rw [this]
      cases mbit bs j <;> rfl
  have := leftTo_run (refL bs) (mbit bs) (~~~ 0#32) h0 (8 * bs.length) (by rw [refL_length]; omega) (8 * bs.length + k) (by omega) (by rw [refL_length]; omega)
  rw [leftL, refL_length, show 8 * bs.length + 32 - 32 = 8 * bs.length from by omega, List.getD_eq_getElem?_getD, List.getElem?_drop, ← List.getD_eq_getElem?_getD, this,
    show 8 * bs.length + k - 8 * bs.length = k from by omega, mbit_out bs _ (by omega), Bool.xor_false, more_bits]
theorem ref_sum (bs : List B) : numTo (leftL (refL bs)) 0 = (more (~~~ 0#32) bs).toNat := numTo_all _ _ (refL_run bs)
/-- A number n bytes of noughts further. -/
def overL (a : R) (n : Nat) : List Int := (List.range 32).map (fun k => b2i (a.getLsbD k)) ++ List.replicate (8 * n) 0
theorem overL_length (a : R) (n : Nat) : (overL a n).length = 32 + 8 * n := by simp [overL]
theorem overL_bin (a : R) (n : Nat) : Bin (overL a n) := bin_append (fun x hx => by
  simp only [List.mem_map] at hx
  obtain ⟨k, _, rfl⟩ := hx
  exact bin_b2i _) (bin_noughts _)
theorem overL_run (a : R) (n : Nat) : ∀ k, k < 32 → (leftL (overL a n)).getD k 0 = b2i ((upN (8 * n) a).getLsbD k) := by
  intro k hk
  have h0 : ∀ j, j < (overL a n).length → (overL a n).getD j 0 = b2i (a.getLsbD j ^^ false) := by
    intro j hj
    rw [Bool.xor_false, overL]
    by_cases h : j < 32
    · rw [getD_app_l _ _ _ (by simpa using h), List.getD_eq_getElem?_getD, List.getElem?_map, List.getElem?_range h]; rfl
    · rw [getD_app_r _ _ _ (by simpa using h), BitVec.getLsbD_of_ge _ _ (by omega), List.getD_eq_getElem?_getD, List.getElem?_replicate]
      split <;> rfl
  have := leftTo_run (overL a n) (fun _ => false) a h0 (8 * n) (by rw [overL_length]; omega) (8 * n + k) (by omega) (by rw [overL_length]; omega)
  rw [leftL, overL_length, show 32 + 8 * n - 32 = 8 * n from by omega, List.getD_eq_getElem?_getD, List.getElem?_drop, ← List.getD_eq_getElem?_getD, this,
    show 8 * n + k - 8 * n = k from by omega, Bool.xor_false, runF_false]
theorem ref_over (a : R) (n : Nat) : numTo (leftL (overL a n)) 0 = (upN (8 * n) a).toNat := numTo_all _ _ (overL_run a n)
end Go.Proofs.YtfbepdlahaefgaaDoor.Crc
