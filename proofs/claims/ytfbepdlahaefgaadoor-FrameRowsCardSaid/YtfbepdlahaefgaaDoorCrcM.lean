/- Plain mathematics of the 32-bit sum: the register's step is linear and injective; the table of half bytes, the division of a polynomial, the product of polynomials all come to this step. No program. -/
namespace Go.Proofs.YtfbepdlahaefgaaDoor.Crc
abbrev R := BitVec 32
abbrev B := BitVec 8
def poly : R := 0xEDB88320#32
def up (r : R) : R := (r >>> 1) ^^^ (if r.getLsbD 0 then poly else 0#32)
def upN : Nat → R → R
  | 0, r => r
  | n + 1, r => upN n (up r)
def bitR (b : Bool) : R := if b then 1#32 else 0#32

theorem up_even {r : R} (h : r.getLsbD 0 = false) : up r = r >>> 1 := by
  unfold up; rw [h]; simp
theorem up_xor (a b : R) : up (a ^^^ b) = up a ^^^ up b := by
  unfold up
  rw [BitVec.getLsbD_xor]
  cases a.getLsbD 0 <;> cases b.getLsbD 0 <;> simp <;> ext i <;> simp <;> (try cases a[1 + i] <;> simp) <;> (try (cases h : (b >>> 1)[i] <;> simp)) <;> (try grind)
theorem up_zero : up 0#32 = 0#32 := by decide
theorem upN_zero (n : Nat) : upN n 0#32 = 0#32 := by
  induction n with
  | zero => rfl
  | succ n ih => rw [upN, up_zero, ih]
theorem upN_xor (n : Nat) (a b : R) : upN n (a ^^^ b) = upN n a ^^^ upN n b := by
  induction n generalizing a b with
  | zero => rfl
  | succ n ih => rw [upN, upN, upN, up_xor, ih]
theorem upN_up (n : Nat) (r : R) : upN n (up r) = up (upN n r) := by
  induction n generalizing r with
  | zero => rfl
  | succ n ih => rw [upN, upN, ih]
theorem upN_succ (n : Nat) (r : R) : upN (n + 1) r = up (upN n r) := by rw [upN, upN_up]
theorem upN_add (m n : Nat) (r : R) : upN (m + n) r = upN m (upN n r) := by
  induction m with
  | zero => simp [upN]
  | succ m ih => rw [show m + 1 + n = (m + n) + 1 from by omega, upN_succ, upN_succ, ih]

/-- The step loses nothing. -/
theorem up_inj0 {r : R} (h : up r = 0#32) : r = 0#32 := by
  have h31 : (up r).getLsbD 31 = false := by rw [h]; decide
  have hl : r.getLsbD 0 = false := by
    unfold up at h31
    rw [BitVec.getLsbD_xor] at h31
    cases hr : r.getLsbD 0 with
    | false => rfl
    | true =>
      rw [hr] at h31
      simp [poly] at h31
  rw [up_even hl] at h
  apply BitVec.eq_of_getLsbD_eq
  intro i hi
  cases i with
  | zero => rw [hl]; simp
  | succ i =>
    have := congrArg (fun x => x.getLsbD i) h
    simp only [BitVec.getLsbD_ushiftRight] at this
    rw [Nat.add_comm] at this
    rw [this]; simp
theorem upN_inj0 {n : Nat} {r : R} (h : upN n r = 0#32) : r = 0#32 := by
  induction n with
  | zero => exact h
  | succ n ih => rw [upN_succ] at h; exact ih (up_inj0 h)

/-! ### The table of half bytes -/
def shortT : Nat → R
  | 0 => 0x00000000 | 1 => 0x1db71064 | 2 => 0x3b6e20c8 | 3 => 0x26d930ac | 4 => 0x76dc4190 | 5 => 0x6b6b51f4 | 6 => 0x4db26158 | 7 => 0x5005713c
  | 8 => 0xedb88320 | 9 => 0xf00f9344 | 10 => 0xd6d6a3e8 | 11 => 0xcb61b38c | 12 => 0x9b64c2b0 | 13 => 0x86d3d2d4 | 14 => 0xa00ae278 | 15 => 0xbdbdf21c
  | _ => 0
def nib (a : R) : Nat := a.toNat % 16
theorem nib_lt (a : R) : nib a < 16 := Nat.mod_lt _ (by omega)
theorem short_up4 : ∀ k : Fin 16, shortT k.val = upN 4 (BitVec.ofNat 32 k.val) := by decide
theorem and15 (x : R) : x &&& 15#32 = BitVec.ofNat 32 (nib x) := by
  apply BitVec.eq_of_toNat_eq
  have := nib_lt x
  have e : (BitVec.ofNat 32 (nib x)).toNat = nib x := by rw [BitVec.toNat_ofNat, Nat.mod_eq_of_lt (by omega)]
  rw [BitVec.toNat_and, e]
  show x.toNat &&& (2 ^ 4 - 1) = _
  rw [Nat.and_two_pow_sub_one_eq_mod]
  rfl
theorem split15 (x : R) : x = (x &&& 0xFFFFFFF0#32) ^^^ (x &&& 15#32) := by
  apply BitVec.eq_of_getLsbD_eq
  intro i hi
  rw [BitVec.getLsbD_xor, BitVec.getLsbD_and, BitVec.getLsbD_and]
  have : ∀ i : Fin 32, (15#32).getLsbD i.val = !(0xFFFFFFF0#32).getLsbD i.val := by decide
  rw [this ⟨i, hi⟩]
  cases x.getLsbD i <;> cases (0xFFFFFFF0#32).getLsbD i <;> rfl
theorem up4_high (x : R) : upN 4 (x &&& 0xFFFFFFF0#32) = x >>> 4 := by
  simp only [upN]
  rw [up_even (r := x &&& 0xFFFFFFF0#32) (by simp)]
  rw [up_even (r := (x &&& 0xFFFFFFF0#32) >>> 1) (by simp)]
  rw [up_even (r := (x &&& 0xFFFFFFF0#32) >>> 1 >>> 1) (by simp)]
  rw [up_even (r := (x &&& 0xFFFFFFF0#32) >>> 1 >>> 1 >>> 1) (by simp)]
  apply BitVec.eq_of_getLsbD_eq
  intro i hi
  simp only [BitVec.getLsbD_ushiftRight, BitVec.getLsbD_and]
  have : ∀ i : Fin 28, (0xFFFFFFF0#32).getLsbD (1 + (1 + (1 + (1 + i.val)))) = true := by decide
  by_cases h : i < 28
  · rw [this ⟨i, h⟩, Bool.and_true]
    congr 1
    omega
  · have e1 : x.getLsbD (1 + (1 + (1 + (1 + i)))) = false := BitVec.getLsbD_of_ge _ _ (by omega)
    have e2 : x.getLsbD (4 + i) = false := BitVec.getLsbD_of_ge _ _ (by omega)
    rw [e1, e2]; rfl
theorem half (x : R) : shortT (nib x) ^^^ (x >>> 4) = upN 4 x := by
  have h1 : upN 4 x = upN 4 (x &&& 0xFFFFFFF0#32) ^^^ upN 4 (x &&& 15#32) := by rw [← upN_xor, ← split15]
  rw [h1, up4_high, and15, ← short_up4 ⟨nib x, nib_lt x⟩, BitVec.xor_comm]

/-! ### A register that runs over bits -/
def runF (m : Nat → Bool) : Nat → R → R
  | 0, r => r
  | n + 1, r => up (runF m n r ^^^ bitR (m n))
theorem runF_congr {m m' : Nat → Bool} {n : Nat} (h : ∀ i, i < n → m i = m' i) (r : R) : runF m n r = runF m' n r := by
  induction n with
  | zero => rfl
  | succ n ih => rw [runF, runF, ih (fun i hi => h i (by omega)), h n (by omega)]
theorem bitR_xor (a b : Bool) : bitR (a ^^ b) = bitR a ^^^ bitR b := by cases a <;> cases b <;> decide
theorem runF_xor (m m' : Nat → Bool) (n : Nat) (r r' : R) : runF (fun i => m i ^^ m' i) n (r ^^^ r') = runF m n r ^^^ runF m' n r' := by
  induction n with
  | zero => rfl
  | succ n ih =>
    simp only [runF]
    rw [ih, bitR_xor, ← up_xor]
    congr 1
    simp only [BitVec.xor_assoc]
    congr 1
    rw [← BitVec.xor_assoc, BitVec.xor_comm (runF m' n r'), BitVec.xor_assoc]
theorem runF_add (m : Nat → Bool) (a b : Nat) (r : R) : runF m (a + b) r = runF (fun i => m (a + i)) b (runF m a r) := by
  induction b with
  | zero => rfl
  | succ b ih => rw [← Nat.add_assoc, runF, ih, runF]
theorem runF_false (n : Nat) (r : R) : runF (fun _ => false) n r = upN n r := by
  induction n with
  | zero => rfl
  | succ n ih => rw [runF, ih, upN_succ]; simp [bitR]
/-- What the register begins with goes its own way. -/
theorem runF_split (m : Nat → Bool) (n : Nat) (r d : R) : runF m n (r ^^^ d) = runF m n r ^^^ upN n d := by
  rw [← runF_false n d, ← runF_xor]
  simp
/-- A number's bits laid over the register at once. -/
theorem bitR_lsb (d : R) : d = (d >>> 1 <<< 1) ^^^ bitR (d.getLsbD 0) := by
  apply BitVec.eq_of_getLsbD_eq
  intro i hi
  rw [BitVec.getLsbD_xor, BitVec.getLsbD_shiftLeft, BitVec.getLsbD_ushiftRight]
  cases i with
  | zero => unfold bitR; cases d.getLsbD 0 <;> simp
  | succ i =>
    have : (bitR (d.getLsbD 0)).getLsbD (i + 1) = false := by unfold bitR; cases d.getLsbD 0 <;> simp
    rw [this]
    simp [hi, Nat.add_comm]
theorem up_laid (r d : R) : up (r ^^^ d) = up (r ^^^ bitR (d.getLsbD 0)) ^^^ (d >>> 1) := by
  have e : up (d >>> 1 <<< 1) = d >>> 1 := by
    rw [up_even (by simp)]
    apply BitVec.eq_of_getLsbD_eq
    intro i hi
    simp only [BitVec.getLsbD_ushiftRight, BitVec.getLsbD_shiftLeft]
    by_cases h : 1 + i < 32
    · simp [h]
    · have : d.getLsbD (1 + i) = false := BitVec.getLsbD_of_ge _ _ (by omega)
      simp [h, this]
  conv => lhs; rw [bitR_lsb d]
  rw [BitVec.xor_comm (d >>> 1 <<< 1), ← BitVec.xor_assoc, up_xor _ (d >>> 1 <<< 1), e]
theorem runF_laid (n : Nat) : ∀ (r d : R) (m : Nat → Bool), (∀ i, i < n → m i = d.getLsbD i) → (∀ i, n ≤ i → d.getLsbD i = false) → runF m n r = upN n (r ^^^ d) := by
  induction n with
  | zero =>
    intro r d m _ h2
    have : d = 0#32 := BitVec.eq_of_getLsbD_eq (fun i _ => by rw [h2 i (by omega)]; simp)
    subst this
    simp [runF, upN]
  | succ n ih =>
    intro r d m h1 h2
    rw [show n + 1 = 1 + n from by omega, runF_add]
    rw [ih (runF m 1 r) (d >>> 1) (fun i => m (1 + i)) (fun i hi => by rw [h1 _ (by omega), BitVec.getLsbD_ushiftRight])
      (fun i hi => by rw [BitVec.getLsbD_ushiftRight]; exact h2 _ (by omega))]
    rw [show 1 + n = n + 1 from by omega, upN, up_laid r d]
    simp only [runF]
    rw [h1 0 (by omega)]

/-! ### Bytes -/
def byteStep (r : R) (c : B) : R := upN 8 (r ^^^ c.setWidth 32)
def more (r : R) (bs : List B) : R := bs.foldl byteStep r
theorem more_append (r : R) (a b : List B) : more r (a ++ b) = more (more r a) b := by simp [more]
def mbit (bs : List B) (j : Nat) : Bool := (bs.getD (j / 8) 0#8).getLsbD (j % 8)
theorem mbit_cons_lt (c : B) (bs : List B) (j : Nat) (h : j < 8) : mbit (c :: bs) j = c.getLsbD j := by
  unfold mbit; rw [Nat.div_eq_of_lt h, Nat.mod_eq_of_lt h]; rfl
theorem mbit_cons_add (c : B) (bs : List B) (j : Nat) : mbit (c :: bs) (8 + j) = mbit bs j := by
  unfold mbit
  rw [show (8 + j) / 8 = j / 8 + 1 from by omega, show (8 + j) % 8 = j % 8 from by omega]; rfl
theorem mbit_out (bs : List B) (j : Nat) (h : 8 * bs.length ≤ j) : mbit bs j = false := by
  unfold mbit
  rw [List.getD_eq_getElem?_getD, List.getElem?_eq_none (by omega)]
  simp
theorem more_bits (bs : List B) : ∀ r, more r bs = runF (mbit bs) (8 * bs.length) r := by
  induction bs with
  | nil => intro r; rfl
  | cons c bs ih =>
    intro r
    have e : more r (c :: bs) = more (byteStep r c) bs := rfl
    rw [e, ih, List.length_cons, show 8 * (bs.length + 1) = 8 + 8 * bs.length from by omega, runF_add]
    rw [runF_laid 8 r (c.setWidth 32) (mbit (c :: bs)) (fun i hi => by rw [mbit_cons_lt _ _ _ hi, BitVec.getLsbD_setWidth]; simp; omega)
      (fun i hi => by rw [BitVec.getLsbD_setWidth, BitVec.getLsbD_of_ge c i hi]; simp)]
    exact runF_congr (fun i _ => (mbit_cons_add c bs i).symm) _

/-- The sum gone on with, and the sum of a text. -/
def moreSum (s : R) (bs : List B) : R := ~~~ (more (~~~ s) bs)
def sum (bs : List B) : R := moreSum 0#32 bs
theorem moreSum_append (s : R) (a b : List B) : moreSum s (a ++ b) = moreSum (moreSum s a) b := by
  unfold moreSum; rw [BitVec.not_not, more_append]
theorem moreSum_nil (s : R) : moreSum s [] = s := by simp [moreSum, more]
/-- Two texts' sums, joined. -/
theorem sum_append (a b : List B) : sum (a ++ b) = upN (8 * b.length) (sum a) ^^^ sum b := by
  unfold sum
  rw [moreSum_append]
  generalize moreSum 0#32 a = s
  have e : ~~~ s = ~~~ (0#32 : R) ^^^ s := by
    rw [BitVec.not_eq_comm, BitVec.not_xor_left]; simp
  unfold moreSum
  rw [e, more_bits, more_bits, runF_split]
  generalize runF (mbit b) (8 * b.length) _ = x
  generalize upN _ s = y
  apply BitVec.eq_of_getLsbD_eq; intro i hi
  simp [hi, Bool.xor_comm]
/-- Three texts of one length, laid over one another. -/
theorem sum_laid (a b c d : List B) (hb : b.length = a.length) (hc : c.length = a.length) (hd : d.length = a.length)
    (h : ∀ i, i < a.length → d.getD i 0#8 = a.getD i 0#8 ^^^ b.getD i 0#8 ^^^ c.getD i 0#8) : sum d = sum a ^^^ sum b ^^^ sum c := by
  unfold sum moreSum
  rw [more_bits, more_bits, more_bits, more_bits, hb, hc, hd]
  have e : ~~~ (0#32 : R) = ~~~ (0#32 : R) ^^^ ~~~ (0#32 : R) ^^^ ~~~ (0#32 : R) := by decide
  have e2 : runF (mbit d) (8 * a.length) (~~~ (0#32 : R)) = runF (mbit a) (8 * a.length) (~~~ 0#32) ^^^ runF (mbit b) (8 * a.length) (~~~ 0#32) ^^^ runF (mbit c) (8 * a.length) (~~~ 0#32) := by
    rw [← runF_xor, ← runF_xor, ← e]
    refine runF_congr (fun i hi => ?_) _
    unfold mbit
    rw [h _ (by omega)]
    simp
  rw [e2]
  generalize runF (mbit a) (8 * a.length) _ = x
  generalize runF (mbit b) (8 * a.length) _ = y
  generalize runF (mbit c) (8 * a.length) _ = z
  apply BitVec.eq_of_getLsbD_eq; intro i hi
  simp [hi]
/-- One to thirty-two bits in a row that are turned give another sum. -/
theorem sum_burst (a c : List B) (hl : c.length = a.length) (at_ : Nat) (bits : R) (hb : bits ≠ 0#32)
    (hin : ∀ k, bits.getLsbD k = true → at_ + k < 8 * a.length)
    (h : ∀ j, j < 8 * a.length → mbit c j = (mbit a j ^^ (decide (at_ ≤ j) && bits.getLsbD (j - at_)))) : sum a ≠ sum c := by
  intro he
  have he' : more (~~~ 0#32) a = more (~~~ 0#32) c := by
    unfold sum moreSum at he
    have := congrArg (~~~ ·) he
    simpa using this
  rw [more_bits, more_bits, hl] at he'
  have e1 : runF (mbit c) (8 * a.length) (~~~ 0#32) = runF (mbit a) (8 * a.length) (~~~ 0#32) ^^^ runF (fun j => decide (at_ ≤ j) && bits.getLsbD (j - at_)) (8 * a.length) 0#32 := by
    rw [← runF_xor]
    simp only [BitVec.xor_zero]
    exact runF_congr h _
  rw [e1] at he'
  have z : runF (fun j => decide (at_ ≤ j) && bits.getLsbD (j - at_)) (8 * a.length) 0#32 = 0#32 := by
    have := congrArg (fun x => runF (mbit a) (8 * a.length) (~~~ 0#32) ^^^ x) he'
    simp only [BitVec.xor_self, ← BitVec.xor_assoc, BitVec.zero_xor] at this
    exact this.symm
  -- 32 bits of nought behind it change nothing of that it is nought
  have z2 : runF (fun j => decide (at_ ≤ j) && bits.getLsbD (j - at_)) (8 * a.length + 32) 0#32 = 0#32 := by
    rw [runF_add, z, runF_congr (m' := fun _ => false)]
    · rw [runF_false, upN_zero]
    · intro i _
      cases hbit : bits.getLsbD (8 * a.length + i - at_) with
      | false => simp
      | true =>
        by_cases hat : at_ ≤ 8 * a.length + i
        · have := hin _ hbit; omega
        · simp [hat]
  obtain ⟨k0, hk0⟩ : ∃ k, bits.getLsbD k = true := by
    by_cases h0 : ∃ k, bits.getLsbD k = true
    · exact h0
    · exact absurd (BitVec.eq_of_getLsbD_eq (fun i _ => by
        have : ¬ bits.getLsbD i = true := fun e => h0 ⟨i, e⟩
        simpa using this)) hb
  have hat : at_ ≤ 8 * a.length := by have := hin _ hk0; omega
  obtain ⟨t, ht⟩ : ∃ t, 8 * a.length + 32 = at_ + (32 + t) := ⟨8 * a.length - at_, by omega⟩
  rw [ht, runF_add, runF_congr (m' := fun _ => false) (n := at_) (fun i hi => by simp; intro h; omega), runF_false, upN_zero, runF_add,
    runF_laid 32 0#32 bits _ (fun i _ => by simp) (fun i hi => BitVec.getLsbD_of_ge _ _ hi),
    runF_congr (m' := fun _ => false) (n := t) (fun i hi => by simp), runF_false] at z2
  have := upN_inj0 z2
  rw [BitVec.zero_xor] at this
  exact hb (upN_inj0 this)
end Go.Proofs.YtfbepdlahaefgaaDoor.Crc
