/- Plain mathematics of chapter 12: what is written is read again; one form of each thing; cut off, bytes lack. No program. -/
import Derived.Test.YtajnhmkkgngbhaaPackM4
namespace Go.Proofs.Ytajnhmkkgngbhaa.Pack

theorem pow7 (i : Nat) : 2 ^ (7 * (i + 1)) = 128 * 2 ^ (7 * i) := by rw [show 7 * (i + 1) = 7 * i + 7 by omega, Nat.pow_add]; omega
theorem byteNat (c : B) (n : Nat) (h : n = c.toNat) : BitVec.ofNat 8 n = c := by rw [h]; simp
/-- One form of a count. -/
theorem cntTo_one : ∀ (k i n : Nat) (bs : List B) (m : Nat) (r : List B), k + 1 + i = 10 → cntTo (k + 1) i n bs = .yes m r → ∃ d, m = n + d * 2 ^ (7 * i) ∧ formTo k d ++ r = bs ∧ (0 < i → 0 < d) := by
  intro k
  induction k with
  | zero =>
    intro i n bs m r hk h
    cases bs with
    | nil => cases h
    | cons c bs =>
      rw [cntTo_cons] at h
      obtain rfl : i = 9 := by omega
      by_cases h9 : 1 < c.toNat
      · rw [if_pos ⟨rfl, h9⟩] at h; cases h
      · rw [if_neg (by omega), if_pos (by omega)] at h
        by_cases h0 : c.toNat = 0
        · rw [if_pos ⟨h0, by omega⟩] at h; cases h
        · rw [if_neg (by omega)] at h
          injection h with h1 h2
          subst h1 h2
          refine ⟨c.toNat, by rw [Nat.mod_eq_of_lt (by omega)], ?_, fun _ => by omega⟩
          rw [formTo_last 0 _ (by omega), byteNat c _ rfl]; rfl
  | succ k ih =>
    intro i n bs m r hk h
    cases bs with
    | nil => cases h
    | cons c bs =>
      rw [cntTo_cons, if_neg (by omega)] at h
      have hc := c.isLt
      by_cases h128 : c.toNat < 128
      · rw [if_pos h128] at h
        by_cases h0 : c.toNat = 0 ∧ 0 < i
        · rw [if_pos h0] at h; cases h
        · rw [if_neg h0] at h
          injection h with h1 h2
          subst h1 h2
          refine ⟨c.toNat, by rw [Nat.mod_eq_of_lt (by omega)], ?_, fun _ => by omega⟩
          rw [formTo_last _ _ (by omega), byteNat c _ rfl]; rfl
      · rw [if_neg h128] at h
        obtain ⟨d, hm, hf, hd⟩ := ih (i + 1) _ bs m r (by omega) h
        have hd0 := hd (by omega)
        refine ⟨c.toNat % 128 + 128 * d, ?_, ?_, fun _ => by omega⟩
        · rw [hm, pow7, Nat.add_mul, Nat.add_assoc, ← Nat.mul_assoc, Nat.mul_comm d 128]
        · rw [formTo_step _ _ (by omega), show (c.toNat % 128 + 128 * d) / 128 = d by omega, byteNat c _ (by omega), List.cons_append, hf]
theorem cnt_one {bs : List B} {n : Nat} {r : List B} (h : cnt bs = .yes n r) : form n ++ r = bs := by
  obtain ⟨d, h1, h2, _⟩ := cntTo_one 9 0 0 bs n r rfl h
  have : n = d := by rw [h1]; simp
  rw [this]; exact h2
/-- A count is read again. -/
theorem cntTo_back : ∀ (k i n d : Nat) (r : List B), k + 1 + i = 10 → d < 2 ^ (7 * k + 1) → (0 < i → 0 < d) → cntTo (k + 1) i n (formTo k d ++ r) = .yes (n + d * 2 ^ (7 * i)) r := by
  intro k
  induction k with
  | zero =>
    intro i n d r hk hd h0
    have hd2 : d < 2 := hd
    rw [formTo_last 0 _ (by omega)]
    show cntTo 1 i n (BitVec.ofNat 8 d :: r) = _
    have e : (BitVec.ofNat 8 d).toNat = d := by rw [BitVec.toNat_ofNat, Nat.mod_eq_of_lt (by omega)]
    have := h0 (by omega)
    rw [cntTo_cons, e, if_neg (by omega), if_pos (by omega), if_neg (by omega), Nat.mod_eq_of_lt (by omega)]
  | succ k ih =>
    intro i n d r hk hd h0
    by_cases h : d ≤ 127
    · rw [formTo_last _ _ h]
      show cntTo (k + 2) i n (BitVec.ofNat 8 d :: r) = _
      have e : (BitVec.ofNat 8 d).toNat = d := by rw [BitVec.toNat_ofNat, Nat.mod_eq_of_lt (by omega)]
      rw [cntTo_cons, e, if_neg (by omega), if_pos (by omega), if_neg (by omega), Nat.mod_eq_of_lt (by omega)]
    · rw [formTo_step _ _ h, List.cons_append]
      have e : (BitVec.ofNat 8 (d % 128 + 128)).toNat = d % 128 + 128 := by rw [BitVec.toNat_ofNat, Nat.mod_eq_of_lt (by omega)]
      have hp : 2 ^ (7 * (k + 1) + 1) = 128 * 2 ^ (7 * k + 1) := by rw [show 7 * (k + 1) + 1 = 7 * k + 1 + 7 by omega, Nat.pow_add]; omega
      rw [cntTo_cons, e, if_neg (by omega), if_neg (by omega), ih (i + 1) _ (d / 128) r (by omega) (by omega) (fun _ => by omega), pow7]
      congr 1
      rw [show (d % 128 + 128) % 128 = d % 128 by omega, Nat.add_assoc, ← Nat.mul_assoc, ← Nat.add_mul, show d % 128 + d / 128 * 128 = d by omega]
theorem cnt_back (n : Nat) (r : List B) (h : n < 18446744073709551616) : cnt (form n ++ r) = .yes n r := by
  have := cntTo_back 9 0 0 n r rfl h (by omega)
  simpa [cnt, form] using this
/-- Cut off, bytes lack. -/
theorem cntTo_cut : ∀ (k i n d c : Nat), k + 1 + i = 10 → c < (formTo k d).length → cntTo (k + 1) i n ((formTo k d).take c) = .no 120 := by
  intro k
  induction k with
  | zero =>
    intro i n d c hk hc
    obtain rfl : c = 0 := by have := (formTo_length 0 d).2; omega
    rfl
  | succ k ih =>
    intro i n d c hk hc
    cases c with
    | zero => rfl
    | succ c =>
      by_cases h : d ≤ 127
      · rw [formTo_last _ _ h] at hc; simp at hc
      · rw [formTo_step _ _ h] at hc ⊢
        rw [List.length_cons] at hc
        rw [List.take_succ_cons]
        have e : (BitVec.ofNat 8 (d % 128 + 128)).toNat = d % 128 + 128 := by rw [BitVec.toNat_ofNat, Nat.mod_eq_of_lt (by omega)]
        rw [cntTo_cons, e, if_neg (by omega), if_neg (by omega)]
        exact ih (i + 1) _ (d / 128) c (by omega) (by omega)
theorem cnt_cut (n c : Nat) (h : c < (form n).length) : cnt ((form n).take c) = .no 120 := cntTo_cut 9 0 0 n c rfl h
theorem zig_unzig (n : Nat) : zig (unzig n) = n := by
  unfold zig unzig
  split <;> split <;> omega
theorem unzig_zig (x : Int) : unzig (zig x) = x := by
  unfold zig unzig
  split <;> split <;> omega
theorem unzig_range {n : Nat} (h : n < 18446744073709551616) : -9223372036854775808 ≤ unzig n ∧ unzig n ≤ 9223372036854775807 := by
  unfold unzig; split <;> omega
theorem leB_le : ∀ (k : Nat) (bs : List B), bs.length = k → leB k (le bs) = bs := by
  intro k
  induction k with
  | zero => intro bs h; rw [List.length_eq_zero_iff.1 h]; rfl
  | succ k ih =>
    intro bs h
    obtain ⟨cs, c, rfl⟩ : ∃ cs c, bs = cs ++ [c] := ⟨bs.dropLast, bs.getLast (by intro e; rw [e] at h; simp at h), (List.dropLast_concat_getLast _).symm⟩
    have hk : cs.length = k := by simpa using h
    have hlt := le_lt cs
    rw [hk] at hlt
    have h256 : (256 : Nat) ^ k = 2 ^ (8 * k) := by rw [Nat.pow_mul]
    rw [leB_succ, le_snoc, hk]
    congr 1
    · have e : ∀ i, i < k → BitVec.ofNat 8 ((le cs + c.toNat * 256 ^ k) / 2 ^ (8 * i)) = BitVec.ofNat 8 (le cs / 2 ^ (8 * i)) := by
        intro i hi
        apply BitVec.eq_of_toNat_eq
        rw [BitVec.toNat_ofNat, BitVec.toNat_ofNat, h256, show 8 * k = 8 * i + (8 * (k - i - 1) + 8) by omega, Nat.pow_add, ← Nat.mul_assoc, Nat.mul_comm c.toNat, Nat.mul_assoc, Nat.add_mul_div_left _ _ (Nat.two_pow_pos _), Nat.pow_add, ← Nat.mul_assoc, Nat.add_mul_mod_self_right]
      exact (List.map_congr_left (l := List.range k) fun i hi => e i (List.mem_range.1 hi)).trans (ih cs hk)
    · rw [← h256, Nat.add_mul_div_right _ _ (by rw [h256]; exact Nat.two_pow_pos _), Nat.div_eq_of_lt hlt, Nat.zero_add]
      simp
theorem le_leB : ∀ (k u : Nat), le (leB k u) = u % 2 ^ (8 * k) := by
  intro k
  induction k with
  | zero => intro u; simp [leB, le]; omega
  | succ k ih =>
    intro u
    have h256 : (256 : Nat) ^ k = 2 ^ (8 * k) := by rw [Nat.pow_mul]
    rw [leB_succ, le_snoc, ih, leB_length, h256, BitVec.toNat_ofNat, show 8 * (k + 1) = 8 * k + 8 by omega, Nat.pow_add, Nat.mod_mul, Nat.mul_comm (2 ^ (8 * k))]
theorem un_signed (n : Nat) (h : n < 18446744073709551616) : un (signed64 n) = n := by
  unfold un signed64; split <;> omega
theorem signed_un (x : Int) (h : -9223372036854775808 ≤ x ∧ x ≤ 9223372036854775807) : signed64 (un x) = x := by
  unfold un signed64; split <;> omega
theorem signed_range {n : Nat} (h : n < 18446744073709551616) : -9223372036854775808 ≤ signed64 n ∧ signed64 n ≤ 9223372036854775807 := by
  unfold signed64; split <;> omega
theorem eight_le {bs : List B} (h : bs.length = 8) : eight (signed64 (le bs)) = bs := by
  have hl := le_lt bs
  rw [h] at hl
  unfold eight
  rw [un_signed _ (by omega), leB_le 8 bs h]
theorem le_eight (x : Int) (h : -9223372036854775808 ≤ x ∧ x ≤ 9223372036854775807) : signed64 (le (eight x)) = x := by
  unfold eight
  rw [le_leB, Nat.mod_eq_of_lt (by unfold un; omega), signed_un x h]
theorem eight_length (x : Int) : (eight x).length = 8 := leB_length _ _
/-- One form. -/
def OneForm {α : Type} (read : List B → Got α) (f : α → List B) (ok : α → Prop) : Prop := ∀ bs a r, read bs = .yes a r → f a ++ r = bs ∧ ok a
def Back {α : Type} (read : List B → Got α) (f : α → List B) (ok : α → Prop) : Prop := ∀ a r, ok a → read (f a ++ r) = .yes a r
def Cut {α : Type} (read : List B → Got α) (f : α → List B) (ok : α → Prop) : Prop := ∀ a c, ok a → c < (f a).length → read ((f a).take c) = .no 120
def okN (n : Nat) : Prop := n < 18446744073709551616
def okI (x : Int) : Prop := -9223372036854775808 ≤ x ∧ x ≤ 9223372036854775807
theorem cnt_form : OneForm cnt form okN := fun _ _ _ h => ⟨cnt_one h, (cnt_lt h).1⟩
theorem cnt_Back : Back cnt form okN := fun a r h => cnt_back a r h
theorem cnt_Cut : Cut cnt form okN := fun a c _ h => cnt_cut a c h
theorem whole_form : OneForm whole formI okI := by
  intro bs a r h
  unfold whole at h
  cases hg : cnt bs with
  | no e => rw [hg] at h; cases h
  | yes n r1 =>
    rw [hg] at h
    injection h with h1 h2
    subst h1 h2
    unfold formI
    rw [zig_unzig]
    exact ⟨cnt_one hg, unzig_range (cnt_lt hg).1⟩
theorem whole_Back : Back whole formI okI := by
  intro a r h
  unfold whole formI
  rw [cnt_back _ _ (zig_lt a h.1 h.2)]
  show Got.yes (unzig (zig a)) r = _
  rw [unzig_zig]
theorem whole_Cut : Cut whole formI okI := by
  intro a c _ h
  unfold whole
  unfold formI at h ⊢
  rw [cnt_cut _ _ h]
  rfl
theorem fixed_form : OneForm fixed eight okI := by
  intro bs a r h
  unfold fixed at h
  by_cases hl : bs.length < 8
  · rw [if_pos hl] at h; cases h
  · rw [if_neg hl] at h
    injection h with h1 h2
    subst h1 h2
    have h8 : (bs.take 8).length = 8 := by rw [List.length_take]; omega
    have hlt := le_lt (bs.take 8)
    rw [h8] at hlt
    exact ⟨by rw [eight_le h8, List.take_append_drop], signed_range (by omega)⟩
theorem fixed_Back : Back fixed eight okI := by
  intro a r h
  unfold fixed
  rw [if_neg (by rw [List.length_append, eight_length]; omega), List.take_left' (eight_length a), List.drop_left' (eight_length a), le_eight a h]
theorem fixed_Cut : Cut fixed eight okI := by
  intro a c _ h
  unfold fixed
  rw [eight_length] at h
  rw [if_pos (by rw [List.length_take, eight_length]; omega)]
theorem size_form {each : Nat} {bs : List B} {n : Nat} {r : List B} (h : sizeOf_ each bs = .yes n r) : form n ++ r = bs ∧ ¬ r.length / each < n := by
  unfold sizeOf_ at h
  cases hg : cnt bs with
  | no e => rw [hg] at h; cases h
  | yes m r1 =>
    rw [hg] at h
    have h' : (if r1.length / each < m then Got.no 120 else Got.yes m r1) = .yes n r := h
    by_cases hl : r1.length / each < m
    · rw [if_pos hl] at h'; cases h'
    · rw [if_neg hl] at h'
      injection h' with h1 h2
      subst h1 h2
      exact ⟨cnt_one hg, hl⟩
theorem size_back {each n : Nat} {r : List B} (hn : n < 18446744073709551616) (h : ¬ r.length / each < n) : sizeOf_ each (form n ++ r) = .yes n r := by
  unfold sizeOf_
  rw [cnt_back n r hn]
  show (if r.length / each < n then Got.no 120 else Got.yes n r) = _
  rw [if_neg h]
theorem size_cut {each n c : Nat} {body : List B} (hn : n < 18446744073709551616) (hc : c < (form n ++ body).length) :
    sizeOf_ each ((form n ++ body).take c) = .no 120 ∨ ∃ c', c' < body.length ∧ c = (form n).length + c' ∧ sizeOf_ each ((form n ++ body).take c) = .yes n (body.take c') := by
  by_cases h : c < (form n).length
  · left
    unfold sizeOf_
    rw [List.take_append_of_le_length (by omega), cnt_cut n c h]
    rfl
  · obtain ⟨c', rfl⟩ : ∃ c', c = (form n).length + c' := ⟨c - (form n).length, by omega⟩
    have hc' : c' < body.length := by rw [List.length_append] at hc; omega
    rw [List.take_append, List.take_of_length_le (by omega), show (form n).length + c' - (form n).length = c' by omega]
    unfold sizeOf_
    rw [cnt_back n _ hn]
    by_cases hl : (body.take c').length / each < n
    · left
      show (if (body.take c').length / each < n then Got.no 120 else Got.yes n (body.take c')) = _
      rw [if_pos hl]
    · right
      refine ⟨c', hc', rfl, ?_⟩
      show (if (body.take c').length / each < n then Got.no 120 else Got.yes n (body.take c')) = _
      rw [if_neg hl]
theorem text_form : OneForm text formT fun _ => True := by
  intro bs a r h
  unfold text at h
  cases hg : sizeOf_ 1 bs with
  | no e => rw [hg] at h; cases h
  | yes n r1 =>
    rw [hg] at h
    injection h with h1 h2
    subst h1 h2
    have hs := size_form hg
    have hl : (r1.take n).length = n := by rw [List.length_take]; omega
    unfold formT
    rw [hl, List.append_assoc, List.take_append_drop]
    exact ⟨hs.1, trivial⟩
theorem text_back (b r : List B) (h : b.length < 18446744073709551616) : text (formT b ++ r) = .yes b r := by
  unfold text formT
  rw [List.append_assoc, size_back h (by rw [List.length_append]; omega)]
  show Got.yes ((b ++ r).take b.length) ((b ++ r).drop b.length) = _
  rw [List.take_left' rfl, List.drop_left' rfl]
theorem text_cut (b : List B) (c : Nat) (hb : b.length < 18446744073709551616) (h : c < (formT b).length) : text ((formT b).take c) = .no 120 := by
  unfold text
  unfold formT at h ⊢
  rcases size_cut (each := 1) hb h with he | ⟨c', hc', _, he⟩
  · rw [he]; rfl
  · have := (size_form he).2
    rw [List.length_take] at this
    omega
theorem many_form {one : List B → Got Int} {f : Int → List B} {ok : Int → Prop} (h1 : OneForm one f ok) : ∀ (k : Nat) (acc : List Int) (bs : List B) (xs : List Int) (r : List B), many one k acc bs = .yes xs r → ∃ ys, xs = acc ++ ys ∧ ys.length = k ∧ ys.flatMap f ++ r = bs ∧ ∀ y ∈ ys, ok y := by
  intro k
  induction k with
  | zero => intro acc bs xs r h; injection h with e1 e2; subst e1 e2; exact ⟨[], by simp, rfl, by simp, by simp⟩
  | succ k ih =>
    intro acc bs xs r h
    have h' : (one bs).then (fun x r => many one k (acc ++ [x]) r) = .yes xs r := h
    cases hg : one bs with
    | no e => rw [hg] at h'; cases h'
    | yes x r1 =>
      rw [hg] at h'
      obtain ⟨ys, e1, e2, e3, e4⟩ := ih (acc ++ [x]) r1 xs r h'
      have hx := h1 bs x r1 hg
      refine ⟨x :: ys, by rw [e1]; simp, by simp [e2], by rw [List.flatMap_cons, List.append_assoc, e3, hx.1], ?_⟩
      intro y hy
      rcases List.mem_cons.1 hy with rfl | hy
      · exact hx.2
      · exact e4 y hy
theorem many_back {one : List B → Got Int} {f : Int → List B} {ok : Int → Prop} (hB : Back one f ok) : ∀ (ys acc : List Int) (r : List B), (∀ y ∈ ys, ok y) → many one ys.length acc (ys.flatMap f ++ r) = .yes (acc ++ ys) r
  | [], acc, r, _ => by simp [many]
  | y :: ys, acc, r, h => by
    show (one ((y :: ys).flatMap f ++ r)).then (fun x r => many one ys.length (acc ++ [x]) r) = _
    rw [List.flatMap_cons, List.append_assoc, hB y _ (h y (by simp))]
    show many one ys.length (acc ++ [y]) (ys.flatMap f ++ r) = _
    rw [many_back hB ys (acc ++ [y]) r (fun z hz => h z (by simp [hz]))]
    simp
theorem many_cut {one : List B → Got Int} {f : Int → List B} {ok : Int → Prop} (hB : Back one f ok) (hC : Cut one f ok) : ∀ (ys acc : List Int) (c : Nat), (∀ y ∈ ys, ok y) → c < (ys.flatMap f).length → many one ys.length acc ((ys.flatMap f).take c) = .no 120
  | [], acc, c, _, h => by simp at h
  | y :: ys, acc, c, hy, h => by
    show (one (((y :: ys).flatMap f).take c)).then (fun x r => many one ys.length (acc ++ [x]) r) = _
    rw [List.flatMap_cons] at h ⊢
    by_cases hc : c < (f y).length
    · rw [List.take_append_of_le_length (by omega), hC y c (hy y (by simp)) hc]
      rfl
    · rw [List.take_append, List.take_of_length_le (by omega), hB y _ (hy y (by simp))]
      show many one ys.length (acc ++ [y]) ((ys.flatMap f).take (c - (f y).length)) = _
      exact many_cut hB hC ys (acc ++ [y]) _ (fun z hz => hy z (by simp [hz])) (by rw [List.length_append] at h; omega)
theorem flat_len {f : Int → List B} {each : Nat} (hf : ∀ x, each ≤ (f x).length) : ∀ xs : List Int, each * xs.length ≤ (xs.flatMap f).length
  | [] => by simp
  | x :: xs => by
    have := flat_len hf xs
    have := hf x
    rw [List.flatMap_cons, List.length_append, List.length_cons, Nat.mul_add]
    omega
theorem formI_len (x : Int) : 1 ≤ (formI x).length := (formTo_length _ _).1
section
variable {each : Nat} {one : List B → Got Int} {f : Int → List B}
theorem list_form (h1 : OneForm one f okI) : OneForm (fun bs => (sizeOf_ each bs).then fun n r => many one n [] r) (formL f) fun xs => ∀ x ∈ xs, okI x := by
  intro bs a r h
  have h' : (sizeOf_ each bs).then (fun n r => many one n [] r) = .yes a r := h
  cases hg : sizeOf_ each bs with
  | no e => rw [hg] at h'; cases h'
  | yes n r1 =>
    rw [hg] at h'
    have hs := size_form hg
    obtain ⟨ys, e1, e2, e3, e4⟩ := many_form h1 n [] r1 a r h'
    rw [List.nil_append] at e1
    subst e1
    unfold formL
    rw [e2, List.append_assoc, e3]
    exact ⟨hs.1, e4⟩
theorem list_back (he : 0 < each) (hB : Back one f okI) (hf : ∀ x, each ≤ (f x).length) (xs : List Int) (r : List B) (h : xs.length < 18446744073709551616) (hx : ∀ x ∈ xs, okI x) : ((sizeOf_ each (formL f xs ++ r)).then fun n r => many one n [] r) = .yes xs r := by
  unfold formL
  have hl := flat_len hf xs
  rw [List.append_assoc, size_back h (by
    rw [Nat.not_lt, Nat.le_div_iff_mul_le he, List.length_append, Nat.mul_comm]
    omega)]
  exact many_back hB xs [] r hx
theorem list_cut (hB : Back one f okI) (hC : Cut one f okI) (xs : List Int) (c : Nat) (h : xs.length < 18446744073709551616) (hx : ∀ x ∈ xs, okI x) (hc : c < (formL f xs).length) : ((sizeOf_ each ((formL f xs).take c)).then fun n r => many one n [] r) = .no 120 := by
  unfold formL at hc ⊢
  rcases size_cut (each := each) h hc with hg | ⟨c', hc', _, hg⟩
  · rw [hg]; rfl
  · rw [hg]
    exact many_cut hB hC xs [] c' hx hc'
end
theorem ints_form : OneForm ints (formL formI) fun xs => ∀ x ∈ xs, okI x := list_form whole_form
theorem fixes_form : OneForm fixes (formL eight) fun xs => ∀ x ∈ xs, okI x := list_form fixed_form
theorem ints_back (xs : List Int) (r : List B) (h : xs.length < 18446744073709551616) (hx : ∀ x ∈ xs, okI x) : ints (formL formI xs ++ r) = .yes xs r := list_back (by omega) whole_Back formI_len xs r h hx
theorem fixes_back (xs : List Int) (r : List B) (h : xs.length < 18446744073709551616) (hx : ∀ x ∈ xs, okI x) : fixes (formL eight xs ++ r) = .yes xs r := list_back (by omega) fixed_Back (fun x => Nat.le_of_eq (eight_length x).symm) xs r h hx
theorem ints_cut (xs : List Int) (c : Nat) (h : xs.length < 18446744073709551616) (hx : ∀ x ∈ xs, okI x) (hc : c < (formL formI xs).length) : ints ((formL formI xs).take c) = .no 120 := list_cut whole_Back whole_Cut xs c h hx hc
theorem fixes_cut (xs : List Int) (c : Nat) (h : xs.length < 18446744073709551616) (hx : ∀ x ∈ xs, okI x) (hc : c < (formL eight xs).length) : fixes ((formL eight xs).take c) = .no 120 := list_cut fixed_Back fixed_Cut xs c h hx hc
end Go.Proofs.Ytajnhmkkgngbhaa.Pack
