/- Plain mathematics of frames: four bytes of a number, the frame of a payload, what the first bytes of a text are as a frame. No program. -/
import Derived.Test.YtfbepdlahaefgaaDoorCrcM
namespace Go.Proofs.YtfbepdlahaefgaaDoor.Frm
open Crc (B R sum)
def byteAt (n : R) (i : Nat) : B := (n >>> (8 * i)).setWidth 8
def le4 (n : R) : List B := [byteAt n 0, byteAt n 1, byteAt n 2, byteAt n 3]
theorem le4_length (n : R) : (le4 n).length = 4 := rfl
/-- The number of the first k of four bytes, the lowest first. -/
def numTo (bs : List B) : Nat → R
  | 0 => 0#32
  | k + 1 => numTo bs k ||| ((bs.getD k 0#8).setWidth 32 <<< (8 * k))
def num4 (bs : List B) : R := numTo bs 4
theorem numTo_bits (bs : List B) : ∀ k, k ≤ 4 → ∀ i, i < 32 → (numTo bs k).getLsbD i = (decide (i < 8 * k) && (bs.getD (i / 8) 0#8).getLsbD (i % 8)) := by
  intro k
  induction k with
  | zero => intro _ i _; simp [numTo]
  | succ k ih =>
    intro hk i hi
    rw [numTo, BitVec.getLsbD_or, ih (by omega) i hi, BitVec.getLsbD_shiftLeft, BitVec.getLsbD_setWidth]
    by_cases h1 : i < 8 * k
    · have h2 : i < 8 * (k + 1) := by omega
      simp [h1, h2]
    · by_cases h2 : i < 8 * (k + 1)
      · have e1 : i / 8 = k := by omega
        have e2 : i - 8 * k = i % 8 := by omega
        have h3 : i - 8 * k < 32 := by omega
        simp [h1, h2, hi, e1, e2]
        intro _; omega
      · have : (bs.getD k 0#8).getLsbD (i - 8 * k) = false := BitVec.getLsbD_of_ge _ _ (by omega)
        rw [this]; simp [h1, h2]
theorem num4_le4 (n : R) (rest : List B) : num4 (le4 n ++ rest) = n := by
  apply BitVec.eq_of_getLsbD_eq
  intro i hi
  rw [num4, numTo_bits _ 4 (by omega) i hi]
  have hg : ((le4 n ++ rest).getD (i / 8) 0#8) = byteAt n (i / 8) := by
    have h4 : i / 8 < 4 := by omega
    have : ∀ j, j < 4 → (le4 n ++ rest).getD j 0#8 = byteAt n j := by
      intro j hj
      match j, hj with
      | 0, _ => rfl
      | 1, _ => rfl
      | 2, _ => rfl
      | 3, _ => rfl
    exact this _ h4
  rw [hg, byteAt, BitVec.getLsbD_setWidth, BitVec.getLsbD_ushiftRight]
  have h1 : i < 8 * 4 := by omega
  have h2 : i % 8 < 8 := by omega
  have h3 : 8 * (i / 8) + i % 8 = i := by omega
  simp [h1, h2, h3]
theorem le4_num4 (bs : List B) (h : bs.length = 4) : le4 (num4 bs) = bs := by
  match bs, h with
  | [a, b, c, d], _ =>
    have hb : ∀ k, k < 4 → byteAt (num4 [a, b, c, d]) k = [a, b, c, d].getD k 0#8 := by
      intro k hk
      apply BitVec.eq_of_getLsbD_eq
      intro i hi
      rw [byteAt, BitVec.getLsbD_setWidth, BitVec.getLsbD_ushiftRight, num4, numTo_bits _ 4 (by omega) _ (by omega)]
      have e1 : (8 * k + i) / 8 = k := by omega
      have e2 : (8 * k + i) % 8 = i := by omega
      have e3 : 8 * k + i < 8 * 4 := by omega
      rw [e1, e2, decide_eq_true e3, decide_eq_true hi]; simp
    unfold le4
    rw [hb 0 (by omega), hb 1 (by omega), hb 2 (by omega), hb 3 (by omega)]
    rfl
theorem num4_eq {bs cs : List B} (hb : 4 ≤ bs.length) (hc : 4 ≤ cs.length) : num4 bs = num4 cs ↔ bs.take 4 = cs.take 4 := by
  have key : ∀ bs : List B, 4 ≤ bs.length → num4 bs = num4 (bs.take 4) := by
    intro bs h
    have : ∀ k, k ≤ 4 → numTo bs k = numTo (bs.take 4) k := by
      intro k
      induction k with
      | zero => intro _; rfl
      | succ k ih =>
        intro hk
        rw [numTo, numTo, ih (by omega)]
        have : (bs.take 4).getD k 0#8 = bs.getD k 0#8 := by
          rw [List.getD_eq_getElem?_getD, List.getD_eq_getElem?_getD, List.getElem?_take, if_pos (by omega)]
        rw [this]
    exact this 4 (by omega)
  constructor
  · intro e
    rw [key bs hb, key cs hc] at e
    have := congrArg le4 e
    rwa [le4_num4 _ (by rw [List.length_take]; omega), le4_num4 _ (by rw [List.length_take]; omega)] at this
  · intro e
    rw [key bs hb, key cs hc, e]

/-! ### The frame -/
def head (kind : B) (n : R) : List B := [0x52#8, 0x47#8, 1#8, kind] ++ le4 n
theorem head_length (kind : B) (n : R) : (head kind n).length = 8 := rfl
def body (kind : B) (p : List B) : List B := head kind (BitVec.ofNat 32 p.length) ++ p
def frame (kind : B) (p : List B) : List B := body kind p ++ le4 (sum (body kind p))
theorem body_length (kind : B) (p : List B) : (body kind p).length = 8 + p.length := by rw [body, List.length_append, head_length]
theorem frame_length (kind : B) (p : List B) : (frame kind p).length = 12 + p.length := by rw [frame, List.length_append, body_length, le4_length]; omega

/-- The first fault of the bytes ahead of the length; 0: none. -/
def fixed (b : List B) : Int :=
  if b.length ≤ 0 then 0 else if b.getD 0 0#8 ≠ 0x52#8 then 131
  else if b.length ≤ 1 then 0 else if b.getD 1 0#8 ≠ 0x47#8 then 131
  else if b.length ≤ 2 then 0 else if b.getD 2 0#8 ≠ 1#8 then 132
  else if b.length ≤ 3 then 0 else if b.getD 3 0#8 = 0#8 then 133 else 0
/-- What stands at the beginning of bytes: a kind, a payload, how many bytes, an error's number. -/
structure Got where
  kind : Int
  payload : List B
  n : Nat
  err : Int
def bad (e : Int) : Got := ⟨0, [], 0, e⟩
def size (b : List B) : Nat := (num4 (b.drop 4)).toNat
def opened (b : List B) : Got :=
  if fixed b ≠ 0 then bad (fixed b)
  else if b.length < 8 then bad 130
  else if 65536 < size b then bad 134
  else if b.length < size b + 12 then bad 130
  else if num4 (b.drop (size b + 8)) ≠ sum (b.take (size b + 8)) then bad 135
  else ⟨(b.getD 3 0#8).toNat, (b.drop 8).take (size b), size b + 12, 0⟩
def fault (i : Nat) (c : B) : Int :=
  match i with
  | 0 => if c ≠ 0x52#8 then 131 else 0
  | 1 => if c ≠ 0x47#8 then 131 else 0
  | 2 => if c ≠ 1#8 then 132 else 0
  | 3 => if c = 0#8 then 133 else 0
  | _ => 0
theorem fz0 {c : B} (h : fault 0 c = 0) : ¬ c ≠ 0x52#8 := fun e => by simp only [fault, if_pos e] at h; cases h
theorem fz1 {c : B} (h : fault 1 c = 0) : ¬ c ≠ 0x47#8 := fun e => by simp only [fault, if_pos e] at h; cases h
theorem fz2 {c : B} (h : fault 2 c = 0) : ¬ c ≠ 1#8 := fun e => by simp only [fault, if_pos e] at h; cases h
theorem fz3 {c : B} (h : fault 3 c = 0) : ¬ c = 0#8 := fun e => by simp only [fault, if_pos e] at h; cases h
theorem fixed_fault (b : List B) (k : Nat) (hk : k < b.length) (hk4 : k < 4) (h : ∀ i, i < k → fault i (b.getD i 0#8) = 0) (hf : fault k (b.getD k 0#8) ≠ 0) : fixed b = fault k (b.getD k 0#8) := by
  have n0 : ¬ b.length ≤ 0 := by omega
  unfold fixed
  rw [if_neg n0]
  match k, hk, hk4, h, hf with
  | 0, _, _, _, hf =>
    by_cases e : b.getD 0 0#8 ≠ 0x52#8
    · rw [if_pos e]; simp only [fault, if_pos e]
    · exact absurd (by simp only [fault, if_neg e]) hf
  | 1, hk, _, h, hf =>
    rw [if_neg (fz0 (h 0 (by omega))), if_neg (by omega)]
    by_cases e : b.getD 1 0#8 ≠ 0x47#8
    · rw [if_pos e]; simp only [fault, if_pos e]
    · exact absurd (by simp only [fault, if_neg e]) hf
  | 2, hk, _, h, hf =>
    rw [if_neg (fz0 (h 0 (by omega))), if_neg (by omega), if_neg (fz1 (h 1 (by omega))), if_neg (by omega)]
    by_cases e : b.getD 2 0#8 ≠ 1#8
    · rw [if_pos e]; simp only [fault, if_pos e]
    · exact absurd (by simp only [fault, if_neg e]) hf
  | 3, hk, _, h, hf =>
    rw [if_neg (fz0 (h 0 (by omega))), if_neg (by omega), if_neg (fz1 (h 1 (by omega))), if_neg (by omega), if_neg (fz2 (h 2 (by omega))), if_neg (by omega)]
    rfl
theorem fixed_ok (b : List B) (h : ∀ i, i < min b.length 4 → fault i (b.getD i 0#8) = 0) : fixed b = 0 := by
  unfold fixed
  by_cases n0 : b.length ≤ 0
  · rw [if_pos n0]
  rw [if_neg n0, if_neg (fz0 (h 0 (by omega)))]
  by_cases n1 : b.length ≤ 1
  · rw [if_pos n1]
  rw [if_neg n1, if_neg (fz1 (h 1 (by omega)))]
  by_cases n2 : b.length ≤ 2
  · rw [if_pos n2]
  rw [if_neg n2, if_neg (fz2 (h 2 (by omega)))]
  by_cases n3 : b.length ≤ 3
  · rw [if_pos n3]
  rw [if_neg n3, if_neg (fz3 (h 3 (by omega)))]
theorem fixed_head (kind : B) (n : R) (rest : List B) (hk : kind ≠ 0#8) : fixed (head kind n ++ rest) = 0 := by
  have h : head kind n ++ rest = 0x52#8 :: 0x47#8 :: 1#8 :: kind :: (le4 n ++ rest) := rfl
  rw [h]
  unfold fixed
  simp [hk]
theorem size_head (kind : B) (n : R) (rest : List B) : size (head kind n ++ rest) = n.toNat := by
  have h : (head kind n ++ rest).drop 4 = le4 n ++ rest := rfl
  rw [size, h, num4_le4]
/-- What was sealed is opened, with anything behind it. -/
theorem opened_frame (kind : B) (p rest : List B) (hk : kind ≠ 0#8) (hp : p.length ≤ 65536) : opened (frame kind p ++ rest) = ⟨kind.toNat, p, p.length + 12, 0⟩ := by
  have e0 : frame kind p ++ rest = head kind (BitVec.ofNat 32 p.length) ++ (p ++ (le4 (sum (body kind p)) ++ rest)) := by
    rw [frame, body]; simp only [List.append_assoc]
  have hn : (BitVec.ofNat 32 p.length).toNat = p.length := by rw [BitVec.toNat_ofNat, Nat.mod_eq_of_lt (by omega)]
  have hs : size (frame kind p ++ rest) = p.length := by rw [e0, size_head, hn]
  have hf : fixed (frame kind p ++ rest) = 0 := by rw [e0, fixed_head _ _ _ hk]
  have hl : (frame kind p ++ rest).length = 12 + p.length + rest.length := by rw [List.length_append, frame_length]
  have ht : (frame kind p ++ rest).take (p.length + 8) = body kind p := by
    rw [frame, List.append_assoc, List.take_append_of_le_length (by rw [body_length]; omega), List.take_of_length_le (by rw [body_length]; omega)]
  have hd : (frame kind p ++ rest).drop (p.length + 8) = le4 (sum (body kind p)) ++ rest := by
    rw [frame, List.append_assoc, List.drop_append_of_le_length (by rw [body_length]; omega), List.drop_of_length_le (by rw [body_length]; omega)]; rfl
  have h8 : ((frame kind p ++ rest).drop 8).take p.length = p := by
    rw [e0]
    have : (head kind (BitVec.ofNat 32 p.length) ++ (p ++ (le4 (sum (body kind p)) ++ rest))).drop 8 = p ++ (le4 (sum (body kind p)) ++ rest) := rfl
    rw [this, List.take_append_of_le_length (by omega), List.take_of_length_le (by omega)]
  have h3 : (frame kind p ++ rest).getD 3 0#8 = kind := by rw [e0]; rfl
  unfold opened
  rw [hf, hs, ht, hd, h8, h3, num4_le4, if_neg (by simp), if_neg (by omega), if_neg (by omega), if_neg (by omega), if_neg (by simp)]
/-- Cut off anywhere it is short. -/
theorem opened_cut (kind : B) (p : List B) (hk : kind ≠ 0#8) (hp : p.length ≤ 65536) (k : Nat) (hlt : k < 12 + p.length) : opened ((frame kind p).take k) = bad 130 := by
  have e0 : frame kind p = head kind (BitVec.ofNat 32 p.length) ++ (p ++ le4 (sum (body kind p))) := by
    rw [frame, body]; simp only [List.append_assoc]
  have hl : ((frame kind p).take k).length = k := by rw [List.length_take, frame_length]; omega
  have hn : (BitVec.ofNat 32 p.length).toNat = p.length := by rw [BitVec.toNat_ofNat, Nat.mod_eq_of_lt (by omega)]
  have hg : ∀ i, i < k → ((frame kind p).take k).getD i 0#8 = (frame kind p).getD i 0#8 := by
    intro i hi
    rw [List.getD_eq_getElem?_getD, List.getD_eq_getElem?_getD, List.getElem?_take, if_pos hi]
  have g0 : (frame kind p).getD 0 0#8 = 0x52#8 := by rw [e0]; rfl
  have g1 : (frame kind p).getD 1 0#8 = 0x47#8 := by rw [e0]; rfl
  have g2 : (frame kind p).getD 2 0#8 = 1#8 := by rw [e0]; rfl
  have g3 : (frame kind p).getD 3 0#8 = kind := by rw [e0]; rfl
  have hf : fixed ((frame kind p).take k) = 0 := by
    unfold fixed
    rw [hl]
    by_cases k0 : k ≤ 0
    · rw [if_pos k0]
    rw [if_neg k0, hg 0 (by omega), g0, if_neg (by simp)]
    by_cases k1 : k ≤ 1
    · rw [if_pos k1]
    rw [if_neg k1, hg 1 (by omega), g1, if_neg (by simp)]
    by_cases k2 : k ≤ 2
    · rw [if_pos k2]
    rw [if_neg k2, hg 2 (by omega), g2, if_neg (by simp)]
    by_cases k3 : k ≤ 3
    · rw [if_pos k3]
    rw [if_neg k3, hg 3 (by omega), g3, if_neg hk]
  unfold opened
  rw [hf, hl, if_neg (by simp)]
  by_cases h8 : k < 8
  · rw [if_pos h8]
  · have hs : size ((frame kind p).take k) = p.length := by
      have : (frame kind p).take k = head kind (BitVec.ofNat 32 p.length) ++ (p ++ le4 (sum (body kind p))).take (k - 8) := by
        rw [e0, List.take_append, head_length, List.take_of_length_le (by rw [head_length]; omega)]
      rw [this, size_head, hn]
    rw [if_neg h8, hs, if_neg (by omega), if_pos (by omega)]
end Go.Proofs.YtfbepdlahaefgaaDoor.Frm
