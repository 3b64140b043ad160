/- The document's Open of layer 13, walked: behind the first bytes. -/
import Derived.Test.YtfbepdlahaefgaaDoorRefOpen
import Derived.Test.YtfbepdlahaefgaaDoorOpenR
namespace Go.Proofs.YtfbepdlahaefgaaDoor
open Go.RowKit
open Crc (R sum)
open Frm (le4 byteAt num4 head body frame fault fixed opened bad size fixed_fault fixed_ok)

def dstsIn (ops : Array Oper) (L : List Nat) : Bool := (List.range ops.size).all fun j => match dstOf ops j with | some t => L.contains t | none => true
theorem dstsIn_spec {ops : Array Oper} {L : List Nat} (h : dstsIn ops L = true) {t : Nat} (ht : t ∉ L) : ∀ j, dstOf ops j ≠ some t := by
  intro j hj
  unfold dstsIn at h
  rw [List.all_eq_true] at h
  have := h j (List.mem_range.2 (dst_lt hj))
  rw [hj] at this
  simp at this
  exact ht this
theorem puts_getD (f : Nat → Value) : ∀ (L : List Nat) (a : Act), (L.foldl (fun a t => a.put (some t) (f t)) a).tmps.size = a.tmps.size ∧ (L.foldl (fun a t => a.put (some t) (f t)) a).defers = a.defers ∧
    ∀ i, i < a.tmps.size → (L.foldl (fun a t => a.put (some t) (f t)) a).tmps.getD i undef = if i ∈ L then f i else a.tmps.getD i undef := by
  intro L
  induction L with
  | nil => intro a; exact ⟨rfl, rfl, fun i _ => by simp⟩
  | cons t L ih =>
    intro a
    obtain ⟨h1, h2, h3⟩ := ih (a.put (some t) (f t))
    have hs : (a.put (some t) (f t)).tmps.size = a.tmps.size := by simp [Act.put]
    refine ⟨h1.trans hs, h2, fun i hi => ?_⟩
    rw [List.foldl_cons, h3 i (by rw [hs]; exact hi)]
    by_cases hL : i ∈ L
    · rw [if_pos hL, if_pos (List.mem_cons_of_mem _ hL)]
    · rw [if_neg hL]
      by_cases e : i = t
      · subst e
        rw [if_pos (List.mem_cons_self ..)]
        simp [Act.put, hi]
      · rw [if_neg (by simp [e, hL])]
        simp [Act.put, Array.getD_eq_getD_getElem?, Array.getElem?_setIfInBounds_ne (Ne.symm e)]
/-- What a region leaves: its own slots put into the activation that it began with. -/
theorem act_puts {ops : Array Oper} {ac a0 : Act} (L : List Nat) (hL : dstsIn ops L = true) (hd : ac.defers = a0.defers) (hs : ac.tmps.size = a0.tmps.size)
    (hbase : ∀ t, (∀ j, dstOf ops j ≠ some t) → ac.tmps.getD t undef = a0.tmps.getD t undef) : ac = L.foldl (fun a t => a.put (some t) (ac.tmps.getD t undef)) a0 := by
  obtain ⟨h1, h2, h3⟩ := puts_getD (fun t => ac.tmps.getD t undef) L a0
  generalize hX : L.foldl (fun a t => a.put (some t) (ac.tmps.getD t undef)) a0 = X at h1 h2 h3
  obtain ⟨xt, xd⟩ := X
  obtain ⟨t, d⟩ := ac
  simp only at h1 h2 h3 hd hs hbase
  have e1 : t = xt := by
    apply Array.ext (hs.trans h1.symm)
    intro i i1 i2
    have := h3 i (by omega)
    by_cases hi : i ∈ L
    · rw [if_pos hi] at this
      simpa [Array.getD_eq_getD_getElem?, i1, i2] using this.symm
    · rw [if_neg hi, ← hbase i (dstsIn_spec hL hi)] at this
      simpa [Array.getD_eq_getD_getElem?, i1, i2] using this.symm
  rw [e1, hd, ← h2]
/-- The sum's bytes stand where they should if the number there is the sum. -/
theorem le4_is {bs : List (BitVec 8)} (s : R) (h : 4 ≤ bs.length) : le4 s = bs.take 4 ↔ num4 bs = s := by
  constructor
  · intro e
    have h1 : num4 (le4 s) = s := by have := Frm.num4_le4 s []; rwa [List.append_nil] at this
    rw [← h1]
    rw [Frm.num4_eq h (by rw [Frm.le4_length]; omega), ← e]
    rfl
  · intro e
    subst e
    have h2 : num4 bs = num4 (bs.take 4) := by
      rw [Frm.num4_eq h (by rw [List.length_take]; omega), List.take_take]
      simp
    rw [h2, Frm.le4_num4 _ (by rw [List.length_take]; omega)]
theorem byteAt_num4 (bs : List (BitVec 8)) (k : Nat) (hk : k < 4) : byteAt (num4 bs) k = bs.getD k 0#8 := by
  apply BitVec.eq_of_getLsbD_eq
  intro i hi
  rw [byteAt, BitVec.getLsbD_setWidth, BitVec.getLsbD_ushiftRight, num4, Frm.numTo_bits _ 4 (by omega) _ (by omega)]
  have e1 : (8 * k + i) / 8 = k := by omega
  have e2 : (8 * k + i) % 8 = i := by omega
  have e3 : 8 * k + i < 8 * 4 := by omega
  rw [e1, e2, decide_eq_true e3, decide_eq_true hi]; simp
theorem num4_sum (bs : List (BitVec 8)) : ((num4 bs).toNat : Int) = ((bs.getD 0 0#8).toNat : Int) + 256 * ((bs.getD 1 0#8).toNat : Int) + 65536 * ((bs.getD 2 0#8).toNat : Int) + 16777216 * ((bs.getD 3 0#8).toNat : Int) := by
  rw [← byteAt_num4 bs 0 (by omega), ← byteAt_num4 bs 1 (by omega), ← byteAt_num4 bs 2 (by omega), ← byteAt_num4 bs 3 (by omega)]
  rw [← shr_byte (num4 bs) 0, ← shr_byte (num4 bs) 1, ← shr_byte (num4 bs) 2, ← shr_byte (num4 bs) 3]
  have := (num4 bs).isLt
  rw [show (2 : Int) ^ (8 * 0) = 1 from rfl, show (2 : Int) ^ (8 * 1) = 256 from rfl, show (2 : Int) ^ (8 * 2) = 65536 from rfl, show (2 : Int) ^ (8 * 3) = 16777216 from rfl]
  omega
theorem box_drew (w : World) (o : Obj) (u v : Value) (k : Nat) : Below w.heap.size w ((((w.alloc o).drewN k).setCell ⟨w.heap.size, 0, none⟩ u).setCell ⟨w.heap.size, 1, none⟩ v) :=
  ((below_drewN ((Below.refl _ w).alloc (Nat.le_refl _) o) k).setCell (p := ⟨w.heap.size, 0, none⟩) (Nat.le_refl _) u).setCell (p := ⟨w.heap.size, 1, none⟩) (Nat.le_refl _) v
theorem fixed_zero {bs : List (BitVec 8)} (h : fixed bs = 0) (h4 : 4 ≤ bs.length) : bs.getD 0 0#8 = 82#8 ∧ bs.getD 1 0#8 = 71#8 ∧ bs.getD 2 0#8 = 1#8 ∧ ¬ bs.getD 3 0#8 = 0#8 := by
  unfold fixed at h
  rw [if_neg (by omega)] at h
  by_cases a0 : bs.getD 0 0#8 = 82#8
  · rw [if_neg (fun e => e a0), if_neg (by omega)] at h
    by_cases a1 : bs.getD 1 0#8 = 71#8
    · rw [if_neg (fun e => e a1), if_neg (by omega)] at h
      by_cases a2 : bs.getD 2 0#8 = 1#8
      · rw [if_neg (fun e => e a2), if_neg (by omega)] at h
        by_cases a3 : bs.getD 3 0#8 = 0#8
        · rw [if_pos a3] at h; cases h
        · exact ⟨a0, a1, a2, a3⟩
      · rw [if_pos a2] at h; cases h
    · rw [if_pos a1] at h; cases h
  · rw [if_pos a0] at h; cases h
set_option maxRecDepth 8000 in
set_option maxHeartbeats 8000000 in
theorem refOpen_short (b off n cap : Nat) (bs : List (BitVec 8)) (w : World) (hn : bs.length = n) (hc : n ≤ cap) (hm : cap ≤ 9223372036854775807) (hlt : b < w.heap.size) (hb : BytesAt w b off bs) (_h4 : 4 ≤ n) (hx : fixed bs = 0) (h8 : n < 8) :
    Calls Tryd.prog 30 #[.slice (some ⟨b, off, none⟩) n cap] w fun e w' => e = .returned (.tuple #[.agg #[.int .i64 0, .slice none 0 0], .int .i64 0, .int .i64 130]) ∧ Below w.heap.size w w' := by
  have HB := Lib.hid hb
  have HN := Lib.hid hn
  have hc0 : ¬ cap = 0 := by omega
  have HCM := Lib.hid hm
  have getD : ∀ i (hi : i < bs.length), bs.getD i 0#8 = bs[i] := fun i hi => by rw [List.getD_eq_getElem?_getD, List.getElem?_eq_getElem hi]; rfl
  have h4l : 4 ≤ bs.length := by omega
  clear hn
  obtain ⟨a0, a1, a2, a3⟩ := fixed_zero hx h4l
  rw [getD 0 (by omega)] at a0
  rw [getD 1 (by omega)] at a1
  rw [getD 2 (by omega)] at a2
  rw [getD 3 (by omega)] at a3
  have q0 := Lib.hid (show ((bs[0].toNat : Int) != 82) = false from eq_byte (82#8) a0)
  have q1 := Lib.hid (show ((bs[1].toNat : Int) != 71) = false from eq_byte (71#8) a1)
  have q2 := Lib.hid (show ((bs[2].toNat : Int) != 1) = false from eq_byte (1#8) a2)
  have q3 := Lib.hid (show ((bs[3].toNat : Int) == 0) = false from neq_byte (0#8) a3)
  have HA3 := Lib.hid a3
  clear hb hm a0 a1 a2 a3 getD hx
  go_enter Tryd.func30, Tryd.ntmps30
  go_wp2
  go_loop [3, 4, 5] (fun x y i => x = .int .i64 0 ∧ y = .int .i64 0 ∧ ∃ k : Nat, k ≤ 4 ∧ i = .int .i64 k) (fun _ _ i => 4 - (intOf i).toNat)
  case atStart => exact ⟨rfl, rfl, 0, by omega, rfl⟩
  case round =>
    obtain ⟨rfl, rfl, k, hk, rfl⟩ := hrel
    by_cases hk4 : k = 4
    · subst hk4
      clear q0 q1 q2 q3
      have h8i : (n : Int) < 8 := by omega
      go_wp2
      refine bodyPost_ret (v := .tuple #[.agg #[.int .i64 0, .slice none 0 0], .int .i64 0, .int .i64 130]) (by simp [results, Tryd.results30, go_sem]) rfl ⟨rfl, ?_⟩
      exact (Below.refl _ _).alloc (Nat.le_refl _) _
    · have hcase : k = 0 ∨ k = 1 ∨ k = 2 ∨ k = 3 := by omega
      have hkl : k < bs.length := by omega
      have hck := (World.cell?_alloc_lt w (.cells #[.int .i64 0, .slice none 0 0] 50) ⟨b, off + k, none⟩ hlt).trans (HB.out k hkl)
      have hki : (k : Int) < (n : Int) := by omega
      clear hk4
      rcases hcase with rfl | rfl | rfl | rfl
      · rw [Nat.add_zero] at hck
        have q := q0.out
        go_wp2
        exact ⟨⟨rfl, rfl, 1, by omega, rfl⟩, by simp [intOf]⟩
      · have q := q1.out
        go_wp2
        exact ⟨⟨rfl, rfl, 2, by omega, rfl⟩, by simp [intOf]⟩
      · have q := q2.out
        go_wp2
        exact ⟨⟨rfl, rfl, 3, by omega, rfl⟩, by simp [intOf]⟩
      · have q := q3.out
        go_wp2
        exact ⟨⟨rfl, rfl, 4, by omega, rfl⟩, by simp [intOf]⟩
set_option maxRecDepth 8000 in
set_option maxHeartbeats 8000000 in
theorem refOpen_size (b off n cap : Nat) (bs : List (BitVec 8)) (w : World) (hn : bs.length = n) (hc : n ≤ cap) (hm : cap ≤ 9223372036854775807) (hlt : b < w.heap.size) (hb : BytesAt w b off bs) (_h4 : 4 ≤ n) (hx : fixed bs = 0) (h8 : 8 ≤ n) (z : Nat) (hz : (num4 (bs.drop 4)).toNat = z) (hzl : 65536 < z) (_hzb : z < 4294967296) :
    Calls Tryd.prog 30 #[.slice (some ⟨b, off, none⟩) n cap] w fun e w' => e = .returned (.tuple #[.agg #[.int .i64 0, .slice none 0 0], .int .i64 0, .int .i64 134]) ∧ Below w.heap.size w w' := by
  have HB := Lib.hid hb
  have HN := Lib.hid hn
  have hc0 : ¬ cap = 0 := by omega
  have HCM := Lib.hid hm
  have getD : ∀ i (hi : i < bs.length), bs.getD i 0#8 = bs[i] := fun i hi => by rw [List.getD_eq_getElem?_getD, List.getElem?_eq_getElem hi]; rfl
  have h4l : 4 ≤ bs.length := by omega
  clear hn
  obtain ⟨a0, a1, a2, a3⟩ := fixed_zero hx h4l
  rw [getD 0 (by omega)] at a0
  rw [getD 1 (by omega)] at a1
  rw [getD 2 (by omega)] at a2
  rw [getD 3 (by omega)] at a3
  have q0 := Lib.hid (show ((bs[0].toNat : Int) != 82) = false from eq_byte (82#8) a0)
  have q1 := Lib.hid (show ((bs[1].toNat : Int) != 71) = false from eq_byte (71#8) a1)
  have q2 := Lib.hid (show ((bs[2].toNat : Int) != 1) = false from eq_byte (1#8) a2)
  have q3 := Lib.hid (show ((bs[3].toNat : Int) == 0) = false from neq_byte (0#8) a3)
  have HA3 := Lib.hid a3
  clear hb hm a0 a1 a2 a3 getD hx
  go_enter Tryd.func30, Tryd.ntmps30
  go_wp2
  go_loop [3, 4, 5] (fun x y i => x = .int .i64 0 ∧ y = .int .i64 0 ∧ ∃ k : Nat, k ≤ 4 ∧ i = .int .i64 k) (fun _ _ i => 4 - (intOf i).toNat)
  case atStart => exact ⟨rfl, rfl, 0, by omega, rfl⟩
  case round =>
    obtain ⟨rfl, rfl, k, hk, rfl⟩ := hrel
    by_cases hk4 : k = 4
    · subst hk4
      clear q0 q1 q2 q3
      have h8i : ¬ (n : Int) < 8 := by omega
      have h8l : 8 ≤ bs.length := by have := HN.out; omega
      have cell : ∀ k (hk : k < bs.length), (w.alloc (.cells #[.int .i64 0, .slice none 0 0] 50)).cell? ⟨b, off + k, none⟩ = some (.int .u8 (bs[k].toNat : Int)) := fun k hk => (World.cell?_alloc_lt w (.cells #[.int .i64 0, .slice none 0 0] 50) ⟨b, off + k, none⟩ hlt).trans (HB.out k hk)
      have hdl : bs.drop 4 = bs.drop 4 := rfl
      have hz4 := num4_sum (bs.drop 4)
      have gd : ∀ i, i < 4 → ∀ (hi : 4 + i < bs.length), (bs.drop 4).getD i 0#8 = bs[4 + i] := fun i _ hi => by rw [List.getD_eq_getElem?_getD, List.getElem?_drop, List.getElem?_eq_getElem hi]; rfl
      rw [gd 0 (by omega) (by omega), gd 1 (by omega) (by omega), gd 2 (by omega) (by omega), gd 3 (by omega) (by omega), hz] at hz4
      have k4 := cell 4 (by omega)
      have k5 := cell 5 (by omega)
      have k6 := cell 6 (by omega)
      have k7 := cell 7 (by omega)
      obtain ⟨y4, e4⟩ : ∃ y : Nat, y = bs[4].toNat := ⟨_, rfl⟩
      obtain ⟨y5, e5⟩ : ∃ y : Nat, y = bs[5].toNat := ⟨_, rfl⟩
      obtain ⟨y6, e6⟩ : ∃ y : Nat, y = bs[6].toNat := ⟨_, rfl⟩
      obtain ⟨y7, e7⟩ : ∃ y : Nat, y = bs[7].toNat := ⟨_, rfl⟩
      have l4 : y4 < 256 := by rw [e4]; exact bs[4].isLt
      have l5 : y5 < 256 := by rw [e5]; exact bs[5].isLt
      have l6 : y6 < 256 := by rw [e6]; exact bs[6].isLt
      have l7 : y7 < 256 := by rw [e7]; exact bs[7].isLt
      rw [← e4] at k4
      rw [← e5] at k5
      rw [← e6] at k6
      rw [← e7] at k7
      have hz4' : (y4 : Int) + 256 * y5 + 65536 * y6 + 16777216 * y7 = z := by rw [e4, e5, e6, e7]; exact hz4.symm
      have w4 : IntKind.i64.wrap (y4 : Int) = y4 := by rw [IntKind.wrap_i64]; omega
      have w5 : IntKind.i64.wrap (y5 : Int) = y5 := by rw [IntKind.wrap_i64]; omega
      have w6 : IntKind.i64.wrap (y6 : Int) = y6 := by rw [IntKind.wrap_i64]; omega
      have w7 : IntKind.i64.wrap (y7 : Int) = y7 := by rw [IntKind.wrap_i64]; omega
      have m5 : IntKind.i64.wrap (256 * (y5 : Int)) = 256 * y5 := by rw [IntKind.wrap_i64]; omega
      have m6 : IntKind.i64.wrap (65536 * (y6 : Int)) = 65536 * y6 := by rw [IntKind.wrap_i64]; omega
      have m7 : IntKind.i64.wrap (16777216 * (y7 : Int)) = 16777216 * y7 := by rw [IntKind.wrap_i64]; omega
      have s5 : IntKind.i64.wrap ((y4 : Int) + 256 * y5) = (y4 : Int) + 256 * y5 := by rw [IntKind.wrap_i64]; omega
      have s6 : IntKind.i64.wrap ((y4 : Int) + 256 * y5 + 65536 * y6) = (y4 : Int) + 256 * y5 + 65536 * y6 := by rw [IntKind.wrap_i64]; omega
      have s7 : IntKind.i64.wrap ((y4 : Int) + 256 * y5 + 65536 * y6 + 16777216 * y7) = z := by rw [hz4', IntKind.wrap_i64]; omega
      have i4 : 0 ≤ (4 : Int) ∧ (4 : Int) < n := by omega
      have i5 : 0 ≤ (5 : Int) ∧ (5 : Int) < n := by omega
      have i6 : 0 ≤ (6 : Int) ∧ (6 : Int) < n := by omega
      have i7 : 0 ≤ (7 : Int) ∧ (7 : Int) < n := by omega
      have HZ4 := Lib.hid hz4'
      clear hdl hz4 gd cell e4 e5 e6 e7 l4 l5 l6 l7 hz4'
      have g : decide ((65536 : Int) < (z : Int)) = true := decide_eq_true (by omega)
      clear hzl
      go_wp2
      go_quiet (fail)
      clear k4 k5 k6 k7 w4 w5 w6 w7 m5 m6 m7 s5 s6 s7 i4 i5 i6 i7
      go_wp2
      refine bodyPost_ret (v := .tuple #[.agg #[.int .i64 0, .slice none 0 0], .int .i64 0, .int .i64 134]) (by simp [results, Tryd.results30, go_sem]) rfl ⟨rfl, ?_⟩
      exact box_drew _ _ _ _ _
    · have hcase : k = 0 ∨ k = 1 ∨ k = 2 ∨ k = 3 := by omega
      have hkl : k < bs.length := by omega
      have hck := (World.cell?_alloc_lt w (.cells #[.int .i64 0, .slice none 0 0] 50) ⟨b, off + k, none⟩ hlt).trans (HB.out k hkl)
      have hki : (k : Int) < (n : Int) := by omega
      clear hk4
      rcases hcase with rfl | rfl | rfl | rfl
      · rw [Nat.add_zero] at hck
        have q := q0.out
        go_wp2
        exact ⟨⟨rfl, rfl, 1, by omega, rfl⟩, by simp [intOf]⟩
      · have q := q1.out
        go_wp2
        exact ⟨⟨rfl, rfl, 2, by omega, rfl⟩, by simp [intOf]⟩
      · have q := q2.out
        go_wp2
        exact ⟨⟨rfl, rfl, 3, by omega, rfl⟩, by simp [intOf]⟩
      · have q := q3.out
        go_wp2
        exact ⟨⟨rfl, rfl, 4, by omega, rfl⟩, by simp [intOf]⟩
set_option maxRecDepth 8000 in
set_option maxHeartbeats 8000000 in
theorem refOpen_cut (b off n cap : Nat) (bs : List (BitVec 8)) (w : World) (hn : bs.length = n) (hc : n ≤ cap) (hm : cap ≤ 9223372036854775807) (hlt : b < w.heap.size) (hb : BytesAt w b off bs) (_h4 : 4 ≤ n) (hx : fixed bs = 0) (h8 : 8 ≤ n) (z : Nat) (hz : (num4 (bs.drop 4)).toNat = z) (hzl : z ≤ 65536) (hnl : n < z + 12) :
    Calls Tryd.prog 30 #[.slice (some ⟨b, off, none⟩) n cap] w fun e w' => e = .returned (.tuple #[.agg #[.int .i64 0, .slice none 0 0], .int .i64 0, .int .i64 130]) ∧ Below w.heap.size w w' := by
  have HB := Lib.hid hb
  have HN := Lib.hid hn
  have hc0 : ¬ cap = 0 := by omega
  have HCM := Lib.hid hm
  have getD : ∀ i (hi : i < bs.length), bs.getD i 0#8 = bs[i] := fun i hi => by rw [List.getD_eq_getElem?_getD, List.getElem?_eq_getElem hi]; rfl
  have h4l : 4 ≤ bs.length := by omega
  clear hn
  obtain ⟨a0, a1, a2, a3⟩ := fixed_zero hx h4l
  rw [getD 0 (by omega)] at a0
  rw [getD 1 (by omega)] at a1
  rw [getD 2 (by omega)] at a2
  rw [getD 3 (by omega)] at a3
  have q0 := Lib.hid (show ((bs[0].toNat : Int) != 82) = false from eq_byte (82#8) a0)
  have q1 := Lib.hid (show ((bs[1].toNat : Int) != 71) = false from eq_byte (71#8) a1)
  have q2 := Lib.hid (show ((bs[2].toNat : Int) != 1) = false from eq_byte (1#8) a2)
  have q3 := Lib.hid (show ((bs[3].toNat : Int) == 0) = false from neq_byte (0#8) a3)
  have HA3 := Lib.hid a3
  clear hb hm a0 a1 a2 a3 getD hx
  go_enter Tryd.func30, Tryd.ntmps30
  go_wp2
  go_loop [3, 4, 5] (fun x y i => x = .int .i64 0 ∧ y = .int .i64 0 ∧ ∃ k : Nat, k ≤ 4 ∧ i = .int .i64 k) (fun _ _ i => 4 - (intOf i).toNat)
  case atStart => exact ⟨rfl, rfl, 0, by omega, rfl⟩
  case round =>
    obtain ⟨rfl, rfl, k, hk, rfl⟩ := hrel
    by_cases hk4 : k = 4
    · subst hk4
      clear q0 q1 q2 q3
      have h8i : ¬ (n : Int) < 8 := by omega
      have h8l : 8 ≤ bs.length := by have := HN.out; omega
      have cell : ∀ k (hk : k < bs.length), (w.alloc (.cells #[.int .i64 0, .slice none 0 0] 50)).cell? ⟨b, off + k, none⟩ = some (.int .u8 (bs[k].toNat : Int)) := fun k hk => (World.cell?_alloc_lt w (.cells #[.int .i64 0, .slice none 0 0] 50) ⟨b, off + k, none⟩ hlt).trans (HB.out k hk)
      have hdl : bs.drop 4 = bs.drop 4 := rfl
      have hz4 := num4_sum (bs.drop 4)
      have gd : ∀ i, i < 4 → ∀ (hi : 4 + i < bs.length), (bs.drop 4).getD i 0#8 = bs[4 + i] := fun i _ hi => by rw [List.getD_eq_getElem?_getD, List.getElem?_drop, List.getElem?_eq_getElem hi]; rfl
      rw [gd 0 (by omega) (by omega), gd 1 (by omega) (by omega), gd 2 (by omega) (by omega), gd 3 (by omega) (by omega), hz] at hz4
      have k4 := cell 4 (by omega)
      have k5 := cell 5 (by omega)
      have k6 := cell 6 (by omega)
      have k7 := cell 7 (by omega)
      obtain ⟨y4, e4⟩ : ∃ y : Nat, y = bs[4].toNat := ⟨_, rfl⟩
      obtain ⟨y5, e5⟩ : ∃ y : Nat, y = bs[5].toNat := ⟨_, rfl⟩
      obtain ⟨y6, e6⟩ : ∃ y : Nat, y = bs[6].toNat := ⟨_, rfl⟩
      obtain ⟨y7, e7⟩ : ∃ y : Nat, y = bs[7].toNat := ⟨_, rfl⟩
      have l4 : y4 < 256 := by rw [e4]; exact bs[4].isLt
      have l5 : y5 < 256 := by rw [e5]; exact bs[5].isLt
      have l6 : y6 < 256 := by rw [e6]; exact bs[6].isLt
      have l7 : y7 < 256 := by rw [e7]; exact bs[7].isLt
      rw [← e4] at k4
      rw [← e5] at k5
      rw [← e6] at k6
      rw [← e7] at k7
      have hz4' : (y4 : Int) + 256 * y5 + 65536 * y6 + 16777216 * y7 = z := by rw [e4, e5, e6, e7]; exact hz4.symm
      have w4 : IntKind.i64.wrap (y4 : Int) = y4 := by rw [IntKind.wrap_i64]; omega
      have w5 : IntKind.i64.wrap (y5 : Int) = y5 := by rw [IntKind.wrap_i64]; omega
      have w6 : IntKind.i64.wrap (y6 : Int) = y6 := by rw [IntKind.wrap_i64]; omega
      have w7 : IntKind.i64.wrap (y7 : Int) = y7 := by rw [IntKind.wrap_i64]; omega
      have m5 : IntKind.i64.wrap (256 * (y5 : Int)) = 256 * y5 := by rw [IntKind.wrap_i64]; omega
      have m6 : IntKind.i64.wrap (65536 * (y6 : Int)) = 65536 * y6 := by rw [IntKind.wrap_i64]; omega
      have m7 : IntKind.i64.wrap (16777216 * (y7 : Int)) = 16777216 * y7 := by rw [IntKind.wrap_i64]; omega
      have s5 : IntKind.i64.wrap ((y4 : Int) + 256 * y5) = (y4 : Int) + 256 * y5 := by rw [IntKind.wrap_i64]; omega
      have s6 : IntKind.i64.wrap ((y4 : Int) + 256 * y5 + 65536 * y6) = (y4 : Int) + 256 * y5 + 65536 * y6 := by rw [IntKind.wrap_i64]; omega
      have s7 : IntKind.i64.wrap ((y4 : Int) + 256 * y5 + 65536 * y6 + 16777216 * y7) = z := by rw [hz4', IntKind.wrap_i64]; omega
      have i4 : 0 ≤ (4 : Int) ∧ (4 : Int) < n := by omega
      have i5 : 0 ≤ (5 : Int) ∧ (5 : Int) < n := by omega
      have i6 : 0 ≤ (6 : Int) ∧ (6 : Int) < n := by omega
      have i7 : 0 ≤ (7 : Int) ∧ (7 : Int) < n := by omega
      have HZ4 := Lib.hid hz4'
      clear hdl hz4 gd cell e4 e5 e6 e7 l4 l5 l6 l7 hz4'
      have g : decide ((65536 : Int) < (z : Int)) = false := decide_eq_false (by omega)
      have g2 : (n : Int) < (z : Int) + 12 := by omega
      have w12 : IntKind.i64.wrap ((z : Int) + 12) = (z : Int) + 12 := by rw [IntKind.wrap_i64]; omega
      clear hzl
      go_wp2
      go_quiet (fail)
      clear k4 k5 k6 k7 w4 w5 w6 w7 m5 m6 m7 s5 s6 s7 i4 i5 i6 i7
      go_wp2
      refine bodyPost_ret (v := .tuple #[.agg #[.int .i64 0, .slice none 0 0], .int .i64 0, .int .i64 130]) (by simp [results, Tryd.results30, go_sem]) rfl ⟨rfl, ?_⟩
      exact box_drew _ _ _ _ _
    · have hcase : k = 0 ∨ k = 1 ∨ k = 2 ∨ k = 3 := by omega
      have hkl : k < bs.length := by omega
      have hck := (World.cell?_alloc_lt w (.cells #[.int .i64 0, .slice none 0 0] 50) ⟨b, off + k, none⟩ hlt).trans (HB.out k hkl)
      have hki : (k : Int) < (n : Int) := by omega
      clear hk4
      rcases hcase with rfl | rfl | rfl | rfl
      · rw [Nat.add_zero] at hck
        have q := q0.out
        go_wp2
        exact ⟨⟨rfl, rfl, 1, by omega, rfl⟩, by simp [intOf]⟩
      · have q := q1.out
        go_wp2
        exact ⟨⟨rfl, rfl, 2, by omega, rfl⟩, by simp [intOf]⟩
      · have q := q2.out
        go_wp2
        exact ⟨⟨rfl, rfl, 3, by omega, rfl⟩, by simp [intOf]⟩
      · have q := q3.out
        go_wp2
        exact ⟨⟨rfl, rfl, 4, by omega, rfl⟩, by simp [intOf]⟩
end Go.Proofs.YtfbepdlahaefgaaDoor
