/- The walks of package crc: More, Of, up, times, Join compute what the plain mathematics says. -/
import Derived.Test.YtfbepdlahaefgaaDoorProg
import Derived.Test.YtfbepdlahaefgaaDoorBase
import Derived.Test.YtfbepdlahaefgaaDoorCrcM2
namespace Go.Proofs.YtfbepdlahaefgaaDoor
open Go.RowKit
open Crc (R nib shortT up upN byteStep more moreSum sum times timesAcc one poly)

/-- The table of half bytes, as the package's variable holds it. -/
def Tab (w : World) : Prop := 0 < w.heap.size ∧ ∀ k, k < 16 → w.cell? ⟨0, k, none⟩ = some (.int .u32 ((shortT k).toNat : Int))
theorem Tab.below {w w' : World} (h : Tab w) (hb : Below w.heap.size w w') : Tab w' :=
  ⟨Nat.lt_of_lt_of_le h.1 hb.size, fun k hk => (hb.cell (p := ⟨_, k, none⟩) h.1).trans (h.2 k hk)⟩
theorem Tab.nib {w : World} (h : Tab w) (r : R) : w.cell? ⟨0, Crc.nib r, none⟩ = some (.int .u32 ((shortT (Crc.nib r)).toNat : Int)) := h.2 _ (Crc.nib_lt r)

theorem bits_nib (a : R) : bits .and .u32 (a.toNat : Int) 15 = (nib a : Int) := by
  rw [show (15 : Int) = ((15 : Nat) : Int) from rfl, bits_and32, Crc.and15]
  have := Crc.nib_lt a
  rw [BitVec.toNat_ofNat, Nat.mod_eq_of_lt (by omega)]
theorem nib_lt16 (a : R) : ((nib a : Int) < 16) = True := by
  have := Crc.nib_lt a
  simp; omega
theorem step_imp (r : R) (c : BitVec 8) : x32 (shortT (nib (x32 (shortT (nib (x832 r c))) (sh4 (x832 r c))))) (sh4 (x32 (shortT (nib (x832 r c))) (sh4 (x832 r c)))) = byteStep r c := by
  unfold x32 sh4 byteStep
  rw [Crc.half (x832 r c), Crc.half]
  rfl
theorem more_snoc (r : R) (bs : List (BitVec 8)) (k : Nat) (h : k < bs.length) : byteStep (more r (bs.take k)) bs[k] = more r (bs.take (k + 1)) := by
  rw [take_snoc bs k h, Crc.more_append]; rfl
section
attribute [local go_sem] signed_u32 bits_x32 bits_x832 bits_n32 bits_nib int_sh4 nib_lt16
set_option maxHeartbeats 400000 in
theorem more_any (s : R) (v : Value) (bs : List (BitVec 8)) (w : World) (hv : IsBytes w v bs) (ht : Tab w) :
    Calls Tryd.prog 20 #[.int .u32 s.toNat, v] w fun e w' => e = .returned (.int .u32 (moreSum s bs).toNat) ∧ w = w' := by
  have hn := ht.nib
  rcases hv.open_ with ⟨rfl, a, cap, rfl, hm⟩ | ⟨hp, b, off, cap, rfl, hl, hm, hlt, hc⟩
  · clear hv
    rw [Crc.moreSum_nil]
    go_enter Tryd.func20, Tryd.ntmps20
    go_wp2
    go_loop [5, 12] (fun t i => i = .int .i64 0 ∧ t = .int .u32 (n32 s).toNat) (fun _ _ => 0)
    case atStart => exact ⟨rfl, rfl⟩
    case round =>
      obtain ⟨rfl, rfl⟩ := hrel
      go_wp2
      go_ret
      exact ⟨by simp [n32], rfl⟩
  · clear hv
    unfold BytesAt at hc
    unfold maxLen at hm
    go_enter Tryd.func20, Tryd.ntmps20
    go_wp2
    go_loop [5, 12] (fun t i => ∃ k : Nat, k ≤ bs.length ∧ i = .int .i64 k ∧ t = .int .u32 (more (n32 s) (bs.take k)).toNat) (fun _ i => bs.length - (intOf i).toNat)
    case atStart => exact ⟨0, by omega, rfl, rfl⟩
    case round =>
      obtain ⟨k, hk, rfl, rfl⟩ := hrel
      go_wp2
      · go_round
        case rel => exact ⟨k + 1, by omega, by go_num, by rw [step_imp, more_snoc]⟩
        case measure => simp [intOf]; omega
      · go_ret
        exact ⟨by rw [List.take_of_length_le (by omega)]; rfl, rfl⟩
end

theorem moreSum_flat (s : R) (ps : List (List (BitVec 8))) (k : Nat) (h : k < ps.length) : moreSum (moreSum s (ps.take k).flatten) ps[k] = moreSum s (ps.take (k + 1)).flatten := by
  rw [take_snoc ps k h, List.flatten_append, Crc.moreSum_append]; simp
set_option maxHeartbeats 400000 in
theorem of_any (v : Value) (ps : List (List (BitVec 8))) (w : World) (hv : IsParts w v ps) (ht : Tab w) :
    Calls Tryd.prog 18 #[v] w fun e w' => e = .returned (.int .u32 (sum ps.flatten).toNat) ∧ w = w' := by
  rcases hv.open_ with ⟨rfl, a, cap, rfl, hm⟩ | ⟨hp, b, off, us, cap, rfl, hl, hm, hlt, hul, hc, hb⟩
  · clear hv
    go_enter Tryd.func18, Tryd.ntmps18
    go_wp2
    go_loop [3, 8] (fun t i => i = .int .i64 0 ∧ t = .int .u32 0) (fun _ _ => 0)
    case atStart => exact ⟨rfl, rfl⟩
    case round =>
      obtain ⟨rfl, rfl⟩ := hrel
      go_wp2
      go_ret
      exact ⟨ret_int (by decide), rfl⟩
  · clear hv
    unfold maxLen at hm
    have HB := Lib.hid hb
    clear hb
    have HT := Lib.hid ht
    clear ht
    have HU := Lib.hid hul
    clear hul
    go_enter Tryd.func18, Tryd.ntmps18
    go_wp2
    go_loop [3, 8] (fun t i => ∃ k : Nat, k ≤ ps.length ∧ i = .int .i64 k ∧ t = .int .u32 (sum (ps.take k).flatten).toNat) (fun _ i => ps.length - (intOf i).toNat)
    case atStart => exact ⟨0, by omega, rfl, by rw [List.take_zero]; rfl⟩
    case round =>
      obtain ⟨k, hk, rfl, rfl⟩ := hrel
      by_cases hlt : k < ps.length
      · have hku : k < us.length := by rw [HU.out]; exact hlt
        have hck := hc k hku
        clear hc
        go_wp2_with (go_at_call 20; refine (more_any _ _ _ _ (HB.out k hku hlt) HT.out).mono ?_; rintro e w' ⟨rfl, rfl⟩)
        go_round
        case rel => exact ⟨k + 1, by omega, by go_num, by unfold sum; rw [moreSum_flat _ _ _ hlt]⟩
        case measure => simp [intOf]; omega
      · go_wp2
        go_ret
        exact ⟨ret_int (by first | rfl | rw [List.take_of_length_le (by omega)]), rfl⟩

section
attribute [local go_sem] bits_x32 int_sh1
theorem and1 (a : R) : bits .and .u32 (a.toNat : Int) 1 = if a.getLsbD 0 then 1 else 0 := by
  rw [show (1 : Int) = ((1 : Nat) : Int) from rfl, bits_and32]
  have : a &&& BitVec.ofNat 32 1 = if a.getLsbD 0 then 1#32 else 0#32 := by
    apply BitVec.eq_of_getLsbD_eq
    intro i hi
    rw [BitVec.getLsbD_and]
    cases i with
    | zero => cases a.getLsbD 0 <;> simp
    | succ i => cases a.getLsbD 0 <;> simp
  rw [this]
  cases a.getLsbD 0 <;> rfl
theorem up_any (r : R) (w : World) (ht : Tab w) :
    Calls Tryd.prog 47 #[.int .u32 r.toNat] w fun e w' => e = .returned (.int .u32 (up r).toNat) ∧ w = w' := by
  have h8 : w.cell? ⟨0, 8, none⟩ = some (.int .u32 (poly.toNat : Int)) := ht.2 8 (by omega)
  have ha := and1 r
  cases hb : r.getLsbD 0 with
  | false =>
    rw [hb] at ha
    simp at ha
    have H := Lib.hid hb
    clear hb
    go_enter Tryd.func47, Tryd.ntmps47
    go_wp2
    go_ret
    exact ⟨by unfold up sh1; rw [H.out]; simp, rfl⟩
  | true =>
    rw [hb] at ha
    simp at ha
    have H := Lib.hid hb
    clear hb
    go_enter Tryd.func47, Tryd.ntmps47
    go_wp2
    go_ret
    exact ⟨by unfold up sh1 x32; rw [H.out]; simp, rfl⟩

def pw (k : Nat) : R := one >>> k
theorem shr_one (i : Nat) (h : i < 32) : (2147483648 : Int) / 2 ^ i = ((pw i).toNat : Int) := by
  have : ∀ i : Fin 32, (2147483648 : Int) / 2 ^ i.val = ((pw i.val).toNat : Int) := by decide
  exact this ⟨i, h⟩
theorem and_pw (a : R) (k : Nat) (h : k < 32) : (bits .and .u32 (a.toNat : Int) ((pw k).toNat : Int) != 0) = a.getLsbD (31 - k) := by
  have e : (bits .and .u32 (a.toNat : Int) ((pw k).toNat : Int)) = ((a &&& pw k).toNat : Int) := by
    show IntKind.wrap .u32 (((BitVec.ofInt 32 (a.toNat : Int)) &&& (BitVec.ofInt 32 ((pw k).toNat : Int))).toNat : Int) = _
    rw [ofInt32, ofInt32]; exact back32 _
  have hp : pw k = BitVec.twoPow 32 (31 - k) := by
    have : ∀ i : Fin 32, pw i.val = BitVec.twoPow 32 (31 - i.val) := by decide
    exact this ⟨k, h⟩
  have hbit : a &&& pw k = if a.getLsbD (31 - k) then pw k else 0#32 := by
    rw [hp]
    apply BitVec.eq_of_getLsbD_eq
    intro i hi
    rw [BitVec.getLsbD_and, BitVec.getLsbD_twoPow]
    by_cases hik : 31 - k = i
    · subst hik
      cases ha : a.getLsbD (31 - k)
      · simp
      · rw [if_pos rfl, BitVec.getLsbD_twoPow]; simp
    · cases ha : a.getLsbD (31 - k)
      · simp [hik]
      · rw [if_pos rfl, BitVec.getLsbD_twoPow]; simp [hik]
  have hnz : ∀ i : Fin 32, ¬ (pw i.val).toNat = 0 := by decide
  have := hnz ⟨k, h⟩
  rw [e, hbit]
  cases a.getLsbD (31 - k)
  · rfl
  · simp only [if_true]
    rw [bne_iff_ne]
    simp only at this
    omega
set_option maxHeartbeats 800000 in
theorem times_any (a b : R) (w : World) (ht : Tab w) :
    Calls Tryd.prog 39 #[.int .u32 a.toNat, .int .u32 b.toNat] w fun e w' => e = .returned (.int .u32 (times a b).toNat) ∧ w = w' := by
  have HT := Lib.hid ht
  clear ht
  go_enter Tryd.func39, Tryd.ntmps39
  go_wp2
  go_loop [1, 5, 7] (fun q p i => ∃ k : Nat, k ≤ 32 ∧ i = .int .i64 k ∧ p = .int .u32 (timesAcc a b k).toNat ∧ q = .int .u32 (upN k b).toNat) (fun _ _ i => 32 - (intOf i).toNat)
  case atStart => exact ⟨0, by omega, rfl, rfl, rfl⟩
  case round =>
    obtain ⟨k, hk, rfl, rfl, rfl⟩ := hrel
    by_cases hlt : k < 32
    · have hs := shr_one k hlt
      have hd : decide ((k : Int) < 32) = true := by simp; omega
      have ha := and_pw a k hlt
      cases hb : a.getLsbD (31 - k) with
      | true =>
        rw [hb] at ha
        have H := Lib.hid hb
        clear hb
        go_wp2_with (go_at_call 47; refine (up_any _ _ HT.out).mono ?_; rintro e w' ⟨rfl, rfl⟩)
        go_round
        case rel => exact ⟨k + 1, by omega, by go_num, by rw [timesAcc, H.out]; rfl, by rw [Crc.upN_succ]⟩
        case measure => simp [intOf]; omega
      | false =>
        rw [hb] at ha
        have H := Lib.hid hb
        clear hb
        go_wp2_with (go_at_call 47; refine (up_any _ _ HT.out).mono ?_; rintro e w' ⟨rfl, rfl⟩)
        go_round
        case rel => exact ⟨k + 1, by omega, by go_num, by rw [timesAcc, H.out]; simp, by rw [Crc.upN_succ]⟩
        case measure => simp [intOf]; omega
    · go_wp2
      go_ret
      obtain rfl : k = 32 := by omega
      exact ⟨ret_int rfl, rfl⟩
end

theorem land1 (m : Nat) (hm : m ≤ 2147483647) : bits .and .i64 (m : Int) 1 = ((m % 2 : Nat) : Int) := by
  have e : (BitVec.ofInt 64 (m : Int)).toNat = m := by rw [BitVec.ofInt_natCast, BitVec.toNat_ofNat]; exact Nat.mod_eq_of_lt (by omega)
  show IntKind.i64.wrap ((BitVec.ofInt 64 (m : Int) &&& BitVec.ofInt 64 1).toNat : Int) = _
  rw [BitVec.toNat_and, e, show (BitVec.ofInt 64 1).toNat = 2 ^ 1 - 1 from by decide, Nat.and_two_pow_sub_one_eq_mod, IntKind.wrap_i64]
  omega
theorem times_pows (x y : Nat) : times (upN (8 * x) one) (upN (8 * y) one) = upN (8 * (x + y)) one := by
  rw [Crc.times_pow, ← Crc.upN_add]; congr 1; omega
section
attribute [local go_sem] bits_x32
theorem join_out (a b : R) (n : Int) (w : World) (h : n < 0 ∨ 2147483647 < n) (hw : -9223372036854775808 ≤ n ∧ n ≤ 9223372036854775807) :
    Calls Tryd.prog 22 #[.int .u32 a.toNat, .int .u32 b.toNat, .int .i64 n] w fun e w' => e = .returned (.tuple #[.int .u32 0, .int .i64 2]) ∧ w = w' := by
  by_cases h0 : n < 0
  · go_enter Tryd.func22, Tryd.ntmps22
    go_wp2
    go_ret2
    exact ⟨rfl, rfl⟩
  · have h1 : 2147483647 < n := by omega
    go_enter Tryd.func22, Tryd.ntmps22
    go_wp2
    go_ret2
    exact ⟨rfl, rfl⟩
set_option maxHeartbeats 800000 in
theorem join_any (a b : R) (n : Nat) (w : World) (h : n ≤ 2147483647) (ht : Tab w) :
    Calls Tryd.prog 22 #[.int .u32 a.toNat, .int .u32 b.toNat, .int .i64 n] w fun e w' => e = .returned (.tuple #[.int .u32 (x32 (upN (8 * n) a) b).toNat, .int .i64 0]) ∧ w = w' := by
  have HT := Lib.hid ht
  clear ht
  have h0 : ¬ (n : Int) < 0 := by omega
  have h1 : ¬ 2147483647 < (n : Int) := by omega
  go_enter Tryd.func22, Tryd.ntmps22
  go_wp2
  go_loop [2, 8, 9] (fun i far step => ∃ m x y : Nat, i = .int .i64 m ∧ far = .int .u32 (upN (8 * x) one).toNat ∧ step = .int .u32 (upN (8 * y) one).toNat ∧ x + y * m = n ∧ m ≤ n) (fun i _ _ => (intOf i).toNat)
  case atStart => exact ⟨n, 0, 1, rfl, rfl, congrArg (Value.int .u32) (by decide), by omega, by omega⟩
  case round =>
    obtain ⟨m, x, y, rfl, rfl, rfl, hx, hm⟩ := hrel
    have HX := Lib.hid hx
    clear hx
    by_cases hz : m = 0
    · subst hz
      have hx := HX.out
      obtain rfl : x = n := by omega
      clear hx HX
      go_wp2_with (go_at_call 39; refine (times_any _ _ _ HT.out).mono ?_; rintro e w' ⟨rfl, rfl⟩)
      go_ret2
      exact ⟨by rw [Crc.times_pow]; rfl, rfl⟩
    · by_cases hodd : m % 2 = 1
      · have hp : (((m : Int) % 2) == 1) = true := by simp; omega
        have hp2 : (bits .and .i64 (m : Int) 1 == 1) = true := by rw [land1 m (by omega), hodd]; rfl
        have HO := Lib.hid hodd
        clear hodd
        go_wp2_with (go_at_call 39; refine (times_any _ _ _ HT.out).mono ?_; rintro e w' ⟨rfl, rfl⟩)
        go_round
        case rel =>
          refine ⟨m / 2, x + y, y + y, by go_num, by rw [times_pows], by rw [times_pows], ?_, by omega⟩
          rw [← HX.out]
          have h1 := HO.out
          have h2 : m = 2 * (m / 2) + 1 := by omega
          generalize m / 2 = q at h2
          subst h2
          simp only [Nat.mul_add, Nat.add_mul, Nat.mul_one, Nat.two_mul]; omega
        case measure => simp [intOf]; omega
      · have hp : (((m : Int) % 2) == 1) = false := by simp; omega
        have hp2 : (bits .and .i64 (m : Int) 1 == 1) = false := by rw [land1 m (by omega), show m % 2 = 0 from by omega]; rfl
        have HO := Lib.hid hodd
        clear hodd
        go_wp2_with (go_at_call 39; refine (times_any _ _ _ HT.out).mono ?_; rintro e w' ⟨rfl, rfl⟩)
        go_round
        case rel =>
          refine ⟨m / 2, x, y + y, by go_num, rfl, by rw [times_pows], ?_, by omega⟩
          rw [← HX.out]
          have h1 := HO.out
          have h2 : m = 2 * (m / 2) := by omega
          generalize m / 2 = q at h2
          subst h2
          simp only [Nat.mul_add, Nat.add_mul, Nat.two_mul]
        case measure => simp [intOf]; omega
end
end Go.Proofs.YtfbepdlahaefgaaDoor
