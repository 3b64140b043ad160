/- The walks of package frame: begin, four, number, Seal, fixed, Open. -/
import Derived.Test.YtfbepdlahaefgaaDoorCrcW
import Derived.Test.YtfbepdlahaefgaaDoorRefW
import Derived.Test.YtfbepdlahaefgaaDoorApp2
import Derived.Test.YtfbepdlahaefgaaDoorFrameM
import Derived.Test.YtfbepdlahaefgaaDoorReg
import Derived.Test.YtfbepdlahaefgaaDoorLaw11A
namespace Go.Proofs.YtfbepdlahaefgaaDoor
open Go.RowKit
open Crc (R sum)
open Frm (le4 byteAt num4 head body frame)

theorem u8_of (n : Nat) (i : Nat) (d : Nat) (hd : d = 2 ^ (8 * i)) (hn : n < 4294967296) : ((n : Int) / (d : Int)) % 256 = ((byteAt (BitVec.ofNat 32 n) i).toNat : Int) := by
  unfold byteAt
  rw [BitVec.toNat_setWidth, BitVec.toNat_ushiftRight, BitVec.toNat_ofNat, Nat.mod_eq_of_lt hn, Nat.shiftRight_eq_div_pow, ← hd]
  omega
set_option maxHeartbeats 400000 in
theorem begin_any (kind : BitVec 8) (n : Nat) (w : World) (hn : n ≤ 100000) :
    Calls Tryd.prog 40 #[.int .i64 kind.toNat, .int .i64 n] w fun e w' => e = .returned (.agg #[.int .u8 82, .int .u8 71, .int .u8 1, .int .u8 kind.toNat, .int .u8 (byteAt (BitVec.ofNat 32 n) 0).toNat, .int .u8 (byteAt (BitVec.ofNat 32 n) 1).toNat, .int .u8 (byteAt (BitVec.ofNat 32 n) 2).toNat, .int .u8 (byteAt (BitVec.ofNat 32 n) 3).toNat]) ∧ ∃ cs, w' = w.alloc (.cells cs 79) := by
  go_enter Tryd.func40, Tryd.ntmps40
  go_wp2
  have e0 : (n : Int) % 256 = ((byteAt (BitVec.ofNat 32 n) 0).toNat : Int) := by have := u8_of n 0 1 rfl (by omega); omega
  have e1 : (n : Int) / 256 % 256 = ((byteAt (BitVec.ofNat 32 n) 1).toNat : Int) := by have := u8_of n 1 256 rfl (by omega); omega
  have e2 : (n : Int) / 65536 = ((byteAt (BitVec.ofNat 32 n) 2).toNat : Int) := by have := u8_of n 2 65536 rfl (by omega); omega
  have e3 : (n : Int) / 16777216 = ((byteAt (BitVec.ofNat 32 n) 3).toNat : Int) := by have := u8_of n 3 16777216 rfl (by omega); omega
  refine bodyPost_ret (v := .agg #[.int .u8 82, .int .u8 71, .int .u8 1, .int .u8 kind.toNat, .int .u8 ((n : Int) % 256), .int .u8 ((n : Int) / 256 % 256), .int .u8 ((n : Int) / 65536), .int .u8 ((n : Int) / 16777216)]) (by simp [results, Tryd.results40, go_sem]) rfl ⟨?_, _, rfl⟩
  rw [e0, e1, e2, e3]
theorem four_step (n : R) (k : Nat) (hk : k < 4) : (le4 n).take (k + 1) = (le4 n).take k ++ [byteAt n k] := by
  match k, hk with
  | 0, _ => rfl
  | 1, _ => rfl
  | 2, _ => rfl
  | 3, _ => rfl
theorem shr_byte (n : R) (k : Nat) : (n.toNat : Int) / 2 ^ (8 * k) % 256 = ((byteAt n k).toNat : Int) := by
  unfold byteAt
  rw [BitVec.toNat_setWidth, BitVec.toNat_ushiftRight, Nat.shiftRight_eq_div_pow]
  rw [show (n.toNat : Int) / 2 ^ (8 * k) = ((n.toNat / 2 ^ (8 * k) : Nat) : Int) from by rw [Int.natCast_ediv, Int.natCast_pow]; rfl]
  omega
section
attribute [local go_sem] shr_byte
set_option maxHeartbeats 400000 in
theorem four_any (base : Nat) (v : Value) (xs : List Value) (n : R) (w : World) (ho : Own w base 5 v xs) (hl : xs.length ≤ 1000000) :
    Calls Tryd.prog 41 #[v, .int .u32 n.toNat] w fun e w' => ∃ a m c, e = .returned (.slice a m c) ∧ Own w' base 5 (.slice a m c) (xs ++ (le4 n).map byteV) ∧ Below base w w' := by
  have HL := Lib.hid hl
  clear hl
  go_enter Tryd.func41, Tryd.ntmps41
  go_wp2
  go_loopw [0, 6, 5] (fun l i _ wr => ∃ k : Nat, k ≤ 4 ∧ i = .int .i64 k ∧ Own wr base 5 l (xs ++ ((le4 n).take k).map byteV) ∧ Below base w wr) (fun _ i _ _ => 4 - (intOf i).toNat)
  case atStart => exact ⟨0, by omega, rfl, by simpa using ho, Below.refl _ _⟩
  case round =>
    obtain ⟨k, hk, rfl, hown, hbel⟩ := hrel
    by_cases hk4 : k < 4
    · have hd : decide ((k : Int) < 4) = true := by simp; omega
      have hll : (xs ++ ((le4 n).take k).map byteV).length ≤ 1000004 := by
        rw [List.length_append, List.length_map, List.length_take]; have := HL.out; omega
      have HLL := Lib.hid hll
      clear hll
      go_wp2_with (at_builtin; refine wpl_append rfl _ _ _ rfl elemU8 rfl (hown.alloc _) rfl (Reads.one _ _ _) one_int (by have := HLL.out; simp only [List.length_singleton]; omega) (by have := HLL.out; simp only [List.length_singleton, maxLen]; omega) ?_; intro v' w2 hown2 hg1 hat1)
      go_roundw
      case rel =>
        refine ⟨k + 1, by omega, by go_num, ?_, below_grown (hbel.alloc (hown.2) _) (hown.alloc _) hg1 (Nat.le_refl _)⟩
        rw [four_step n k hk4, List.map_append, ← List.append_assoc]
        exact hown2
      case measure => simp [intOf]; omega
    · obtain rfl : k = 4 := by omega
      go_wp2
      go_ret
      obtain ⟨a, c, rfl, _, _⟩ := hown.len
      exact ⟨_, _, _, rfl, hown, hbel⟩
end

/-! ### number -/
def shb (c : BitVec 8) (k : Nat) : R := c.setWidth 32 <<< (8 * k)
theorem shl_byte (c : BitVec 8) (k : Nat) : (c.toNat : Int) * 2 ^ (8 * k) % 4294967296 = ((shb c k).toNat : Int) := by
  unfold shb
  rw [BitVec.toNat_shiftLeft, BitVec.toNat_setWidth, Nat.shiftLeft_eq]
  have := c.isLt
  rw [Nat.mod_eq_of_lt (by omega : c.toNat < 2 ^ 32), Int.natCast_emod, Int.natCast_mul, Int.natCast_pow]
  rfl
def or32 (a b : R) : R := a ||| b
theorem bits_or32 (a b : R) : bits .or .u32 (a.toNat : Int) (b.toNat : Int) = ((or32 a b).toNat : Int) := by
  show IntKind.wrap .u32 (((BitVec.ofInt 32 (a.toNat : Int)) ||| (BitVec.ofInt 32 (b.toNat : Int))).toNat : Int) = _
  rw [ofInt32, ofInt32]; exact back32 _
section
attribute [local go_sem] bits_or32
set_option maxHeartbeats 400000 in
theorem number_bytes (b off n cap : Nat) (bs : List (BitVec 8)) (w : World) (h4 : 4 ≤ n) (hc : n ≤ cap) (hn : bs.length = n) (hb : BytesAt w b off bs) :
    Calls Tryd.prog 44 #[.slice (some ⟨b, off, none⟩) n cap] w fun e w' => e = .returned (.int .u32 (num4 bs).toNat) ∧ w = w' := by
  have HB := Lib.hid hb
  have HN := Lib.hid hn
  clear hb hn
  go_enter Tryd.func44, Tryd.ntmps44
  go_wp2
  go_loop [3, 4, 5, 9] (fun t _ _ i => ∃ k : Nat, k ≤ 4 ∧ i = .int .i64 k ∧ t = .int .u32 (Frm.numTo bs k).toNat) (fun _ _ _ i => 4 - (intOf i).toNat)
  case atStart => exact ⟨0, by omega, rfl, rfl⟩
  case round =>
    obtain ⟨k, hk, rfl, rfl⟩ := hrel
    by_cases hk4 : k < 4
    · have hkl : k < bs.length := by rw [HN.out]; omega
      have hck := HB.out k hkl
      have hsh := shl_byte bs[k] k
      have hd : decide ((k : Int) < 4) = true := by simp; omega
      have hst : or32 (Frm.numTo bs k) (shb bs[k] k) = Frm.numTo bs (k + 1) := by
        rw [Frm.numTo, List.getD_eq_getElem?_getD, List.getElem?_eq_getElem hkl]; rfl
      have HS := Lib.hid hst
      clear hst
      go_wp2
      go_round
      case rel => exact ⟨k + 1, by omega, by go_num, by rw [HS.out]⟩
      case measure => simp [intOf]; omega
    · obtain rfl : k = 4 := by omega
      go_wp2
      go_ret
      exact ⟨ret_int rfl, rfl⟩
end
theorem frNumber_any (v : Value) (bs : List (BitVec 8)) (w : World) (hv : IsBytes w v bs) (h4 : 4 ≤ bs.length) :
    Calls Tryd.prog 44 #[v] w fun e w' => e = .returned (.int .u32 (num4 bs).toNat) ∧ w = w' := by
  rcases hv.open_ with ⟨rfl, a, cap, rfl, hm⟩ | ⟨hp, b, off, cap, rfl, hl, hm, hlt, hc⟩
  · simp only [List.length_nil] at h4; omega
  · exact number_bytes b off bs.length cap bs w h4 hl rfl hc

/-! ### Seal -/
def kindErr : Int := 133
set_option maxHeartbeats 1000000 in
theorem seal_any (kind : BitVec 8) (v : Value) (p : List (BitVec 8)) (w : World) (hk : kind ≠ 0#8) (hv : IsBytes w v p) (hp : p.length ≤ 65536) (ht : Tab w) :
    Calls Tryd.prog 26 #[.int .i64 kind.toNat, v] w fun e w' => ∃ a m c, e = .returned (.tuple #[.slice a m c, .int .i64 0]) ∧ Own w' w.heap.size 5 (.slice a m c) ((frame kind p).map byteV) ∧ Below w.heap.size w w' := by
  have hv' := hv
  obtain ⟨pa, pn, pc, rfl, rfl, _, _, _⟩ := hv'
  have HV := Lib.hid hv
  have HT := Lib.hid ht
  have hk1 : ¬ ((kind.toNat : Nat) : Int) < 1 := by
    intro h
    exact hk (BitVec.eq_of_toNat_eq (by simp; omega))
  have hk2 : ¬ (255 : Int) < ((kind.toNat : Nat) : Int) := by have := kind.isLt; omega
  have hp1 : ¬ (65536 : Int) < ((p.length : Nat) : Int) := by omega
  clear hv ht hk
  go_enter Tryd.func26, Tryd.ntmps26
  have hbl : ((Frm.head kind (BitVec.ofNat 32 p.length)).map byteV).length = 8 := rfl
  have hpl : (p.map byteV).length = p.length := by simp
  have HBL := Lib.hid hbl
  have HPL := Lib.hid hpl
  clear hbl hpl
  go_wp2_with (first
    | (go_at_call 40; refine (begin_any _ _ _ (by omega)).mono ?_; rintro e w1 ⟨rfl, cs, rfl⟩)
    | (at_builtin
       refine wpl_append rfl (.tmp 23) (.tmp 24) _ rfl elemU8 rfl (Own.empty_ (base := w.heap.size) (by simp) (by omega)) rfl ((Reads.new (xs := (Frm.head kind (BitVec.ofNat 32 p.length)).map byteV) (by simp) _ _ _ 8 rfl (by omega) rfl).alloc _) one_byteV (by rw [HBL.out]; simp) (by rw [HBL.out]; simp [maxLen]) ?_
       intro v1 w2 hown1 hg1 hat1
       rw [List.nil_append] at hown1
       have hb1 : Below w.heap.size w w2 := below_grown ((((Below.refl _ _).alloc (Nat.le_refl _) _).alloc (by simp) _).alloc (by simp; omega) _) (Own.empty_ (base := w.heap.size) (by simp) (by omega)) hg1 (Nat.le_refl _)
       clear hg1 hat1)
    | (at_builtin
       refine wpl_append rfl (.tmp 25) (.tmp 26) _ rfl elemU8 rfl hown1 rfl (HV.out.below hb1).reads one_byteV (by rw [HBL.out, HPL.out]; omega) (by rw [HBL.out, HPL.out]; simp only [maxLen]; omega) ?_
       intro v2 w3 hown2 hg2 hat2
       have hb2 : Below w.heap.size w w3 := below_grown hb1 hown1 hg2 (Nat.le_refl _)
       obtain ⟨ra, rn, rc, rfl, hrn⟩ := hown2.form_
       rw [← List.map_append] at hown2
       clear hg2 hat2))
  have hrl : rn ≤ 100000 := by
    have := hrn.out
    rw [List.length_append, HBL.out, HPL.out] at this; omega
  have hbb : Frm.head kind (BitVec.ofNat 32 p.length) ++ p = body kind p := rfl
  rw [hbb] at hown2
  have HO := Lib.hid hown2
  have HO2 := Lib.hid hown2.reads.bytes
  have HBB : Hid (((body kind p).map byteV).length ≤ 1000000) := by unfold Hid; rw [List.length_map, Frm.body_length]; omega
  clear hown2 hbb
  go_wp2_with (first
    | (go_at_call 18; refine (of_one _ (body kind p) _ (IsParts.one rfl _ _ _ HO2.out) ((HT.out.below hb2).alloc _)).mono ?_; rintro e w4 ⟨rfl, rfl⟩)
    | (go_at_call 41; refine (four_any w.heap.size _ _ _ _ (HO.out.alloc _) HBB.out).mono ?_; rintro e w4 ⟨a, m, c, rfl, hown4, hb4⟩))
  go_ret2
  refine ⟨_, _, _, rfl, ?_, (hb2.alloc hb2.size _).trans hb4⟩
  rw [Frm.frame, List.map_append]
  exact hown4
set_option maxHeartbeats 1000000 in
theorem seal_kind (k : Int) (v : Value) (w : World) (hk : k < 1 ∨ 255 < k) (hw : -9223372036854775808 ≤ k ∧ k ≤ 9223372036854775807) :
    Calls Tryd.prog 26 #[.int .i64 k, v] w fun e w' => e = .returned (.tuple #[.slice none 0 0, .int .i64 133]) ∧ w = w' := by
  have HW := Lib.hid hw
  clear hw
  by_cases h1 : k < 1
  · clear hk
    go_enter Tryd.func26, Tryd.ntmps26
    go_wp2
    go_ret2
    exact ⟨rfl, rfl⟩
  · have h2 : 255 < k := by omega
    clear hk
    go_enter Tryd.func26, Tryd.ntmps26
    go_wp2
    go_ret2
    exact ⟨rfl, rfl⟩
set_option maxHeartbeats 1000000 in
theorem seal_long (k : Int) (a : Option Addr) (n cap : Nat) (w : World) (hk : 1 ≤ k ∧ k ≤ 255) (hn : 65536 < n) (hm : n ≤ 9223372036854775807) :
    Calls Tryd.prog 26 #[.int .i64 k, .slice a n cap] w fun e w' => e = .returned (.tuple #[.slice none 0 0, .int .i64 134]) ∧ w = w' := by
  have HM := Lib.hid hm
  clear hm
  have h1 : ¬ k < 1 := by omega
  have h2 : ¬ 255 < k := by omega
  have h3 : (65536 : Int) < (n : Int) := by omega
  go_enter Tryd.func26, Tryd.ntmps26
  go_wp2
  go_ret2
  exact ⟨rfl, rfl⟩
end Go.Proofs.YtfbepdlahaefgaaDoor
