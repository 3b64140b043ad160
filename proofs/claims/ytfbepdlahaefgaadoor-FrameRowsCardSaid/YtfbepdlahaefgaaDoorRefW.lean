/- The walks of the reference's package regattaref11. -/
import Derived.Test.YtfbepdlahaefgaaDoorCrcW
import Derived.Test.YtfbepdlahaefgaaDoorApp
import Derived.Test.YtfbepdlahaefgaaDoorSame
namespace Go.Proofs.YtfbepdlahaefgaaDoor
open Go.RowKit
open Crc (R nib shortT up upN byteStep more moreSum sum b2i bitsL)

theorem elemInt : Elem Tryd.prog 59 3 8 := Elem.mk_ Tryd.underlying59 (z := .int .i64 0) (by kernel_rfl) rfl

/-! ### More: the register, bit by bit -/
theorem b2i_mod (x : BitVec 8) (k : Nat) : (x.toNat : Int) / 2 ^ k % 2 = b2i (x.getLsbD k) := by
  rw [BitVec.getLsbD, Nat.testBit_eq_decide_div_mod_eq]
  rw [show (x.toNat : Int) / 2 ^ k % 2 = ((x.toNat / 2 ^ k % 2 : Nat) : Int) from by
    rw [Int.natCast_emod, Int.natCast_ediv, Int.natCast_pow]; rfl]
  rcases Nat.mod_two_eq_zero_or_one (x.toNat / 2 ^ k) with e | e <;> rw [e] <;> rfl
def bitAt (x : BitVec 8) (j : Nat) : Int := b2i (x.getLsbD j)
theorem bit_u8 (x : BitVec 8) (j : Nat) : bits .and .u8 ((x.toNat : Int) / 2 ^ j) 1 = bitAt x j := by
  have e1 : (x.toNat : Int) / 2 ^ j = ((x.toNat / 2 ^ j : Nat) : Int) := by rw [Int.natCast_ediv, Int.natCast_pow]; rfl
  have hlt : x.toNat / 2 ^ j < 256 := Nat.lt_of_le_of_lt (Nat.div_le_self _ _) x.isLt
  rw [e1, show (1 : Int) = ((1 : Nat) : Int) from rfl, u8_and_nat _ _ hlt (by omega), Nat.and_one_is_mod, bitAt, ← b2i_mod x j, e1]
  rw [Int.natCast_emod]; rfl
theorem wrap_bitAt (x : BitVec 8) (j : Nat) : wrap64 (bitAt x j) = bitAt x j := by
  unfold bitAt b2i; split <;> (unfold wrap64; omega)
theorem bitsL_take (bs : List (BitVec 8)) (k : Nat) (h : k < bs.length) : bitsL (bs.take k) ++ (List.range 8).map (bitAt bs[k]) = bitsL (bs.take (k + 1)) := by
  rw [take_snoc bs k h, Crc.bitsL_append]; simp [bitsL, bitAt]
theorem range_snoc (x : BitVec 8) (l : List Int) (j : Nat) : (l ++ (List.range j).map (bitAt x)).map intV ++ [Value.int .i64 (bitAt x j)] = (l ++ (List.range (j + 1)).map (bitAt x)).map intV := by
  rw [List.range_succ]; simp [intV]
section
attribute [local go_sem] bit_u8 wrap_bitAt
set_option maxHeartbeats 1000000 in
theorem bits_any (v : Value) (bs : List (BitVec 8)) (w : World) (hv : IsBytes w v bs) (hn : bs.length ≤ 100000) :
    Calls Tryd.prog 36 #[v] w fun e w' => ∃ u, e = .returned u ∧ Own w' w.heap.size 3 u ((bitsL bs).map intV) ∧ Below w.heap.size w w' := by
  rcases hv.open_ with ⟨rfl, a, cap, rfl, hm⟩ | ⟨hp, b, off, cap, rfl, hl, hm, hlt, hc⟩
  · go_enter Tryd.func36, Tryd.ntmps36
    go_wp2
    go_loop [3, 4, 5] (fun l i _ => i = .int .i64 0 ∧ l = .slice none 0 0) (fun _ _ _ => 0)
    case atStart => exact ⟨rfl, rfl⟩
    case round =>
      obtain ⟨rfl, rfl⟩ := hrel
      go_wp2
      go_ret
      exact ⟨_, rfl, Own.nil_ (Nat.le_refl _), Below.refl _ _⟩
  · have HC := Lib.hid hc
    clear hc
    go_enter Tryd.func36, Tryd.ntmps36
    go_wp2
    go_loopw [3, 4, 5] (fun l i _ wr => ∃ k : Nat, k ≤ bs.length ∧ i = .int .i64 k ∧ Own wr w.heap.size 3 l ((bitsL (bs.take k)).map intV) ∧ Below w.heap.size w wr) (fun _ i _ _ => bs.length - (intOf i).toNat)
    case atStart => exact ⟨0, by omega, rfl, Own.nil_ (Nat.le_refl _), Below.refl _ _⟩
    case round =>
      obtain ⟨k, hk, rfl, hown, hbel⟩ := hrel
      by_cases hlt : k < bs.length
      · have hck := HC.out k hlt
        have hck' : wr.cell? ⟨b, off + k, none⟩ = some (.int .u8 (bs[k].toNat : Int)) := (hbel.cell (p := ⟨b, off + k, none⟩) (by assumption)).trans hck
        have HCK := Lib.hid hck
        clear hck hck'
        go_wp2
        obtain ⟨wo, rfl⟩ : ∃ wo : World, wo = wr := ⟨_, rfl⟩
        go_loopw [3, 5] (fun l i wr => ∃ j : Nat, j ≤ 8 ∧ i = .int .i64 j ∧ Own wr w.heap.size 3 l ((bitsL (bs.take k) ++ (List.range j).map (bitAt bs[k])).map intV) ∧ Below w.heap.size w wr) (fun _ i _ => 8 - (intOf i).toNat)
        case atStart => exact ⟨0, by omega, rfl, by simpa using hown, hbel⟩
        case round =>
          obtain ⟨j, hj, rfl, hown2, hbel2⟩ := hrel
          by_cases hj8 : j < 8
          · have hcj : wr.cell? ⟨b, off + k, none⟩ = some (.int .u8 (bs[k].toNat : Int)) := (hbel2.cell (p := ⟨b, off + k, none⟩) (by assumption)).trans HCK.out
            have hll : ((bitsL (bs.take k) ++ (List.range j).map (bitAt bs[k])).map intV).length ≤ 800008 := by
              simp [Crc.bitsL_length]; omega
            have HLL := Lib.hid hll
            clear hll
            go_wp2_with (at_builtin; refine wpl_append rfl _ _ _ rfl elemInt rfl (hown2.alloc _) rfl (Reads.one _ _ _) one_int (by have := HLL.out; simp only [List.length_singleton]; omega) (by have := HLL.out; simp only [List.length_singleton, maxLen]; omega) ?_; intro v' w1 hown3 hg1 hat1)
            go_roundw
            case rel => exact ⟨j + 1, by omega, by go_num, by rw [← range_snoc]; exact hown3, below_grown (hbel2.alloc hbel2.size _) (hown2.alloc _) hg1 (Nat.le_refl _)⟩
            case measure => simp [intOf]; omega
          · obtain rfl : j = 8 := by omega
            go_wp2
            go_roundw
            case rel => exact ⟨k + 1, by omega, by go_num, by rw [← bitsL_take bs k hlt]; exact hown2, hbel2⟩
            case measure => simp [intOf]; omega
      · go_wp2
        go_ret
        refine ⟨_, rfl, ?_, hbel⟩
        rw [List.take_of_length_le (by omega)] at hown
        exact hown
end

/-! ### The division -/
open Crc (powersL flip1 flipsTo leftStep leftTo leftL numTo Bin)
/-- The powers, as the package's variable holds them. -/
def Pow (w : World) : Prop := 1 < w.heap.size ∧ ∀ k (h : k < 14), w.cell? ⟨1, k, none⟩ = some (.int .i64 ((powersL[k]'h : Nat) : Int))
theorem Pow.below {w w' : World} (h : Pow w) (hb : Below w.heap.size w w') : Pow w' :=
  ⟨Nat.lt_of_lt_of_le h.1 hb.size, fun k hk => (hb.cell (p := ⟨_, k, none⟩) h.1).trans (h.2 k hk)⟩
theorem Pow.grown {w w' : World} (h : Pow w) {g : Nat} (hg : w.grownBy w' (some g)) (hne : g ≠ 1) : Pow w' :=
  ⟨Nat.lt_of_lt_of_le h.1 hg.size, fun k hk => (hg.cell_far ⟨_, k, none⟩ h.1 (fun e => hne (by injection e with e; exact e.symm))).trans (h.2 k hk)⟩
theorem map_set_intV (l : List Int) (i : Nat) (x : Int) : (l.map intV).set i (.int .i64 x) = (l.set i x).map intV := by rw [List.map_set]; rfl
theorem flips_next (i : Nat) (l : List Int) (k : Nat) (hk : k < 14) (q : Nat) (hq : i + 32 - powersL[k]'hk = q) (hql : q < l.length) :
    (flipsTo i l k).set q (1 - (flipsTo i l k)[q]'(by rw [Crc.flipsTo_length]; exact hql)) = flipsTo i l (k + 1) := by
  subst hq
  rw [Crc.flipsTo_succ i l k hk, flip1, List.getD_eq_getElem?_getD, List.getElem?_eq_getElem (by rw [Crc.flipsTo_length]; exact hql)]; rfl
set_option maxHeartbeats 2000000 in
theorem left_any (base g cap : Nat) (l : List Int) (w : World) (hl : 32 ≤ l.length) (hb : Bin l) (ho : OwnAt w base 3 g cap (l.map intV)) (hp : Pow w) (hg : 1 < base) :
    Calls Tryd.prog 38 #[.slice (some ⟨g, 0, none⟩) l.length cap] w fun e w' =>
      e = .returned (.slice (some ⟨g, l.length - 32, none⟩) 32 (cap - (l.length - 32))) ∧ OwnAt w' base 3 g cap ((leftTo l (l.length - 32)).map intV) ∧ w.grownBy w' (some g) := by
  obtain ⟨hbg, hgs, hcap, hcap2⟩ := ho.lt
  simp only [List.length_map] at hcap
  have HP := Lib.hid hp
  clear hp
  go_enter Tryd.func38, Tryd.ntmps38
  go_wp2
  go_loopw [3, 4, 5] (fun i _ _ wr => ∃ n : Nat, n + 32 ≤ l.length ∧ i = .int .i64 n ∧ OwnAt wr base 3 g cap ((leftTo l n).map intV) ∧ w.grownBy wr (some g)) (fun i _ _ _ => l.length - (intOf i).toNat)
  case atStart => exact ⟨0, by omega, rfl, ho, World.grownBy.refl w _⟩
  case round =>
    obtain ⟨n, hn, rfl, hon, hgr⟩ := hrel
    by_cases hlt : n + 32 < l.length
    · have hnl : n < ((leftTo l n).map intV).length := by rw [List.length_map, Crc.leftTo_length]; omega
      have hnl' : n < (leftTo l n).length := by rw [Crc.leftTo_length]; omega
      have hcell := hon.cell n hnl
      rw [List.getElem_map] at hcell
      unfold intV at hcell
      have hfr := hon.frozen n
      have hbin : (leftTo l n).getD n 0 = 0 ∨ (leftTo l n).getD n 0 = 1 := (hb.leftTo n).getD n
      have hgd : (leftTo l n).getD n 0 = (leftTo l n)[n] := by rw [List.getD_eq_getElem?_getD, List.getElem?_eq_getElem hnl']; rfl
      have hd : decide ((n : Int) + 32 < (l.length : Int)) = true := by simp; omega
      rcases hbin with h0 | h1
      · have hx : (leftTo l n)[n] = 0 := by rw [← hgd]; exact h0
        rw [hx] at hcell
        have H0 := Lib.hid h0
        clear h0 hx hgd
        go_wp2
        go_roundw
        case rel => exact ⟨n + 1, by omega, by go_num, by rw [leftTo, leftStep, if_pos H0.out]; exact hon, hgr⟩
        case measure => simp [intOf]; omega
      · have hx : (leftTo l n)[n] = 1 := by rw [← hgd]; exact h1
        rw [hx] at hcell
        have H1 := Lib.hid h1
        clear h1 hx hgd
        go_wp2
        obtain ⟨wo, rfl⟩ : ∃ wo : World, wo = wr := ⟨_, rfl⟩
        go_loopw [4, 5] (fun k _ wr => ∃ j : Nat, j ≤ 14 ∧ k = .int .i64 j ∧ OwnAt wr base 3 g cap ((flipsTo n (leftTo l n) j).map intV) ∧ w.grownBy wr (some g)) (fun k _ _ => 14 - (intOf k).toNat)
        case atStart => exact ⟨0, by omega, rfl, by have := hon.set_ n (.int .i64 0); rw [map_set_intV] at this; exact this, grown_set hgr _ _⟩
        case round =>
          obtain ⟨j, hj, rfl, hon2, hgr2⟩ := hrel
          by_cases hj14 : j < 14
          · have hpw : wr.cell? ⟨1, j, none⟩ = some (.int .i64 ((powersL[j]'hj14 : Nat) : Int)) := (HP.out.grown hgr2 (by omega)).2 j hj14
            obtain ⟨p, hp⟩ : ∃ p, p = powersL[j]'hj14 := ⟨_, rfl⟩
            have hp31 : p ≤ 31 := by rw [hp]; exact Crc.powers_le _ (List.getElem_mem _)
            rw [← hp] at hpw
            obtain ⟨q, hq⟩ : ∃ q : Nat, n + 32 - p = q := ⟨_, rfl⟩
            have hq' : (n : Int) + 32 - (p : Int) = (q : Int) := by omega
            have hql : q < (flipsTo n (leftTo l n) j).length := by rw [Crc.flipsTo_length, Crc.leftTo_length]; omega
            have hql2 : q < l.length := by omega
            have hc2 := hon2.cell q (by rw [List.length_map]; exact hql)
            rw [List.getElem_map] at hc2
            unfold intV at hc2
            obtain ⟨x, hx⟩ : ∃ x, x = (flipsTo n (leftTo l n) j)[q] := ⟨_, rfl⟩
            rw [← hx] at hc2
            have hfr2 := hon2.frozen q
            have hx01 : 0 ≤ x ∧ x ≤ 1 := by
              have := ((hb.leftTo n).flipsTo n j) x (by rw [hx]; exact List.getElem_mem _)
              omega
            have hnext : OwnAt (wr.setCell ⟨g, q, none⟩ (.int .i64 (1 - x))) base 3 g cap ((flipsTo n (leftTo l n) (j + 1)).map intV) := by
              have := hon2.set_ q (.int .i64 (1 - x))
              rw [map_set_intV, hx, flips_next n (leftTo l n) j hj14 q (by rw [← hp]; exact hq) (by rw [Crc.leftTo_length]; exact hql2)] at this
              rw [hx]; exact this
            have HX := Lib.hid hx
            have HQ := Lib.hid hq
            have HPE := Lib.hid hp
            have HN := Lib.hid hnext
            clear hx hq hp hnext
            go_wp2
            go_roundw
            case rel => exact ⟨j + 1, by omega, by go_num, HN.out, grown_set hgr2 _ _⟩
            case measure => simp [intOf]; omega
          · obtain rfl : j = 14 := by omega
            go_wp2
            go_roundw
            case rel => exact ⟨n + 1, by omega, by go_num, by rw [leftTo, leftStep, if_neg (by rw [H1.out]; omega)]; exact hon2, hgr2⟩
            case measure => simp [intOf]; omega
    · have hnn : n = l.length - 32 := by omega
      have hd : decide ((n : Int) + 32 < (l.length : Int)) = false := by simp; omega
      have hnl : (n : Int) = (l.length : Int) - 32 := by omega
      have h32 : ¬ cap = l.length - 32 := by omega
      rw [hnn] at hon
      have HN := Lib.hid hnl
      clear hnl hnn
      have k1 : 0 ≤ (l.length : Int) - 32 ∧ (l.length : Int) - 32 ≤ (l.length : Int) := by omega
      go_wp2
      go_ret
      have e : l.length - (l.length - 32) = 32 := by omega
      exact ⟨ret_slice e, hon, hgr⟩

/-! ### 32 coefficients as a number -/
set_option maxHeartbeats 1000000 in
theorem number_any (g off cap : Nat) (l : List Int) (w : World) (hb : Bin l) (hl : l.length = 32) (hc : ∀ i (h : i < l.length), w.cell? ⟨g, off + i, none⟩ = some (.int .i64 l[i])) :
    Calls Tryd.prog 37 #[.slice (some ⟨g, off, none⟩) 32 cap] w fun e w' => e = .returned (.int .u32 (numTo l 0 : Nat)) ∧ ∃ n, w' = w.drewN n := by
  have HC := Lib.hid hc
  have HL := Lib.hid hl
  clear hc hl
  go_enter Tryd.func37, Tryd.ntmps37
  go_wp2
  go_loopw [3, 4] (fun t i wr => ∃ k : Nat, k ≤ 32 ∧ i = .int .i64 ((k : Int) - 1) ∧ t = .int .u32 (numTo l k : Nat) ∧ ∃ d, wr = w.drewN d) (fun _ i _ => (intOf i + 1).toNat)
  case atStart => exact ⟨32, by omega, rfl, rfl, 0, rfl⟩
  case round =>
    obtain ⟨k, hk, rfl, rfl, d, rfl⟩ := hrel
    by_cases h0 : 0 < k
    · obtain ⟨j, rfl⟩ : ∃ j, k = j + 1 := ⟨k - 1, by omega⟩
      have hj : j < l.length := by rw [HL.out]; omega
      have hcj := HC.out j hj
      have hstep := Crc.numTo_step l j (by omega)
      have hlt : numTo l j < 4294967296 := by
        have := Crc.numTo_lt l hb (32 - j) j (by omega)
        exact Nat.lt_of_lt_of_le this (by rw [show (4294967296 : Nat) = 2 ^ 32 from by decide]; exact Nat.pow_le_pow_right (by omega) (by omega))
      have hx : l[j] = 0 ∨ l[j] = 1 := hb _ (List.getElem_mem _)
      have hg : l.getD j 0 = l[j] := by rw [List.getD_eq_getElem?_getD, List.getElem?_eq_getElem hj]; rfl
      rw [hg] at hstep
      have hfin : (2 * (numTo l (j + 1) : Int) % 4294967296 + l[j] % 4294967296) % 4294967296 = (numTo l j : Nat) := by omega
      have HF := Lib.hid hfin
      clear hfin hstep hlt hx hg
      go_wp2
      go_roundw
      case rel => exact ⟨j, by omega, rfl, by rw [HF.out], _, rfl⟩
      case measure => simp [intOf]
    · obtain rfl : k = 0 := by omega
      go_wp2
      go_ret
      exact ⟨rfl, _, rfl⟩
end Go.Proofs.YtfbepdlahaefgaaDoor
