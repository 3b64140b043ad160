/- The walks of the reference's package regattaref11, second part: Of, Over, More, Join. -/
import Derived.Test.YtfbepdlahaefgaaDoorRefW
namespace Go.Proofs.YtfbepdlahaefgaaDoor
open Go.RowKit
open Crc (R nib shortT up upN byteStep more moreSum sum b2i bitsL)
open Crc (powersL flip1 flipsTo leftStep leftTo leftL numTo Bin turnTo refL overL)

/-! ### Join -/
theorem joinB_any (u v : Value) (xs bs : List (BitVec 8)) (w : World) (hu : IsBytes w u xs) (hv : IsBytes w v bs) (hx : xs.length ≤ 1000000) (hb : bs.length ≤ 1000000) :
    Calls Tryd.prog 24 #[u, v] w fun e w' => ∃ a n c, e = .returned (.slice a n c) ∧ Hid (n = xs.length + bs.length) ∧ Own w' w.heap.size 5 (.slice a n c) ((xs ++ bs).map byteV) ∧ Below w.heap.size w w' := by
  have hlx : (xs.map byteV).length = xs.length := by simp
  have hlb : (bs.map byteV).length = bs.length := by simp
  have HX := Lib.hid hlx
  have HB := Lib.hid hlb
  clear hlx hlb
  go_enter Tryd.func24, Tryd.ntmps24
  go_wp2_with (first
    | (at_builtin
       refine wpl_append rfl (.tmp 6) (.tmp 7) _ rfl elemU8 rfl (Own.nil_ (Nat.le_refl w.heap.size)) rfl hu.reads one_byteV (by rw [HX.out]; simp only [List.length_nil]; omega) (by rw [HX.out]; simp only [List.length_nil, maxLen]; omega) ?_
       intro v1 w1 hown1 hg1 hat1
       have hb1 : Below w.heap.size w w1 := below_grown (Below.refl _ _) (Own.nil_ (e := 5) (Nat.le_refl w.heap.size)) hg1 (Nat.le_refl _))
    | (at_builtin
       refine wpl_append rfl (.tmp 9) (.tmp 10) _ rfl elemU8 rfl hown1 rfl (hv.below hb1).reads one_byteV (by rw [HB.out, List.nil_append, HX.out]; omega) (by rw [HB.out, List.nil_append, HX.out]; simp only [maxLen]; omega) ?_
       intro v2 w2 hown2 hg2 hat2))
  go_ret
  obtain ⟨a, c, rfl, _, _⟩ := hown2.len
  refine ⟨_, _, _, rfl, by simp [Hid], ?_, below_grown hb1 hown1 hg2 (Nat.le_refl _)⟩
  rw [List.map_append]
  exact hown2

/-! ### Of -/
theorem left_cells {w : World} {base g cap : Nat} {l : List Int} (hl : 32 ≤ l.length) (hat : OwnAt w base 3 g cap ((leftTo l (l.length - 32)).map intV)) :
    ∀ i (h : i < (leftL l).length), w.cell? ⟨g, (l.length - 32) + i, none⟩ = some (.int .i64 (leftL l)[i]) := by
  intro i h
  have h32 := Crc.leftL_length l hl
  have := hat.cell ((l.length - 32) + i) (by rw [List.length_map, Crc.leftTo_length]; omega)
  rw [this, List.getElem_map]
  unfold intV
  have e : (leftL l)[i] = (leftTo l (l.length - 32))[(l.length - 32) + i]'(by rw [Crc.leftTo_length]; omega) := List.getElem_drop ..
  rw [e]
def raw (bs : List (BitVec 8)) : R := more (~~~ 0#32) bs
theorem ref_raw (bs : List (BitVec 8)) : numTo (leftL (refL bs)) 0 = (raw bs).toNat := Crc.ref_sum bs
theorem sum_raw (bs : List (BitVec 8)) : ((n32 (raw bs)).toNat : Int) = ((sum bs).toNat : Int) := by
  unfold n32 raw sum moreSum; rfl
theorem left_bin {l : List Int} (hb : Bin l) : Bin (leftL l) := fun x hx => hb.leftTo _ x (List.mem_of_mem_drop hx)
section
attribute [local go_sem] bits_n32 signed_u32
set_option maxHeartbeats 1000000 in
theorem refOf_any (v : Value) (bs : List (BitVec 8)) (w : World) (hv : IsBytes w v bs) (hn : bs.length ≤ 100000) (hp : Pow w) :
    Calls Tryd.prog 19 #[v] w fun e w' => e = .returned (.int .u32 (sum bs).toNat) ∧ Below w.heap.size w w' := by
  have HP := Lib.hid hp
  clear hp
  go_enter Tryd.func19, Tryd.ntmps19
  go_wp2_with (go_at_call 36; refine (bits_any _ _ _ hv hn).mono ?_; rintro e w1 ⟨u, rfl, hown, hbel⟩)
  go_loopw [3, 4] (fun l i wr => ∃ k : Nat, k ≤ 32 ∧ i = .int .i64 k ∧ Own wr w.heap.size 3 l ((bitsL bs ++ List.replicate k 0).map intV) ∧ Below w.heap.size w wr) (fun _ i _ => 32 - (intOf i).toNat)
  case atStart => exact ⟨0, by omega, rfl, by simpa using hown, hbel⟩
  case round =>
    obtain ⟨k, hk, rfl, hown2, hbel2⟩ := hrel
    have hll : ((bitsL bs ++ List.replicate k 0).map intV).length = 8 * bs.length + k := by simp [Crc.bitsL_length]
    have HLL := Lib.hid hll
    clear hll
    by_cases hlt : k < 32
    · have hd : decide ((k : Int) < 32) = true := by simp; omega
      go_wp2_with (at_builtin; refine wpl_append rfl _ _ _ rfl elemInt rfl (hown2.alloc _) rfl (Reads.one _ _ _) one_int (by rw [HLL.out]; simp only [List.length_singleton]; omega) (by rw [HLL.out]; simp only [List.length_singleton, maxLen]; omega) ?_; intro v' w2 hown3 hg1 hat1)
      go_roundw
      case rel =>
        refine ⟨k + 1, by omega, by go_num, ?_, below_grown (hbel2.alloc hbel2.size _) (hown2.alloc _) hg1 (Nat.le_refl _)⟩
        rw [List.replicate_succ', ← List.append_assoc, List.map_append]
        exact hown3
      case measure => simp [intOf]; omega
    · obtain rfl : k = 32 := by omega
      obtain ⟨g, cap, hu, hat⟩ := hown2.at_ (by rw [HLL.out]; omega)
      have hlt := hat.lt
      have hg0 : 1 < w.heap.size := HP.out.1
      rw [HLL.out] at hu hlt
      obtain ⟨hlt1, hlt2, hlt3, hlt4⟩ := hlt
      subst hu
      go_wp2
      obtain ⟨wo, rfl⟩ : ∃ wo : World, wo = wr := ⟨_, rfl⟩
      go_loopw [5] (fun i wr => ∃ k : Nat, k ≤ 32 ∧ i = .int .i64 k ∧ OwnAt wr w.heap.size 3 g cap ((turnTo (bitsL bs ++ List.replicate 32 0) k).map intV) ∧ Below w.heap.size w wr) (fun i _ => 32 - (intOf i).toNat)
      case atStart => exact ⟨0, by omega, rfl, hat, hbel2⟩
      case round =>
        obtain ⟨j, hj, rfl, hat2, hbel3⟩ := hrel
        by_cases hj32 : j < 32
        · have hd : decide ((j : Int) < 32) = true := by simp; omega
          have hjl : j < (turnTo (bitsL bs ++ List.replicate 32 0) j).length := by
            rw [Crc.turnTo_length, List.length_append, List.length_replicate]; omega
          have hc2 := hat2.cell j (by rw [List.length_map]; exact hjl)
          rw [List.getElem_map] at hc2
          unfold intV at hc2
          obtain ⟨x, hx⟩ : ∃ x, x = (turnTo (bitsL bs ++ List.replicate 32 0) j)[j] := ⟨_, rfl⟩
          rw [← hx] at hc2
          have hfr2 := hat2.frozen j
          have hx01 : 0 ≤ x ∧ x ≤ 1 := by
            have := (Crc.turnTo_bin _ (Crc.bin_append (Crc.bitsL_bin bs) (Crc.bin_noughts 32)) j) x (by rw [hx]; exact List.getElem_mem _)
            omega
          have hnext : OwnAt (wr.setCell ⟨g, j, none⟩ (.int .i64 (1 - x))) w.heap.size 3 g cap ((turnTo (bitsL bs ++ List.replicate 32 0) (j + 1)).map intV) := by
            have := hat2.set_ j (.int .i64 (1 - x))
            rw [map_set_intV] at this
            rw [turnTo, List.getD_eq_getElem?_getD, List.getElem?_eq_getElem hjl, Option.getD_some, ← hx]
            exact this
          have HX := Lib.hid hx
          have HN := Lib.hid hnext
          clear hx hnext
          go_wp2
          go_roundw
          case rel => exact ⟨j + 1, by omega, by go_num, HN.out, hbel3.setCell hlt1 _⟩
          case measure => simp [intOf]; omega
        · obtain rfl : j = 32 := by omega
          have hL : (refL bs).length = 8 * bs.length + 32 := Crc.refL_length bs
          have hleft := left_any w.heap.size g cap (refL bs) wr (by rw [hL]; omega) (Crc.refL_bin bs) hat2 (HP.out.below hbel3) hg0
          rw [hL] at hleft
          have H := Lib.hid hleft
          have HLE := Lib.hid hL
          clear hleft hL
          go_wp2_with (go_at_call 38; refine H.out.mono ?_; rintro e w2 ⟨rfl, hat3, hg3⟩)
          have hbel4 : Below w.heap.size w w2 := hbel3.grown hg3 hbel3.size (fun k hk => by injection hk with hk; omega)
          have hat4 : OwnAt w2 w.heap.size 3 g cap ((leftTo (refL bs) ((refL bs).length - 32)).map intV) := by rw [HLE.out]; exact hat3
          have hnum := number_any g ((refL bs).length - 32) (cap - 8 * bs.length) (leftL (refL bs)) w2 (left_bin (Crc.refL_bin bs)) (Crc.leftL_length _ (by rw [HLE.out]; omega)) (left_cells (by rw [HLE.out]; omega) hat4)
          rw [ref_raw, HLE.out, show 8 * bs.length + 32 - 32 = 8 * bs.length from by omega] at hnum
          obtain ⟨rv, hrv⟩ : ∃ rv, rv = raw bs := ⟨_, rfl⟩
          rw [← hrv] at hnum
          have HRV := Lib.hid hrv
          have HNU := Lib.hid hnum
          clear hnum hat4 hat3 hrv
          go_wp2_with (go_at_call 37; refine HNU.out.mono ?_; rintro e w3 ⟨rfl, d, rfl⟩)
          go_ret
          exact ⟨ret_int (by rw [HRV.out, sum_raw]), below_drewN hbel4 _⟩
end

/-! ### Over -/
theorem bit_u32 (x : R) (j : Nat) : bits .and .u32 ((x.toNat : Int) / 2 ^ j) 1 = b2i (x.getLsbD j) := by
  have e1 : (x.toNat : Int) / 2 ^ j = ((x.toNat / 2 ^ j : Nat) : Int) := by rw [Int.natCast_ediv, Int.natCast_pow]; rfl
  have hlt : x.toNat / 2 ^ j < 4294967296 := Nat.lt_of_le_of_lt (Nat.div_le_self _ _) x.isLt
  rw [e1, show (1 : Int) = ((1 : Nat) : Int) from rfl, u32_and_nat _ _ hlt (by omega), Nat.and_one_is_mod]
  rw [BitVec.getLsbD, Nat.testBit_eq_decide_div_mod_eq]
  rcases Nat.mod_two_eq_zero_or_one (x.toNat / 2 ^ j) with e | e <;> rw [e] <;> rfl
def bitA32 (x : R) (j : Nat) : Int := b2i (x.getLsbD j)
theorem bit_a32 (x : R) (j : Nat) : bits .and .u32 ((x.toNat : Int) / 2 ^ j) 1 = bitA32 x j := bit_u32 x j
theorem wrap_bitA32 (x : R) (j : Nat) : wrap64 (bitA32 x j) = bitA32 x j := by
  unfold bitA32 b2i; split <;> (unfold wrap64; omega)
section
attribute [local go_sem] bit_a32 wrap_bitA32
set_option maxHeartbeats 1000000 in
theorem over_any (a : R) (n : Nat) (w : World) (hn : n ≤ 100000) (hp : Pow w) :
    Calls Tryd.prog 23 #[.int .u32 a.toNat, .int .i64 n] w fun e w' => e = .returned (.int .u32 (upN (8 * n) a).toNat) ∧ Below w.heap.size w w' := by
  have HP := Lib.hid hp
  clear hp
  go_enter Tryd.func23, Tryd.ntmps23
  go_wp2
  go_loopw [5, 6] (fun l i wr => ∃ k : Nat, k ≤ 32 ∧ i = .int .i64 k ∧ Own wr w.heap.size 3 l (((List.range k).map (bitA32 a)).map intV) ∧ Below w.heap.size w wr) (fun _ i _ => 32 - (intOf i).toNat)
  case atStart => exact ⟨0, by omega, rfl, Own.nil_ (Nat.le_refl _), Below.refl _ _⟩
  case round =>
    obtain ⟨k, hk, rfl, hown2, hbel2⟩ := hrel
    have hll : (((List.range k).map (bitA32 a)).map intV).length = k := by simp
    have HLL := Lib.hid hll
    clear hll
    by_cases hlt : k < 32
    · have hd : decide ((k : Int) < 32) = true := by simp; omega
      go_wp2_with (at_builtin; refine wpl_append rfl _ _ _ rfl elemInt rfl (hown2.alloc _) rfl (Reads.one _ _ _) one_int (by rw [HLL.out]; simp only [List.length_singleton]; omega) (by rw [HLL.out]; simp only [List.length_singleton, maxLen]; omega) ?_; intro v' w2 hown3 hg1 hat1)
      go_roundw
      case rel =>
        refine ⟨k + 1, by omega, by go_num, ?_, below_grown (hbel2.alloc hbel2.size _) (hown2.alloc _) hg1 (Nat.le_refl _)⟩
        rw [List.range_succ, List.map_append, List.map_append]
        exact hown3
      case measure => simp [intOf]; omega
    · have hk32 : k = 32 := by omega
      have hd : decide ((k : Int) < 32) = false := by simp; omega
      rw [hk32] at hown2
      clear hk32 HLL
      go_wp2
      obtain ⟨wo, rfl⟩ : ∃ wo : World, wo = wr := ⟨_, rfl⟩
      go_loopw [5, 7] (fun l i wr => ∃ k : Nat, k ≤ 8 * n ∧ i = .int .i64 k ∧ Own wr w.heap.size 3 l (((List.range 32).map (bitA32 a) ++ List.replicate k 0).map intV) ∧ Below w.heap.size w wr) (fun _ i _ => 8 * n - (intOf i).toNat)
      case atStart => exact ⟨0, by omega, rfl, by simpa using hown2, hbel2⟩
      case round =>
        obtain ⟨k2, hk2, rfl, hown3, hbel3⟩ := hrel
        have hll : (((List.range 32).map (bitA32 a) ++ List.replicate k2 0).map intV).length = 32 + k2 := by simp
        have HLL := Lib.hid hll
        clear hll
        by_cases hlt : k2 < 8 * n
        · go_wp2_with (at_builtin; refine wpl_append rfl _ _ _ rfl elemInt rfl (hown3.alloc _) rfl (Reads.one _ _ _) one_int (by rw [HLL.out]; simp only [List.length_singleton]; omega) (by rw [HLL.out]; simp only [List.length_singleton, maxLen]; omega) ?_; intro v' w2 hown4 hg1 hat1)
          go_roundw
          case rel =>
            refine ⟨k2 + 1, by omega, by go_num, ?_, below_grown (hbel3.alloc hbel3.size _) (hown3.alloc _) hg1 (Nat.le_refl _)⟩
            rw [List.replicate_succ', ← List.append_assoc, List.map_append]
            exact hown4
          case measure => simp [intOf]; omega
        · obtain rfl : k2 = 8 * n := by omega
          obtain ⟨g, cap, hu, hat⟩ := hown3.at_ (by rw [HLL.out]; omega)
          have hlt := hat.lt
          have hg0 : 1 < w.heap.size := HP.out.1
          rw [HLL.out] at hu hlt
          obtain ⟨hlt1, hlt2, hlt3, hlt4⟩ := hlt
          subst hu
          have hL : (overL a n).length = 32 + 8 * n := Crc.overL_length a n
          have hleft := left_any w.heap.size g cap (overL a n) wr (by rw [hL]; omega) (Crc.overL_bin a n) hat (HP.out.below hbel3) hg0
          rw [hL] at hleft
          have H := Lib.hid hleft
          have HLE := Lib.hid hL
          clear hleft hL
          go_wp2_with (go_at_call 38; refine H.out.mono ?_; rintro e w2 ⟨rfl, hat3, hg3⟩)
          have hbel4 : Below w.heap.size w w2 := hbel3.grown hg3 hbel3.size (fun k hk => by injection hk with hk; omega)
          have hat4 : OwnAt w2 w.heap.size 3 g cap ((leftTo (overL a n) ((overL a n).length - 32)).map intV) := by rw [HLE.out]; exact hat3
          have hnum := number_any g ((overL a n).length - 32) (cap - 8 * n) (leftL (overL a n)) w2 (left_bin (Crc.overL_bin a n)) (Crc.leftL_length _ (by rw [HLE.out]; omega)) (left_cells (by rw [HLE.out]; omega) hat4)
          rw [Crc.ref_over, HLE.out, show 32 + 8 * n - 32 = 8 * n from by omega] at hnum
          have HNU := Lib.hid hnum
          clear hnum hat4 hat3
          go_wp2_with (go_at_call 37; refine HNU.out.mono ?_; rintro e w3 ⟨rfl, d, rfl⟩)
          go_ret
          exact ⟨rfl, below_drewN hbel4 _⟩
end
end Go.Proofs.YtfbepdlahaefgaaDoor
