/- The walks of the laws CrcTwo and CrcOf: each returns true. -/
import Derived.Test.YtfbepdlahaefgaaDoorLaw11W
namespace Go.Proofs.YtfbepdlahaefgaaDoor
open Go.RowKit
open Crc (R sum upN moreSum)

theorem sum_two (xs bs : List (BitVec 8)) (n : Nat) (h : bs.length = n) : x32 (upN (8 * n) (sum xs)) (sum bs) = sum (xs ++ bs) := by
  subst h; exact (Crc.sum_append xs bs).symm
theorem sum_more (xs bs : List (BitVec 8)) : moreSum (sum xs) bs = sum (xs ++ bs) := (Crc.moreSum_append 0#32 xs bs).symm
theorem of_two (v : Value) (xs bs : List (BitVec 8)) (w : World) (hv : IsParts w v [xs, bs]) (ht : Tab w) :
    Calls Tryd.prog 18 #[v] w fun e w' => e = .returned (.int .u32 (sum (xs ++ bs)).toNat) ∧ w = w' := by
  have := of_any v [xs, bs] w hv ht
  rw [List.flatten_cons, List.flatten_cons, List.flatten_nil, List.append_nil] at this
  exact this
set_option maxRecDepth 4000 in
set_option maxHeartbeats 1000000 in
theorem crcTwo_in (a a2 : Option Addr) (n m cap cap2 : Nat) (xs bs : List (BitVec 8)) (w : World) (hu : IsBytes w (.slice a n cap) xs) (hv : IsBytes w (.slice a2 m cap2) bs) (hxl : xs.length ≤ 2000) (hbl : bs.length ≤ 2000) (ha : n ≤ 2000) (hb : m ≤ 2000) (hm : bs.length = m) (ht : Tab w) :
    Calls Tryd.prog 6 #[.slice a n cap, .slice a2 m cap2] w fun e w' => e = .returned (.bool true) ∧ Below w.heap.size w w' := by
  have HT := Lib.hid ht
  have HV := Lib.hid hv
  have HU := Lib.hid hu
  have HM := Lib.hid hm
  obtain ⟨S, hS⟩ : ∃ S, S = sum (xs ++ bs) := ⟨_, rfl⟩
  have HS := Lib.hid hS
  clear ht hv hu hm hS
  have k1 : ¬ (2000 : Int) < (n : Int) := by omega
  have k2 : ¬ (2000 : Int) < (m : Int) := by omega
  go_enter Tryd.func6, Tryd.ntmps6
  go_wp2_with (first
    | (go_at_call 17; refine (awake11_any _ HT.out).mono ?_; rintro e w1 ⟨rfl, hb1⟩)
    | (go_at_call 24; refine (joinB_any _ _ _ _ _ (HU.out.below hb1) (HV.out.below hb1) (by omega) (by omega)).mono ?_; rintro e w2 ⟨ra, rn, rc, rfl, hrn, hown, hbj⟩))
  have hb2 : Below w.heap.size w w2 := hb1.trans (hbj.mono hb1.size)
  have HR := Lib.hid hown.reads.bytes
  have HU2 := Lib.hid (HU.out.below hb2)
  have HV2 := Lib.hid (HV.out.below hb2)
  have HT2 := Lib.hid (HT.out.below hb2)
  clear hown HU HV HT hbj hb1
  have oS : ∀ (v : Value) (w : World), IsParts w v [xs ++ bs] → Tab w → Calls Tryd.prog 18 #[v] w fun e w' => e = .returned (.int .u32 S.toNat) ∧ w = w' := by rw [HS.out]; exact fun v w => of_one v _ w
  have oS2 : ∀ (v : Value) (w : World), IsParts w v [xs, bs] → Tab w → Calls Tryd.prog 18 #[v] w fun e w' => e = .returned (.int .u32 S.toNat) ∧ w = w' := by rw [HS.out]; exact fun v w => of_two v _ _ w
  have oJ : ∀ (w : World), Tab w → Calls Tryd.prog 22 #[.int .u32 (sum xs).toNat, .int .u32 (sum bs).toNat, .int .i64 m] w fun e w' => e = .returned (.tuple #[.int .u32 S.toNat, .int .i64 0]) ∧ w = w' := by
    intro w ht
    have := join_any (sum xs) (sum bs) m w (by omega) ht
    rw [sum_two xs bs m HM.out, ← HS.out] at this
    exact this
  have oM : ∀ (v : Value) (w : World), IsBytes w v bs → Tab w → Calls Tryd.prog 20 #[.int .u32 (sum xs).toNat, v] w fun e w' => e = .returned (.int .u32 S.toNat) ∧ w = w' := by
    intro v w hv ht
    have := more_any (sum xs) v bs w hv ht
    rw [sum_more, ← HS.out] at this
    exact this
  have O1 := Lib.hid oS
  have O2 := Lib.hid oS2
  have O3 := Lib.hid oJ
  have O4 := Lib.hid oM
  clear oS oS2 oJ oM
  go_wp2_with fail
  refine (O1.out _ _ (IsParts.one rfl _ _ _ HR.out) (HT2.out.alloc _)).mono ?_
  rintro e w3 ⟨rfl, rfl⟩
  go_wp2_with fail
  refine (of_one _ xs _ (IsParts.one (by simp) _ _ _ (HU2.out.alloc _)) ((HT2.out.alloc _).alloc _)).mono ?_
  rintro e w3 ⟨rfl, rfl⟩
  go_wp2_with fail
  refine (of_one _ bs _ (IsParts.one (by simp) _ _ _ ((HV2.out.alloc _).alloc _)) (((HT2.out.alloc _).alloc _).alloc _)).mono ?_
  rintro e w3 ⟨rfl, rfl⟩
  go_wp2_with fail
  refine (O3.out _ (((HT2.out.alloc _).alloc _).alloc _)).mono ?_
  rintro e w3 ⟨rfl, rfl⟩
  go_wp2_with fail
  refine (of_one _ xs _ (IsParts.one (by simp) _ _ _ (((HU2.out.alloc _).alloc _).alloc _)) ((((HT2.out.alloc _).alloc _).alloc _).alloc _)).mono ?_
  rintro e w3 ⟨rfl, rfl⟩
  go_wp2_with fail
  refine (O4.out _ _ ((((HV2.out.alloc _).alloc _).alloc _).alloc _) ((((HT2.out.alloc _).alloc _).alloc _).alloc _)).mono ?_
  rintro e w3 ⟨rfl, rfl⟩
  go_wp2_with fail
  refine (O2.out _ _ (IsParts.two (by simp) _ _ _ _ _ ((((HU2.out.alloc _).alloc _).alloc _).alloc _) ((((HV2.out.alloc _).alloc _).alloc _).alloc _)) (((((HT2.out.alloc _).alloc _).alloc _).alloc _).alloc _)).mono ?_
  rintro e w3 ⟨rfl, rfl⟩
  go_wp2
  go_ret
  refine ⟨rfl, ?_⟩
  have hsz := hb2.size
  repeat (first | exact hb2 | refine Below.alloc ?_ (by first | omega | (simp <;> omega)) _)
set_option maxHeartbeats 1000000 in
theorem crcTwo_long (a a2 : Option Addr) (n m cap cap2 : Nat) (w : World) (h : 2000 < n ∨ 2000 < m) (hn : n ≤ 9223372036854775807) (hm : m ≤ 9223372036854775807) (ht : Tab w) :
    Calls Tryd.prog 6 #[.slice a n cap, .slice a2 m cap2] w fun e w' => e = .returned (.bool true) ∧ Below w.heap.size w w' := by
  have HT := Lib.hid ht
  clear ht
  by_cases h0 : 2000 < n
  · go_enter Tryd.func6, Tryd.ntmps6
    go_wp2_with (go_at_call 17; refine (awake11_any _ HT.out).mono ?_; rintro e w1 ⟨rfl, hb1⟩)
    go_ret
    exact ⟨rfl, hb1⟩
  · have h1 : 2000 < m := by omega
    go_enter Tryd.func6, Tryd.ntmps6
    go_wp2_with (go_at_call 17; refine (awake11_any _ HT.out).mono ?_; rintro e w1 ⟨rfl, hb1⟩)
    go_ret
    exact ⟨rfl, hb1⟩
theorem crcTwo_law (u v : Value) (xs bs : List (BitVec 8)) (w : World) (hu : IsBytes w u xs) (hv : IsBytes w v bs) (ht : Tab w) :
    Calls Tryd.prog 6 #[u, v] w fun e w' => e = .returned (.bool true) ∧ Below w.heap.size w w' := by
  have hu' := hu
  have hv' := hv
  obtain ⟨a, n, cap, rfl, h1, _⟩ := hu'
  obtain ⟨a2, m, cap2, rfl, h2, _⟩ := hv'
  have := hu.length_le
  have := hv.length_le
  by_cases h : 2000 < n ∨ 2000 < m
  · exact crcTwo_long a a2 n m cap cap2 w h (by omega) (by omega) ht
  · exact crcTwo_in a a2 n m cap cap2 xs bs w hu hv (by omega) (by omega) (by omega) (by omega) h2.symm ht

/-! ### CrcOf -/
set_option maxRecDepth 4000 in
set_option maxHeartbeats 1000000 in
theorem crcOf_law (v : Value) (ps : List (List (BitVec 8))) (w : World) (hv : IsParts w v ps) (ht : Tab w) (hp : Pow w) :
    Calls Tryd.prog 3 #[v] w fun e w' => e = .returned (.bool true) ∧ Below w.heap.size w w' := by
  have HT := Lib.hid ht
  have HP := Lib.hid hp
  have HV := Lib.hid hv
  clear ht hp hv
  rcases HV.out.open_ with ⟨rfl, a, cap, rfl, hm⟩ | ⟨hp, b, off, us, cap, rfl, hl, hm, hlt, hul, hc, hb⟩
  · go_enter Tryd.func3, Tryd.ntmps3
    go_wp2_with (go_at_call 17; refine (awake11_any _ HT.out).mono ?_; rintro e w1 ⟨rfl, hb1⟩)
    go_loop [3, 5, 13] (fun l _ i => i = .int .i64 0 ∧ l = .slice none 0 0) (fun _ _ _ => 0)
    case atStart => exact ⟨rfl, rfl⟩
    case round =>
      obtain ⟨rfl, rfl⟩ := hrel
      have hs : ∀ w : World, IsBytes w (.slice none 0 0) [] := fun w => ⟨none, 0, 0, rfl, rfl, Nat.le_refl _, Nat.zero_le _, .inl rfl⟩
      go_wp2_with (first
        | (go_at_call 18; refine (of_any _ [] _ (HV.out.below hb1) (HT.out.below hb1)).mono ?_; rintro e w2 ⟨rfl, rfl⟩)
        | (go_at_call 19; refine (refOf_any _ [] _ (hs _) (by simp) (HP.out.below hb1)).mono ?_; rintro e w2 ⟨rfl, hb2⟩))
      go_ret
      exact ⟨rfl, hb1.trans (hb2.mono hb1.size)⟩
  · by_cases hn : 20 < ps.length
    · unfold maxLen at hm
      clear hb hc
      go_enter Tryd.func3, Tryd.ntmps3
      go_wp2_with (go_at_call 17; refine (awake11_any _ HT.out).mono ?_; rintro e w1 ⟨rfl, hb1⟩)
      go_ret
      exact ⟨rfl, hb1⟩
    · have HB := Lib.hid hb
      have HC := Lib.hid hc
      have HU := Lib.hid hul
      clear hb hc hul
      go_enter Tryd.func3, Tryd.ntmps3
      go_wp2_with (go_at_call 17; refine (awake11_any _ HT.out).mono ?_; rintro e w1 ⟨rfl, hb1⟩)
      go_loopw [3, 5, 13] (fun l _ i wr => ∃ k : Nat, k ≤ ps.length ∧ i = .int .i64 k ∧ Own wr w.heap.size 5 l ((ps.take k).flatten.map byteV) ∧ (ps.take k).flatten.length ≤ 300 * k ∧ Below w.heap.size w wr) (fun _ _ i _ => ps.length - (intOf i).toNat)
      case atStart => exact ⟨0, by omega, rfl, Own.nil_ hb1.size, by simp, hb1⟩
      case round =>
        obtain ⟨k, hk, rfl, hown, hfl, hbel⟩ := hrel
        by_cases hkl : k < ps.length
        · have hku : k < us.length := by rw [HU.out]; exact hkl
          have hck := (hbel.cell (p := ⟨b, off + k, none⟩) hlt).trans (HC.out k hku)
          have hbk := (HB.out k hku hkl).below hbel
          have hbk' := hbk
          obtain ⟨ak, nk, ck, hus, hnk, _⟩ := hbk'
          rw [hus] at hck hbk
          have hnk2 : nk ≤ 9223372036854775807 := by rw [hnk]; exact hbk.length_le
          have HNK := Lib.hid hnk
          have HBK := Lib.hid hbk
          clear hnk hus hbk
          have hd : decide ((k : Int) < (ps.length : Int)) = true := by simp; omega
          by_cases h300 : 300 < nk
          · go_wp2
            go_ret
            exact ⟨rfl, hbel⟩
          · have HLE : Hid (((ps.take k).flatten.map byteV).length ≤ 6000) := by unfold Hid; rw [List.length_map]; omega
            have HLB : Hid ((ps[k].map byteV).length ≤ 300) := by unfold Hid; rw [List.length_map, ← HNK.out]; omega
            have hfin : (ps.take (k + 1)).flatten.length ≤ 300 * (k + 1) := by
              rw [take_snoc ps k hkl, List.flatten_append, List.length_append]
              have := HNK.out
              simp only [List.flatten_cons, List.flatten_nil, List.append_nil]; omega
            have HF := Lib.hid hfin
            clear hfin
            go_wp2_with (at_builtin; refine wpl_append rfl _ _ _ rfl elemU8 rfl hown rfl HBK.out.reads one_byteV (by have h1 := HLE.out; have h2 := HLB.out; omega) (by have h1 := HLE.out; have h2 := HLB.out; unfold maxLen; omega) ?_; intro v' w2 hown2 hg1 hat1)
            go_roundw
            case rel =>
              refine ⟨k + 1, by omega, by go_num, ?_, HF.out, below_grown hbel hown hg1 (Nat.le_refl _)⟩
              rw [take_snoc ps k hkl, List.flatten_append, List.map_append]
              simpa using hown2
            case measure => simp [intOf]; omega
        · have hkk : k = ps.length := by omega
          have hd : decide ((k : Int) < (ps.length : Int)) = false := by simp; omega
          have HFL : Hid ((ps.take k).flatten.length ≤ 6000) := by unfold Hid; omega
          have hown' : IsBytes wr u3 ps.flatten := by
            have := hown.reads.bytes
            rw [List.take_of_length_le (by omega)] at this
            exact this
          have HO := Lib.hid hown'
          have HFL2 : Hid (ps.flatten.length ≤ 100000) := by
            have := HFL.out
            rw [List.take_of_length_le (by omega)] at this
            unfold Hid; omega
          have HK := Lib.hid hkk
          have oR := refOf_any u3 ps.flatten wr HO.out HFL2.out (HP.out.below hbel)
          have oO := of_any _ ps wr (HV.out.below hbel) (HT.out.below hbel)
          have OR := Lib.hid oR
          have OO := Lib.hid oO
          clear hkk hown' oR oO
          go_wp2_with fail
          refine OO.out.mono ?_
          rintro e w2 ⟨rfl, rfl⟩
          go_wp2_with fail
          refine OR.out.mono ?_
          rintro e w3 ⟨rfl, hb3⟩
          go_wp2
          go_ret
          exact ⟨rfl, hbel.trans (hb3.mono hbel.size)⟩
end Go.Proofs.YtfbepdlahaefgaaDoor
