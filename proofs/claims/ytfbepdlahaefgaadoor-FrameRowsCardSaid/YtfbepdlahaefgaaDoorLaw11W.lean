/- The walks of the laws CrcMore, CrcJoin, CrcTwo, CrcOf: each returns true. -/
import Derived.Test.YtfbepdlahaefgaaDoorLaw11A
namespace Go.Proofs.YtfbepdlahaefgaaDoor
open Go.RowKit
open Crc (R sum upN moreSum)

set_option maxHeartbeats 1000000 in
theorem crcMore_law (s : R) (v : Value) (bs : List (BitVec 8)) (w : World) (hv : IsBytes w v bs) (ht : Tab w) :
    Calls Tryd.prog 4 #[.int .u32 s.toNat, v] w fun e w' => e = .returned (.bool true) ∧ Below w.heap.size w w' := by
  have HT := Lib.hid ht
  have HV := Lib.hid hv
  have hv' := hv
  obtain ⟨a, len, cap, rfl, rfl, _, _, _⟩ := hv'
  have hlm := hv.length_le
  clear ht hv
  by_cases hlen : 1000 < bs.length
  · go_enter Tryd.func4, Tryd.ntmps4
    go_wp2_with (go_at_call 17; refine (awake11_any _ HT.out).mono ?_; rintro e w1 ⟨rfl, hb1⟩)
    go_ret
    exact ⟨rfl, hb1⟩
  · go_enter Tryd.func4, Tryd.ntmps4
    go_wp2_with (first
      | (go_at_call 17; refine (awake11_any _ HT.out).mono ?_; rintro e w1 ⟨rfl, hb1⟩)
      | (go_at_call 20; refine (more_any _ _ _ _ (HV.out.below hb1) (HT.out.below hb1)).mono ?_; rintro e w2 ⟨rfl, rfl⟩)
      | (go_at_call 21; refine (refMore_any _ _ _ _ (HV.out.below hb1) (by omega)).mono ?_; rintro e w2 ⟨rfl, hb2⟩))
    go_ret
    exact ⟨rfl, hb1.trans (hb2.mono hb1.size)⟩

/-! ### CrcJoin -/
section
attribute [local go_sem] bits_x32
set_option maxRecDepth 4000 in
set_option maxHeartbeats 1000000 in
theorem crcJoin_in (a b : R) (n : Nat) (w : World) (hn : n ≤ 300) (ht : Tab w) (hp : Pow w) :
    Calls Tryd.prog 5 #[.int .u32 a.toNat, .int .u32 b.toNat, .int .i64 n] w fun e w' => e = .returned (.bool true) ∧ Below w.heap.size w w' := by
  have HT := Lib.hid ht
  have HP := Lib.hid hp
  clear ht hp
  have h1 : ¬ (300 : Int) < (n : Int) := by omega
  have h2 : ¬ (n : Int) < 0 := by omega
  go_enter Tryd.func5, Tryd.ntmps5
  go_wp2_with (first
    | (go_at_call 17; refine (awake11_any _ HT.out).mono ?_; rintro e w1 ⟨rfl, hb1⟩)
    | (go_at_call 22; refine (join_any _ _ _ _ (by omega) (HT.out.below hb1)).mono ?_; rintro e w2 ⟨rfl, rfl⟩)
    | (go_at_call 23; refine (over_any _ _ _ (by omega) (HP.out.below hb1)).mono ?_; rintro e w2 ⟨rfl, hb2⟩))
  go_ret
  exact ⟨rfl, hb1.trans (hb2.mono hb1.size)⟩
end
set_option maxRecDepth 4000 in
set_option maxHeartbeats 1000000 in
theorem crcJoin_mid (a b : R) (n : Int) (w : World) (h1 : 300 < n) (h2 : n < 2147483648) (ht : Tab w) :
    Calls Tryd.prog 5 #[.int .u32 a.toNat, .int .u32 b.toNat, .int .i64 n] w fun e w' => e = .returned (.bool true) ∧ Below w.heap.size w w' := by
  have HT := Lib.hid ht
  clear ht
  go_enter Tryd.func5, Tryd.ntmps5
  go_wp2_with (go_at_call 17; refine (awake11_any _ HT.out).mono ?_; rintro e w1 ⟨rfl, hb1⟩)
  go_ret
  exact ⟨rfl, hb1⟩
set_option maxRecDepth 4000 in
set_option maxHeartbeats 1000000 in
theorem crcJoin_low (a b : R) (n : Int) (w : World) (h1 : n < 0) (hw : -9223372036854775808 ≤ n) (ht : Tab w) :
    Calls Tryd.prog 5 #[.int .u32 a.toNat, .int .u32 b.toNat, .int .i64 n] w fun e w' => e = .returned (.bool true) ∧ Below w.heap.size w w' := by
  have HT := Lib.hid ht
  have HW := Lib.hid hw
  clear ht hw
  go_enter Tryd.func5, Tryd.ntmps5
  go_wp2_with (first
    | (go_at_call 17; refine (awake11_any _ HT.out).mono ?_; rintro e w1 ⟨rfl, hb1⟩)
    | (go_at_call 22; refine (join_out _ _ _ _ (.inl h1) ⟨HW.out, by omega⟩).mono ?_; rintro e w2 ⟨rfl, rfl⟩))
  go_ret
  exact ⟨rfl, hb1⟩
set_option maxRecDepth 4000 in
set_option maxHeartbeats 1000000 in
theorem crcJoin_high (a b : R) (n : Int) (w : World) (h1 : 2147483648 ≤ n) (hw : n ≤ 9223372036854775807) (ht : Tab w) :
    Calls Tryd.prog 5 #[.int .u32 a.toNat, .int .u32 b.toNat, .int .i64 n] w fun e w' => e = .returned (.bool true) ∧ Below w.heap.size w w' := by
  have HT := Lib.hid ht
  have HW := Lib.hid hw
  have HH := Lib.hid h1
  clear ht hw
  go_enter Tryd.func5, Tryd.ntmps5
  go_wp2_with (first
    | (go_at_call 17; refine (awake11_any _ HT.out).mono ?_; rintro e w1 ⟨rfl, hb1⟩)
    | (go_at_call 22; refine (join_out _ _ _ _ (.inr (by have := HH.out; omega)) ⟨by have := HH.out; omega, HW.out⟩).mono ?_; rintro e w2 ⟨rfl, rfl⟩))
  go_ret
  exact ⟨rfl, hb1⟩
theorem crcJoin_law (a b : R) (n : Int) (w : World) (hw : -9223372036854775808 ≤ n ∧ n ≤ 9223372036854775807) (ht : Tab w) (hp : Pow w) :
    Calls Tryd.prog 5 #[.int .u32 a.toNat, .int .u32 b.toNat, .int .i64 n] w fun e w' => e = .returned (.bool true) ∧ Below w.heap.size w w' := by
  by_cases h0 : n < 0
  · exact crcJoin_low a b n w h0 hw.1 ht
  · by_cases h1 : n ≤ 300
    · obtain ⟨m, rfl⟩ := Int.eq_ofNat_of_zero_le (by omega : 0 ≤ n)
      exact crcJoin_in a b m w (by omega) ht hp
    · by_cases h2 : n < 2147483648
      · exact crcJoin_mid a b n w (by omega) h2 ht
      · exact crcJoin_high a b n w (by omega) hw.2 ht

end Go.Proofs.YtfbepdlahaefgaaDoor
