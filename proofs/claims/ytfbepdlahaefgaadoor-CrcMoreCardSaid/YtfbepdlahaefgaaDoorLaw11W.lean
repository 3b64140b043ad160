/- The walks of the laws CrcMore, CrcJoin, CrcTwo, CrcOf: each returns true. -/
import Derived.Test.YtfbepdlahaefgaaDoorLaw11A
namespace Go.Proofs.YtfbepdlahaefgaaDoor
open Go.RowKit
open Crc (R sum upN moreSum)

set_option maxHeartbeats 1000000 in
theorem crcMore_law (s : R) (v : Value) (bs : List (BitVec 8)) (w : World) (hv : IsBytes w v bs) (ht : Tab w) :
    Calls Tryd.prog 4 #[.int .u32 s.toNat, v] w fun e w' => e = .returned (.bool true) ∧ Below w.heap.size w w' := by
  have HT := Lib.hid ht
  have HV := Lib.hid hv
  have hv' := hv
  obtain ⟨a, len, cap, rfl, rfl, _, _, _⟩ := hv'
  have hlm := hv.length_le
  clear ht hv
  by_cases hlen : 1000 < bs.length
  · go_enter Tryd.func4, Tryd.ntmps4
    go_wp2_with (go_at_call 17; refine (awake11_any _ HT.out).mono ?_; rintro e w1 ⟨rfl, hb1⟩)
    go_ret
    exact ⟨rfl, hb1⟩
  · go_enter Tryd.func4, Tryd.ntmps4
    go_wp2_with (first
      | (go_at_call 17; refine (awake11_any _ HT.out).mono ?_; rintro e w1 ⟨rfl, hb1⟩)
      | (go_at_call 20; refine (more_any _ _ _ _ (HV.out.below hb1) (HT.out.below hb1)).mono ?_; rintro e w2 ⟨rfl, rfl⟩)
      | (go_at_call 21; refine (refMore_any _ _ _ _ (HV.out.below hb1) (by omega)).mono ?_; rintro e w2 ⟨rfl, hb2⟩))
    go_ret
    exact ⟨rfl, hb1.trans (hb2.mono hb1.size)⟩
end Go.Proofs.YtfbepdlahaefgaaDoor
