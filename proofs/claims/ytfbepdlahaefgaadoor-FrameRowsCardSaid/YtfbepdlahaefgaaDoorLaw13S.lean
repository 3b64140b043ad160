/- The law FrameSeals, walked. -/
import Derived.Test.YtfbepdlahaefgaaDoorRef13
namespace Go.Proofs.YtfbepdlahaefgaaDoor
open Go.RowKit
open Crc (R sum)
open Frm (le4 byteAt num4 head body frame fault fixed opened bad size)

theorem awake13_at (w : World) (ht : Tab w) :
    Calls Tryd.prog 25 #[] w fun e w' => e = .returned (.bool true) ∧ Hid (Below w.heap.size w w') := awake13_any w ht
theorem refSeal_f (k : Nat) (v : Value) (p : List (BitVec 8)) (w : World) (h2 : k ≤ 255) (hv : IsBytes w v p) (hp : p.length ≤ 65536) :
    Calls Tryd.prog 28 #[.int .i64 k, v] w fun e w' => ∃ a m c, e = .returned (.slice a m c) ∧ Hid (IsBytes w' (.slice a m c) (frame (BitVec.ofNat 8 k) p)) ∧ Hid (Below w.heap.size w w') := by
  have hk : (BitVec.ofNat 8 k).toNat = k := by rw [BitVec.toNat_ofNat, Nat.mod_eq_of_lt (by omega)]
  have := refSeal_any (BitVec.ofNat 8 k) v p w hv hp
  rwa [hk] at this
set_option maxHeartbeats 1000000 in
theorem frameSeals_in (k : Nat) (a : Option Addr) (n cp : Nat) (p : List (BitVec 8)) (w : World) (hu : IsBytes w (.slice a n cp) p) (hn : p.length = n) (k1 : 1 ≤ k) (k2 : k ≤ 255) (hn2 : n ≤ 3000) (ht : Tab w) :
    Calls Tryd.prog 9 #[.int .i64 k, .slice a n cp] w fun e w' => e = .returned (.bool true) ∧ Below w.heap.size w w' := by
  have HU := Lib.hid hu
  have HN := Lib.hid hn
  have HT := Lib.hid ht
  clear hu hn ht
  have g1 : ¬ (k : Int) < 1 := by omega
  have g2 : ¬ (255 : Int) < (k : Int) := by omega
  have g3 : ¬ (3000 : Int) < (n : Int) := by omega
  go_enter Tryd.func9, Tryd.ntmps9
  go_wp2_with (go_at_call 25; refine (awake13_at _ HT.out).mono ?_; rintro e w1 ⟨rfl, HB1⟩)
  refine (seal_f k n _ p w1 k1 k2 (HU.out.below HB1.out) HN.out (by omega) (HT.out.below HB1.out)).mono ?_
  rintro e w2 ⟨b2, o2, c2, rfl, hc2, _, H2, _, HB2⟩
  have bw2 : Hid (Below w.heap.size w w2) := HB1.out.trans (HB2.out.mono HB1.out.size)
  go_wp2_with fail
  refine (refSeal_f k _ p w2 k2 (HU.out.below bw2.out) (by rw [HN.out]; omega)).mono ?_
  rintro e w3 ⟨a3, m3, c3, rfl, H3, HB3⟩
  have bw3 : Hid (Below w.heap.size w w3) := bw2.out.trans (HB3.out.mono bw2.out.size)
  have H2' := Lib.hid (H2.out.below HB3.out)
  go_wp2_with (go_at_call 27; refine (same_any _ _ _ _ _ H2'.out H3.out).mono ?_; rintro e w4 ⟨rfl, d, rfl⟩; rw [decide_eq_true (rfl : frame (BitVec.ofNat 8 k) p = frame (BitVec.ofNat 8 k) p)])
  go_ret
  exact ⟨rfl, below_drewN bw3.out d⟩
theorem frameSeals_bad (k : Int) (a : Option Addr) (n cp : Nat) (w : World) (hk : k < 1 ∨ 255 < k) (hw : -9223372036854775808 ≤ k ∧ k ≤ 9223372036854775807) (hn2 : n ≤ 3000) (ht : Tab w) :
    Calls Tryd.prog 9 #[.int .i64 k, .slice a n cp] w fun e w' => e = .returned (.bool true) ∧ Below w.heap.size w w' := by
  have HT := Lib.hid ht
  have HW := Lib.hid hw
  have HK := Lib.hid hk
  clear ht hw hk
  have g3 : ¬ (3000 : Int) < (n : Int) := by omega
  by_cases g1 : k < 1
  · go_enter Tryd.func9, Tryd.ntmps9
    go_wp2_with (go_at_call 25; refine (awake13_at _ HT.out).mono ?_; rintro e w1 ⟨rfl, HB1⟩)
    refine (seal_kind k _ w1 HK.out HW.out).mono ?_
    rintro e w2 ⟨rfl, rfl⟩
    go_wp2_with fail
    go_ret
    exact ⟨rfl, HB1.out⟩
  · have g2 : 255 < k := by have := HK.out; omega
    go_enter Tryd.func9, Tryd.ntmps9
    go_wp2_with (go_at_call 25; refine (awake13_at _ HT.out).mono ?_; rintro e w1 ⟨rfl, HB1⟩)
    refine (seal_kind k _ w1 HK.out HW.out).mono ?_
    rintro e w2 ⟨rfl, rfl⟩
    go_wp2_with fail
    go_ret
    exact ⟨rfl, HB1.out⟩
theorem frameSeals_long (k : Int) (a : Option Addr) (n cp : Nat) (w : World) (hn2 : 3000 < n) (ht : Tab w) :
    Calls Tryd.prog 9 #[.int .i64 k, .slice a n cp] w fun e w' => e = .returned (.bool true) ∧ Below w.heap.size w w' := by
  have HT := Lib.hid ht
  clear ht
  have g3 : (3000 : Int) < (n : Int) := by omega
  go_enter Tryd.func9, Tryd.ntmps9
  go_wp2_with (go_at_call 25; refine (awake13_at _ HT.out).mono ?_; rintro e w1 ⟨rfl, HB1⟩)
  go_ret
  exact ⟨rfl, HB1.out⟩
theorem frameSeals_law (k : Int) (u : Value) (p : List (BitVec 8)) (w : World) (hw : -9223372036854775808 ≤ k ∧ k ≤ 9223372036854775807) (hu : IsBytes w u p) (ht : Tab w) :
    Calls Tryd.prog 9 #[.int .i64 k, u] w fun e w' => e = .returned (.bool true) ∧ Below w.heap.size w w' := by
  have hu' := hu
  obtain ⟨a, n, cp, rfl, hn, _⟩ := hu'
  by_cases h : 3000 < n
  · exact frameSeals_long k a n cp w h ht
  · by_cases hk : k < 1 ∨ 255 < k
    · exact frameSeals_bad k a n cp w hk hw (by omega) ht
    · obtain ⟨k', rfl⟩ : ∃ k' : Nat, k = (k' : Int) := ⟨k.toNat, by omega⟩
      exact frameSeals_in k' a n cp p w hu hn.symm (by omega) (by omega) (by omega) ht
end Go.Proofs.YtfbepdlahaefgaaDoor
