/- The law FrameLimits, walked. -/
import Derived.Test.YtfbepdlahaefgaaDoorLaw13S
import Derived.Test.YtfbepdlahaefgaaDoorLaw11L
namespace Go.Proofs.YtfbepdlahaefgaaDoor
open Go.RowKit
open Crc (R sum)
open Frm (le4 byteAt num4 head body frame fault fixed opened bad size)

theorem made_bytes {w : World} {k n : Nat} (hk : w.heap.size = k) (hn : n ≤ maxLen) : IsBytes (w.alloc (.cells (madeCells #[.int .u8 0] n) 5)) (.slice (some ⟨k, 0, none⟩) n n) (List.replicate n 0#8) := by
  have h := (made_own (e := 5) hk hn (.int .u8 0)).1.reads
  have e : List.replicate n (Value.int .u8 0) = (List.replicate n 0#8).map byteV := by rw [List.map_replicate]; rfl
  rw [e, List.length_map, List.length_replicate] at h
  exact h.bytes
theorem open_fn (k n : Nat) (v : Value) (p : List (BitVec 8)) (w : World) (hv : IsBytes w v (frame (BitVec.ofNat 8 k) p)) (h1 : 1 ≤ k) (h2 : k ≤ 255) (hn : p.length = n) (hp : n ≤ 65536) (ht : Tab w) :
    Calls Tryd.prog 29 #[v] w fun e w' => ∃ a c, e = .returned (.tuple #[.agg #[.int .i64 k, .slice a n c], .int .i64 ((n + 12 : Nat) : Int), .int .i64 0]) ∧ Hid (Below w.heap.size w w') := by
  refine (open_f k n v p [] w (by rw [List.append_nil]; exact hv) h1 h2 hn hp ht).mono ?_
  rintro e w' ⟨a, m, c, rfl, _, hm, hb⟩
  have := hm.out
  subst this
  exact ⟨a, c, rfl, hb⟩
set_option maxRecDepth 4000 in
set_option maxHeartbeats 1000000 in
theorem frameLimits_in (n : Nat) (w : World) (h1 : 65534 ≤ n) (h2 : n ≤ 65536) (ht : Tab w) :
    Calls Tryd.prog 11 #[.int .i64 n] w fun e w' => e = .returned (.bool true) ∧ Below w.heap.size w w' := by
  have HT := Lib.hid ht
  clear ht
  have g1 : decide ((n : Int) < 65534) = false := decide_eq_false (by omega)
  have g2 : decide ((65538 : Int) < n) = false := decide_eq_false (by omega)
  have g3 : ¬ (65536 : Int) < n := by omega
  have hmk := run_make_row' (P := Tryd.prog) 24 5 (.int .u8 0) 1 Tryd.underlying24 info8 rfl .i64 .i64 n (by omega) (by omega)
  have hrl : (List.replicate n 0#8).length = n := List.length_replicate
  go_enter Tryd.func11, Tryd.ntmps11
  go_wp2_with (go_at_call 25; refine (awake13_at _ HT.out).mono ?_; rintro e w1 ⟨rfl, HB1⟩)
  refine (seal_f 7 n _ (List.replicate n 0#8) _ (by decide) (by decide) (made_bytes rfl (by unfold maxLen; omega)) hrl h2 ((HT.out.below HB1.out).alloc _)).mono ?_
  rintro e w2 ⟨b2, o2, c2, rfl, hc2, _, H2, _, HB2⟩
  have bw2 : Hid (Below w.heap.size w w2) := HB1.out.trans ((below_box HB2).mono HB1.out.size)
  have HL1 := Lib.hid h1
  have HL2 := Lib.hid h2
  clear g1 g2 h1 h2 hmk
  go_wp2_with fail
  refine (open_fn 7 n _ (List.replicate n 0#8) w2 H2.out (by decide) (by decide) hrl HL2.out (HT.out.below bw2.out)).mono ?_
  rintro e w3 ⟨a3, c3, rfl, HB3⟩
  have bw3 : Hid (Below w.heap.size w w3) := bw2.out.trans (HB3.out.mono bw2.out.size)
  go_wp2_with fail
  go_ret
  exact ⟨rfl, bw3.out.alloc bw3.out.size _⟩
theorem frameLimits_out (n : Int) (w : World) (h : n < 65534 ∨ 65538 < n) (ht : Tab w) :
    Calls Tryd.prog 11 #[.int .i64 n] w fun e w' => e = .returned (.bool true) ∧ Below w.heap.size w w' := by
  have HT := Lib.hid ht
  clear ht
  by_cases h1 : n < 65534
  · have g1 : decide (n < 65534) = true := decide_eq_true h1
    clear h h1
    go_enter Tryd.func11, Tryd.ntmps11
    go_wp2_with (go_at_call 25; refine (awake13_at _ HT.out).mono ?_; rintro e w1 ⟨rfl, HB1⟩)
    go_ret
    exact ⟨rfl, HB1.out⟩
  · have g1 : decide (n < 65534) = false := decide_eq_false h1
    have g2 : decide (65538 < n) = true := decide_eq_true (by omega)
    clear h h1
    go_enter Tryd.func11, Tryd.ntmps11
    go_wp2_with (go_at_call 25; refine (awake13_at _ HT.out).mono ?_; rintro e w1 ⟨rfl, HB1⟩)
    go_ret
    exact ⟨rfl, HB1.out⟩
theorem opened_over (kind : BitVec 8) (n : R) (hk : kind ≠ 0#8) (hn : 65536 < n.toNat) : opened (head kind n) = ⟨0, [], 0, 134⟩ := by
  have h1 := Frm.fixed_head kind n [] hk
  have h2 := Frm.size_head kind n []
  rw [List.append_nil] at h1 h2
  unfold opened
  rw [h1, h2, if_neg (by decide), if_neg (by rw [Frm.head_length]; omega), if_pos hn]
  rfl
theorem open_over (n k : Nat) (w : World) (hw : w.heap.size = k) (h1 : 65537 ≤ n) (h2 : n ≤ 65538) (ht : Tab w) :
    Calls Tryd.prog 29 #[.slice (some ⟨k, 0, none⟩) 8 8] (w.alloc (.cells #[.int .u8 82, .int .u8 71, .int .u8 1, .int .u8 7, .int .u8 ((n : Int) % 256), .int .u8 ((n : Int) / 256 % 256), .int .u8 ((n : Int) / 65536 % 256), .int .u8 0] 5)) fun e w' => ∃ a m c, e = .returned (.tuple #[.agg #[.int .i64 0, .slice a m c], .int .i64 0, .int .i64 134]) ∧ Hid (Below w.heap.size w w') := by
  have hN : (BitVec.ofNat 32 n).toNat = n := by rw [BitVec.toNat_ofNat, Nat.mod_eq_of_lt (by omega)]
  have e0 : (n : Int) % 256 = ((byteAt (BitVec.ofNat 32 n) 0).toNat : Int) := by rw [← u8_of n 0 1 rfl (by omega)]; simp
  have e1 : (n : Int) / 256 % 256 = ((byteAt (BitVec.ofNat 32 n) 1).toNat : Int) := u8_of n 1 256 rfl (by omega)
  have e2 : (n : Int) / 65536 % 256 = ((byteAt (BitVec.ofNat 32 n) 2).toNat : Int) := u8_of n 2 65536 rfl (by omega)
  have e3 : (0 : Int) = ((byteAt (BitVec.ofNat 32 n) 3).toNat : Int) := by rw [← u8_of n 3 16777216 rfl (by omega)]; omega
  have hb : IsBytes (w.alloc (.cells #[.int .u8 82, .int .u8 71, .int .u8 1, .int .u8 7, .int .u8 ((n : Int) % 256), .int .u8 ((n : Int) / 256 % 256), .int .u8 ((n : Int) / 65536 % 256), .int .u8 0] 5)) (.slice (some ⟨k, 0, none⟩) 8 8) (head 7#8 (BitVec.ofNat 32 n)) := by
    refine IsBytes.new hw _ _ (0, 0) (head 7#8 (BitVec.ofNat 32 n)) 8 rfl (by omega) ?_
    rw [e0, e1, e2, e3]
    rfl
  refine (open_is _ _ 0 [] 0 134 _ hb (ht.alloc _) (opened_over _ _ (by decide) (by rw [hN]; omega))).mono ?_
  rintro e w' ⟨a, m, c, rfl, _, hbel⟩
  exact ⟨a, m, c, rfl, ((Below.refl _ _).alloc (Nat.le_refl _) _).trans (hbel.mono (by simp))⟩
set_option maxRecDepth 4000 in
set_option maxHeartbeats 1000000 in
theorem frameLimits_over (n : Nat) (w : World) (h1 : 65537 ≤ n) (h2 : n ≤ 65538) (ht : Tab w) :
    Calls Tryd.prog 11 #[.int .i64 n] w fun e w' => e = .returned (.bool true) ∧ Below w.heap.size w w' := by
  have HT := Lib.hid ht
  clear ht
  have g1 : decide ((n : Int) < 65534) = false := decide_eq_false (by omega)
  have g2 : decide ((65538 : Int) < n) = false := decide_eq_false (by omega)
  have g3 : decide ((65536 : Int) < n) = true := decide_eq_true (by omega)
  have hmk := run_make_row' (P := Tryd.prog) 24 5 (.int .u8 0) 1 Tryd.underlying24 info8 rfl .i64 .i64 n (by omega) (by omega)
  have HL1 := Lib.hid h1
  have HL2 := Lib.hid h2
  clear h1 h2
  go_enter Tryd.func11, Tryd.ntmps11
  go_wp2_with (go_at_call 25; refine (awake13_at _ HT.out).mono ?_; rintro e w1 ⟨rfl, HB1⟩)
  refine (seal_long 7 _ n n _ (by omega) (by have := HL1.out; omega) (by have := HL2.out; omega)).mono ?_
  rintro e w2 ⟨rfl, rfl⟩
  clear g1 g2 hmk
  go_wp2_with fail
  refine (open_over n _ _ (by simp) HL1.out HL2.out ((HT.out.below HB1.out).alloc _)).mono ?_
  rintro e w3 ⟨a3, m3, c3, rfl, HB3⟩
  have bw3 : Hid (Below w.heap.size w w3) := (HB1.out.alloc HB1.out.size _).trans (HB3.out.mono (by simp; exact Nat.le_succ_of_le HB1.out.size))
  go_wp2_with fail
  go_ret
  exact ⟨rfl, bw3.out.alloc bw3.out.size _⟩
theorem frameLimits_law (n : Int) (w : World) (hn : -9223372036854775808 ≤ n ∧ n ≤ 9223372036854775807) (ht : Tab w) :
    Calls Tryd.prog 11 #[.int .i64 n] w fun e w' => e = .returned (.bool true) ∧ Below w.heap.size w w' := by
  have := hn
  by_cases h : n < 65534 ∨ 65538 < n
  · exact frameLimits_out n w h ht
  · obtain ⟨n', rfl⟩ : ∃ n' : Nat, n = (n' : Int) := ⟨n.toNat, by omega⟩
    by_cases h2 : n' ≤ 65536
    · exact frameLimits_in n' w (by omega) h2 ht
    · exact frameLimits_over n' w (by omega) (by omega) ht
end Go.Proofs.YtfbepdlahaefgaaDoor
