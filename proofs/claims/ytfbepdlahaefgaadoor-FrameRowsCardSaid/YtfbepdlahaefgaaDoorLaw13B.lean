/- The law FrameBack, walked. -/
import Derived.Test.YtfbepdlahaefgaaDoorLaw13A
namespace Go.Proofs.YtfbepdlahaefgaaDoor
open Go.RowKit
open Crc (R sum)
open Frm (le4 byteAt num4 head body frame fault fixed opened bad size)

theorem awake13_in (w : World) (o : Obj) (ht : Tab w) :
    Calls Tryd.prog 25 #[] (w.alloc o) fun e w' => e = .returned (.bool true) ∧ Hid (Below (w.alloc o).heap.size (w.alloc o) w') := awake13_any _ (ht.alloc o)
/-- What is joined to a frame, as Open has it. -/
theorem cells2 {w w' : World} {u v : Value} {t : TypeId} (h : Hid (Below (w.alloc (.cells #[u, v] t)).heap.size (w.alloc (.cells #[u, v] t)) w')) : w'.cell? ⟨w.heap.size, 0, none⟩ = some u ∧ w'.cell? ⟨w.heap.size, 1, none⟩ = some v := by
  refine ⟨(h.out.cell (p := ⟨w.heap.size, 0, none⟩) (by simp)).trans (by simp), (h.out.cell (p := ⟨w.heap.size, 1, none⟩) (by simp)).trans (by simp)⟩
theorem below_box {w w' : World} {o : Obj} (h : Hid (Below (w.alloc o).heap.size (w.alloc o) w')) : Below w.heap.size w w' :=
  ((Below.refl _ _).alloc (Nat.le_refl _) _).trans (h.out.mono (by simp))
theorem seal_f (k n : Nat) (v : Value) (p : List (BitVec 8)) (w : World) (h1 : 1 ≤ k) (h2 : k ≤ 255) (hv : IsBytes w v p) (hn : p.length = n) (hp : n ≤ 65536) (ht : Tab w) :
    Calls Tryd.prog 26 #[.int .i64 k, v] w fun e w' => ∃ b off c, e = .returned (.tuple #[.slice (some ⟨b, off, none⟩) (n + 12) c, .int .i64 0]) ∧ Hid (n + 12 ≤ c ∧ c ≤ 9223372036854775807) ∧ Hid (OwnAt w' w.heap.size 5 b c ((frame (BitVec.ofNat 8 k) p).map byteV)) ∧ Hid (IsBytes w' (.slice (some ⟨b, off, none⟩) (n + 12) c) (frame (BitVec.ofNat 8 k) p)) ∧ Hid (off = 0) ∧ Hid (Below w.heap.size w w') := by
  subst hn
  refine (seal_is k v p w h1 h2 hv hp ht).mono ?_
  rintro e w' ⟨a, m, c, rfl, hown, hbel⟩
  have hl : (frame (BitVec.ofNat 8 k) p).length = p.length + 12 := by rw [Frm.frame_length]; omega
  have hby := hown.reads.bytes
  obtain ⟨g, cap, he, hat⟩ := hown.at_ (by rw [List.length_map, hl]; omega)
  injection he with e1 e2 e3
  rw [List.length_map, hl] at e2
  subst e1 e2 e3
  have hlt := hat.lt
  rw [List.length_map, hl] at hlt
  exact ⟨g, 0, _, rfl, ⟨hlt.2.2.1, hlt.2.2.2⟩, hat, hby, rfl, hbel⟩
theorem join_f (v u : Value) (F q : List (BitVec 8)) (w : World) (hv : IsBytes w v F) (hu : IsBytes w u q) (h1 : F.length ≤ 1000000) (h2 : q.length ≤ 1000000) :
    Calls Tryd.prog 24 #[v, u] w fun e w' => ∃ a n c, e = .returned (.slice a n c) ∧ Hid (IsBytes w' (.slice a n c) (F ++ q)) ∧ Hid (Below w.heap.size w w') := by
  refine (joinB_any v u F q w hv hu h1 h2).mono ?_
  rintro e w' ⟨a, n, c, rfl, _, hown, hbel⟩
  exact ⟨a, n, c, rfl, hown.reads.bytes, hbel⟩
theorem open_f (k n : Nat) (v : Value) (p q : List (BitVec 8)) (w : World) (hv : IsBytes w v (frame (BitVec.ofNat 8 k) p ++ q)) (h1 : 1 ≤ k) (h2 : k ≤ 255) (hn : p.length = n) (hp : n ≤ 65536) (ht : Tab w) :
    Calls Tryd.prog 29 #[v] w fun e w' => ∃ a m c, e = .returned (.tuple #[.agg #[.int .i64 k, .slice a m c], .int .i64 ((n + 12 : Nat) : Int), .int .i64 0]) ∧ Hid (IsBytes w' (.slice a m c) p) ∧ Hid (m = n) ∧ Hid (Below w.heap.size w w') := by
  subst hn
  have hk : (BitVec.ofNat 8 k).toNat = k := by rw [BitVec.toNat_ofNat, Nat.mod_eq_of_lt (by omega)]
  have ho := Frm.opened_frame (BitVec.ofNat 8 k) p q (fun e => by have := congrArg BitVec.toNat e; rw [hk] at this; simp at this; omega) hp
  rw [hk] at ho
  refine (open_is v _ k p (p.length + 12) 0 w hv ht ho).mono ?_
  rintro e w' ⟨a, m, c, rfl, hby, hbel⟩
  have hby' := hby
  obtain ⟨_, _, _, he, hm, _⟩ := hby'
  injection he with e1 e2 e3
  exact ⟨a, m, c, rfl, hby, (by rw [e2]; exact hm), hbel⟩
theorem open_cutf (k j : Nat) (v : Value) (p : List (BitVec 8)) (w : World) (hv : IsBytes w v ((frame (BitVec.ofNat 8 k) p).take j)) (h1 : 1 ≤ k) (h2 : k ≤ 255) (hp : p.length ≤ 65536) (hj : j < 12 + p.length) (ht : Tab w) :
    Calls Tryd.prog 29 #[v] w fun e w' => ∃ a m c, e = .returned (.tuple #[.agg #[.int .i64 0, .slice a m c], .int .i64 0, .int .i64 130]) ∧ Hid (Below w.heap.size w w') := by
  have hk : (BitVec.ofNat 8 k).toNat = k := by rw [BitVec.toNat_ofNat, Nat.mod_eq_of_lt (by omega)]
  have ho := Frm.opened_cut (BitVec.ofNat 8 k) p (fun e => by have := congrArg BitVec.toNat e; rw [hk] at this; simp at this; omega) hp j hj
  refine (open_is v _ 0 [] 0 130 w hv ht ho).mono ?_
  rintro e w' ⟨a, m, c, rfl, _, hbel⟩
  exact ⟨a, m, c, rfl, hbel⟩
set_option maxHeartbeats 1000000 in
theorem frameBack_in (k : Nat) (a b : Option Addr) (n m cp cq cut : Nat) (p q : List (BitVec 8)) (w : World) (hu : IsBytes w (.slice a n cp) p) (hv : IsBytes w (.slice b m cq) q) (hn : p.length = n) (hm : q.length = m)
    (k1 : 1 ≤ k) (k2 : k ≤ 255) (hn2 : n ≤ 2000) (hm2 : m ≤ 2000) (hcut : cut ≤ 9223372036854775807) (ht : Tab w) :
    Calls Tryd.prog 12 #[.agg #[.int .i64 k, .slice a n cp], .slice b m cq, .int .i64 cut] w fun e w' => e = .returned (.bool true) ∧ Below w.heap.size w w' := by
  have HU := Lib.hid hu
  have HV := Lib.hid hv
  have HN := Lib.hid hn
  have HM := Lib.hid hm
  have HT := Lib.hid ht
  clear hu hv hn hm ht
  have g1 : ¬ (k : Int) < 1 := by omega
  have g2 : ¬ (255 : Int) < (k : Int) := by omega
  have g3 : ¬ (2000 : Int) < (n : Int) := by omega
  have g4 : ¬ (2000 : Int) < (m : Int) := by omega
  have g5 : ¬ (cut : Int) < 0 := by omega
  go_enter Tryd.func12, Tryd.ntmps12
  go_wp2_with (go_at_call 25; refine (awake13_in _ _ HT.out).mono ?_; rintro e w1 ⟨rfl, HB1⟩; obtain ⟨c0, c1⟩ := cells2 HB1)
  have bw1 : Below w.heap.size w w1 := below_box HB1
  have hn12 : (((n + 12 : Nat) : Int) = 0) = False := by simp; omega
  refine (seal_f k n _ p w1 k1 k2 (HU.out.below bw1) HN.out (by omega) (HT.out.below bw1)).mono ?_
  rintro e w2 ⟨b2, o2, c2, rfl, hc2, _, H2, _, HB2⟩
  have bw2 : Hid (Below w.heap.size w w2) := bw1.trans (HB2.out.mono bw1.size)
  go_wp2_with fail
  refine (join_f _ _ _ q w2 H2.out (HV.out.below bw2.out) (by rw [Frm.frame_length, HN.out]; omega) (by rw [HM.out]; omega)).mono ?_
  rintro e w3 ⟨a3, m3, c3, rfl, H3, HB3⟩
  have bw3 : Hid (Below w.heap.size w w3) := bw2.out.trans (HB3.out.mono bw2.out.size)
  go_wp2_with fail
  refine (open_f k n _ p q w3 H3.out k1 k2 HN.out (by omega) (HT.out.below bw3.out)).mono ?_
  rintro e w4 ⟨a4, m4, c4, rfl, H4, _, HB4⟩
  have bw4 : Hid (Below w.heap.size w w4) := bw3.out.trans (HB4.out.mono bw3.out.size)
  have hcm : 0 ≤ (cut : Int) % ((n : Int) + 12) ∧ (cut : Int) % ((n : Int) + 12) ≤ (c2 : Int) := by
    have h1 := Int.emod_lt_of_pos (cut : Int) (show (0 : Int) < (n : Int) + 12 by omega)
    have h2 := hc2.out
    exact ⟨Int.emod_nonneg _ (by omega), by omega⟩
  go_wp2_with fail
  have hj : cut % (n + 12) < n + 12 := Nat.mod_lt _ (by omega)
  refine (open_cutf k (cut % (n + 12)) _ p _ (((H2.out.below (HB3.out.trans (HB4.out.mono HB3.out.size))).alloc _).upto _ (by omega)) k1 k2 (by rw [HN.out]; omega) (by rw [HN.out]; omega) ((HT.out.below bw4.out).alloc _)).mono ?_
  rintro e w5 ⟨a5, m5, c5, rfl, HB5⟩
  have q1 := (cell_up' (o' := .cells #[.int .i64 0, .slice a5 m5 c5] 47) HB5.out ⟨w4.heap.size, 0, none⟩ (by simp)).trans (show _ = some (.int .i64 k) by simp)
  have q2 := (cell_up' (o' := .cells #[.int .i64 0, .slice a5 m5 c5] 47) HB5.out ⟨w4.heap.size, 1, none⟩ (by simp)).trans (show _ = some (.slice a4 m4 c4) by simp)
  have hw01 : w.heap.size < w1.heap.size := Nat.lt_of_lt_of_le (by simp) HB1.out.size
  have b14 : Hid (Below w1.heap.size w1 w4) := (HB2.out.trans (HB3.out.mono HB2.out.size)).trans (HB4.out.mono (Nat.le_trans HB2.out.size HB3.out.size))
  have q3 := (cell_up (o' := .cells #[.int .i64 0, .slice a5 m5 c5] 47) HB5.out ⟨w.heap.size, 0, none⟩ (Nat.lt_of_lt_of_le hw01 b14.out.size)).trans ((b14.out.cell (p := ⟨w.heap.size, 0, none⟩) hw01).trans c0)
  have q4 := (cell_up (o' := .cells #[.int .i64 0, .slice a5 m5 c5] 47) HB5.out ⟨w.heap.size, 1, none⟩ (Nat.lt_of_lt_of_le hw01 b14.out.size)).trans ((b14.out.cell (p := ⟨w.heap.size, 1, none⟩) hw01).trans c1)
  have b45 : Hid (Below w4.heap.size w4 w5) := below_box HB5
  have X1 : Hid (IsBytes (w5.alloc (.cells #[.int .i64 0, .slice a5 m5 c5] 47)) (.slice a4 m4 c4) p) := (H4.out.below b45.out).alloc _
  have bw5 : Hid (Below w.heap.size w w5) := bw4.out.trans (b45.out.mono bw4.out.size)
  have X2 : Hid (IsBytes (w5.alloc (.cells #[.int .i64 0, .slice a5 m5 c5] 47)) (.slice a n cp) p) := (HU.out.below bw5.out).alloc _
  clear c0 c1
  go_wp2_with (go_at_call 27; refine (same_any _ _ p p _ X1.out X2.out).mono ?_; rintro e w6 ⟨rfl, d, rfl⟩; rw [decide_eq_true (rfl : p = p)])
  go_ret
  exact ⟨rfl, below_drewN (bw5.out.alloc bw5.out.size _) d⟩
set_option maxHeartbeats 1000000 in
theorem frameBack_out (k cut : Int) (a b : Option Addr) (n m cp cq : Nat) (w : World) (ht : Tab w) (h : k < 1 ∨ 255 < k ∨ 2000 < n ∨ 2000 < m ∨ cut < 0) :
    Calls Tryd.prog 12 #[.agg #[.int .i64 k, .slice a n cp], .slice b m cq, .int .i64 cut] w fun e w' => e = .returned (.bool true) ∧ Below w.heap.size w w' := by
  have HT := Lib.hid ht
  have HH := Lib.hid h
  clear ht h
  by_cases g0 : k < 1
  · go_enter Tryd.func12, Tryd.ntmps12
    go_wp2_with (go_at_call 25; refine (awake13_in _ _ HT.out).mono ?_; rintro e w1 ⟨rfl, HB1⟩; obtain ⟨c0, c1⟩ := cells2 HB1)
    go_ret
    exact ⟨rfl, below_box HB1⟩
  by_cases g1 : 255 < k
  · go_enter Tryd.func12, Tryd.ntmps12
    go_wp2_with (go_at_call 25; refine (awake13_in _ _ HT.out).mono ?_; rintro e w1 ⟨rfl, HB1⟩; obtain ⟨c0, c1⟩ := cells2 HB1)
    go_ret
    exact ⟨rfl, below_box HB1⟩
  by_cases g2 : 2000 < (n : Int)
  · go_enter Tryd.func12, Tryd.ntmps12
    go_wp2_with (go_at_call 25; refine (awake13_in _ _ HT.out).mono ?_; rintro e w1 ⟨rfl, HB1⟩; obtain ⟨c0, c1⟩ := cells2 HB1)
    go_ret
    exact ⟨rfl, below_box HB1⟩
  by_cases g3 : 2000 < (m : Int)
  · go_enter Tryd.func12, Tryd.ntmps12
    go_wp2_with (go_at_call 25; refine (awake13_in _ _ HT.out).mono ?_; rintro e w1 ⟨rfl, HB1⟩; obtain ⟨c0, c1⟩ := cells2 HB1)
    go_ret
    exact ⟨rfl, below_box HB1⟩
  by_cases g4 : cut < 0
  · go_enter Tryd.func12, Tryd.ntmps12
    go_wp2_with (go_at_call 25; refine (awake13_in _ _ HT.out).mono ?_; rintro e w1 ⟨rfl, HB1⟩; obtain ⟨c0, c1⟩ := cells2 HB1)
    go_ret
    exact ⟨rfl, below_box HB1⟩
  have := HH.out
  omega
theorem frameBack_law (k cut : Int) (u v : Value) (p q : List (BitVec 8)) (w : World) (hu : IsBytes w u p) (hv : IsBytes w v q) (hcut : cut ≤ 9223372036854775807) (ht : Tab w) :
    Calls Tryd.prog 12 #[.agg #[.int .i64 k, u], v, .int .i64 cut] w fun e w' => e = .returned (.bool true) ∧ Below w.heap.size w w' := by
  have hu' := hu
  have hv' := hv
  obtain ⟨a, n, cp, rfl, hn, _⟩ := hu'
  obtain ⟨b, m, cq, rfl, hm, _⟩ := hv'
  by_cases h : k < 1 ∨ 255 < k ∨ 2000 < n ∨ 2000 < m ∨ cut < 0
  · exact frameBack_out k cut a b n m cp cq w ht h
  · obtain ⟨k', rfl⟩ : ∃ k' : Nat, k = (k' : Int) := ⟨k.toNat, by omega⟩
    obtain ⟨c', rfl⟩ : ∃ c' : Nat, cut = (c' : Int) := ⟨cut.toNat, by omega⟩
    exact frameBack_in k' a b n m cp cq c' p q w hu hv hn.symm hm.symm (by omega) (by omega) (by omega) (by omega) (by omega) ht
end Go.Proofs.YtfbepdlahaefgaaDoor
