/- The document's Open of layer 13, walked: the sum and the payload. -/
import Derived.Test.YtfbepdlahaefgaaDoorOpenR
import Derived.Test.YtfbepdlahaefgaaDoorRefOpen2
import Derived.Test.YtfbepdlahaefgaaDoorFrameW3
namespace Go.Proofs.YtfbepdlahaefgaaDoor
open Go.RowKit
open Crc (R sum)
open Frm (le4 byteAt num4 head body frame fault fixed opened bad size fixed_fault fixed_ok)

theorem act_window {ops : Array Oper} {ac a0 : Act} (L : List Nat) (hL : dstsIn ops L = true) (lo m : Nat) (hLw : ∀ t, t ∈ L → lo ≤ t ∧ t < lo + m) (hd : ac.defers = a0.defers) (hs : ac.tmps.size = a0.tmps.size)
    (hbase : ∀ t, (∀ j, dstOf ops j ≠ some t) → ac.tmps.getD t undef = a0.tmps.getD t undef) (xs : List Value) (hlen : xs.length = m) (hxs : ∀ k, k < m → xs.getD k undef = ac.tmps.getD (lo + k) undef) (hle : lo + m ≤ a0.tmps.size) :
    ac = ⟨(a0.tmps.toList.take lo ++ (xs ++ a0.tmps.toList.drop (lo + m))).toArray, a0.defers⟩ := by
  obtain ⟨t, d⟩ := ac
  simp only at hd hs hbase hxs
  rw [hd]
  have key : ∀ (b : Array Value) i, i < b.size → b.toList[i]? = some (b.getD i undef) := fun b i hi => by simp [Array.getD_eq_getD_getElem?, hi]
  have hl : (a0.tmps.toList.take lo).length = lo := by simp; omega
  have hlist : t.toList = a0.tmps.toList.take lo ++ (xs ++ a0.tmps.toList.drop (lo + m)) := by
    apply List.ext_getElem?
    intro i
    by_cases hi : i < t.size
    · rw [key t i hi]
      by_cases h1 : i < lo
      · rw [List.getElem?_append_left (by omega), List.getElem?_take, if_pos h1, key _ _ (by omega), hbase i (dstsIn_spec hL (fun hi => by have := hLw i hi; omega))]
      · rw [List.getElem?_append_right (by omega), hl]
        by_cases h2 : i < lo + m
        · have h3 := hxs (i - lo) (by omega)
          rw [show lo + (i - lo) = i by omega] at h3
          rw [List.getElem?_append_left (by omega), ← h3, List.getD_eq_getElem?_getD, List.getElem?_eq_getElem (by omega)]
          rfl
        · rw [List.getElem?_append_right (by omega), List.getElem?_drop, hlen, show lo + m + (i - lo - m) = i by omega, key _ _ (by omega), hbase i (dstsIn_spec hL (fun hi => by have := hLw i hi; omega))]
    · rw [List.getElem?_eq_none (by simp; omega), List.getElem?_eq_none (by simp; omega)]
  rw [← hlist]
set_option maxRecDepth 8000 in
set_option maxHeartbeats 4000000 in
theorem refOpen_full (b off n cap : Nat) (bs : List (BitVec 8)) (w : World) (hn : bs.length = n) (hc : n ≤ cap) (hm : cap ≤ 9223372036854775807) (hlt : b < w.heap.size) (hb : BytesAt w b off bs) (_h4 : 4 ≤ n) (hx : fixed bs = 0) (h8 : 8 ≤ n) (z : Nat) (hz : (num4 (bs.drop 4)).toNat = z) (hzl : z ≤ 65536) (hnl : z + 12 ≤ n) :
    Calls Tryd.prog 30 #[.slice (some ⟨b, off, none⟩) n cap] w fun e w' => (num4 (bs.drop (z + 8)) ≠ sum (bs.take (z + 8)) → e = .returned (.tuple #[.agg #[.int .i64 0, .slice none 0 0], .int .i64 0, .int .i64 135])) ∧ (num4 (bs.drop (z + 8)) = sum (bs.take (z + 8)) → ∃ a m c, e = .returned (.tuple #[.agg #[.int .i64 (bs.getD 3 0#8).toNat, .slice a m c], .int .i64 ((z + 12 : Nat) : Int), .int .i64 0]) ∧ Bit w.heap.size w' (.slice a m c) ((bs.drop 8).take z)) ∧ Below w.heap.size w w' := by
  have HB := Lib.hid hb
  have HN := Lib.hid hn
  have hc0 : ¬ cap = 0 := by omega
  have HCM := Lib.hid hm
  have getD : ∀ i (hi : i < bs.length), bs.getD i 0#8 = bs[i] := fun i hi => by rw [List.getD_eq_getElem?_getD, List.getElem?_eq_getElem hi]; rfl
  have h4l : 4 ≤ bs.length := by omega
  clear hn
  obtain ⟨a0, a1, a2, a3⟩ := fixed_zero hx h4l
  rw [getD 0 (by omega)] at a0
  rw [getD 1 (by omega)] at a1
  rw [getD 2 (by omega)] at a2
  rw [getD 3 (by omega)] at a3
  have q0 := Lib.hid (show ((bs[0].toNat : Int) != 82) = false from eq_byte (82#8) a0)
  have q1 := Lib.hid (show ((bs[1].toNat : Int) != 71) = false from eq_byte (71#8) a1)
  have q2 := Lib.hid (show ((bs[2].toNat : Int) != 1) = false from eq_byte (1#8) a2)
  have q3 := Lib.hid (show ((bs[3].toNat : Int) == 0) = false from neq_byte (0#8) a3)
  have HA3 := Lib.hid a3
  clear hb hm a0 a1 a2 a3 getD hx
  go_enter Tryd.func30, Tryd.ntmps30
  go_wp2
  go_loop [3, 4, 5] (fun x y i => x = .int .i64 0 ∧ y = .int .i64 0 ∧ ∃ k : Nat, k ≤ 4 ∧ i = .int .i64 k) (fun _ _ i => 4 - (intOf i).toNat)
  case atStart => exact ⟨rfl, rfl, 0, by omega, rfl⟩
  case round =>
    obtain ⟨rfl, rfl, k, hk, rfl⟩ := hrel
    by_cases hk4 : k = 4
    · subst hk4
      clear q0 q1 q2 q3
      have h8i : ¬ (n : Int) < 8 := by omega
      have h8l : 8 ≤ bs.length := by have := HN.out; omega
      have cell : ∀ k (hk : k < bs.length), (w.alloc (.cells #[.int .i64 0, .slice none 0 0] 50)).cell? ⟨b, off + k, none⟩ = some (.int .u8 (bs[k].toNat : Int)) := fun k hk => (World.cell?_alloc_lt w (.cells #[.int .i64 0, .slice none 0 0] 50) ⟨b, off + k, none⟩ hlt).trans (HB.out k hk)
      have hdl : bs.drop 4 = bs.drop 4 := rfl
      have hz4 := num4_sum (bs.drop 4)
      have gd : ∀ i, i < 4 → ∀ (hi : 4 + i < bs.length), (bs.drop 4).getD i 0#8 = bs[4 + i] := fun i _ hi => by rw [List.getD_eq_getElem?_getD, List.getElem?_drop, List.getElem?_eq_getElem hi]; rfl
      rw [gd 0 (by omega) (by omega), gd 1 (by omega) (by omega), gd 2 (by omega) (by omega), gd 3 (by omega) (by omega), hz] at hz4
      have k4 := cell 4 (by omega)
      have k5 := cell 5 (by omega)
      have k6 := cell 6 (by omega)
      have k7 := cell 7 (by omega)
      obtain ⟨y4, e4⟩ : ∃ y : Nat, y = bs[4].toNat := ⟨_, rfl⟩
      obtain ⟨y5, e5⟩ : ∃ y : Nat, y = bs[5].toNat := ⟨_, rfl⟩
      obtain ⟨y6, e6⟩ : ∃ y : Nat, y = bs[6].toNat := ⟨_, rfl⟩
      obtain ⟨y7, e7⟩ : ∃ y : Nat, y = bs[7].toNat := ⟨_, rfl⟩
      have l4 : y4 < 256 := by rw [e4]; exact bs[4].isLt
      have l5 : y5 < 256 := by rw [e5]; exact bs[5].isLt
      have l6 : y6 < 256 := by rw [e6]; exact bs[6].isLt
      have l7 : y7 < 256 := by rw [e7]; exact bs[7].isLt
      rw [← e4] at k4
      rw [← e5] at k5
      rw [← e6] at k6
      rw [← e7] at k7
      have hz4' : (y4 : Int) + 256 * y5 + 65536 * y6 + 16777216 * y7 = z := by rw [e4, e5, e6, e7]; exact hz4.symm
      have w4 : IntKind.i64.wrap (y4 : Int) = y4 := by rw [IntKind.wrap_i64]; omega
      have w5 : IntKind.i64.wrap (y5 : Int) = y5 := by rw [IntKind.wrap_i64]; omega
      have w6 : IntKind.i64.wrap (y6 : Int) = y6 := by rw [IntKind.wrap_i64]; omega
      have w7 : IntKind.i64.wrap (y7 : Int) = y7 := by rw [IntKind.wrap_i64]; omega
      have m5 : IntKind.i64.wrap (256 * (y5 : Int)) = 256 * y5 := by rw [IntKind.wrap_i64]; omega
      have m6 : IntKind.i64.wrap (65536 * (y6 : Int)) = 65536 * y6 := by rw [IntKind.wrap_i64]; omega
      have m7 : IntKind.i64.wrap (16777216 * (y7 : Int)) = 16777216 * y7 := by rw [IntKind.wrap_i64]; omega
      have s5 : IntKind.i64.wrap ((y4 : Int) + 256 * y5) = (y4 : Int) + 256 * y5 := by rw [IntKind.wrap_i64]; omega
      have s6 : IntKind.i64.wrap ((y4 : Int) + 256 * y5 + 65536 * y6) = (y4 : Int) + 256 * y5 + 65536 * y6 := by rw [IntKind.wrap_i64]; omega
      have s7 : IntKind.i64.wrap ((y4 : Int) + 256 * y5 + 65536 * y6 + 16777216 * y7) = z := by rw [hz4', IntKind.wrap_i64]; omega
      have i4 : 0 ≤ (4 : Int) ∧ (4 : Int) < n := by omega
      have i5 : 0 ≤ (5 : Int) ∧ (5 : Int) < n := by omega
      have i6 : 0 ≤ (6 : Int) ∧ (6 : Int) < n := by omega
      have i7 : 0 ≤ (7 : Int) ∧ (7 : Int) < n := by omega
      have HZ4 := Lib.hid hz4'
      clear hdl hz4 gd cell e4 e5 e6 e7 l4 l5 l6 l7 hz4'
      have g : decide ((65536 : Int) < (z : Int)) = false := decide_eq_false (by omega)
      have g2 : ¬ (n : Int) < (z : Int) + 12 := by omega
      have w12 : IntKind.i64.wrap ((z : Int) + 12) = (z : Int) + 12 := by rw [IntKind.wrap_i64]; omega
      have w8 : IntKind.i64.wrap ((z : Int) + 8) = (z : Int) + 8 := by rw [IntKind.wrap_i64]; omega
      go_wp2
      go_quiet (fail)
      clear k4 k5 k6 k7 w4 w5 w6 w7 m5 m6 m7 s5 s6 s7 i4 i5 i6 i7
      go_wp2
      have z8 : z + 8 ≤ n := by omega
      have hzt : ((z : Int) + 8).toNat = z + 8 := by omega
      have hzt2 : ((z : Int) + 12).toNat = z + 12 := by omega
      have hz0 : 0 ≤ (z : Int) + 8 ∧ (z : Int) + 8 ≤ cap := by omega
      have hz1 : 0 ≤ (z : Int) + 8 ∧ (z : Int) + 8 ≤ (z : Int) + 12 := by omega
      have hz2 : (z : Int) + 12 ≤ cap := by omega
      have hz3 : z + 12 - (z + 8) = 4 := by omega
      have hzc : ¬ cap = z + 8 := by omega
      obtain ⟨q, hq⟩ : ∃ q : Bool, decide (le4 (sum (bs.take (z + 8))) = (bs.drop (z + 8)).take 4) = q := ⟨_, rfl⟩
      have HQ := Lib.hid hq
      have HBw : Hid (Below (w.alloc (.cells #[.int .i64 0, .slice none 0 0] 50)).heap.size (w.alloc (.cells #[.int .i64 0, .slice none 0 0] 50)) ((w.alloc (.cells #[.int .i64 0, .slice none 0 0] 50)).drewN nq)) := below_drewN (Below.refl _ _) nq
      have HVr : Hid (IsBytes ((w.alloc (.cells #[.int .i64 0, .slice none 0 0] 50)).drewN nq) (.slice (some ⟨b, off, none⟩) n cap) bs) := by
        have h0 : IsBytes w (.slice (some ⟨b, off, none⟩) n cap) bs := ⟨_, _, _, rfl, HN.out.symm, hc, by have := HCM.out; unfold maxLen; omega, .inr ⟨b, off, rfl, hlt, HB.out⟩⟩
        exact (h0.alloc _).below HBw.out
      clear hq
      refine wp_region_marks (by kernel_rfl) (by kernel_rfl) (fun t v w => match t with
        | 93 => v = .slice (some ⟨b, off, none⟩) n cap
        | 94 => v = .int .i64 (z : Int)
        | 95 => v = .int .i64 ((z : Int) + 8)
        | 96 => v = .slice (some ⟨b, off, none⟩) (z + 8) cap
        | 97 => v = .int .u32 (sum (bs.take (z + 8))).toNat
        | 98 => ∃ a m c, v = .slice a m c ∧ IsBytes w (.slice a m c) (le4 (sum (bs.take (z + 8))))
        | 99 => v = .slice (some ⟨b, off, none⟩) n cap
        | 100 => v = .int .i64 (z : Int)
        | 101 => v = .int .i64 ((z : Int) + 8)
        | 102 => v = .int .i64 (z : Int)
        | 103 => v = .int .i64 ((z : Int) + 12)
        | 104 => v = .slice (some ⟨b, off + (z + 8), none⟩) 4 (cap - (z + 8))
        | 105 => v = .bool q
        | 106 => v = .bool (!q)
        | _ => True) NoMark (fun w w' => Below w.heap.size w w') (fun h h' => h.trans (h'.mono h.size)) ((Below.refl _ _).drew) ?_ (fun _ _ _ _ h _ => h) ?_ ?_
      · intro t v w w' _ h hb
        split at h <;> first | exact h | (obtain ⟨a, m, c, h1, h2⟩ := h; exact ⟨a, m, c, h1, h2.below hb⟩) | (split <;> first | trivial | simp_all)
      · intro i o ac w ho hR hdf hsz hbase hfact
        clear hdf hsz
        match i, ho with
        | 0, ho =>
          injection ho with ho
          subst ho
          have h1 : ac.tmps[0]?.getD undef = .slice (some ⟨b, off, none⟩) n cap := slot_of (hbase 0 (base_of (by kernel_rfl)) (by decide))
          refine op_done_m rfl rfl (v := .slice (some ⟨b, off, none⟩) n cap) (w' := w) ?_ (Below.refl _ _) (by rintro t ⟨⟩; rfl) (trivial)
          clear hfact hbase
          go_simp
        | 1, ho =>
          injection ho with ho
          subst ho
          have h1 : ac.tmps[6]?.getD undef = .int .i64 (z : Int) := slot_of (hbase 6 (base_of (by kernel_rfl)) (by decide))
          refine op_done_m rfl rfl (v := .int .i64 (z : Int)) (w' := w) ?_ (Below.refl _ _) (by rintro t ⟨⟩; rfl) (trivial)
          clear hfact hbase
          go_simp
        | 2, ho =>
          injection ho with ho
          subst ho
          have h1 := slot_of (hfact 1 94 (by kernel_rfl) (by kernel_rfl))
          refine op_done_m rfl rfl (v := .int .i64 ((z : Int) + 8)) (w' := w) ?_ (Below.refl _ _) (by rintro t ⟨⟩; rfl) (trivial)
          clear hfact hbase
          go_simp
        | 3, ho =>
          injection ho with ho
          subst ho
          have h1 := slot_of (hfact 0 93 (by kernel_rfl) (by kernel_rfl))
          have h2 := slot_of (hfact 2 95 (by kernel_rfl) (by kernel_rfl))
          refine op_done_m rfl rfl (v := .slice (some ⟨b, off, none⟩) (z + 8) cap) (w' := w) ?_ (Below.refl _ _) (by rintro t ⟨⟩; rfl) (trivial)
          clear hfact hbase
          go_simp
        | 4, ho =>
          injection ho with ho
          subst ho
          have h1 := slot_of (hfact 3 96 (by kernel_rfl) (by kernel_rfl))
          refine op_call_m rfl rfl (f := 21) (args := #[.int .u32 0, .slice (some ⟨b, off, none⟩) (z + 8) cap]) (w1 := w) ?_ ?_
          · clear hfact hbase
            go_simp
          · refine (refSum_any _ (bs.take (z + 8)) _ (IsBytes.upto (HVr.out.below hR) (z + 8) z8) (by rw [List.length_take]; omega)).mono ?_
            rintro e w' ⟨rfl, hb⟩
            exact ⟨_, rfl, hb.out, by rintro t ⟨⟩; rfl, trivial⟩
        | 5, ho =>
          injection ho with ho
          subst ho
          have h1 := slot_of (hfact 4 97 (by kernel_rfl) (by kernel_rfl))
          refine op_call_m rfl rfl (f := 42) (args := #[.int .u32 (sum (bs.take (z + 8))).toNat]) (w1 := w) ?_ ?_
          · clear hfact hbase
            go_simp
          · refine (refFour_any (sum (bs.take (z + 8))) w).mono ?_
            rintro e w' ⟨a, m, c, rfl, hby, hb⟩
            exact ⟨_, rfl, hb.out, by rintro t ⟨⟩; exact ⟨a, m, c, rfl, hby.out⟩, trivial⟩
        | 6, ho =>
          injection ho with ho
          subst ho
          have h1 : ac.tmps[0]?.getD undef = .slice (some ⟨b, off, none⟩) n cap := slot_of (hbase 0 (base_of (by kernel_rfl)) (by decide))
          refine op_done_m rfl rfl (v := .slice (some ⟨b, off, none⟩) n cap) (w' := w) ?_ (Below.refl _ _) (by rintro t ⟨⟩; rfl) (trivial)
          clear hfact hbase
          go_simp
        | 7, ho =>
          injection ho with ho
          subst ho
          have h1 : ac.tmps[6]?.getD undef = .int .i64 (z : Int) := slot_of (hbase 6 (base_of (by kernel_rfl)) (by decide))
          refine op_done_m rfl rfl (v := .int .i64 (z : Int)) (w' := w) ?_ (Below.refl _ _) (by rintro t ⟨⟩; rfl) (trivial)
          clear hfact hbase
          go_simp
        | 8, ho =>
          injection ho with ho
          subst ho
          have h1 := slot_of (hfact 7 100 (by kernel_rfl) (by kernel_rfl))
          refine op_done_m rfl rfl (v := .int .i64 ((z : Int) + 8)) (w' := w) ?_ (Below.refl _ _) (by rintro t ⟨⟩; rfl) (trivial)
          clear hfact hbase
          go_simp
        | 9, ho =>
          injection ho with ho
          subst ho
          have h1 : ac.tmps[6]?.getD undef = .int .i64 (z : Int) := slot_of (hbase 6 (base_of (by kernel_rfl)) (by decide))
          refine op_done_m rfl rfl (v := .int .i64 (z : Int)) (w' := w) ?_ (Below.refl _ _) (by rintro t ⟨⟩; rfl) (trivial)
          clear hfact hbase
          go_simp
        | 10, ho =>
          injection ho with ho
          subst ho
          have h1 := slot_of (hfact 9 102 (by kernel_rfl) (by kernel_rfl))
          refine op_done_m rfl rfl (v := .int .i64 ((z : Int) + 12)) (w' := w) ?_ (Below.refl _ _) (by rintro t ⟨⟩; rfl) (trivial)
          clear hfact hbase
          go_simp
        | 11, ho =>
          injection ho with ho
          subst ho
          have h1 := slot_of (hfact 6 99 (by kernel_rfl) (by kernel_rfl))
          have h2 := slot_of (hfact 8 101 (by kernel_rfl) (by kernel_rfl))
          have h3 := slot_of (hfact 10 103 (by kernel_rfl) (by kernel_rfl))
          refine op_done_m rfl rfl (v := .slice (some ⟨b, off + (z + 8), none⟩) 4 (cap - (z + 8))) (w' := w) ?_ (Below.refl _ _) (by rintro t ⟨⟩; rfl) (trivial)
          clear hfact hbase
          go_simp
        | 12, ho =>
          injection ho with ho
          subst ho
          obtain ⟨a, m, c, h1, hby⟩ := hfact 5 98 (by kernel_rfl) (by kernel_rfl)
          have h1 := slot_of h1
          have h2 := slot_of (hfact 11 104 (by kernel_rfl) (by kernel_rfl))
          refine op_call_m rfl rfl (f := 27) (args := #[.slice a m c, .slice (some ⟨b, off + (z + 8), none⟩) 4 (cap - (z + 8))]) (w1 := w) ?_ ?_
          · clear hfact hbase
            go_simp
          · refine (same_any _ _ (le4 (sum (bs.take (z + 8)))) ((bs.drop (z + 8)).take 4) w hby (by
              have h := IsBytes.upto (IsBytes.from_ (HVr.out.below hR) (z + 8) z8) 4 (by omega)
              exact h)).mono ?_
            rintro e w' ⟨rfl, d, rfl⟩
            exact ⟨_, rfl, below_drewN (Below.refl _ _) d, by rintro t ⟨⟩; show Value.bool _ = Value.bool q; rw [HQ.out], trivial⟩
        | 13, ho =>
          injection ho with ho
          subst ho
          have h1 := slot_of (hfact 12 105 (by kernel_rfl) (by kernel_rfl))
          refine op_done_m rfl rfl (v := .bool (!q)) (w' := w) ?_ (Below.refl _ _) (by rintro t ⟨⟩; rfl) (trivial)
          clear hfact hbase
          go_simp
        | n + 14, ho => cases ho
      · intro ac w2 hR hdf hsz hbase hfact _
        have h106 : ac.tmps.getD 106 undef = .bool (!q) := hfact 13 106 (by kernel_rfl)
        obtain ⟨x93, e93⟩ : ∃ x, x = ac.tmps.getD 93 undef := ⟨_, rfl⟩
        obtain ⟨x94, e94⟩ : ∃ x, x = ac.tmps.getD 94 undef := ⟨_, rfl⟩
        obtain ⟨x95, e95⟩ : ∃ x, x = ac.tmps.getD 95 undef := ⟨_, rfl⟩
        obtain ⟨x96, e96⟩ : ∃ x, x = ac.tmps.getD 96 undef := ⟨_, rfl⟩
        obtain ⟨x97, e97⟩ : ∃ x, x = ac.tmps.getD 97 undef := ⟨_, rfl⟩
        obtain ⟨x98, e98⟩ : ∃ x, x = ac.tmps.getD 98 undef := ⟨_, rfl⟩
        obtain ⟨x99, e99⟩ : ∃ x, x = ac.tmps.getD 99 undef := ⟨_, rfl⟩
        obtain ⟨x100, e100⟩ : ∃ x, x = ac.tmps.getD 100 undef := ⟨_, rfl⟩
        obtain ⟨x101, e101⟩ : ∃ x, x = ac.tmps.getD 101 undef := ⟨_, rfl⟩
        obtain ⟨x102, e102⟩ : ∃ x, x = ac.tmps.getD 102 undef := ⟨_, rfl⟩
        obtain ⟨x103, e103⟩ : ∃ x, x = ac.tmps.getD 103 undef := ⟨_, rfl⟩
        obtain ⟨x104, e104⟩ : ∃ x, x = ac.tmps.getD 104 undef := ⟨_, rfl⟩
        obtain ⟨x105, e105⟩ : ∃ x, x = ac.tmps.getD 105 undef := ⟨_, rfl⟩
        have hac := act_window [93, 94, 95, 96, 97, 98, 99, 100, 101, 102, 103, 104, 105, 106] (by kernel_rfl) 93 14 (by intro t ht; simp at ht; omega) hdf hsz hbase [x93, x94, x95, x96, x97, x98, x99, x100, x101, x102, x103, x104, x105, .bool (!q)] rfl (fun k hk => match k, hk with | 0, _ => e93 | 1, _ => e94 | 2, _ => e95 | 3, _ => e96 | 4, _ => e97 | 5, _ => e98 | 6, _ => e99 | 7, _ => e100 | 8, _ => e101 | 9, _ => e102 | 10, _ => e103 | 11, _ => e104 | 12, _ => e105 | 13, _ => h106.symm | n + 14, h => absurd h (by omega)) (Nat.le_of_ble_eq_true (by kernel_rfl))
        clear hfact hbase hdf hsz h106 e93 e94 e95 e96 e97 e98 e99 e100 e101 e102 e103 e104 e105
        simp only [List.take_succ_cons, List.take_zero, List.drop_succ_cons, List.drop_zero, List.cons_append, List.nil_append, Nat.reduceAdd] at hac
        subst hac
        have hb2 : Hid (Below (w.alloc (.cells #[.int .i64 0, .slice none 0 0] 50)).heap.size (w.alloc (.cells #[.int .i64 0, .slice none 0 0] 50)) w2) := HBw.out.trans (hR.mono HBw.out.size)
        obtain ⟨c0, c1, f0, f1, hB, hbw⟩ := res_of hb2.out
        have HV2 : Hid (IsBytes w2 (.slice (some ⟨b, off, none⟩) n cap) bs) := HVr.out.below hR
        have HBW := Lib.hid hbw
        have hl4 : 4 ≤ (bs.drop (z + 8)).length := by have := HN.out; rw [List.length_drop]; omega
        clear hR hbw
        cases q with
        | false =>
          have hne : Hid (num4 (bs.drop (z + 8)) ≠ sum (bs.take (z + 8))) := fun he => of_decide_eq_false HQ.out ((le4_is _ hl4).2 he)
          go_wp2
          refine bodyPost_ret (v := .tuple #[.agg #[.int .i64 0, .slice none 0 0], .int .i64 0, .int .i64 135]) (by simp [results, Tryd.results30, go_sem, c0, c1]) rfl ⟨fun _ => rfl, fun he => absurd he hne.out, ?_⟩
          exact (HBW.out.setCell (p := ⟨w.heap.size, 0, none⟩) (Nat.le_refl _) _).setCell (p := ⟨w.heap.size, 1, none⟩) (Nat.le_refl _) _
        | true =>
          have heq : Hid (num4 (bs.drop (z + 8)) = sum (bs.take (z + 8))) := (le4_is _ hl4).1 (of_decide_eq_true HQ.out)
          obtain ⟨kk, hkk⟩ : ∃ kk : Nat, kk = bs[3].toNat := ⟨_, rfl⟩
          have hkw : IntKind.i64.wrap (kk : Int) = kk := by rw [IntKind.wrap_i64]; have := bs[3].isLt; omega
          have hl3 := HB.out 3 (by omega)
          rw [← hkk] at hl3
          have HKK := Lib.hid hkk
          have HL3 := Lib.hid hl3
          have hz88 : z + 8 - 8 = z := by omega
          have hz80 : 0 ≤ (8 : Int) ∧ (8 : Int) ≤ (z : Int) + 8 := by omega
          have hc8 : ¬ cap = 8 := by omega
          have i3 : 0 ≤ (3 : Int) ∧ (3 : Int) < n := by omega
          have hp8 : Hid (((bs.drop 8).take z).length = z) := by unfold Hid; have := HN.out; rw [List.length_take, List.length_drop]; omega
          have hbs : Hid (IsBytes w2 (.slice (some ⟨b, off + 8, none⟩) z (cap - 8)) ((bs.drop 8).take z)) := IsBytes.upto (IsBytes.from_ HV2.out 8 h8) z (by omega)
          have own2 : Hid (Own w2 (w.heap.size + 1) 5 (.slice none 0 0) []) := Own.nil_ hB
          have hs1 : Hid ((w.alloc (.cells #[.int .i64 0, .slice none 0 0] 50)).heap.size = w.heap.size + 1) := by unfold Hid; simp
          clear hkk hl3 c0 c1 f0 f1
          go_wp2_with (at_builtin; refine wpl_append rfl (.tmp 108) (.tmp 112) _ rfl elemU8 rfl own2.out rfl hbs.out.reads one_byteV (by rw [List.length_map, hp8.out, List.length_nil]; omega) (by rw [List.length_map, hp8.out, List.length_nil]; unfold maxLen; omega) ?_; intro v3 w3 hown3 hg3 hat3; have bw3 : Hid (Below (w.alloc (.cells #[.int .i64 0, .slice none 0 0] 50)).heap.size (w.alloc (.cells #[.int .i64 0, .slice none 0 0] 50)) w3) := below_grown hb2.out own2.out hg3 (by rw [hs1.out]; exact Nat.le_refl _); obtain ⟨c0, c1, f0, f1, hB3, hbw3⟩ := res_of bw3.out; have hl3 : w3.cell? ⟨b, off + 3, none⟩ = some (.int .u8 kk) := (hbw3.cell (p := ⟨b, off + 3, none⟩) hlt).trans HL3.out; obtain ⟨ra, rn, rc, rfl, hrn⟩ := hown3.form_; rw [List.nil_append] at hown3; have O3 := Lib.hid hown3; have HBW3 := Lib.hid hbw3; clear hown3 hg3 hat3 hbw3)
          refine bodyPost_ret (v := .tuple #[.agg #[.int .i64 kk, .slice ra rn rc], .int .i64 ((z : Int) + 12), .int .i64 0]) (by simp [results, Tryd.results30, go_sem, c0, c1]) rfl ⟨fun he => absurd heq.out he, fun _ => ⟨ra, rn, rc, ?_, ?_⟩, ?_⟩
          · rw [show bs.getD 3 0#8 = bs[3] by rw [List.getD_eq_getElem?_getD, List.getElem?_eq_getElem (by omega)]; rfl, ← HKK.out]; rfl
          · refine own_bit (e := 5) (O3.out.keep (by simp [World.setCell]) fun k hk => ?_)
            have hge := O3.out.block_ge k hk
            have hne : k ≠ w.heap.size := by omega
            exact (Below.heap_setCell _ ⟨w.heap.size, 1, none⟩ _ k hne).trans (Below.heap_setCell _ ⟨w.heap.size, 0, none⟩ _ k hne)
          · exact (HBW3.out.setCell (p := ⟨w.heap.size, 0, none⟩) (Nat.le_refl _) _).setCell (p := ⟨w.heap.size, 1, none⟩) (Nat.le_refl _) _
    · have hcase : k = 0 ∨ k = 1 ∨ k = 2 ∨ k = 3 := by omega
      have hkl : k < bs.length := by omega
      have hck := (World.cell?_alloc_lt w (.cells #[.int .i64 0, .slice none 0 0] 50) ⟨b, off + k, none⟩ hlt).trans (HB.out k hkl)
      have hki : (k : Int) < (n : Int) := by omega
      clear hk4
      rcases hcase with rfl | rfl | rfl | rfl
      · rw [Nat.add_zero] at hck
        have q := q0.out
        go_wp2
        exact ⟨⟨rfl, rfl, 1, by omega, rfl⟩, by simp [intOf]⟩
      · have q := q1.out
        go_wp2
        exact ⟨⟨rfl, rfl, 2, by omega, rfl⟩, by simp [intOf]⟩
      · have q := q2.out
        go_wp2
        exact ⟨⟨rfl, rfl, 3, by omega, rfl⟩, by simp [intOf]⟩
      · have q := q3.out
        go_wp2
        exact ⟨⟨rfl, rfl, 4, by omega, rfl⟩, by simp [intOf]⟩
end Go.Proofs.YtfbepdlahaefgaaDoor
