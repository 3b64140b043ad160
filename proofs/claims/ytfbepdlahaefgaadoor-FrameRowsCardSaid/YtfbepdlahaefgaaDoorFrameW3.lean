/- The walks of package frame, third part: Open. -/
import Derived.Test.YtfbepdlahaefgaaDoorFrameW2
import Derived.Test.YtfbepdlahaefgaaDoorOpenR
import Derived.Test.YtfbepdlahaefgaaDoorLaw11L
import Derived.Test.YtfbepdlahaefgaaDoorLaw11A
namespace Go.Proofs.YtfbepdlahaefgaaDoor
open Go.RowKit
open Crc (R sum)
open Frm (le4 byteAt num4 head body frame fault fixed opened bad size)

theorem IsBytes.sub {w : World} {b off n : Nat} {bs : List (BitVec 8)} (hn : n = bs.length) (hlt : b < w.heap.size) (hb : BytesAt w b off bs) (i j : Nat) (hij : i ≤ j) (hj : j ≤ n) (c : Nat) (hcj : j - i ≤ c) (hcm : c ≤ maxLen) :
    IsBytes w (.slice (some ⟨b, off + i, none⟩) (j - i) c) ((bs.drop i).take (j - i)) := by
  refine ⟨_, _, _, rfl, by rw [List.length_take, List.length_drop]; omega, hcj, hcm, .inr ⟨b, off + i, rfl, hlt, fun k hk => ?_⟩⟩
  have hk' : k < j - i ∧ k < bs.length - i := by rw [List.length_take, List.length_drop] at hk; omega
  have := hb (i + k) (by omega)
  rw [Nat.add_assoc, this]
  rw [List.getElem_take, List.getElem_drop]
theorem frNumber_is (v : Value) (bs : List (BitVec 8)) (z : Nat) (w : World) (hv : IsBytes w v bs) (h4 : 4 ≤ bs.length) (hz : (num4 bs).toNat = z) :
    Calls Tryd.prog 44 #[v] w fun e w' => e = .returned (.int .u32 z) ∧ w = w' := by
  subst hz; exact frNumber_any v bs w hv h4
theorem fixed_is (v : Value) (bs : List (BitVec 8)) (x : Int) (w : World) (hv : IsBytes w v bs) (hx : fixed bs = x) :
    Calls Tryd.prog 43 #[v] w fun e w' => e = .returned (.int .i64 x) ∧ Below w.heap.size w w' := by
  subst hx; exact fixed_any v bs w hv
theorem IsBytes.nil_ (w : World) : IsBytes w (.slice none 0 0) [] := ⟨_, _, _, rfl, rfl, Nat.le_refl _, by decide, .inl rfl⟩

theorem res_of {w w1 : World} {u v : Value} {t : TypeId} (hb : Below (w.alloc (.cells #[u, v] t)).heap.size (w.alloc (.cells #[u, v] t)) w1) :
    w1.cell? ⟨w.heap.size, 0, none⟩ = some u ∧ w1.cell? ⟨w.heap.size, 1, none⟩ = some v ∧ w1.frozen? ⟨w.heap.size, 0, none⟩ = false ∧ w1.frozen? ⟨w.heap.size, 1, none⟩ = false ∧ w.heap.size < w1.heap.size ∧ Below w.heap.size w w1 := by
  have hlt : w.heap.size < (w.alloc (.cells #[u, v] t)).heap.size := by simp
  have hk := hb.block _ hlt
  rw [heap_alloc_new w _] at hk
  refine ⟨?_, ?_, ?_, ?_, Nat.lt_of_lt_of_le hlt hb.size, ((Below.refl _ _).alloc (Nat.le_refl _) _).trans (hb.mono (Nat.le_of_lt hlt))⟩
  · rw [cell_of_row _ _ 0 #[u, v] t (0, 0) hk]; rfl
  · rw [cell_of_row _ _ 1 #[u, v] t (0, 0) hk]; rfl
  · simp [World.frozen?, hk]
  · simp [World.frozen?, hk]
theorem open_fault (a : Option Addr) (n cap : Nat) (bs : List (BitVec 8)) (x : Int) (w : World) (hv : IsBytes w (.slice a n cap) bs) (hx : fixed bs = x) (h0 : ¬ x = 0) :
    Calls Tryd.prog 29 #[.slice a n cap] w fun e w' => e = .returned (.tuple #[.agg #[.int .i64 0, .slice none 0 0], .int .i64 0, .int .i64 x]) ∧ Below w.heap.size w w' := by
  have HV := Lib.hid hv
  have hne : (x != 0) = true := by rw [bne_iff_ne]; exact h0
  clear hv
  go_enter Tryd.func29, Tryd.ntmps29
  go_wp2_with (go_at_call 43; refine (fixed_is _ bs x _ (HV.out.alloc _) hx).mono ?_; rintro e w1 ⟨rfl, hb1⟩; obtain ⟨c0, c1, f0, f1, hB, hbw⟩ := res_of hb1)
  refine bodyPost_ret (v := .tuple #[.agg #[.int .i64 0, .slice none 0 0], .int .i64 0, .int .i64 x]) (by simp [results, Tryd.results29, go_sem, c0, c1]) rfl ⟨rfl, (hbw.setCell (Nat.le_refl _) _).setCell (Nat.le_refl _) _⟩
theorem open_short (a : Option Addr) (n cap : Nat) (bs : List (BitVec 8)) (w : World) (hv : IsBytes w (.slice a n cap) bs) (hx : fixed bs = 0) (h8 : n < 8) :
    Calls Tryd.prog 29 #[.slice a n cap] w fun e w' => e = .returned (.tuple #[.agg #[.int .i64 0, .slice none 0 0], .int .i64 0, .int .i64 130]) ∧ Below w.heap.size w w' := by
  have HV := Lib.hid hv
  clear hv
  go_enter Tryd.func29, Tryd.ntmps29
  have h8' : (n : Int) < 8 := by omega
  go_wp2_with (go_at_call 43; refine (fixed_is _ bs 0 _ (HV.out.alloc _) hx).mono ?_; rintro e w1 ⟨rfl, hb1⟩; obtain ⟨c0, c1, f0, f1, hB, hbw⟩ := res_of hb1)
  refine bodyPost_ret (v := .tuple #[.agg #[.int .i64 0, .slice none 0 0], .int .i64 0, .int .i64 130]) (by simp [results, Tryd.results29, go_sem, c0, c1]) rfl ⟨rfl, (hbw.setCell (Nat.le_refl _) _).setCell (Nat.le_refl _) _⟩
/-- What is cut off ahead, and further worlds. -/
theorem sub_from {w w1 : World} {o : Obj} {b off n cap : Nat} {bs : List (BitVec 8)} (hv : IsBytes w (.slice (some ⟨b, off, none⟩) n cap) bs) (hb1 : Below (w.alloc o).heap.size (w.alloc o) w1) (i : Nat) (hi : i ≤ n) :
    IsBytes w1 (.slice (some ⟨b, off + i, none⟩) (n - i) (cap - i)) (bs.drop i) := by
  obtain ⟨a', n', cap', he, hn, hc, hm, hb⟩ := (hv.alloc o).below hb1
  injection he with h1 h2 h3
  subst h1 h2 h3
  refine ⟨_, _, _, rfl, by rw [List.length_drop, hn], by omega, by unfold maxLen at *; omega, ?_⟩
  rcases hb with rfl | ⟨b', off', ha, hlt, hb⟩
  · exact .inl (by simp)
  · injection ha with ha
    injection ha with h1 h2
    subst h1 h2
    refine .inr ⟨b, off + i, rfl, hlt, fun k hk => ?_⟩
    rw [List.length_drop] at hk
    have := hb (i + k) (by omega)
    rw [Nat.add_assoc, this, List.getElem_drop]
theorem open_size (b off n cap z : Nat) (bs : List (BitVec 8)) (w : World) (hv : IsBytes w (.slice (some ⟨b, off, none⟩) n cap) bs) (hc : n ≤ cap) (hx : fixed bs = 0) (h8 : 8 ≤ n) (hdl : 4 ≤ (bs.drop 4).length) (hz : (num4 (bs.drop 4)).toNat = z) (hzl : 65536 < z) :
    Calls Tryd.prog 29 #[.slice (some ⟨b, off, none⟩) n cap] w fun e w' => e = .returned (.tuple #[.agg #[.int .i64 0, .slice none 0 0], .int .i64 0, .int .i64 134]) ∧ Below w.heap.size w w' := by
  have HV := Lib.hid hv
  have h8' : ¬ (n : Int) < 8 := by omega
  have h4c : 4 ≤ cap := by omega
  clear hv
  have hg : (65536 : Int) < (z : Int) := by omega
  go_enter Tryd.func29, Tryd.ntmps29
  go_wp2_with first
    | (go_at_call 43; refine (fixed_is _ bs 0 _ (HV.out.alloc _) hx).mono ?_; rintro e w1 ⟨rfl, hb1⟩; obtain ⟨c0, c1, f0, f1, hB, hbw⟩ := res_of hb1)
    | (go_at_call 44; refine (frNumber_is _ (bs.drop 4) z _ (sub_from HV.out hb1 4 (by omega)) hdl hz).mono ?_; rintro e w2 ⟨rfl, rfl⟩)
  refine bodyPost_ret (v := .tuple #[.agg #[.int .i64 0, .slice none 0 0], .int .i64 0, .int .i64 134]) (by simp [results, Tryd.results29, go_sem, c0, c1]) rfl ⟨rfl, (hbw.setCell (Nat.le_refl _) _).setCell (Nat.le_refl _) _⟩
theorem open_cut (b off n cap z : Nat) (bs : List (BitVec 8)) (w : World) (hv : IsBytes w (.slice (some ⟨b, off, none⟩) n cap) bs) (hc : n ≤ cap) (hx : fixed bs = 0) (h8 : 8 ≤ n) (hdl : 4 ≤ (bs.drop 4).length) (hz : (num4 (bs.drop 4)).toNat = z) (hzl : z ≤ 65536) (hnl : n < z + 12) :
    Calls Tryd.prog 29 #[.slice (some ⟨b, off, none⟩) n cap] w fun e w' => e = .returned (.tuple #[.agg #[.int .i64 0, .slice none 0 0], .int .i64 0, .int .i64 130]) ∧ Below w.heap.size w w' := by
  have HV := Lib.hid hv
  have h8' : ¬ (n : Int) < 8 := by omega
  have h4c : 4 ≤ cap := by omega
  clear hv
  have hg : ¬ (65536 : Int) < (z : Int) := by omega
  have hg2 : (n : Int) < (z : Int) + 12 := by omega
  go_enter Tryd.func29, Tryd.ntmps29
  go_wp2_with first
    | (go_at_call 43; refine (fixed_is _ bs 0 _ (HV.out.alloc _) hx).mono ?_; rintro e w1 ⟨rfl, hb1⟩; obtain ⟨c0, c1, f0, f1, hB, hbw⟩ := res_of hb1)
    | (go_at_call 44; refine (frNumber_is _ (bs.drop 4) z _ (sub_from HV.out hb1 4 (by omega)) hdl hz).mono ?_; rintro e w2 ⟨rfl, rfl⟩)
  refine bodyPost_ret (v := .tuple #[.agg #[.int .i64 0, .slice none 0 0], .int .i64 0, .int .i64 130]) (by simp [results, Tryd.results29, go_sem, c0, c1]) rfl ⟨rfl, (hbw.setCell (Nat.le_refl _) _).setCell (Nat.le_refl _) _⟩
/-- Cut off ahead, cut off behind, both. -/
theorem IsBytes.from_ {w : World} {b off n cap : Nat} {bs : List (BitVec 8)} (hv : IsBytes w (.slice (some ⟨b, off, none⟩) n cap) bs) (i : Nat) (hi : i ≤ n) : IsBytes w (.slice (some ⟨b, off + i, none⟩) (n - i) (cap - i)) (bs.drop i) := by
  obtain ⟨a', n', cap', he, hn, hc, hm, hb⟩ := hv
  injection he with h1 h2 h3
  subst h1 h2 h3
  refine ⟨_, _, _, rfl, by rw [List.length_drop, hn], by omega, by unfold maxLen at *; omega, ?_⟩
  rcases hb with rfl | ⟨b', off', ha, hlt, hb⟩
  · exact .inl (by simp)
  · injection ha with ha
    injection ha with h1 h2
    subst h1 h2
    refine .inr ⟨b, off + i, rfl, hlt, fun k hk => ?_⟩
    rw [List.length_drop] at hk
    have := hb (i + k) (by omega)
    rw [Nat.add_assoc, this, List.getElem_drop]
theorem IsBytes.upto {w : World} {a : Option Addr} {n cap : Nat} {bs : List (BitVec 8)} (hv : IsBytes w (.slice a n cap) bs) (j : Nat) (hj : j ≤ n) : IsBytes w (.slice a j cap) (bs.take j) := by
  obtain ⟨a', n', cap', he, hn, hc, hm, hb⟩ := hv
  injection he with h1 h2 h3
  subst h1 h2 h3
  refine ⟨_, _, _, rfl, by rw [List.length_take]; omega, by omega, hm, ?_⟩
  rcases hb with rfl | ⟨b', off', ha, hlt, hb⟩
  · exact .inl (by simp)
  · refine .inr ⟨b', off', ha, hlt, fun k hk => ?_⟩
    rw [List.length_take] at hk
    rw [hb k (by omega), List.getElem_take]
set_option maxRecDepth 4000 in
set_option maxHeartbeats 2000000 in
theorem open_full (b off n cap z : Nat) (bs : List (BitVec 8)) (w : World) (hv : IsBytes w (.slice (some ⟨b, off, none⟩) n cap) bs) (hn : bs.length = n) (hc : n ≤ cap) (hcm : cap ≤ 9223372036854775807) (hx : fixed bs = 0) (h8 : 8 ≤ n) (hdl : 4 ≤ (bs.drop 4).length) (hz : (num4 (bs.drop 4)).toNat = z) (hzl : z ≤ 65536) (hnl : z + 12 ≤ n) (ht : Tab w) :
    Calls Tryd.prog 29 #[.slice (some ⟨b, off, none⟩) n cap] w fun e w' => (num4 (bs.drop (z + 8)) ≠ sum (bs.take (z + 8)) → e = .returned (.tuple #[.agg #[.int .i64 0, .slice none 0 0], .int .i64 0, .int .i64 135])) ∧
      (num4 (bs.drop (z + 8)) = sum (bs.take (z + 8)) → ∃ a m c, e = .returned (.tuple #[.agg #[.int .i64 (bs.getD 3 0#8).toNat, .slice a m c], .int .i64 ((z + 12 : Nat) : Int), .int .i64 0]) ∧ Bit w.heap.size w' (.slice a m c) ((bs.drop 8).take z)) ∧ Below w.heap.size w w' := by
  have HV := Lib.hid hv
  have HT := Lib.hid ht
  have HN := Lib.hid hn
  have HCM := Lib.hid hcm
  have h8' : ¬ (n : Int) < 8 := by omega
  have h4c : 4 ≤ cap := by omega
  have hg : ¬ (65536 : Int) < (z : Int) := by omega
  have hg2 : ¬ (n : Int) < (z : Int) + 12 := by omega
  clear hv ht hn hcm
  go_enter Tryd.func29, Tryd.ntmps29
  go_wp2_with first
    | (go_at_call 43; refine (fixed_is _ bs 0 _ (HV.out.alloc _) hx).mono ?_; rintro e w1 ⟨rfl, hb1⟩; obtain ⟨c0, c1, f0, f1, hB, hbw⟩ := res_of hb1)
    | (go_at_call 44; refine (frNumber_is _ (bs.drop 4) z _ (sub_from HV.out hb1 4 (by omega)) hdl hz).mono ?_; rintro e w2 ⟨rfl, rfl⟩)
  obtain ⟨hlt, hbw0⟩ : b < w.heap.size ∧ BytesAt w b off bs := by
    obtain ⟨b', off', he, hlt, hb⟩ := addr_of HV.out (by have := HN.out; omega)
    injection he with he
    injection he with e1 e2
    subst e1 e2
    exact ⟨hlt, hb⟩
  have HV1 : Hid (IsBytes w1 (.slice (some ⟨b, off, none⟩) n cap) bs) := HV.out.below hbw
  have HT1 : Hid (Tab w1) := HT.out.below hbw
  have HW := Lib.hid hbw
  clear hb1 hbw hbw0 hz hx
  obtain ⟨B, hBe⟩ : ∃ B, B = w.heap.size := ⟨_, rfl⟩
  rw [← hBe] at c0 c1 f0 f1 hB hlt ⊢
  have HBE := Lib.hid hBe
  clear hBe
  have z8 : z + 8 ≤ n := by omega
  have z8c : z + 8 ≤ cap := by omega
  have hcap0 : ¬ cap = 0 := by omega
  have hw8 : IntKind.i64.wrap ((z : Int) + 12 - 4) = (z : Int) + 8 := by rw [IntKind.wrap_i64]; omega
  have hzt : ((z : Int) + 8).toNat = z + 8 := by omega
  have hz0 : 0 ≤ (z : Int) + 8 ∧ (z : Int) + 8 ≤ n := by omega
  have hz1 : 0 ≤ (z : Int) + 8 ∧ (z : Int) + 8 ≤ cap := by omega
  have hzc : ¬ cap = z + 8 := by omega
  have hq : ∃ q : Bool, q = (((num4 (bs.drop (z + 8))).toNat : Int) != ((sum (bs.take (z + 8))).toNat : Int)) := ⟨_, rfl⟩
  obtain ⟨q, hq⟩ := hq
  refine wp_region_marks (by kernel_rfl) (by kernel_rfl) (fun t v w => match t with
    | 31 => v = .slice (some ⟨b, off, none⟩) n cap
    | 32 => v = .int .i64 ((z : Int) + 12)
    | 33 => v = .int .i64 ((z : Int) + 8)
    | 34 => v = .slice (some ⟨b, off + (z + 8), none⟩) (n - (z + 8)) (cap - (z + 8))
    | 35 => v = .int .u32 (num4 (bs.drop (z + 8))).toNat
    | 36 => v = .slice (some ⟨b, off, none⟩) n cap
    | 37 => v = .int .i64 ((z : Int) + 12)
    | 38 => v = .int .i64 ((z : Int) + 8)
    | 39 => v = .slice (some ⟨b, off, none⟩) (z + 8) cap
    | 40 => IsParts w v [bs.take (z + 8)]
    | 41 => v = .int .u32 (sum (bs.take (z + 8))).toNat
    | 42 => v = .bool q
    | _ => True) NoMark (fun w w' => Below w.heap.size w w') (fun h h' => h.trans (h'.mono h.size)) ((Below.refl _ _).drew) ?_ (fun _ _ _ _ h _ => h) ?_ ?_
  · intro t v w w' _ h hb
    split at h <;> first | exact h | exact IsParts.below h hb | (split <;> first | trivial | simp_all)
  · intro i o ac w ho hR hdf hsz hbase hfact
    clear hdf hsz
    match i, ho with
        | 0, ho =>
          injection ho with ho
          subst ho
          have h1 := slot_of (hbase 0 (base_of (by kernel_rfl)) (by decide))
          refine op_done_m rfl rfl (v := .slice (some ⟨b, off, none⟩) n cap) (w' := w) ?_ (Below.refl _ _) (by rintro t ⟨⟩; rfl) (trivial)
          clear hfact hbase
          go_simp
        | 1, ho =>
          injection ho with ho
          subst ho
          have h1 := slot_of (hbase 3 (base_of (by kernel_rfl)) (by decide))
          refine op_done_m rfl rfl (v := .int .i64 ((z : Int) + 12)) (w' := w) ?_ (Below.refl _ _) (by rintro t ⟨⟩; rfl) (trivial)
          clear hfact hbase
          go_simp
        | 2, ho =>
          injection ho with ho
          subst ho
          have h1 := slot_of (hfact 1 32 (by kernel_rfl) (by kernel_rfl))
          refine op_done_m rfl rfl (v := .int .i64 ((z : Int) + 8)) (w' := w) ?_ (Below.refl _ _) (by rintro t ⟨⟩; rfl) (trivial)
          clear hfact hbase
          go_simp
        | 3, ho =>
          injection ho with ho
          subst ho
          have h1 := slot_of (hfact 0 31 (by kernel_rfl) (by kernel_rfl))
          have h2 := slot_of (hfact 2 33 (by kernel_rfl) (by kernel_rfl))
          refine op_done_m rfl rfl (v := .slice (some ⟨b, off + (z + 8), none⟩) (n - (z + 8)) (cap - (z + 8))) (w' := w) ?_ (Below.refl _ _) (by rintro t ⟨⟩; rfl) (trivial)
          clear hfact hbase
          go_simp
        | 4, ho =>
          injection ho with ho
          subst ho
          have h1 := slot_of (hfact 3 34 (by kernel_rfl) (by kernel_rfl))
          refine op_call_m rfl rfl (f := 44) (args := #[.slice (some ⟨b, off + (z + 8), none⟩) (n - (z + 8)) (cap - (z + 8))]) (w1 := w) ?_ ?_
          · clear hfact hbase
            go_simp
          · refine (frNumber_any _ (bs.drop (z + 8)) _ (IsBytes.from_ (HV1.out.below hR) (z + 8) z8) (by have := HN.out; rw [List.length_drop]; omega)).mono ?_
            rintro e w' ⟨rfl, rfl⟩
            exact ⟨_, rfl, Below.refl _ _, by rintro t ⟨⟩; rfl, trivial⟩
        | 5, ho =>
          injection ho with ho
          subst ho
          have h1 := slot_of (hbase 0 (base_of (by kernel_rfl)) (by decide))
          refine op_done_m rfl rfl (v := .slice (some ⟨b, off, none⟩) n cap) (w' := w) ?_ (Below.refl _ _) (by rintro t ⟨⟩; rfl) (trivial)
          clear hfact hbase
          go_simp
        | 6, ho =>
          injection ho with ho
          subst ho
          have h1 := slot_of (hbase 3 (base_of (by kernel_rfl)) (by decide))
          refine op_done_m rfl rfl (v := .int .i64 ((z : Int) + 12)) (w' := w) ?_ (Below.refl _ _) (by rintro t ⟨⟩; rfl) (trivial)
          clear hfact hbase
          go_simp
        | 7, ho =>
          injection ho with ho
          subst ho
          have h1 := slot_of (hfact 6 37 (by kernel_rfl) (by kernel_rfl))
          refine op_done_m rfl rfl (v := .int .i64 ((z : Int) + 8)) (w' := w) ?_ (Below.refl _ _) (by rintro t ⟨⟩; rfl) (trivial)
          clear hfact hbase
          go_simp
        | 8, ho =>
          injection ho with ho
          subst ho
          have h1 := slot_of (hfact 5 36 (by kernel_rfl) (by kernel_rfl))
          have h2 := slot_of (hfact 7 38 (by kernel_rfl) (by kernel_rfl))
          refine op_done_m rfl rfl (v := .slice (some ⟨b, off, none⟩) (z + 8) cap) (w' := w) ?_ (Below.refl _ _) (by rintro t ⟨⟩; rfl) (trivial)
          clear hfact hbase
          go_simp
        | 9, ho =>
          injection ho with ho
          subst ho
          have h1 := slot_of (hfact 8 39 (by kernel_rfl) (by kernel_rfl))
          refine op_done_m rfl rfl (v := .slice (some ⟨w.heap.size, 0, none⟩) 1 1) (w' := w.alloc (.cells #[.slice (some ⟨b, off, none⟩) (z + 8) cap] 24)) ?_ ((Below.refl _ _).alloc (Nat.le_refl _) _) (by rintro t ⟨⟩; exact IsParts.one rfl _ _ _ (IsBytes.upto (HV1.out.below hR) (z + 8) z8)) (trivial)
          clear hfact hbase
          go_simp
        | 10, ho =>
          injection ho with ho
          subst ho
          have h1 : IsParts w (ac.eval (.tmp 40)) [bs.take (z + 8)] := hfact 9 40 (by kernel_rfl) (by kernel_rfl)
          refine op_call_m rfl rfl (f := 18) (args := #[ac.eval (.tmp 40)]) (w1 := w) ?_ ?_
          · clear hfact hbase
            go_simp
          · refine (of_one _ (bs.take (z + 8)) _ h1 (HT1.out.below hR)).mono ?_
            rintro e w' ⟨rfl, rfl⟩
            exact ⟨_, rfl, Below.refl _ _, by rintro t ⟨⟩; rfl, trivial⟩
        | 11, ho =>
          injection ho with ho
          subst ho
          have h1 := slot_of (hfact 4 35 (by kernel_rfl) (by kernel_rfl))
          have h2 := slot_of (hfact 10 41 (by kernel_rfl) (by kernel_rfl))
          refine op_done_m rfl rfl (v := .bool q) (w' := w) ?_ (Below.refl _ _) (by rintro t ⟨⟩; rfl) (trivial)
          clear hfact hbase
          go_simp
        | n + 12, ho => cases ho
  · intro ac w2 hR hdf hsz hbase hfact _
    obtain ⟨x40, h40⟩ : ∃ x, x = ac.tmps.getD 40 undef := ⟨_, rfl⟩
    have hac : ac = ⟨List.toArray (.slice (some ⟨b, off, none⟩) n cap :: undef :: .pointer (some ⟨B, 0, none⟩) :: .int .i64 ((z : Int) + 12) :: .int .i64 0 :: .int .i64 0 :: .int .u32 z :: .slice (some ⟨b, off, none⟩) n cap :: .int .i64 0 :: .int .i64 0 :: .bool false :: undef :: undef :: .slice (some ⟨b, off, none⟩) n cap :: .int .i64 n :: .bool (decide ((n : Int) < 8)) :: undef :: .slice (some ⟨b, off, none⟩) n cap :: .slice (some ⟨b, off + 4, none⟩) (n - 4) (cap - 4) :: .int .u32 z :: .int .u32 z :: .bool (decide ((65536 : Int) < z)) :: undef :: .int .u32 z :: .int .i64 z :: .int .i64 ((z : Int) + 12) :: .slice (some ⟨b, off, none⟩) n cap :: .int .i64 n :: .int .i64 ((z : Int) + 12) :: .bool (decide ((n : Int) < (z : Int) + 12)) :: undef :: .slice (some ⟨b, off, none⟩) n cap :: .int .i64 ((z : Int) + 12) :: .int .i64 ((z : Int) + 8) :: .slice (some ⟨b, off + (z + 8), none⟩) (n - (z + 8)) (cap - (z + 8)) :: .int .u32 (num4 (bs.drop (z + 8))).toNat :: .slice (some ⟨b, off, none⟩) n cap :: .int .i64 ((z : Int) + 12) :: .int .i64 ((z : Int) + 8) :: .slice (some ⟨b, off, none⟩) (z + 8) cap :: x40 :: .int .u32 (sum (bs.take (z + 8))).toNat :: .bool q :: undef :: undef :: undef :: undef :: undef :: undef :: undef :: undef :: undef :: undef :: undef :: undef :: undef :: []), []⟩ := by
      refine act_of hdf hsz ?_
      intro i hi
      match i, hi with
      | 0, _ => exact hbase 0 (noDst_spec (by kernel_rfl))
      | 1, _ => exact hbase 1 (noDst_spec (by kernel_rfl))
      | 2, _ => exact hbase 2 (noDst_spec (by kernel_rfl))
      | 3, _ => exact hbase 3 (noDst_spec (by kernel_rfl))
      | 4, _ => exact hbase 4 (noDst_spec (by kernel_rfl))
      | 5, _ => exact hbase 5 (noDst_spec (by kernel_rfl))
      | 6, _ => exact hbase 6 (noDst_spec (by kernel_rfl))
      | 7, _ => exact hbase 7 (noDst_spec (by kernel_rfl))
      | 8, _ => exact hbase 8 (noDst_spec (by kernel_rfl))
      | 9, _ => exact hbase 9 (noDst_spec (by kernel_rfl))
      | 10, _ => exact hbase 10 (noDst_spec (by kernel_rfl))
      | 11, _ => exact hbase 11 (noDst_spec (by kernel_rfl))
      | 12, _ => exact hbase 12 (noDst_spec (by kernel_rfl))
      | 13, _ => exact hbase 13 (noDst_spec (by kernel_rfl))
      | 14, _ => exact hbase 14 (noDst_spec (by kernel_rfl))
      | 15, _ => exact hbase 15 (noDst_spec (by kernel_rfl))
      | 16, _ => exact hbase 16 (noDst_spec (by kernel_rfl))
      | 17, _ => exact hbase 17 (noDst_spec (by kernel_rfl))
      | 18, _ => exact hbase 18 (noDst_spec (by kernel_rfl))
      | 19, _ => exact hbase 19 (noDst_spec (by kernel_rfl))
      | 20, _ => exact hbase 20 (noDst_spec (by kernel_rfl))
      | 21, _ => exact hbase 21 (noDst_spec (by kernel_rfl))
      | 22, _ => exact hbase 22 (noDst_spec (by kernel_rfl))
      | 23, _ => exact hbase 23 (noDst_spec (by kernel_rfl))
      | 24, _ => exact hbase 24 (noDst_spec (by kernel_rfl))
      | 25, _ => exact hbase 25 (noDst_spec (by kernel_rfl))
      | 26, _ => exact hbase 26 (noDst_spec (by kernel_rfl))
      | 27, _ => exact hbase 27 (noDst_spec (by kernel_rfl))
      | 28, _ => exact hbase 28 (noDst_spec (by kernel_rfl))
      | 29, _ => exact hbase 29 (noDst_spec (by kernel_rfl))
      | 30, _ => exact hbase 30 (noDst_spec (by kernel_rfl))
      | 31, _ => exact hfact 0 31 (by kernel_rfl)
      | 32, _ => exact hfact 1 32 (by kernel_rfl)
      | 33, _ => exact hfact 2 33 (by kernel_rfl)
      | 34, _ => exact hfact 3 34 (by kernel_rfl)
      | 35, _ => exact hfact 4 35 (by kernel_rfl)
      | 36, _ => exact hfact 5 36 (by kernel_rfl)
      | 37, _ => exact hfact 6 37 (by kernel_rfl)
      | 38, _ => exact hfact 7 38 (by kernel_rfl)
      | 39, _ => exact hfact 8 39 (by kernel_rfl)
      | 40, _ => exact h40.symm
      | 41, _ => exact hfact 10 41 (by kernel_rfl)
      | 42, _ => exact hfact 11 42 (by kernel_rfl)
      | 43, _ => exact hbase 43 (noDst_spec (by kernel_rfl))
      | 44, _ => exact hbase 44 (noDst_spec (by kernel_rfl))
      | 45, _ => exact hbase 45 (noDst_spec (by kernel_rfl))
      | 46, _ => exact hbase 46 (noDst_spec (by kernel_rfl))
      | 47, _ => exact hbase 47 (noDst_spec (by kernel_rfl))
      | 48, _ => exact hbase 48 (noDst_spec (by kernel_rfl))
      | 49, _ => exact hbase 49 (noDst_spec (by kernel_rfl))
      | 50, _ => exact hbase 50 (noDst_spec (by kernel_rfl))
      | 51, _ => exact hbase 51 (noDst_spec (by kernel_rfl))
      | 52, _ => exact hbase 52 (noDst_spec (by kernel_rfl))
      | 53, _ => exact hbase 53 (noDst_spec (by kernel_rfl))
      | 54, _ => exact hbase 54 (noDst_spec (by kernel_rfl))
      | 55, _ => exact hbase 55 (noDst_spec (by kernel_rfl))
      | n + 56, h => exact absurd h (by simp)
    clear hbase hfact hdf hsz h40
    subst hac
    have d0 := (hR.cell (p := ⟨B, 0, none⟩) hB).trans c0
    have d1 := (hR.cell (p := ⟨B, 1, none⟩) hB).trans c1
    have e0 : w2.frozen? ⟨B, 0, none⟩ = false := by rw [← f0]; simp only [World.frozen?, hR.block B hB]
    have e1 : w2.frozen? ⟨B, 1, none⟩ = false := by rw [← f1]; simp only [World.frozen?, hR.block B hB]
    have hB2 : B < w2.heap.size := Nat.lt_of_lt_of_le hB hR.size
    have hbB : Below B w w2 := by
      refine Below.trans ?_ (hR.mono (Nat.le_of_lt hB))
      rw [HBE.out]; exact HW.out
    have HV2 : Hid (IsBytes w2 (.slice (some ⟨b, off, none⟩) n cap) bs) := HV1.out.below hR
    have HBB := Lib.hid hbB
    have HQ := Lib.hid hq
    clear c0 c1 f0 f1 HT HT1 HV HV1 HW hB hbB hR hq
    cases q with
    | true =>
      go_wp2
      have hne : num4 (bs.drop (z + 8)) ≠ sum (bs.take (z + 8)) := by
        intro he
        have := HQ.out
        rw [he] at this
        simp at this
      refine bodyPost_ret (v := .tuple #[.agg #[.int .i64 0, .slice none 0 0], .int .i64 0, .int .i64 135]) (by simp [results, Tryd.results29, go_sem, d0, d1]) rfl ⟨fun _ => rfl, fun he => absurd he hne, ?_⟩
      rw [← HBE.out]
      exact (HBB.out.setCell (Nat.le_refl _) _).setCell (Nat.le_refl _) _
    | false =>
      have heq : num4 (bs.drop (z + 8)) = sum (bs.take (z + 8)) := by
        have := HQ.out
        apply BitVec.eq_of_toNat_eq
        have h2 := bne_eq_false_iff_eq.1 this.symm
        omega
      have HEQ := Lib.hid heq
      clear heq
      go_wp2
      have hr : Ready B w2 := ⟨hB2, ⟨_, d0⟩, ⟨_, d1⟩, e0, e1⟩
      obtain ⟨hl2, hat⟩ : b < w2.heap.size ∧ BytesAt w2 b off bs := by
        obtain ⟨b', off', he, hlt, hb⟩ := addr_of HV2.out (by have := HN.out; omega)
        injection he with he
        injection he with e1 e2
        subst e1 e2
        exact ⟨hlt, hb⟩
      have h3l : 3 < bs.length := by have := HN.out; omega
      have hk3 : bs.getD 3 0#8 = bs[3] := by rw [List.getD_eq_getElem?_getD, List.getElem?_eq_getElem h3l]; rfl
      have hl3 := hat 3 h3l
      obtain ⟨kk, hkk⟩ : ∃ kk : Nat, kk = (bs.getD 3 0#8).toNat := ⟨_, rfl⟩
      rw [← hk3, ← hkk] at hl3
      have hk255 : kk < 256 := by rw [hkk]; exact (bs.getD 3 0#8).isLt
      have HKK := Lib.hid (hkk.trans (by rw [hk3]))
      have hc8 : ¬ cap = 8 := by omega
      have HBA := Lib.hid hat
      clear hkk hk3 d0 d1 e0 e1 hat
      have hwk : IntKind.i64.wrap (kk : Int) = kk := by rw [IntKind.wrap_i64]; omega
      have hz80 : 0 ≤ (8 : Int) ∧ (8 : Int) ≤ (z : Int) + 8 := by omega
      have hz88 : z + 8 - 8 = z := by omega
      have h3n : 0 ≤ (3 : Int) ∧ (3 : Int) < n := by omega
      have hp8 : ((bs.drop 8).take z).length = z := by have := HN.out; rw [List.length_take, List.length_drop]; omega
      refine wp_region_marks (by kernel_rfl) (by kernel_rfl) (fun t v w => match t with
        | 44 => v = .slice (some ⟨b, off, none⟩) n cap
        | 45 => v = .pointer (some ⟨b, off + 3, none⟩)
        | 46 => v = .int .u8 kk
        | 47 => v = .int .i64 kk
        | 48 => ∃ g, v = .slice (some g) 0 0
        | 49 => v = .slice (some ⟨b, off, none⟩) n cap
        | 50 => v = .int .i64 ((z : Int) + 12)
        | 51 => v = .int .i64 ((z : Int) + 8)
        | 52 => v = .slice (some ⟨b, off + 8, none⟩) z (cap - 8)
        | 53 => ∃ a m c, v = .slice a m c ∧ Bit B w (.slice a m c) ((bs.drop 8).take z)
        | 54 => ∃ a m c, v = .agg #[.int .i64 kk, .slice a m c] ∧ Bit B w (.slice a m c) ((bs.drop 8).take z)
        | 55 => v = .int .i64 ((z : Int) + 12)
        | 3 => v = .int .i64 ((z : Int) + 12)
        | 4 => v = .int .i64 0
        | _ => True) (OpenMark B (.int .i64 kk) ((bs.drop 8).take z)) (Step B (.int .i64 kk) ((bs.drop 8).take z)) (fun h h' => h.trans h') (.of_below hB2 ((Below.refl _ _).drew)) ?_ (fun j w w' _ h hs hj => hs.stored (h hj)) ?_ ?_
      · intro t v w w' _ h hb
        split at h <;> first
          | exact h
          | (obtain ⟨a, m, c, h1, h2⟩ := h; exact ⟨a, m, c, h1, h2.keep hb.below.size hb.other⟩)
          | (split <;> first | trivial | simp_all)
      · intro i o ac w ho hR hdf hsz hbase hfact
        clear hdf hsz
        have hBw : B < w.heap.size := Nat.lt_of_lt_of_le hB2 hR.below.size
        have hlw : w.cell? ⟨b, off + 3, none⟩ = some (.int .u8 kk) := (World.cell?_of_block (a := ⟨b, off + 3, none⟩) (hR.other b hl2 (by omega))).trans hl3
        match i, ho with
        | 0, ho =>
          injection ho with ho
          subst ho
          have h1 := slot_of (hbase 0 (base_of (by kernel_rfl)) (by decide))
          refine op_done_m rfl rfl (v := .slice (some ⟨b, off, none⟩) n cap) (w' := w) ?_ (Step.refl hBw) (by rintro t ⟨⟩; rfl) (by intro h; cases h)
          clear hfact hbase
          go_simp
        | 1, ho =>
          injection ho with ho
          subst ho
          have h1 := slot_of (hfact 0 44 (by kernel_rfl) (by kernel_rfl))
          refine op_done_m rfl rfl (v := .pointer (some ⟨b, off + 3, none⟩)) (w' := w) ?_ (Step.refl hBw) (by rintro t ⟨⟩; rfl) (by intro h; cases h)
          clear hfact hbase
          go_simp
        | 2, ho =>
          injection ho with ho
          subst ho
          have h1 := slot_of (hfact 1 45 (by kernel_rfl) (by kernel_rfl))
          refine op_done_m rfl rfl (v := .int .u8 kk) (w' := w) ?_ (Step.refl hBw) (by rintro t ⟨⟩; rfl) (by intro h; cases h)
          clear hfact hbase
          go_simp
        | 3, ho =>
          injection ho with ho
          subst ho
          have h1 := slot_of (hfact 2 46 (by kernel_rfl) (by kernel_rfl))
          refine op_done_m rfl rfl (v := .int .i64 kk) (w' := w) ?_ (Step.refl hBw) (by rintro t ⟨⟩; rfl) (by intro h; cases h)
          clear hfact hbase
          go_simp
        | 4, ho =>
          injection ho with ho
          subst ho
          refine op_done_m rfl rfl (v := .slice (some ⟨w.heap.size, 0, none⟩) 0 0) (w' := w.alloc (.cells #[] 5)) ?_ (.of_below hBw ((Below.refl _ _).alloc (Nat.le_refl _) _)) (by rintro t ⟨⟩; exact ⟨_, rfl⟩) (by intro h; cases h)
          clear hfact hbase
          go_simp
        | 5, ho =>
          injection ho with ho
          subst ho
          have h1 := slot_of (hbase 0 (base_of (by kernel_rfl)) (by decide))
          refine op_done_m rfl rfl (v := .slice (some ⟨b, off, none⟩) n cap) (w' := w) ?_ (Step.refl hBw) (by rintro t ⟨⟩; rfl) (by intro h; cases h)
          clear hfact hbase
          go_simp
        | 6, ho =>
          injection ho with ho
          subst ho
          have h1 := slot_of (hbase 3 (base_from (by kernel_rfl)) (by decide))
          refine op_done_m rfl rfl (v := .int .i64 ((z : Int) + 12)) (w' := w) ?_ (Step.refl hBw) (by rintro t ⟨⟩; rfl) (by intro h; cases h)
          clear hfact hbase
          go_simp
        | 7, ho =>
          injection ho with ho
          subst ho
          have h1 := slot_of (hfact 6 50 (by kernel_rfl) (by kernel_rfl))
          refine op_done_m rfl rfl (v := .int .i64 ((z : Int) + 8)) (w' := w) ?_ (Step.refl hBw) (by rintro t ⟨⟩; rfl) (by intro h; cases h)
          clear hfact hbase
          go_simp
        | 8, ho =>
          injection ho with ho
          subst ho
          have h1 := slot_of (hfact 5 49 (by kernel_rfl) (by kernel_rfl))
          have h2 := slot_of (hfact 7 51 (by kernel_rfl) (by kernel_rfl))
          refine op_done_m rfl rfl (v := .slice (some ⟨b, off + 8, none⟩) z (cap - 8)) (w' := w) ?_ (Step.refl hBw) (by rintro t ⟨⟩; rfl) (by intro h; cases h)
          clear hfact hbase
          go_simp
        | 9, ho =>
          injection ho with ho
          subst ho
          have h1 : ∃ g, ac.eval (.tmp 48) = .slice (some g) 0 0 := hfact 4 48 (by kernel_rfl) (by kernel_rfl)
          have h2 : ac.eval (.tmp 52) = .slice (some ⟨b, off + 8, none⟩) z (cap - 8) := hfact 8 52 (by kernel_rfl) (by kernel_rfl)
          obtain ⟨g, h1⟩ := h1
          have hbs : IsBytes w (.slice (some ⟨b, off + 8, none⟩) z (cap - 8)) ((bs.drop 8).take z) := by
            have hb2 : IsBytes w (.slice (some ⟨b, off, none⟩) n cap) bs := ⟨_, _, _, rfl, HN.out.symm, hc, by have := HCM.out; unfold maxLen; omega, .inr ⟨b, off, rfl, Nat.lt_of_lt_of_le hl2 hR.below.size, HBA.out.keep (hR.other b hl2 (by omega))⟩⟩
            exact IsBytes.upto (IsBytes.from_ hb2 8 h8) z (by omega)
          obtain ⟨a', m', c', w', hrun, hbit, hbel⟩ := run_append_empty (P := Tryd.prog) (t := 24) (ty := 24) elemU8 g hbs.reads ⟨_, _, _, rfl⟩ B hBw (by rw [hp8]; omega) (by rw [hp8]; unfold maxLen; omega)
          clear hfact hbase
          exact op_done_m rfl rfl (v := .slice a' m' c') (w' := w') (exec_append (.tmp 48) (.tmp 52) _ rfl h1 h2 hrun) (.of_below hBw hbel) (by rintro t ⟨⟩; exact ⟨_, _, _, rfl, hbit⟩) (by intro h; cases h)
        | 10, ho =>
          injection ho with ho
          subst ho
          have h1 := slot_of (hfact 3 47 (by kernel_rfl) (by kernel_rfl))
          obtain ⟨a', m', c', h2, hbit⟩ := hfact 9 53 (by kernel_rfl) (by kernel_rfl)
          have h2 := slot_of h2
          refine op_done_m rfl rfl (v := .agg #[.int .i64 kk, .slice a' m' c']) (w' := w) ?_ (Step.refl hBw) (by rintro t ⟨⟩; exact ⟨_, _, _, rfl, hbit⟩) (by intro h; cases h)
          clear hfact hbase
          go_simp
        | 11, ho =>
          injection ho with ho
          subst ho
          have h1 := slot_of (hbase 3 (base_from (by kernel_rfl)) (by decide))
          refine op_done_m rfl rfl (v := .int .i64 ((z : Int) + 12)) (w' := w) ?_ (Step.refl hBw) (by rintro t ⟨⟩; rfl) (by intro h; cases h)
          clear hfact hbase
          go_simp
        | 12, ho =>
          injection ho with ho
          subst ho
          obtain ⟨a', m', c', h2, hbit⟩ := hfact 10 54 (by kernel_rfl) (by kernel_rfl)
          have h2 := slot_of h2
          have h1 := slot_of (hbase 2 (base_of (by kernel_rfl)) (by decide))
          have hst := Step.store (k := .int .i64 kk) (hR.ready hr) hbit
          obtain ⟨r1, ⟨u, r2⟩, ⟨u', r3⟩, r4, r5⟩ := hR.ready hr
          refine op_skip_m rfl rfl (w' := (w.setCell ⟨B, 0, none⟩ (.int .i64 kk)).setCell ⟨B, 1, none⟩ (.slice a' m' c')) ?_ hst.1 rfl (fun _ => hst.2)
          clear hfact hbase
          go_simp
        | 13, ho =>
          injection ho with ho
          subst ho
          have h1 := slot_of (hfact 11 55 (by kernel_rfl) (by kernel_rfl))
          refine op_done_m rfl rfl (v := .int .i64 ((z : Int) + 12)) (w' := w) ?_ (Step.refl hBw) (by rintro t ⟨⟩; rfl) (by intro h; cases h)
          clear hfact hbase
          go_simp
        | 14, ho =>
          injection ho with ho
          subst ho
          refine op_done_m rfl rfl (v := .int .i64 0) (w' := w) ?_ (Step.refl hBw) (by rintro t ⟨⟩; rfl) (by intro h; cases h)
          clear hfact hbase
          go_simp
        | n + 15, ho => cases ho
      · intro ac w3 hR hdf hsz hbase hfact hmark
        obtain ⟨a', m', c', s0, s1, hbit⟩ := hmark 12 (by decide) rfl
        have h2 := slot_of (hbase 2 (noDst_spec (by kernel_rfl)))
        have h3 := slot_of (hfact 13 3 (by kernel_rfl))
        have h4 := slot_of (hfact 14 4 (by kernel_rfl))
        clear hbase hfact hmark
        go_wp2
        refine bodyPost_ret (v := .tuple #[.agg #[.int .i64 kk, .slice a' m' c'], .int .i64 ((z : Int) + 12), .int .i64 0]) (by simp [results, Tryd.results29, go_sem, h2, h3, h4, s0, s1]) hdf ⟨fun he => absurd HEQ.out he, fun _ => ⟨a', m', c', ?_, HBE.out ▸ hbit⟩, ?_⟩
        · rw [← HKK.out]
        · rw [← HBE.out]
          exact HBB.out.trans hR.below
/-- The payload lies in a new row. -/
theorem open_new (v : Value) (bs : List (BitVec 8)) (w : World) (hv : IsBytes w v bs) (ht : Tab w) :
    Calls Tryd.prog 29 #[v] w fun e w' => ∃ a m c, e = .returned (.tuple #[.agg #[.int .i64 (opened bs).kind, .slice a m c], .int .i64 ((opened bs).n : Nat), .int .i64 (opened bs).err]) ∧ Bit w.heap.size w' (.slice a m c) (opened bs).payload ∧ Below w.heap.size w w' := by
  have hv' := hv
  obtain ⟨a, n, cap, rfl, hn, hc, hm, hb⟩ := hv'
  unfold maxLen at hm
  have early : ∀ x : Int, opened bs = bad x → (Calls Tryd.prog 29 #[.slice a n cap] w fun e w' => e = .returned (.tuple #[.agg #[.int .i64 0, .slice none 0 0], .int .i64 0, .int .i64 x]) ∧ Below w.heap.size w w') →
      Calls Tryd.prog 29 #[.slice a n cap] w fun e w' => ∃ a m c, e = .returned (.tuple #[.agg #[.int .i64 (opened bs).kind, .slice a m c], .int .i64 ((opened bs).n : Nat), .int .i64 (opened bs).err]) ∧ Bit w.heap.size w' (.slice a m c) (opened bs).payload ∧ Below w.heap.size w w' := by
    intro x hx h
    refine h.mono ?_
    rintro e w' ⟨rfl, hb⟩
    rw [hx]
    exact ⟨none, 0, 0, rfl, ⟨_, _, _, rfl, rfl, Nat.le_refl _, by decide, .inl rfl⟩, hb⟩
  by_cases hf : fixed bs = 0
  · by_cases h8 : n < 8
    · exact early 130 (by unfold opened; rw [if_neg (by rw [hf]; simp), if_pos (by omega)]) (open_short a n cap bs w hv hf h8)
    · obtain ⟨b, off, rfl, hlt, hat⟩ := addr_of hv (by omega)
      have hdl : 4 ≤ (bs.drop 4).length := by rw [List.length_drop]; omega
      obtain ⟨z, hz⟩ : ∃ z, (num4 (bs.drop 4)).toNat = z := ⟨_, rfl⟩
      have hs : size bs = z := hz
      by_cases hzl : 65536 < z
      · exact early 134 (by unfold opened; rw [if_neg (by rw [hf]; simp), if_neg (by omega), if_pos (by omega)]) (open_size b off n cap z bs w hv hc hf (by omega) hdl hz hzl)
      · by_cases hnl : n < z + 12
        · exact early 130 (by unfold opened; rw [if_neg (by rw [hf]; simp), if_neg (by omega), if_neg (by omega), if_pos (by omega)]) (open_cut b off n cap z bs w hv hc hf (by omega) hdl hz (by omega) hnl)
        · have hfull := open_full b off n cap z bs w hv hn.symm hc (by omega) hf (by omega) hdl hz (by omega) (by omega) ht
          by_cases hq : num4 (bs.drop (z + 8)) = sum (bs.take (z + 8))
          · have ho : opened bs = ⟨(bs.getD 3 0#8).toNat, (bs.drop 8).take z, z + 12, 0⟩ := by
              unfold opened
              rw [if_neg (by rw [hf]; simp), if_neg (by omega), if_neg (by omega), if_neg (by omega), hs, if_neg (fun h => h hq)]
            refine hfull.mono ?_
            rintro e w' ⟨_, h, hb⟩
            obtain ⟨a, m, c, rfl, hp⟩ := h hq
            rw [ho]
            exact ⟨a, m, c, rfl, hp, hb⟩
          · refine early 135 (by unfold opened; rw [if_neg (by rw [hf]; simp), if_neg (by omega), if_neg (by omega), if_neg (by omega), hs, if_pos hq]) (hfull.mono ?_)
            rintro e w' ⟨h, _, hb⟩
            exact ⟨h hq, hb⟩
  · refine early (fixed bs) (by unfold opened; rw [if_pos hf]) (open_fault a n cap bs _ w hv rfl hf)
theorem open_any (v : Value) (bs : List (BitVec 8)) (w : World) (hv : IsBytes w v bs) (ht : Tab w) :
    Calls Tryd.prog 29 #[v] w fun e w' => ∃ a m c, e = .returned (.tuple #[.agg #[.int .i64 (opened bs).kind, .slice a m c], .int .i64 ((opened bs).n : Nat), .int .i64 (opened bs).err]) ∧ IsBytes w' (.slice a m c) (opened bs).payload ∧ Below w.heap.size w w' :=
  (open_new v bs w hv ht).mono fun _ _ ⟨a, m, c, h1, h2, h3⟩ => ⟨a, m, c, h1, h2.bytes, h3⟩
end Go.Proofs.YtfbepdlahaefgaaDoor
