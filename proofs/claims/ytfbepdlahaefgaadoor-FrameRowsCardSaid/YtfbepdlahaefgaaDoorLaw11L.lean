/- The walk of the law CrcLaid: it returns true. -/
import Derived.Test.YtfbepdlahaefgaaDoorLaw11V
import Derived.Test.YtfbepdlahaefgaaDoorApp2
import Derived.Test.YtfbepdlahaefgaaDoorReg
import Derived.Deep.OwnRows
namespace Go.Proofs.YtfbepdlahaefgaaDoor
open Go.RowKit
open Crc (R sum upN moreSum)

def x3 (a b c : BitVec 8) : BitVec 8 := a ^^^ b ^^^ c
def x2 (a b : BitVec 8) : BitVec 8 := a ^^^ b
theorem bits_x2 (a b : BitVec 8) : bits .xor .u8 (a.toNat : Int) (b.toNat : Int) = ((x2 a b).toNat : Int) := by
  have h8 : ∀ a : BitVec 8, BitVec.ofInt 8 (a.toNat : Int) = a := fun a => by
    rw [BitVec.ofInt_natCast]; apply BitVec.eq_of_toNat_eq; rw [BitVec.toNat_ofNat, Nat.mod_eq_of_lt a.isLt]
  show IntKind.wrap .u8 (((BitVec.ofInt 8 (a.toNat : Int)) ^^^ (BitVec.ofInt 8 (b.toNat : Int))).toNat : Int) = _
  rw [h8, h8, IntKind.wrap_u8']
  have := (a ^^^ b).isLt
  show ((a ^^^ b).toNat : Int) % 256 = ((a ^^^ b).toNat : Int)
  omega
def Laid3 (xa xb xc ds : List (BitVec 8)) (k : Nat) : Prop := ds.length = xa.length ∧ ∀ i, i < k → ds.getD i 0#8 = xa.getD i 0#8 ^^^ xb.getD i 0#8 ^^^ xc.getD i 0#8
theorem laid3_step {xa xb xc ds : List (BitVec 8)} {k : Nat} (h : Laid3 xa xb xc ds k) (hk : k < xa.length) (hb : k < xb.length) (hc : k < xc.length) : Laid3 xa xb xc (ds.set k (x2 (x2 xa[k] xb[k]) xc[k])) (k + 1) := by
  refine ⟨by rw [List.length_set]; exact h.1, fun i hi => ?_⟩
  rw [List.getD_eq_getElem?_getD, List.getElem?_set]
  by_cases e : k = i
  · subst e
    rw [if_pos rfl, if_pos (by rw [h.1]; exact hk), Option.getD_some]
    simp [x2, hk, hb, hc]
  · rw [if_neg e, ← List.getD_eq_getElem?_getD]
    exact h.2 i (by omega)
theorem addr_of {w : World} {a : Option Addr} {n cap : Nat} {bs : List (BitVec 8)} (h : IsBytes w (.slice a n cap) bs) (hp : 0 < bs.length) : ∃ b off, a = some ⟨b, off, none⟩ ∧ b < w.heap.size ∧ BytesAt w b off bs := by
  obtain ⟨a', n', cap', he, _, _, _, hb⟩ := h
  injection he with h1 h2 h3
  subst h1
  rcases hb with rfl | ⟨b, off, ha, hlt, hb⟩
  · simp at hp
  · exact ⟨b, off, ha, hlt, hb⟩
section
attribute [local go_sem] bits_x2 bits_x32
set_option maxRecDepth 4000 in
set_option maxHeartbeats 2000000 in
theorem crcLaid_in (a b c : Option Addr) (n ca cb cc : Nat) (xa xb xc : List (BitVec 8)) (w : World) (ha : IsBytes w (.slice a n ca) xa) (hb : IsBytes w (.slice b n cb) xb) (hc : IsBytes w (.slice c n cc) xc)
    (la : xa.length = n) (lb : xb.length = n) (lc : xc.length = n) (hn : n ≤ 1000) (ht : Tab w) :
    Calls Tryd.prog 8 #[.agg #[.slice a n ca, .slice b n cb, .slice c n cc]] w fun e w' => e = .returned (.bool true) ∧ Below w.heap.size w w' := by
  have HAI := Lib.hid ha
  have HBI := Lib.hid hb
  have HCI := Lib.hid hc
  have LA := Lib.hid la
  have LB := Lib.hid lb
  have LC := Lib.hid lc
  have HT := Lib.hid ht
  have hmk := run_make_row' (P := Tryd.prog) 24 5 (.int .u8 0) 1 Tryd.underlying24 info8 rfl .i64 .i64 n (by omega) (by omega)
  have k1 : ¬ (1000 : Int) < (n : Int) := by omega
  have k2 : ((n : Int) != (n : Int)) = false := by simp
  clear ha hb hc la lb lc ht
  go_enter Tryd.func8, Tryd.ntmps8
  go_wp2_with (go_at_call 17; refine (awake11_any _ (HT.out.alloc _)).mono ?_; rintro e w1 ⟨rfl, hb1⟩; have c0 : w1.cell? ⟨w.heap.size, 0, none⟩ = some (.slice a n ca) := (hb1.cell (p := ⟨w.heap.size, 0, none⟩) (by simp)).trans (by simp); have c1 : w1.cell? ⟨w.heap.size, 1, none⟩ = some (.slice b n cb) := (hb1.cell (p := ⟨w.heap.size, 1, none⟩) (by simp)).trans (by simp); have c2 : w1.cell? ⟨w.heap.size, 2, none⟩ = some (.slice c n cc) := (hb1.cell (p := ⟨w.heap.size, 2, none⟩) (by simp)).trans (by simp))
  have hw1 : w.heap.size < w1.heap.size := by have := hb1.size; simp at this; omega
  have hbw : Below w.heap.size w w1 := ((Below.refl _ _).alloc (Nat.le_refl _) _).trans (hb1.mono (by simp))
  go_loopw [4, 35] (fun _ i wr => ∃ (k : Nat) (ds : List (BitVec 8)), k ≤ n ∧ i = .int .i64 k ∧ Laid3 xa xb xc ds k ∧ OwnAt wr w1.heap.size 5 w1.heap.size n (ds.map byteV) ∧ Below w1.heap.size w1 wr) (fun _ i _ => n - (intOf i).toNat)
  case atStart =>
    refine ⟨0, List.replicate n 0#8, by omega, rfl, ⟨by rw [List.length_replicate, LA.out], fun i hi => by omega⟩, ?_, (Below.refl _ _).alloc (Nat.le_refl _) _⟩
    rw [List.map_replicate]
    exact made_own rfl (by unfold maxLen; omega) _
  case round =>
    obtain ⟨k, ds, hk, rfl, hld, hat, hbel⟩ := hrel
    have b0 := (hbel.cell (p := ⟨w.heap.size, 0, none⟩) hw1).trans c0
    have b1 := (hbel.cell (p := ⟨w.heap.size, 1, none⟩) hw1).trans c1
    have b2 := (hbel.cell (p := ⟨w.heap.size, 2, none⟩) hw1).trans c2
    by_cases hkn : k < n
    · have hka : k < xa.length := by rw [LA.out]; exact hkn
      have hkb : k < xb.length := by rw [LB.out]; exact hkn
      have hkc : k < xc.length := by rw [LC.out]; exact hkn
      obtain ⟨ba, oa, rfl, hba, HA⟩ := addr_of HAI.out (by omega)
      obtain ⟨bb, ob, rfl, hbb, HB⟩ := addr_of HBI.out (by omega)
      obtain ⟨bc, oc, rfl, hbc, HC⟩ := addr_of HCI.out (by omega)
      have e0 := (hbel.cell (p := ⟨ba, oa + k, none⟩) (Nat.lt_trans hba hw1)).trans ((hbw.cell (p := ⟨ba, oa + k, none⟩) hba).trans (HA k hka))
      have e1 := (hbel.cell (p := ⟨bb, ob + k, none⟩) (Nat.lt_trans hbb hw1)).trans ((hbw.cell (p := ⟨bb, ob + k, none⟩) hbb).trans (HB k hkb))
      have e2 := (hbel.cell (p := ⟨bc, oc + k, none⟩) (Nat.lt_trans hbc hw1)).trans ((hbw.cell (p := ⟨bc, oc + k, none⟩) hbc).trans (HC k hkc))
      have hdl : k < ds.length := by rw [hld.1]; exact hka
      have hc2 := hat.cell k (by rw [List.length_map]; exact hdl)
      rw [List.getElem_map] at hc2
      unfold byteV at hc2
      have hfr := hat.frozen k
      have hi : 0 ≤ (k : Int) ∧ (k : Int) < (n : Int) := by omega
      have HL := Lib.hid hld
      clear hld c0 c1 c2 HA HB HC
      go_wp2
      go_region
      have hnext : OwnAt (wr.setCell ⟨w1.heap.size, k, none⟩ (.int .u8 ((x2 (x2 xa[k] xb[k]) xc[k]).toNat : Int))) w1.heap.size 5 w1.heap.size n ((ds.set k (x2 (x2 xa[k] xb[k]) xc[k])).map byteV) := by
        have := hat.set_ k (byteV (x2 (x2 xa[k] xb[k]) xc[k]))
        rw [← List.map_set] at this
        exact this
      have HN := Lib.hid hnext
      clear hnext
      go_wp2
      go_roundw
      case rel => exact ⟨k + 1, _, by omega, by go_num, laid3_step HL.out hka hkb hkc, HN.out.keep (Nat.le_refl _) rfl, (hbel.setCell (Nat.le_refl _) _).drew⟩
      case measure => simp [intOf]; omega
    · have hkk : k = n := by omega
      have hd : decide ((k : Int) < (n : Int)) = false := by simp; omega
      rw [hkk] at hld
      have hdl : (ds.map byteV).length = n := by rw [List.length_map, hld.1, LA.out]
      have hown := hat.1
      rw [hdl] at hown
      have HD := Lib.hid hown.reads.bytes
      have HL := Lib.hid hld
      have HK := Lib.hid hkk
      clear hkk hld hdl hown c0 c1 c2
      go_wp2
      clear hmk
      have hsum : x32 (x32 (sum xa) (sum xb)) (sum xc) = sum ds := (Crc.sum_laid xa xb xc ds (by rw [LA.out, LB.out]) (by rw [LA.out, LC.out]) HL.out.1 (by rw [LA.out]; exact HL.out.2)).symm
      have HS := Lib.hid hsum
      clear hsum
      have HTr : Hid (Tab wr) := (HT.out.below hbw).below hbel
      have HXa : Hid (IsBytes wr (.slice a n ca) xa) := HAI.out.below (hbw.trans (hbel.mono (Nat.le_of_lt hw1)))
      have HXb : Hid (IsBytes wr (.slice b n cb) xb) := HBI.out.below (hbw.trans (hbel.mono (Nat.le_of_lt hw1)))
      have HXc : Hid (IsBytes wr (.slice c n cc) xc) := HCI.out.below (hbw.trans (hbel.mono (Nat.le_of_lt hw1)))
      obtain ⟨B, hB⟩ : ∃ B, B = w.heap.size := ⟨_, rfl⟩
      rw [← hB] at b0 b1 b2 ⊢
      have hBl : B < wr.heap.size := by rw [hB]; exact Nat.lt_of_lt_of_le hw1 hbel.size
      have HBQ := Lib.hid hB
      clear hB
      refine wp_region_facts (by kernel_rfl) (by kernel_rfl) (fun t v w => match t with
        | 59 => v = .slice (some ⟨w1.heap.size, 0, none⟩) n n
        | 60 => IsParts w v [ds]
        | 61 => v = .int .u32 (sum ds).toNat
        | 62 => v = .pointer (some ⟨B, 0, none⟩)
        | 63 => v = .slice a n ca
        | 64 => IsParts w v [xa]
        | 65 => v = .int .u32 (sum xa).toNat
        | 66 => v = .pointer (some ⟨B, 1, none⟩)
        | 67 => v = .slice b n cb
        | 68 => IsParts w v [xb]
        | 69 => v = .int .u32 (sum xb).toNat
        | 70 => v = .int .u32 (x32 (sum xa) (sum xb)).toNat
        | 71 => v = .pointer (some ⟨B, 2, none⟩)
        | 72 => v = .slice c n cc
        | 73 => IsParts w v [xc]
        | 74 => v = .int .u32 (sum xc).toNat
        | 75 => v = .int .u32 (sum ds).toNat
        | 76 => v = .bool true
        | 2 => v = .bool true
        | _ => True) (fun w w' => Below w.heap.size w w') (fun h h' => h.trans (h'.mono h.size)) ((Below.refl _ _).drew) ?_ ?_ ?_
      · intro t v w w' _ h hb
        split at h <;> first | exact h | exact IsParts.below h hb | (split <;> first | trivial | simp_all)
      · intro i o ac w ho hR hdf hsz hbase hfact
        clear hdf hsz
        have hlw : B < w.heap.size := Nat.lt_of_lt_of_le hBl hR.size
        have d0 := (hR.cell (p := ⟨B, 0, none⟩) hBl).trans b0
        have d1 := (hR.cell (p := ⟨B, 1, none⟩) hBl).trans b1
        have d2 := (hR.cell (p := ⟨B, 2, none⟩) hBl).trans b2
        clear b0 b1 b2
        match i, ho with
        | 0, ho =>
          injection ho with ho
          subst ho
          have h1 : ac.eval (.tmp 3) = .slice (some ⟨w1.heap.size, 0, none⟩) n n := hbase 3 (base_of (by kernel_rfl)) (by decide)
          exact op_done rfl rfl (v := ac.eval (.tmp 3)) (by go_simp) (Below.refl _ _) (by rintro t ⟨⟩; exact h1)
        | 1, ho =>
          injection ho with ho
          subst ho
          have h1 := slot_of (hfact 0 59 (by kernel_rfl) (by kernel_rfl))
          refine op_done rfl rfl (v := .slice (some ⟨w.heap.size, 0, none⟩) 1 1) (w' := w.alloc (.cells #[.slice (some ⟨w1.heap.size, 0, none⟩) n n] 24)) ?_ ((Below.refl _ _).alloc (Nat.le_refl _) _) ?_
          · clear hfact hbase
            go_simp
          · rintro t ⟨⟩
            exact IsParts.one rfl _ _ _ (HD.out.below hR)
        | 2, ho =>
          injection ho with ho
          subst ho
          have h1 : IsParts w (ac.eval (.tmp 60)) [ds] := hfact 1 60 (by kernel_rfl) (by kernel_rfl)
          refine op_call rfl rfl (f := 18) (args := #[ac.eval (.tmp 60)]) (w1 := w) ?_ ?_
          · clear hfact hbase
            go_simp
          · refine (of_one _ ds _ h1 (HTr.out.below hR)).mono ?_
            rintro e w' ⟨rfl, rfl⟩
            exact ⟨_, rfl, Below.refl _ _, by rintro t ⟨⟩; rfl⟩
        | 3, ho =>
          injection ho with ho
          subst ho
          have h1 := slot_of (hbase 1 (base_of (by kernel_rfl)) (by decide))
          refine op_done rfl rfl (v := .pointer (some ⟨B, 0, none⟩)) (w' := w) ?_ (Below.refl _ _) (by rintro t ⟨⟩; rfl)
          have h2 : ac.tmps[1]?.getD undef = .pointer (some ⟨B, 0, none⟩) := h1
          clear hfact hbase h1
          go_simp
        | 4, ho =>
          injection ho with ho
          subst ho
          have h1 := slot_of (hfact 3 62 (by kernel_rfl) (by kernel_rfl))
          refine op_done rfl rfl (v := .slice a n ca) (w' := w) ?_ (Below.refl _ _) (by rintro t ⟨⟩; rfl)
          clear hfact hbase
          go_simp
        | 5, ho =>
          injection ho with ho
          subst ho
          have h1 := slot_of (hfact 4 63 (by kernel_rfl) (by kernel_rfl))
          refine op_done rfl rfl (v := .slice (some ⟨w.heap.size, 0, none⟩) 1 1) (w' := w.alloc (.cells #[.slice a n ca] 24)) ?_ ((Below.refl _ _).alloc (Nat.le_refl _) _) ?_
          · clear hfact hbase
            go_simp
          · rintro t ⟨⟩
            exact IsParts.one rfl _ _ _ (HXa.out.below hR)
        | 6, ho =>
          injection ho with ho
          subst ho
          have h1 : IsParts w (ac.eval (.tmp 64)) [xa] := hfact 5 64 (by kernel_rfl) (by kernel_rfl)
          refine op_call rfl rfl (f := 18) (args := #[ac.eval (.tmp 64)]) (w1 := w) ?_ ?_
          · clear hfact hbase
            go_simp
          · refine (of_one _ xa _ h1 (HTr.out.below hR)).mono ?_
            rintro e w' ⟨rfl, rfl⟩
            exact ⟨_, rfl, Below.refl _ _, by rintro t ⟨⟩; rfl⟩
        | 7, ho =>
          injection ho with ho
          subst ho
          have h1 := slot_of (hbase 1 (base_of (by kernel_rfl)) (by decide))
          refine op_done rfl rfl (v := .pointer (some ⟨B, 1, none⟩)) (w' := w) ?_ (Below.refl _ _) (by rintro t ⟨⟩; rfl)
          have h2 : ac.tmps[1]?.getD undef = .pointer (some ⟨B, 0, none⟩) := h1
          clear hfact hbase h1
          go_simp
        | 8, ho =>
          injection ho with ho
          subst ho
          have h1 := slot_of (hfact 7 66 (by kernel_rfl) (by kernel_rfl))
          refine op_done rfl rfl (v := .slice b n cb) (w' := w) ?_ (Below.refl _ _) (by rintro t ⟨⟩; rfl)
          clear hfact hbase
          go_simp
        | 9, ho =>
          injection ho with ho
          subst ho
          have h1 := slot_of (hfact 8 67 (by kernel_rfl) (by kernel_rfl))
          refine op_done rfl rfl (v := .slice (some ⟨w.heap.size, 0, none⟩) 1 1) (w' := w.alloc (.cells #[.slice b n cb] 24)) ?_ ((Below.refl _ _).alloc (Nat.le_refl _) _) ?_
          · clear hfact hbase
            go_simp
          · rintro t ⟨⟩
            exact IsParts.one rfl _ _ _ (HXb.out.below hR)
        | 10, ho =>
          injection ho with ho
          subst ho
          have h1 : IsParts w (ac.eval (.tmp 68)) [xb] := hfact 9 68 (by kernel_rfl) (by kernel_rfl)
          refine op_call rfl rfl (f := 18) (args := #[ac.eval (.tmp 68)]) (w1 := w) ?_ ?_
          · clear hfact hbase
            go_simp
          · refine (of_one _ xb _ h1 (HTr.out.below hR)).mono ?_
            rintro e w' ⟨rfl, rfl⟩
            exact ⟨_, rfl, Below.refl _ _, by rintro t ⟨⟩; rfl⟩
        | 11, ho =>
          injection ho with ho
          subst ho
          have h1 := slot_of (hfact 6 65 (by kernel_rfl) (by kernel_rfl))
          have h2 := slot_of (hfact 10 69 (by kernel_rfl) (by kernel_rfl))
          refine op_done rfl rfl (v := .int .u32 (x32 (sum xa) (sum xb)).toNat) (w' := w) ?_ (Below.refl _ _) ?_
          · clear hfact hbase
            go_simp
          · rintro t ⟨⟩
            rfl
        | 12, ho =>
          injection ho with ho
          subst ho
          have h1 := slot_of (hbase 1 (base_of (by kernel_rfl)) (by decide))
          refine op_done rfl rfl (v := .pointer (some ⟨B, 2, none⟩)) (w' := w) ?_ (Below.refl _ _) (by rintro t ⟨⟩; rfl)
          have h2 : ac.tmps[1]?.getD undef = .pointer (some ⟨B, 0, none⟩) := h1
          clear hfact hbase h1
          go_simp
        | 13, ho =>
          injection ho with ho
          subst ho
          have h1 := slot_of (hfact 12 71 (by kernel_rfl) (by kernel_rfl))
          refine op_done rfl rfl (v := .slice c n cc) (w' := w) ?_ (Below.refl _ _) (by rintro t ⟨⟩; rfl)
          clear hfact hbase
          go_simp
        | 14, ho =>
          injection ho with ho
          subst ho
          have h1 := slot_of (hfact 13 72 (by kernel_rfl) (by kernel_rfl))
          refine op_done rfl rfl (v := .slice (some ⟨w.heap.size, 0, none⟩) 1 1) (w' := w.alloc (.cells #[.slice c n cc] 24)) ?_ ((Below.refl _ _).alloc (Nat.le_refl _) _) ?_
          · clear hfact hbase
            go_simp
          · rintro t ⟨⟩
            exact IsParts.one rfl _ _ _ (HXc.out.below hR)
        | 15, ho =>
          injection ho with ho
          subst ho
          have h1 : IsParts w (ac.eval (.tmp 73)) [xc] := hfact 14 73 (by kernel_rfl) (by kernel_rfl)
          refine op_call rfl rfl (f := 18) (args := #[ac.eval (.tmp 73)]) (w1 := w) ?_ ?_
          · clear hfact hbase
            go_simp
          · refine (of_one _ xc _ h1 (HTr.out.below hR)).mono ?_
            rintro e w' ⟨rfl, rfl⟩
            exact ⟨_, rfl, Below.refl _ _, by rintro t ⟨⟩; rfl⟩
        | 16, ho =>
          injection ho with ho
          subst ho
          have h1 := slot_of (hfact 11 70 (by kernel_rfl) (by kernel_rfl))
          have h2 := slot_of (hfact 15 74 (by kernel_rfl) (by kernel_rfl))
          refine op_done rfl rfl (v := .int .u32 (x32 (x32 (sum xa) (sum xb)) (sum xc)).toNat) (w' := w) ?_ (Below.refl _ _) ?_
          · clear hfact hbase
            go_simp
          · rintro t ⟨⟩
            show Value.int .u32 _ = Value.int .u32 _
            rw [HS.out]
        | 17, ho =>
          injection ho with ho
          subst ho
          have h1 := slot_of (hfact 2 61 (by kernel_rfl) (by kernel_rfl))
          have h2 := slot_of (hfact 16 75 (by kernel_rfl) (by kernel_rfl))
          refine op_done rfl rfl (v := .bool true) (w' := w) ?_ (Below.refl _ _) ?_
          · clear hfact hbase
            go_simp
          · rintro t ⟨⟩
            rfl
        | 18, ho =>
          injection ho with ho
          subst ho
          have h1 : ac.eval (.tmp 76) = .bool true := hfact 17 76 (by kernel_rfl) (by kernel_rfl)
          exact op_done rfl rfl (v := ac.eval (.tmp 76)) (by go_simp) (Below.refl _ _) (by rintro t ⟨⟩; exact h1)
        | n + 19, ho => cases ho
      · intro ac w' hR hdf hsz hbase hfact
        have h2 : ac.tmps.getD 2 undef = .bool true := hfact 18 2 (by kernel_rfl)
        go_wp2
        refine bodyPost_ret (results_tmp rfl _ _ _) hdf ⟨?_, (hbw.trans (hbel.mono (Nat.le_of_lt hw1))).trans (hR.mono (Nat.le_trans (Nat.le_of_lt hw1) hbel.size))⟩
        rw [h2]
end
set_option maxRecDepth 4000 in
set_option maxHeartbeats 1000000 in
theorem crcLaid_out (a b c : Option Addr) (n m k ca cb cc : Nat) (w : World) (hn : n ≤ 9223372036854775807) (hm : m ≤ 9223372036854775807) (hk : k ≤ 9223372036854775807) (h : 1000 < n ∨ m ≠ n ∨ k ≠ n) (ht : Tab w) :
    Calls Tryd.prog 8 #[.agg #[.slice a n ca, .slice b m cb, .slice c k cc]] w fun e w' => e = .returned (.bool true) ∧ Below w.heap.size w w' := by
  have HT := Lib.hid ht
  have HN := Lib.hid hn
  have HM := Lib.hid hm
  have HK := Lib.hid hk
  clear ht hn hm hk
  have fin : ∀ w1, Below (w.alloc (.cells #[.slice a n ca, .slice b m cb, .slice c k cc] 40)).heap.size (w.alloc (.cells #[.slice a n ca, .slice b m cb, .slice c k cc] 40)) w1 → Below w.heap.size w w1 := fun w1 hb1 => ((Below.refl _ _).alloc (Nat.le_refl _) _).trans (hb1.mono (by simp))
  have HF := Lib.hid fin
  clear fin
  by_cases h0 : 1000 < n
  · have k1 : 1000 < (n : Int) := by omega
    clear h
    go_enter Tryd.func8, Tryd.ntmps8
    go_wp2_with (go_at_call 17; refine (awake11_any _ (HT.out.alloc _)).mono ?_; rintro e w1 ⟨rfl, hb1⟩; have c0 : w1.cell? ⟨w.heap.size, 0, none⟩ = some (.slice a n ca) := (hb1.cell (p := ⟨w.heap.size, 0, none⟩) (by simp)).trans (by simp); have c1 : w1.cell? ⟨w.heap.size, 1, none⟩ = some (.slice b m cb) := (hb1.cell (p := ⟨w.heap.size, 1, none⟩) (by simp)).trans (by simp); have c2 : w1.cell? ⟨w.heap.size, 2, none⟩ = some (.slice c k cc) := (hb1.cell (p := ⟨w.heap.size, 2, none⟩) (by simp)).trans (by simp))
    go_ret
    exact ⟨rfl, HF.out _ hb1⟩
  · have k1 : ¬ 1000 < (n : Int) := by omega
    by_cases h1 : m = n
    · have h2 : k ≠ n := by rcases h with h | h | h <;> first | omega | exact h
      subst h1
      have k2 : ((m : Int) != (m : Int)) = false := by simp
      have k3 : ((k : Int) != (m : Int)) = true := by rw [bne_iff_ne]; omega
      clear h h2
      go_enter Tryd.func8, Tryd.ntmps8
      go_wp2_with (go_at_call 17; refine (awake11_any _ (HT.out.alloc _)).mono ?_; rintro e w1 ⟨rfl, hb1⟩; have c0 : w1.cell? ⟨w.heap.size, 0, none⟩ = some (.slice a m ca) := (hb1.cell (p := ⟨w.heap.size, 0, none⟩) (by simp)).trans (by simp); have c1 : w1.cell? ⟨w.heap.size, 1, none⟩ = some (.slice b m cb) := (hb1.cell (p := ⟨w.heap.size, 1, none⟩) (by simp)).trans (by simp); have c2 : w1.cell? ⟨w.heap.size, 2, none⟩ = some (.slice c k cc) := (hb1.cell (p := ⟨w.heap.size, 2, none⟩) (by simp)).trans (by simp))
      go_ret
      exact ⟨rfl, HF.out _ hb1⟩
    · have k2 : ((m : Int) != (n : Int)) = true := by rw [bne_iff_ne]; omega
      clear h h1
      go_enter Tryd.func8, Tryd.ntmps8
      go_wp2_with (go_at_call 17; refine (awake11_any _ (HT.out.alloc _)).mono ?_; rintro e w1 ⟨rfl, hb1⟩; have c0 : w1.cell? ⟨w.heap.size, 0, none⟩ = some (.slice a n ca) := (hb1.cell (p := ⟨w.heap.size, 0, none⟩) (by simp)).trans (by simp); have c1 : w1.cell? ⟨w.heap.size, 1, none⟩ = some (.slice b m cb) := (hb1.cell (p := ⟨w.heap.size, 1, none⟩) (by simp)).trans (by simp); have c2 : w1.cell? ⟨w.heap.size, 2, none⟩ = some (.slice c k cc) := (hb1.cell (p := ⟨w.heap.size, 2, none⟩) (by simp)).trans (by simp))
      go_ret
      exact ⟨rfl, HF.out _ hb1⟩
theorem crcLaid_law (u v t : Value) (xa xb xc : List (BitVec 8)) (w : World) (hu : IsBytes w u xa) (hv : IsBytes w v xb) (hw : IsBytes w t xc) (ht : Tab w) :
    Calls Tryd.prog 8 #[.agg #[u, v, t]] w fun e w' => e = .returned (.bool true) ∧ Below w.heap.size w w' := by
  have hu' := hu
  have hv' := hv
  have hw' := hw
  obtain ⟨a, n, ca, rfl, h1, _⟩ := hu'
  obtain ⟨b, m, cb, rfl, h2, _⟩ := hv'
  obtain ⟨c, k, cc, rfl, h3, _⟩ := hw'
  have e1 := hu.length_le
  have e2 := hv.length_le
  have e3 := hw.length_le
  by_cases h : 1000 < n ∨ m ≠ n ∨ k ≠ n
  · exact crcLaid_out a b c n m k ca cb cc w (by omega) (by omega) (by omega) h ht
  · obtain rfl : m = n := by omega
    obtain rfl : k = m := by omega
    exact crcLaid_in a b c k ca cb cc xa xb xc w hu hv hw h1.symm h2.symm h3.symm (by omega) ht
end Go.Proofs.YtfbepdlahaefgaaDoor
