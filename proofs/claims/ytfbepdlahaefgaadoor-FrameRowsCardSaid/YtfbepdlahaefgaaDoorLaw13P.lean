/- The law FrameSplits, walked. -/
import Derived.Test.YtfbepdlahaefgaaDoorSplitC
import Derived.Test.YtfbepdlahaefgaaDoorRefSplit
import Derived.Test.YtfbepdlahaefgaaDoorLaw13B
namespace Go.Proofs.YtfbepdlahaefgaaDoor
open Go.RowKit
open Frm (opened split)

theorem split_any (v : Value) (bs : List (BitVec 8)) (w : World) (hv : IsBytes w v bs) (hl : bs.length ≤ 2000000) (ht : Tab w) :
    Calls Tryd.prog 34 #[v] w fun e w' => ∃ la ln lc, e = .returned (.tuple #[.slice la ln lc, .int .i64 ((split bs).2.1 : Nat), .int .i64 (split bs).2.2]) ∧
      Frs w' w.heap.size 47 (.slice la ln lc) (split bs).1 [] ∧ Below w.heap.size w w' := by
  have hv' := hv
  obtain ⟨a, n, c, rfl, _⟩ := hv'
  exact callsIn_wide.1 (split_in a n c bs w hv hl ht)
set_option maxHeartbeats 4000000 in
theorem frameSplits_in (va : Option Addr) (vn vc : Nat) (bs : List (BitVec 8)) (w : World) (hv : IsBytes w (.slice va vn vc) bs) (hl : vn ≤ 2000) (ht : Tab w) :
    Calls Tryd.prog 15 #[.slice va vn vc] w fun e w' => e = .returned (.bool true) ∧ Below w.heap.size w w' := by
  have HV := Lib.hid hv
  have HT := Lib.hid ht
  have h2000 : ¬ (2000 : Int) < (vn : Int) := by omega
  have HL : Hid (bs.length ≤ 2000000) := by
    obtain ⟨_, _, _, he, h, _⟩ := hv
    injection he with _ e2 _
    unfold Hid; omega
  clear hv ht
  go_enter Tryd.func15, Tryd.ntmps15
  go_wp2_with (go_at_call 25; refine (awake13_any _ HT.out).mono ?_; rintro e w1 ⟨rfl, hb1⟩; have HB1 := Lib.hid hb1; clear hb1)
  refine (split_any _ bs w1 (HV.out.below HB1.out) HL.out (HT.out.below HB1.out)).mono ?_
  rintro e w2 ⟨la, ln, lc, rfl, hf2, hb2⟩
  have HF2 := Lib.hid hf2
  have HB2 := Lib.hid hb2
  clear hf2 hb2
  go_wp2_with fail
  refine (refSplit_any _ bs w2 ((HV.out.below HB1.out).below HB2.out) HL.out).mono ?_
  rintro e w3 ⟨ra, rn, rc, rfl, hf3, hb3⟩
  have HF3 := Lib.hid hf3
  have HB3 := Lib.hid hb3
  have hln : ln = (split bs).1.length := by
    obtain ⟨_, _, he, _⟩ := HF2.out.form_
    injection he
  have hrn : rn = (split bs).1.length ∧ rn ≤ rc := by
    obtain ⟨_, _, he, h, _⟩ := hf3.form_
    injection he with _ e2 e3
    rw [e2, e3]; exact ⟨rfl, h⟩
  have hlc : ln ≤ lc := by
    obtain ⟨_, _, he, h, _⟩ := HF2.out.form_
    injection he with _ e2 e3
    rw [e2, e3]; exact h
  have hrc := hrn.2
  have hrn := hrn.1
  obtain ⟨k, hk⟩ : ∃ k, k = (split bs).1.length := ⟨_, rfl⟩
  rw [← hk] at hln hrn
  subst hln hrn
  have HK := Lib.hid hk
  obtain ⟨n, hn⟩ : ∃ n, n = (split bs).2.1 := ⟨_, rfl⟩
  obtain ⟨er, her⟩ : ∃ er, er = (split bs).2.2 := ⟨_, rfl⟩
  rw [← hn, ← her]
  clear hf3 hb3 hk hn her
  go_wp2_with fail
  have hbw3 : Hid (Below w.heap.size w w3) := (HB1.out.trans (HB2.out.mono HB1.out.size)).trans (HB3.out.mono (Nat.le_trans HB1.out.size HB2.out.size))
  go_loopw [9, 10, 45] (fun _ _ i wr => ∃ j : Nat, i = .int .i64 j ∧ j ≤ rn ∧ Hid (Below w3.heap.size w3 wr)) (fun _ _ i _ => rn - (intOf i).toNat)
  case atStart => exact ⟨0, rfl, Nat.zero_le _, Below.refl _ _⟩
  case round =>
    obtain ⟨j, rfl, hj, hb⟩ := hrel
    by_cases hlt : j < rn
    · have hg : (j : Int) < (rn : Int) := by omega
      obtain ⟨kp, hkp⟩ : ∃ kp, (split bs).1[j]? = some kp := ⟨_, List.getElem?_eq_getElem (by have := HK.out; omega)⟩
      obtain ⟨kk, p⟩ := kp
      have HFW : Hid (Frs wr w1.heap.size 47 (.slice la rn lc) (split bs).1 []) := HF2.out.chg ((Chg.of_below HB3.out : Chg [] w2 w3).trans (Chg.of_below hb.out)) (by simp)
      have HFR : Hid (Frs wr w2.heap.size 50 (.slice ra rn rc) (split bs).1 []) := HF3.out.chg (Chg.of_below hb.out : Chg [] w3 wr) (by simp)
      obtain ⟨g, gc, fa, fm, fc, hve, d0, d1, hfb⟩ := HFW.out.at_ j kk p hkp
      obtain ⟨g2, gc2, fa2, fm2, fc2, hve2, e0, e1, hfb2⟩ := HFR.out.at_ j kk p hkp
      injection hve with u1 u2 u3
      injection hve2 with v1 v2 v3
      subst u1 v1
      have HX := Lib.hid hfb
      have HY := Lib.hid hfb2
      clear hfb hfb2 u2 u3 v2 v3
      obtain ⟨wb, hwb⟩ : ∃ wb, wb = wr.alloc (.cells #[.int .i64 kk, .slice fa fm fc] 47) := ⟨_, rfl⟩
      have hcb : Below wr.heap.size wr wb := by rw [hwb]; exact (Below.refl _ _).alloc (Nat.le_refl _) _
      have k0 : wb.cell? ⟨wr.heap.size, 0, none⟩ = some (.int .i64 kk) := by subst hwb; simp
      have k1 : wb.cell? ⟨wr.heap.size, 1, none⟩ = some (.slice fa fm fc) := by rw [hwb]; simp
      have k2 : wb.cell? ⟨g2, j * 2, none⟩ = some (.int .i64 kk) := (hcb.cell (cell_lt e0)).trans e0
      have k3 : wb.cell? ⟨g2, j * 2 + 1, none⟩ = some (.slice fa2 fm2 fc2) := (hcb.cell (cell_lt e1)).trans e1
      have HX1 : Hid (IsBytes wb (.slice fa fm fc) p) := HX.out.below hcb
      have HY1 : Hid (IsBytes wb (.slice fa2 fm2 fc2) p) := HY.out.below hcb
      have HCB := Lib.hid hcb
      clear hcb
      go_wp2_with fail
      rw [← hwb]
      refine wp_region_list (by kernel_rfl) (by kernel_rfl) [.agg #[.int .i64 kk, .slice fa fm fc], .slice (some ⟨g2, 0, none⟩) rn rc, .int .i64 j, .pointer (some ⟨g2, j * 2, none⟩), .agg #[.int .i64 kk, .slice fa2 fm2 fc2], .bool true, .bool false] (by (simp [putAll, Act.put]; rfl)) (fun a b => Below a.heap.size a b) (fun h h' => h.trans (h'.mono h.size)) ((Below.refl _ _).drew) ?vops ?vrest
      case vops =>
        intro w5 hR
        have q0 : w5.cell? ⟨wr.heap.size, 0, none⟩ = some (.int .i64 kk) := (hR.cell (cell_lt k0)).trans k0
        have q1 : w5.cell? ⟨wr.heap.size, 1, none⟩ = some (.slice fa fm fc) := (hR.cell (cell_lt k1)).trans k1
        have q2 : w5.cell? ⟨g2, j * 2, none⟩ = some (.int .i64 kk) := (hR.cell (cell_lt k2)).trans k2
        have q3 : w5.cell? ⟨g2, j * 2 + 1, none⟩ = some (.slice fa2 fm2 fc2) := (hR.cell (cell_lt k3)).trans k3
        clear d0 d1 e0 e1 k0 k1 k2 k3
        refine ⟨?_, ?_, ?_, ?_, ?_, ?_, ?_, trivial⟩
        all_goals (try (refine opDo_value rfl rfl ?_ (Below.refl _ _); go_simp; done))
        refine opDo_call (f := 31) (args := #[.agg #[.int .i64 kk, .slice fa fm fc], .agg #[.int .i64 kk, .slice fa2 fm2 fc2]]) rfl rfl (w' := w5) ?_ ?_
        · go_simp
        · refine (like_any kk fa fa2 fm fm2 fc fc2 p _ (HX1.out.below hR) (HY1.out.below hR)).mono ?_
          rintro e w6 ⟨rfl, hb6⟩
          exact ⟨rfl, hb6.out⟩
      case vrest =>
        intro w5 hR
        go_wp2_with fail
        have hw : wrap64 ((j : Int) + 1) = ((j + 1 : Nat) : Int) := by
          have h1 := HK.out
          have h2 := Frm.total_le (split bs).1
          have h3 := Frm.split_total _ bs (Nat.le_refl _)
          have h4 := HL.out
          unfold wrap64
          omega
        rw [hw]
        exact ⟨⟨j + 1, rfl, hlt, hb.out.trans ((HCB.out.trans (hR.mono HCB.out.size)).mono hb.out.size)⟩, by simp [intOf]; omega⟩
    · have hg : ¬ (j : Int) < (rn : Int) := by omega
      go_wp2_with fail
      go_ret
      exact ⟨rfl, hbw3.out.trans (hb.out.mono hbw3.out.size)⟩
theorem frameSplits_law (u : Value) (bs : List (BitVec 8)) (w : World) (hu : IsBytes w u bs) (ht : Tab w) :
    Calls Tryd.prog 15 #[u] w fun e w' => e = .returned (.bool true) ∧ Below w.heap.size w w' := by
  have hu' := hu
  obtain ⟨a, n, cp, rfl, hn, _⟩ := hu'
  by_cases h : 2000 < n
  · have g3 : (2000 : Int) < (n : Int) := by omega
    have HT := Lib.hid ht
    clear hu ht hn h
    go_enter Tryd.func15, Tryd.ntmps15
    go_wp2_with (go_at_call 25; refine (awake13_any _ HT.out).mono ?_; rintro e w1 ⟨rfl, hb1⟩; have HB1 := Lib.hid hb1; clear hb1)
    go_ret
    exact ⟨rfl, HB1.out⟩
  · exact frameSplits_in a n cp bs w hu (by omega) ht
end Go.Proofs.YtfbepdlahaefgaaDoor
