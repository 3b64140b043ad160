/- The law FrameRows, walked. -/
import Derived.Test.YtfbepdlahaefgaaDoorHuntC
import Derived.Test.YtfbepdlahaefgaaDoorLaw13P
import Derived.Test.YtfbepdlahaefgaaDoorLaw13B
import Derived.Test.YtfbepdlahaefgaaDoorFrameM4
import Derived.BigFrameIn
import Derived.BigRegionIn
namespace Go.Proofs.YtfbepdlahaefgaaDoor
open Go.RowKit
open Frm (opened split hunt rowOf Fit)

/-- A slice of frames, as it reads. -/
def FrArg (w : World) (v : Value) (fs : List (Int × List (BitVec 8))) : Prop :=
  ∃ a c, v = .slice a fs.length c ∧ fs.length ≤ c ∧ c ≤ maxLen ∧ (fs = [] ∨ ∃ b off, a = some ⟨b, off, none⟩ ∧ b < w.heap.size ∧ ∀ i k p, fs[i]? = some (k, p) → ∃ pa pn pc, w.cell? ⟨b, off + i * 2, none⟩ = some (.int .i64 k) ∧ w.cell? ⟨b, off + i * 2 + 1, none⟩ = some (.slice pa pn pc) ∧ IsBytes w (.slice pa pn pc) p ∧ -9223372036854775808 ≤ k ∧ k ≤ 9223372036854775807)
theorem FrArg.at_ {w w' : World} {a : Option Addr} {n c : Nat} {fs : List (Int × List (BitVec 8))} (h : FrArg w (.slice a n c) fs) (hc : Chg [] w w') (i : Nat) (hi : i < n) : ∃ b off k p pa pn pc, a = some ⟨b, off, none⟩ ∧ b < w.heap.size ∧ fs[i]? = some (k, p) ∧ w'.cell? ⟨b, off + i * 2, none⟩ = some (.int .i64 k) ∧ w'.cell? ⟨b, off + i * 2 + 1, none⟩ = some (.slice pa pn pc) ∧ IsBytes w' (.slice pa pn pc) p ∧ -9223372036854775808 ≤ k ∧ k ≤ 9223372036854775807 := by
  obtain ⟨a', c', he, h1, h2, h3⟩ := h
  injection he with e1 e2 e3
  subst e1 e2
  rcases h3 with rfl | ⟨b, off, ha, hb, hx⟩
  · simp at hi
  · obtain ⟨pa, pn, pc, q0, q1, q2, q3⟩ := hx i fs[i].1 fs[i].2 (List.getElem?_eq_getElem hi)
    exact ⟨b, off, _, _, pa, pn, pc, ha, hb, List.getElem?_eq_getElem hi, (hc.cell _ _ hb (by simp)).trans q0, (hc.cell _ _ hb (by simp)).trans q1, q2.chg hc (by simp), q3⟩
theorem take_snoc' {α : Type} {l : List α} {k : Nat} {x : α} (h : l[k]? = some x) : l.take (k + 1) = l.take k ++ [x] := by
  rw [List.take_add_one, h]; rfl
theorem row_le : ∀ {fs : List (Int × List (BitVec 8))}, (∀ x ∈ fs, 1 ≤ x.1 ∧ x.1 ≤ 255 ∧ x.2.length ≤ 200) → fs.length ≤ 10 → (rowOf fs).length ≤ 100000 := by
  intro fs h hl
  have : ∀ (fs : List (Int × List (BitVec 8))), (∀ x ∈ fs, 1 ≤ x.1 ∧ x.1 ≤ 255 ∧ x.2.length ≤ 200) → (rowOf fs).length ≤ fs.length * 212 := by
    intro fs
    induction fs with
    | nil => intro _; exact Nat.le_refl _
    | cons x fs ih =>
      intro h
      have h1 := h x (List.mem_cons_self ..)
      have h2 := ih (fun y hy => h y (List.mem_cons_of_mem _ hy))
      have e : rowOf (x :: fs) = Frm.frame (BitVec.ofNat 8 x.1.toNat) x.2 ++ rowOf fs := by simp [rowOf]
      rw [e, List.length_append, Frm.frame_length, List.length_cons]
      omega
  have := this fs h
  omega
set_option maxRecDepth 100000 in
set_option maxHeartbeats 4000000 in
theorem frameRows_in (la : Option Addr) (ln lc : Nat) (va : Option Addr) (vn vc : Nat) (fs : List (Int × List (BitVec 8))) (bs : List (BitVec 8)) (w : World) (hl : FrArg w (.slice la ln lc) fs) (hv : IsBytes w (.slice va vn vc) bs) (h1 : ln ≤ 10) (h2 : vn ≤ 100) (ht : Tab w) :
    CallsIn Fence.wide 3 Tryd.prog 16 #[.slice la ln lc, .slice va vn vc] w fun e w' => e = .returned (.bool true) ∧ Below w.heap.size w w' := by
  have HL := Lib.hid hl
  have HV := Lib.hid hv
  have HT := Lib.hid ht
  have g1 : ¬ (10 : Int) < (ln : Int) := by omega
  have g2 : ¬ (100 : Int) < (vn : Int) := by omega
  have H1 := Lib.hid h1
  have H2 := Lib.hid h2
  obtain ⟨A, hA⟩ : ∃ A, A = w.heap.size := ⟨_, rfl⟩
  have HA := Lib.hid hA
  clear hv ht hl h1 h2
  obtain ⟨W0, hW0⟩ : ∃ W0, W0 = ((w.alloc (.cells #[.slice la ln lc] 67)).alloc (.cells #[.slice va vn vc] 24)).alloc (.cells #[.bool false] 4) := ⟨_, rfl⟩
  have HW0 : Hid (Below w.heap.size w W0) := by unfold Hid; rw [hW0]; exact (((Below.refl _ _).alloc (Nat.le_refl _) _).alloc (by simp) _).alloc (by simp; omega) _
  have HA0 : Hid (W0.cell? ⟨A, 0, none⟩ = some (.slice la ln lc) ∧ W0.cell? ⟨A + 1, 0, none⟩ = some (.slice va vn vc) ∧ W0.cell? ⟨A + 1 + 1, 0, none⟩ = some (.bool false) ∧ W0.frozen? ⟨A + 1 + 1, 0, none⟩ = false ∧ W0.heap.size = A + 3) := by
    unfold Hid
    rw [hW0, hA]
    exact ⟨(new_cell rfl (((Chg.refl _ _).alloc _).alloc _)).1, (new_cell (by simp) ((Chg.refl _ _).alloc _)).1, (new_cell (by simp) (Chg.refl _ _)).1, (new_cell (by simp) (Chg.refl _ _)).2, by simp⟩
  refine callsIn_of_wp_marks Tryd.func16 rfl trivial ?_ rfl
  simp only [Tryd.ntmps16, List.size_toArray, List.length_cons, List.length_nil, Nat.reduceAdd, Nat.reduceSub, Array.replicate_succ, Array.replicate_zero, List.push_toArray, List.append_toArray, List.nil_append, List.cons_append]
  gi_wp2_with fail
  rw [← hA, ← hW0]
  refine ⟨trivial, callsIn_wide.2 ((awake13_any _ (HT.out.below HW0.out)).mono ?_)⟩
  rintro e w1 ⟨rfl, hb1⟩
  have C1 : Hid (Chg [] W0 w1) := Chg.of_below hb1
  obtain ⟨q0, q1, q2, q3, q4⟩ := HA0.out
  have c0 : w1.cell? ⟨A, 0, none⟩ = some (.slice la ln lc) := (C1.out.cell _ _ (by omega) (by simp)).trans q0
  have c1 : w1.cell? ⟨A + 1, 0, none⟩ = some (.slice va vn vc) := (C1.out.cell _ _ (by omega) (by simp)).trans q1
  have c2 : w1.cell? ⟨A + 1 + 1, 0, none⟩ = some (.bool false) := (C1.out.cell _ _ (by omega) (by simp)).trans q2
  have z2 : w1.frozen? ⟨A + 1 + 1, 0, none⟩ = false := (C1.out.frozen _ _ (by omega) (by simp)).trans q3
  have SZ : Hid (A + 3 ≤ w1.heap.size) := by have := C1.out.size; unfold Hid; omega
  clear hb1 q0 q1 q2 q3 q4 hW0 hA
  gi_wp2_with fail
  gi_loopw [5, 7, 8, 9, 30] (fun v _ _ _ i wr => ∃ (k : Nat) (a : Option Addr) (n c : Nat), i = .int .i64 k ∧ k ≤ ln ∧ v = .slice a n c ∧ Hid (Own wr w1.heap.size 5 (.slice a n c) ((rowOf (fs.take k)).map byteV)) ∧ Hid (∀ x ∈ fs.take k, 1 ≤ x.1 ∧ x.1 ≤ 255 ∧ x.2.length ≤ 200) ∧ Hid (Chg [] w1 wr)) (fun _ _ _ _ i _ => ln - (intOf i).toNat)
  case atStart => exact ⟨0, none, 0, 0, rfl, Nat.zero_le _, rfl, Own.nil_ (Nat.le_refl _), (by unfold Hid; simp), Chg.refl _ _⟩
  case round =>
    obtain ⟨k, a, n, c, rfl, hk, rfl, how, hfit, hch⟩ := hrel
    by_cases hlt : k < ln
    · obtain ⟨b, off, kk, p, pa, pn, pc, rfl, hbl, hget, d0, d1, hp, hkk⟩ := HL.out.at_ (((Chg.of_below HW0.out : Chg [] w W0).trans C1.out).trans hch.out) k hlt
      have HP := Lib.hid hp
      have HG := Lib.hid hget
      have HKK := Lib.hid hkk
      have hpn : pn = p.length := by obtain ⟨_, _, _, he, h, _⟩ := hp; injection he with _ e2 _; rw [e2, h]
      have HPN := Lib.hid hpn
      have hpm : pn ≤ 9223372036854775807 := by rw [hpn]; exact hp.length_le
      have HPM := Lib.hid hpm
      obtain ⟨W1, hW1⟩ : ∃ W1, W1 = wr.alloc (.cells #[.int .i64 kk, .slice pa pn pc] 47) := ⟨_, rfl⟩
      have CW : Hid (Chg [] wr W1) := by unfold Hid; rw [hW1]; exact (Chg.refl _ _).alloc _
      have C11 : Hid (Chg [] w1 W1) := hch.out.trans CW.out
      have sz := SZ.out
      have k0 : W1.cell? ⟨wr.heap.size, 0, none⟩ = some (.int .i64 kk) := by rw [hW1]; exact (cell_of_row _ _ 0 #[.int .i64 kk, .slice pa pn pc] _ (0, 0) (heap_alloc_new wr _)).trans rfl
      have k1 : W1.cell? ⟨wr.heap.size, 1, none⟩ = some (.slice pa pn pc) := by rw [hW1]; exact (cell_of_row _ _ 1 #[.int .i64 kk, .slice pa pn pc] _ (0, 0) (heap_alloc_new wr _)).trans rfl
      have p2 : W1.cell? ⟨A + 1 + 1, 0, none⟩ = some (.bool false) := (C11.out.cell _ _ (by omega) (by simp)).trans c2
      have y2 : W1.frozen? ⟨A + 1 + 1, 0, none⟩ = false := (C11.out.frozen _ _ (by omega) (by simp)).trans z2
      have HT1 : Hid (Tab W1) := HT.out.below (HW0.out.trans (((C1.out.trans C11.out).below (B := W0.heap.size) (Nat.le_refl _) (by simp)).mono HW0.out.size))
      have HP1 : Hid (IsBytes W1 (.slice pa pn pc) p) := HP.out.chg CW.out (by simp)
      have FIN : ∀ W', Chg [A + 1 + 1] W1 W' → Below w.heap.size w W' := fun W' hc => HW0.out.trans ((((C1.out.trans C11.out).mono (by simp)).trans hc).below HW0.out.size (by have := HA.out; intro x hx; simp at hx; omega))
      have HFIN := Lib.hid FIN
      have kb : (k : Int) ≤ 10 := by have := H1.out; omega
      have HW1 := Lib.hid hW1
      clear hp hget hkk hpn hpm hW1 FIN
      by_cases hkind : kk < 1 ∨ 255 < kk
      · have HKD := Lib.hid hkind
        clear hkind
        gi_wp2_with fail
        rw [← HW1.out]
        refine ⟨trivial, callsIn_wide.2 ((seal_kind kk _ W1 HKD.out HKK.out).mono ?_)⟩
        rintro e w2 ⟨rfl, rfl⟩
        gi_wp2_with fail
        have hb : (W1.setCell ⟨A + 1 + 1, 0, none⟩ (.bool true)).cell? ⟨A + 1 + 1, 0, none⟩ = some (.bool true) := by go_simp
        refine ⟨.bool true, ?_, rfl, HFIN.out _ ((Chg.refl _ _).setCell _ _ (.inl (by simp)))⟩
        simp [results, hb, go_sem]
      · have hk1 : 1 ≤ kk ∧ kk ≤ 255 := by omega
        have HKD := Lib.hid hk1
        by_cases hbig : 65536 < pn
        · have HBG := Lib.hid hbig
          have e200 : (200 : Int) < (pn : Int) := by omega
          clear hkind hk1 hbig
          gi_wp2_with fail
          rw [← HW1.out]
          refine ⟨trivial, callsIn_wide.2 ((seal_long kk pa pn pc W1 HKD.out HBG.out HPM.out).mono ?_)⟩
          rintro e w2 ⟨rfl, rfl⟩
          gi_wp2_with fail
          have hb : (W1.setCell ⟨A + 1 + 1, 0, none⟩ (.bool true)).cell? ⟨A + 1 + 1, 0, none⟩ = some (.bool true) := by go_simp
          refine ⟨.bool true, ?_, rfl, HFIN.out _ ((Chg.refl _ _).setCell _ _ (.inl (by simp)))⟩
          simp [results, hb, go_sem]
        · obtain ⟨kn, rfl⟩ : ∃ kn : Nat, (kn : Int) = kk := ⟨kk.toNat, by omega⟩
          have hs := seal_is kn _ p W1 (by omega) (by omega) HP1.out (by have := HPN.out; omega) HT1.out
          have HS := Lib.hid hs
          clear hkind hk1 hbig hs
          gi_wp2_with fail
          rw [← HW1.out]
          refine ⟨trivial, callsIn_wide.2 (HS.out.mono ?_)⟩
          rintro e w2 ⟨sa, sn, sc, rfl, hown, hb2⟩
          have C2 : Hid (Chg [] W1 w2) := Chg.of_below hb2
          have p2' : w2.cell? ⟨A + 1 + 1, 0, none⟩ = some (.bool false) := (C2.out.cell _ _ (cell_lt p2) (by simp)).trans p2
          have y2' : w2.frozen? ⟨A + 1 + 1, 0, none⟩ = false := (C2.out.frozen _ _ (cell_lt p2) (by simp)).trans y2
          have k1' : w2.cell? ⟨wr.heap.size, 1, none⟩ = some (.slice pa pn pc) := (C2.out.cell _ _ (cell_lt k1) (by simp)).trans k1
          have HOWN2 := Lib.hid hown
          clear hb2 hown k0 k1 p2 y2
          by_cases h200 : 200 < pn
          · have e200 : (200 : Int) < (pn : Int) := by omega
            clear h200
            gi_wp2_with fail
            have hb : (w2.setCell ⟨A + 1 + 1, 0, none⟩ (.bool true)).cell? ⟨A + 1 + 1, 0, none⟩ = some (.bool true) := by go_simp
            refine ⟨.bool true, ?_, rfl, HFIN.out _ ((C2.out.mono (by simp)).setCell _ _ (.inl (by simp)))⟩
            simp [results, hb, go_sem]
          · have e200 : ¬ (200 : Int) < (pn : Int) := by omega
            have HPL : Hid (p.length ≤ 200) := by have := HPN.out; unfold Hid; omega
            have HOB : Hid (Own w2 w1.heap.size 5 (.slice a n c) ((rowOf (fs.take k)).map byteV)) := how.out.chg (CW.out.trans C2.out) (by simp)
            have HLN : Hid ((rowOf (fs.take k)).length ≤ 100000) := row_le hfit.out (by rw [List.length_take]; have := H1.out; omega)
            clear h200
            gi_wp2_with (gi_at_builtin; refine wplIn_append rfl (.tmp 58) (.tmp 59) 24 rfl elemU8 rfl HOB.out rfl HOWN2.out.reads one_byteV (by have := HLN.out; have := HPL.out; rw [List.length_map, List.length_map, Frm.frame_length]; omega) (by have := HLN.out; have := HPL.out; rw [List.length_map, List.length_map, Frm.frame_length]; unfold maxLen; omega) ?_; intro v' w3 hown3 hg3 hat3; have C3 : Hid (Chg [] w1 w3) := (hch.out.trans (CW.out.trans C2.out)).more (Chg.of_grown hg3) (fun x hx => .inr (by simp at hx; exact (HOB.out.block_ge x hx).1)); obtain ⟨za, zn, zc, rfl, _⟩ := hown3.form_; have HO3 := Lib.hid hown3; clear hown3 hg3 hat3)
            refine ⟨⟨k + 1, za, zn, zc, by go_num, hlt, rfl, ?_, ?_, C3.out⟩, by simp [intOf]; omega⟩
            · have h := HO3.out
              unfold Hid
              rw [take_snoc' HG.out, Frm.rowOf, List.flatMap_append, List.map_append]
              simpa [Frm.rowOf] using h
            · unfold Hid
              rw [take_snoc' HG.out]
              intro x hx
              rcases List.mem_append.1 hx with hx | hx
              · exact hfit.out x hx
              · simp at hx; subst hx; exact ⟨HKD.out.1, HKD.out.2, HPL.out⟩
    · have hkl : fs.take k = fs := List.take_of_length_le (by obtain ⟨_, _, he, _⟩ := HL.out; injection he with _ e2 _; omega)
      rw [hkl] at how hfit
      have hln : fs.length = ln := by obtain ⟨_, _, he, _⟩ := HL.out; injection he with _ e2 _; exact e2.symm
      have HLN := Lib.hid hln
      have HBW : Hid (IsBytes wr (.slice a n c) (rowOf fs)) := how.out.reads.bytes
      have hnr : n = (rowOf fs).length := by obtain ⟨_, _, he, _⟩ := how.out.len; injection he with _ he; rw [he, List.length_map]
      have HNR := Lib.hid hnr
      have hrl : (rowOf fs).length ≤ 100000 := row_le hfit.out (by have := H1.out; omega)
      have HRL := Lib.hid hrl
      have FT : Hid (Fit fs) := fun x hx => by have h := hfit.out x hx; exact ⟨h.1, h.2.1, by omega⟩
      have SP := Lib.hid (Frm.split_rows fs FT.out)
      have sz := SZ.out
      have c1' : wr.cell? ⟨A + 1, 0, none⟩ = some (.slice va vn vc) := (hch.out.cell _ _ (by omega) (by simp)).trans c1
      have c0' : wr.cell? ⟨A, 0, none⟩ = some (.slice la ln lc) := (hch.out.cell _ _ (by omega) (by simp)).trans c0
      have c2' : wr.cell? ⟨A + 1 + 1, 0, none⟩ = some (.bool false) := (hch.out.cell _ _ (by omega) (by simp)).trans c2
      have z2' : wr.frozen? ⟨A + 1 + 1, 0, none⟩ = false := (hch.out.frozen _ _ (by omega) (by simp)).trans z2
      have HTW : Hid (Tab wr) := HT.out.below (HW0.out.trans (((C1.out.trans hch.out).below (B := W0.heap.size) (Nat.le_refl _) (by simp)).mono HW0.out.size))
      have HVW : Hid (IsBytes wr (.slice va vn vc) bs) := (HV.out.below HW0.out).chg (C1.out.trans hch.out) (by simp)
      have HFIN : Hid (∀ W', Chg [A + 1 + 1] wr W' → Below w.heap.size w W') := fun W' hc => HW0.out.trans ((((C1.out.trans hch.out).mono (by simp)).trans hc).below HW0.out.size (by have := HA.out; intro x hx; simp at hx; omega))
      have hvn : vn = bs.length := by obtain ⟨_, _, _, he, h, _⟩ := HV.out; injection he with _ e2 _; rw [e2, h]
      have HVN := Lib.hid hvn
      have CWR := Lib.hid (C1.out.trans hch.out)
      obtain ⟨wq, rfl⟩ : ∃ wq : World, wq = wr := ⟨_, rfl⟩
      clear hkl hln hnr hrl hvn hch c0 c1 c2 z2 C1 how hk
      gi_wp2_with fail
      gi_loop [11, 64] (fun _ i => ∃ j : Nat, i = .int .i64 j ∧ j ≤ vn ∧ Hid (∀ x ∈ bs.take j, x ≠ 0x52#8)) (fun _ i => vn - (intOf i).toNat)
      case atStart => exact ⟨0, rfl, Nat.zero_le _, (by unfold Hid; simp)⟩
      case round =>
        obtain ⟨j, rfl, hj, hno⟩ := hrel
        by_cases hlj : j < vn
        · obtain ⟨cb, hcb⟩ : ∃ cb, bs[j]? = some cb := ⟨_, List.getElem?_eq_getElem (by have := HVN.out; omega)⟩
          have HCB := Lib.hid hcb
          have jb : (j : Int) ≤ 100 := by have := H2.out; omega
          have j1 : (0 : Int) ≤ (j : Int) ∧ (j : Int) < (vn : Int) := by omega
          rcases HVW.out.open_ with ⟨h0, _⟩ | ⟨_, B, off, cap, he, _, _, hBl, hB⟩
          · subst h0; simp at hcb
          · injection he with he _ _
            subst he
            have hbj : wq.cell? ⟨B, off + j, none⟩ = some (.int .u8 (cb.toNat : Int)) := by
              have h1 := (List.getElem?_eq_some_iff.1 hcb).1
              have h2 := (List.getElem?_eq_some_iff.1 hcb).2
              rw [hB j h1, h2]
            clear hB hcb
            by_cases he : cb = 0x52#8
            · have e8 : ((cb.toNat : Int) == 82) = true := by rw [he]; rfl
              clear he
              gi_wp2_with fail
              have hb : (wq.setCell ⟨A + 1 + 1, 0, none⟩ (.bool true)).cell? ⟨A + 1 + 1, 0, none⟩ = some (.bool true) := by go_simp
              refine ⟨.bool true, ?_, rfl, HFIN.out _ ((Chg.refl _ _).setCell _ _ (.inl (by simp)))⟩
              simp [results, hb, go_sem]
            · have e8 : ((cb.toNat : Int) == 82) = false := by rw [beq_eq_false_iff_ne]; intro e; exact he (BitVec.eq_of_toNat_eq (by simp; omega))
              have HE := Lib.hid he
              clear he
              gi_wp2_with fail
              refine ⟨⟨j + 1, by go_num, hlj, ?_⟩, by simp [intOf]; omega⟩
              unfold Hid
              rw [take_snoc' HCB.out]
              intro x hx
              rcases List.mem_append.1 hx with hx | hx
              · exact hno.out x hx
              · simp at hx; subst hx; exact HE.out
        · have hbt : bs.take j = bs := List.take_of_length_le (by have := HVN.out; omega)
          rw [hbt] at hno
          have HU := Lib.hid (Frm.hunt_all FT.out hno.out)
          clear hbt hno
          gi_wp2_with fail
          refine ⟨trivial, callsIn_wide.2 ((split_any _ (rowOf fs) wq HBW.out (by have := HRL.out; omega) HTW.out).mono ?_)⟩
          rintro e w3 ⟨xa, xn, xc, rfl, hfr, hb3⟩
          have hsp1 : (split (rowOf fs)).1 = fs := by rw [SP.out]
          have hsp2 : (split (rowOf fs)).2.1 = n := by rw [SP.out, HNR.out]
          have hsp3 : (split (rowOf fs)).2.2 = 0 := by rw [SP.out]
          rw [hsp1] at hfr
          rw [hsp2, hsp3]
          have hxn : xn = ln := by obtain ⟨_, _, he, _⟩ := hfr.form_; injection he with _ e2 _; rw [e2, HLN.out]
          subst hxn
          have HFR := Lib.hid hfr
          have C3 : Hid (Chg [] wq w3) := Chg.of_below hb3
          have d0 : w3.cell? ⟨A, 0, none⟩ = some (.slice la xn lc) := (C3.out.cell _ _ (cell_lt c0') (by simp)).trans c0'
          have d1 : w3.cell? ⟨A + 1, 0, none⟩ = some (.slice va vn vc) := (C3.out.cell _ _ (cell_lt c1') (by simp)).trans c1'
          have d2 : w3.cell? ⟨A + 1 + 1, 0, none⟩ = some (.bool false) := (C3.out.cell _ _ (cell_lt c2') (by simp)).trans c2'
          have y2 : w3.frozen? ⟨A + 1 + 1, 0, none⟩ = false := (C3.out.frozen _ _ (cell_lt c2') (by simp)).trans z2'
          obtain ⟨w4, hw4⟩ : ∃ w4, w4 = (w3.alloc (.cells #[.slice xa xn xc] 67)).alloc (.cells #[.int .i64 0] 3) := ⟨_, rfl⟩
          have f0 : (w3.alloc (.cells #[.slice xa xn xc] 67)).cell? ⟨A, 0, none⟩ = some (.slice la xn lc) := (((Chg.refl [] _).alloc _).cell _ _ (cell_lt d0) (by simp)).trans d0
          have f1 : ((w3.alloc (.cells #[.slice xa xn xc] 67)).alloc (.cells #[.int .i64 0] 3)).cell? ⟨A + 1, 0, none⟩ = some (.slice va vn vc) := ((((Chg.refl [] _).alloc _).alloc _).cell _ _ (cell_lt d1) (by simp)).trans d1
          clear hsp1 hsp2 hsp3 hfr hb3 c0' c1' c2' z2'
          have C4 : Hid (Chg [] w3 w4) := by unfold Hid; rw [hw4]; exact ((Chg.refl [] _).alloc _).alloc _
          have HV4 : Hid (IsBytes w4 (.slice va vn vc) bs) := HVW.out.chg (C3.out.trans C4.out) (by simp)
          have HB4 : Hid (IsBytes w4 (.slice a n c) (rowOf fs)) := HBW.out.chg (C3.out.trans C4.out) (by simp)
          gi_wp2_with fail
          rw [← hw4]
          refine ⟨trivial, callsIn_wide.2 ((joinB_any _ _ bs (rowOf fs) w4 HV4.out HB4.out (by have := HVN.out; have := H2.out; omega) (by have := HRL.out; omega)).mono ?_)⟩
          rintro e w5 ⟨ja, jn, jc, rfl, hjn, hown5, hb5⟩
          gi_wp2_with fail
          refine ⟨trivial, callsIn_wide.2 ((hunt_maker _ _ ⟨_, _, _, rfl⟩).mono ?_)⟩
          rintro e w6 ⟨rfl, rfl⟩
          gi_wp2_with fail
          obtain ⟨L, hL⟩ : ∃ L, L = w3.heap.size := ⟨_, rfl⟩
          obtain ⟨Z, hZ⟩ : ∃ Z, Z = w5.heap.size := ⟨_, rfl⟩
          obtain ⟨W6, hW6⟩ : ∃ W6, W6 = w5.alloc (.cells #[.slice ja jn jc] 24) := ⟨_, rfl⟩
          have C46 : Hid (Chg [] w4 W6) := by unfold Hid; rw [hW6]; exact (Chg.of_below hb5).alloc _
          have C36 : Hid (Chg [] w3 W6) := C4.out.trans C46.out
          have zA : A + 3 ≤ L := by rw [hL]; have := C3.out.size; have := CWR.out.size; have := HA0.out.2.2.2.2; omega
          have zL : L + 2 ≤ Z := by rw [hL, hZ]; have := hb5.size; rw [hw4] at this; simp at this; omega
          have HCELLS : Hid (W6.cell? ⟨A, 0, none⟩ = some (.slice la xn lc) ∧ W6.cell? ⟨A + 1, 0, none⟩ = some (.slice va vn vc) ∧ W6.cell? ⟨A + 1 + 1, 0, none⟩ = some (.bool false) ∧ W6.frozen? ⟨A + 1 + 1, 0, none⟩ = false ∧ W6.cell? ⟨L, 0, none⟩ = some (.slice xa xn xc) ∧ W6.cell? ⟨L + 1, 0, none⟩ = some (.int .i64 0) ∧ W6.frozen? ⟨L + 1, 0, none⟩ = false ∧ W6.cell? ⟨Z, 0, none⟩ = some (.slice ja jn jc) ∧ W6.heap.size = Z + 1) := by
            have k4 : w4.cell? ⟨L, 0, none⟩ = some (.slice xa xn xc) := by rw [hw4, hL]; exact (new_cell rfl ((Chg.refl _ _).alloc _)).1
            have k5 : w4.cell? ⟨L + 1, 0, none⟩ = some (.int .i64 0) ∧ w4.frozen? ⟨L + 1, 0, none⟩ = false := by rw [hw4, hL]; exact new_cell (by simp) (Chg.refl _ _)
            refine ⟨(C36.out.cell _ _ (cell_lt d0) (by simp)).trans d0, (C36.out.cell _ _ (cell_lt d1) (by simp)).trans d1, (C36.out.cell _ _ (cell_lt d2) (by simp)).trans d2, (C36.out.frozen _ _ (cell_lt d2) (by simp)).trans y2, (C46.out.cell _ _ (cell_lt k4) (by simp)).trans k4, (C46.out.cell _ _ (cell_lt k5.1) (by simp)).trans k5.1, (C46.out.frozen _ _ (cell_lt k5.1) (by simp)).trans k5.2, ?_, by rw [hW6, hZ]; simp⟩
            rw [hW6, hZ]; exact (new_cell rfl (Chg.refl _ _)).1
          have HJ6 : Hid (IsBytes W6 (.slice ja jn jc) (bs ++ rowOf fs)) := by unfold Hid; rw [hW6]; exact hown5.reads.bytes.alloc _
          have HLW : Hid (L = w3.heap.size) := hL
          have CW6 : Hid (Chg [] wq W6) := C3.out.trans C36.out
          have CF6 : Hid (Chg [] w W6) := (Chg.of_below HW0.out : Chg [] w W0).trans (CWR.out.trans CW6.out)
          have HLEN : Hid ((hunt 0 (bs ++ rowOf fs)).length = xn) := by have := congrArg List.length HU.out.1; rw [List.length_map, HLN.out] at this; exact this
          rw [← hW6, ← hL, ← hZ]
          have ZA := Lib.hid zA
          have ZL := Lib.hid zL
          clear hW6 hL hZ hw4 d0 d1 d2 y2 f0 f1 hown5 hb5 hjn zA zL sz
          refine wpIn_rangeX (Bs := []) (Cs := [L + 1]) rfl (by decide) (gf := 45) (lb := #[.pointer (some ⟨Z, 0, none⟩)]) rfl trivial (enters_of Tryd.func45 (by kernel_rfl) rfl)
            (hunt1_stops 2 Z [L + 1] ja jn jc (bs ++ rowOf fs) W6 HCELLS.out.2.2.2.2.2.2.2.1 HJ6.out ?hlen ?hcs ?htab) (by simp) ?hcs2 (fun _ => rfl)
            (fun m W => Chg [L + 1] W6 W ∧ W.cell? ⟨L + 1, 0, none⟩ = some (.int .i64 m) ∧ W.frozen? ⟨L + 1, 0, none⟩ = false)
            (fun _ _ _ => False)
            ?hI ?hIx ?h0 (fun _ x a' W => ∃ Bx, W6.heap.size ≤ Bx ∧ Bx < W.heap.size ∧ W.cell? ⟨Bx, 0, none⟩ = some (.int .i64 x.kind) ∧ W.cell? ⟨Bx, 1, none⟩ = some (.slice x.a x.m x.c) ∧ a' = { tmps := #[Value.slice la xn lc, Value.slice va vn vc, .pointer (some ⟨A, 0, none⟩), .pointer (some ⟨A + 1, 0, none⟩), .pointer (some ⟨A + 1 + 1, 0, none⟩), .slice a n c, undef, u7, u8, u9, undef, u11, .pointer (some ⟨L, 0, none⟩), .int .i64 n, .int .i64 0, .pointer (some ⟨L + 1, 0, none⟩), .int .i64 x.at_, .pointer (some ⟨Bx, 0, none⟩), .bool true, .bool false, .slice la xn lc, .int .i64 xn, .bool (decide ((10 : Int) < (xn : Int))), .bool (decide ((10 : Int) < (xn : Int))), .slice va vn vc, .int .i64 vn, .bool (decide ((100 : Int) < (vn : Int))), .bool (decide ((10 : Int) < (xn : Int)) || decide ((100 : Int) < (vn : Int))), .slice la xn lc, .int .i64 xn, .int .i64 k, .bool false, u32, u33, u34, u35, u36, u37, u38, u39, u40, u41, u42, u43, u44, u45, u46, u47, u48, u49, u50, u51, u52, u53, u54, u55, u56, u57, u58, u59, u60, u61, .slice va vn vc, .int .i64 vn, .int .i64 j, .bool false, u66, u67, u68, u69, u70, .tuple #[.slice xa xn xc, .int .i64 n, .int .i64 0], .slice a n c, .tuple #[.slice xa xn xc, .int .i64 n, .int .i64 0], .slice xa xn xc, .int .i64 n, .int .i64 0, .int .i64 0, .bool false, .bool false, .int .i64 n, .slice a n c, .int .i64 n, .bool false, .bool false, .bool false, .slice xa xn xc, .int .i64 xn, .slice la xn lc, .int .i64 xn, .bool false, .bool false, .slice va vn vc, .slice a n c, .slice ja jn jc, .func (.func 45) #[] #[.pointer (some ⟨Z, 0, none⟩)], .int .i64 x.at_, .agg #[.int .i64 x.kind, .slice x.a x.m x.c], undef, undef, undef, undef, undef, undef, undef, undef, undef, undef, undef, undef, undef, undef, undef, undef, undef, undef, undef, undef, undef, undef, undef, undef, undef, undef, undef, undef, undef, undef, undef, undef, undef, undef, undef, undef, undef, undef, undef, undef, undef, undef, undef, undef, undef, undef, undef, undef, undef, undef, undef], defers := [] }) ?hassign ?hbody ?hdone ?hstop
          case hlen => rw [List.length_append]; have := HVN.out; have := H2.out; have := HRL.out; omega
          case hI =>
            rintro m W W' E ⟨h1, h2, h3⟩ hs hc hE
            have hn : ∀ x, x < W6.heap.size → x ∉ E := fun x hx he => by rcases hE x he with h | h; omega; cases h
            have hz := HCELLS.out.2.2.2.2.2.2.2.2
            have := ZL.out
            exact ⟨h1.more hc (fun x hx => by rcases hE x hx with h | h; exact .inr h; cases h), (hc.cell _ 0 (by omega) (hn _ (by omega))).trans h2, (hc.frozen _ 0 (by omega) (hn _ (by omega))).trans h3⟩
          case hIx => exact fun _ _ _ _ _ h _ _ _ => h
          case h0 => exact ⟨Chg.refl _ _, HCELLS.out.2.2.2.2.2.1, HCELLS.out.2.2.2.2.2.2.1⟩
          case hcs => intro c hc; simp at hc; have := ZL.out; have := HCELLS.out.2.2.2.2.2.2.2.2; omega
          case hcs2 => intro c hc; simp at hc; have := ZL.out; have := HCELLS.out.2.2.2.2.2.2.2.2; omega
          case htab =>
            intro W' E hc hE
            have h3 : Tab W6 := HTW.out.below (CW6.out.below (Nat.le_refl _) (by simp))
            have hlt := HTW.out.1
            have hls := HLW.out
            have h31 := C3.out.size
            have h61 := CW6.out.size
            have hn : 0 ∉ E := fun he => by
              rcases hE _ he with h | h
              · omega
              · first | (simp at h; omega) | (simp at h)
            exact ⟨Nat.lt_of_lt_of_le h3.1 hc.size, fun k hk => (hc.cell _ k h3.1 hn).trans (h3.2 k hk)⟩
          case hassign =>
            intro l m x W K hl1 hl2 hi hok hK
            dsimp only [metEnc]
            gi_wp2
            repeat (rw [Oper.semAt_eq _ _ _ (fun c h => by cases h)]; go_simp; gi_wp2)
            refine hK _ _ ((Chg.refl _ _).alloc _) ?_
            intro W'' hc
            have hne : W.heap.size ∉ [l] := by simp; omega
            exact ⟨W.heap.size, hi.1.size, Nat.lt_of_lt_of_le (by simp) hc.size, (hc.cell _ 0 (by simp) hne).trans (by simp), (hc.cell _ 1 (by simp) hne).trans (by simp), rfl⟩
          case hbody =>
            rintro l m x a' W hl1 hl2 ⟨hc, cK, fK⟩ ⟨p, hget, hby⟩ ⟨Bx, hB1, hB2, b0, b1, rfl⟩
            have hz := HCELLS.out.2.2.2.2.2.2.2.2
            have za := ZA.out
            have zl := ZL.out
            have hfs : fs[m]? = some (x.kind, p) := by rw [← HU.out.1, List.getElem?_map, hget]; rfl
            have hml : m < xn := by have := (List.getElem?_eq_some_iff.1 hfs).1; have := HLN.out; omega
            have hat : vn ≤ x.at_ := by have := HU.out.2 _ (List.mem_of_getElem? hget); have := HVN.out; omega
            have c0 : W.cell? ⟨A, 0, none⟩ = some (.slice la xn lc) := (hc.cell _ 0 (by omega) (by simp; omega)).trans HCELLS.out.1
            have c1 : W.cell? ⟨A + 1, 0, none⟩ = some (.slice va vn vc) := (hc.cell _ 0 (by omega) (by simp; omega)).trans HCELLS.out.2.1
            have cL : W.cell? ⟨L, 0, none⟩ = some (.slice xa xn xc) := (hc.cell _ 0 (by omega) (by simp)).trans HCELLS.out.2.2.2.2.1
            have CFW : Chg [] w W := CF6.out.more hc (fun y hy => by simp at hy; have := HA.out; omega)
            obtain ⟨b, off, kk, p', pa, pn, pc, rfl, hbl, hget', d0, d1, hp, hkk⟩ := HL.out.at_ CFW m hml
            rw [hfs] at hget'
            injection hget' with hget'
            injection hget' with e1 e2
            subst e1 e2
            have HFW : Hid (Frs W wq.heap.size 47 (.slice xa xn xc) fs []) := HFR.out.chg ((C36.out.mono (by simp)).trans hc) (fun y hy => by simp at hy; have := HLW.out; omega)
            obtain ⟨g, gc, fa, fm, fc, hve, e0, e1, hfb⟩ := HFW.out.at_ m x.kind p hfs
            injection hve with u1 u2 u3
            subst u1
            have HBY := Lib.hid hby
            have HFB := Lib.hid hfb
            have HP := Lib.hid hp
            have HC := Lib.hid hc
            clear hby hfb hp hfs hget hkk u2 u3 CFW hc
            gi_wp2_with fail
            refine wpIn_region_list (r := some l) (by kernel_rfl) (by kernel_rfl) [.int .i64 m, .slice (some ⟨b, off, none⟩) xn lc, .int .i64 xn, .bool false, .bool false, .int .i64 x.at_, .slice va vn vc, .int .i64 vn, .bool false, .bool false, .bool false, .pointer (some ⟨Bx, 0, none⟩), .int .i64 x.kind, .slice (some ⟨b, off, none⟩) xn lc, .int .i64 m, .pointer (some ⟨b, off + m * 2, none⟩), .pointer (some ⟨b, off + m * 2, none⟩), .int .i64 x.kind, .bool false, .bool false, .bool false, .pointer (some ⟨Bx, 1, none⟩), .slice x.a x.m x.c, .slice (some ⟨b, off, none⟩) xn lc, .int .i64 m, .pointer (some ⟨b, off + m * 2, none⟩), .pointer (some ⟨b, off + m * 2 + 1, none⟩), .slice pa pn pc, .bool true, .bool false, .bool false, .bool false, .slice (some ⟨g, 0, none⟩) xn xc, .int .i64 m, .pointer (some ⟨g, m * 2, none⟩), .pointer (some ⟨g, m * 2 + 1, none⟩), .slice fa fm fc, .slice (some ⟨b, off, none⟩) xn lc, .int .i64 m, .pointer (some ⟨b, off + m * 2, none⟩), .pointer (some ⟨b, off + m * 2 + 1, none⟩), .slice pa pn pc, .bool true, .bool false, .bool false] (by (simp [putAll, Act.put]; rfl)) (fun a b => Below a.heap.size a b) (fun h h' => h.trans (h'.mono h.size)) ((Below.refl _ _).drew) ?vops ?vrest
            case vops =>
              intro w5 hR
              have q0 : w5.cell? ⟨A, 0, none⟩ = some (.slice (some ⟨b, off, none⟩) xn lc) := (hR.cell (cell_lt c0)).trans c0
              have q1 : w5.cell? ⟨A + 1, 0, none⟩ = some (.slice va vn vc) := (hR.cell (cell_lt c1)).trans c1
              have qL : w5.cell? ⟨L, 0, none⟩ = some (.slice (some ⟨g, 0, none⟩) xn xc) := (hR.cell (cell_lt cL)).trans cL
              have qK : w5.cell? ⟨L + 1, 0, none⟩ = some (.int .i64 m) := (hR.cell (cell_lt cK)).trans cK
              have r0 : w5.cell? ⟨Bx, 0, none⟩ = some (.int .i64 x.kind) := (hR.cell (cell_lt b0)).trans b0
              have r1 : w5.cell? ⟨Bx, 1, none⟩ = some (.slice x.a x.m x.c) := (hR.cell (cell_lt b1)).trans b1
              have s0 : w5.cell? ⟨b, off + m * 2, none⟩ = some (.int .i64 x.kind) := (hR.cell (cell_lt d0)).trans d0
              have s1 : w5.cell? ⟨b, off + m * 2 + 1, none⟩ = some (.slice pa pn pc) := (hR.cell (cell_lt d1)).trans d1
              have t1 : w5.cell? ⟨g, m * 2 + 1, none⟩ = some (.slice fa fm fc) := (hR.cell (cell_lt e1)).trans e1
              have HX : Hid (IsBytes w5 (.slice x.a x.m x.c) p) := HBY.out.below hR
              have HY : Hid (IsBytes w5 (.slice fa fm fc) p) := HFB.out.below hR
              have HZ : Hid (IsBytes w5 (.slice pa pn pc) p) := HP.out.below hR
              have m1 : (0 : Int) ≤ (m : Int) ∧ (m : Int) < (xn : Int) := by omega
              have m2 : decide ((xn : Int) ≤ (m : Int)) = false := decide_eq_false (by omega)
              have m3 : decide ((x.at_ : Int) < (vn : Int)) = false := decide_eq_false (by omega)
              clear c0 c1 cL cK b0 b1 d0 d1 e0 e1
              refine ⟨?_, ?_, ?_, ?_, ?_, ?_, ?_, ?_, ?_, ?_, ?_, ?_, ?_, ?_, ?_, ?_, ?_, ?_, ?_, ?_, ?_, ?_, ?_, ?_, ?_, ?_, ?_, ?_, ?_, ?_, ?_, ?_, ?_, ?_, ?_, ?_, ?_, ?_, ?_, ?_, ?_, ?_, ?_, ?_, ?_, trivial⟩
              all_goals (try (refine opDo_value rfl rfl ?_ (Below.refl _ _); go_simp; done))
              · refine opDo_call (f := 27) (args := #[.slice x.a x.m x.c, .slice pa pn pc]) rfl rfl (w' := w5) ?_ ?_
                · go_simp
                · refine (same_any _ _ p p _ HX.out HZ.out).mono ?_
                  rintro e w6 ⟨rfl, q, rfl⟩
                  exact ⟨by rw [decide_eq_true (rfl : p = p)]; rfl, below_drewN (Below.refl _ _) q⟩
              · refine opDo_call (f := 27) (args := #[.slice fa fm fc, .slice pa pn pc]) rfl rfl (w' := w5) ?_ ?_
                · go_simp
                · refine (same_any _ _ p p _ HY.out HZ.out).mono ?_
                  rintro e w6 ⟨rfl, q, rfl⟩
                  exact ⟨by rw [decide_eq_true (rfl : p = p)]; rfl, below_drewN (Below.refl _ _) q⟩
            case vrest =>
              intro w5 hR
              have qK : w5.cell? ⟨L + 1, 0, none⟩ = some (.int .i64 m) := (hR.cell (cell_lt cK)).trans cK
              have pK : w5.frozen? ⟨L + 1, 0, none⟩ = false := (hR.frozen (cell_lt cK)).trans fK
              have mb : (m : Int) ≤ 10 := by have := H1.out; omega
              have hw : IntKind.i64.wrap ((m : Int) + 1) = (m : Int) + 1 := by rw [IntKind.wrap_i64]; omega
              have HW := Lib.hid hw
              clear hw
              gi_wp2_with fail
              repeat (rw [Oper.semAt_eq _ _ _ (fun c h => by cases h)]; go_simp; gi_wp2_with fail)
              rw [HW.out]
              have hq : Chg [L + 1] W (w5.setCell ⟨L + 1, 0, none⟩ (.int .i64 ((m : Int) + 1))) := (Chg.of_below hR).setCell _ _ (.inl (by simp))
              refine ⟨hq, HC.out.trans hq, ?_, ?_⟩
              all_goals (push_cast; go_simp)
          case hdone =>
            intro m W hk hI hK
            obtain ⟨hc, cK, fK⟩ := hI
            have hz := HCELLS.out.2.2.2.2.2.2.2.2
            have za := ZA.out
            have zl := ZL.out
            have c0 : W.cell? ⟨A, 0, none⟩ = some (.slice la xn lc) := (hc.cell _ 0 (by omega) (by simp; omega)).trans HCELLS.out.1
            have c2 : W.cell? ⟨A + 1 + 1, 0, none⟩ = some (.bool false) := (hc.cell _ 0 (by omega) (by simp; omega)).trans HCELLS.out.2.2.1
            have f2 : W.frozen? ⟨A + 1 + 1, 0, none⟩ = false := (hc.frozen _ 0 (by omega) (by simp; omega)).trans HCELLS.out.2.2.2.1
            have hkw : ((m : Int) == (xn : Int)) = true := by rw [hk, HLEN.out]; simp
            clear hk
            gi_wp2_with fail
            have hd : W6.heap.size < W.heap.size := (Array.getElem?_eq_some_iff.1 hK).1
            have hc' : Chg [A + 1 + 1, L + 1, W6.heap.size] W6 ((W.setCell ⟨A + 1 + 1, 0, none⟩ (.bool true)).putObj W6.heap.size (.deferred none)) := ((hc.mono (by simp +contextual)).setCell _ _ (.inl (by simp))).trans (chg_putObj _ _ _ _ (by simp))
            have hK' : (W.setCell ⟨A + 1 + 1, 0, none⟩ (.bool true)).heap[W6.heap.size]? = some (.deferred (some [])) := (((Chg.refl [A + 1 + 1] W).setCell _ _ (.inl (by simp))).block _ hd (by simp; omega)).trans hK
            have hb : (W.setCell ⟨A + 1 + 1, 0, none⟩ (.bool true)).cell? ⟨A + 1 + 1, 0, none⟩ = some (.bool true) := by go_simp
            have hb' : ((W.setCell ⟨A + 1 + 1, 0, none⟩ (.bool true)).putObj W6.heap.size (.deferred none)).cell? ⟨A + 1 + 1, 0, none⟩ = some (.bool true) := (World.cell?_of_block (World.putObj_heap_other (by simp only []; omega))).trans hb
            refine ⟨by simp, .inl ⟨_, _, rfl, run_takeDeferred hK', ?_⟩⟩
            have hfin : Below w.heap.size w ((W.setCell ⟨A + 1 + 1, 0, none⟩ (.bool true)).putObj W6.heap.size (.deferred none)) :=
              ((CF6.out.mono (T := [A + 1 + 1, L + 1, W6.heap.size]) (by simp)).trans hc').below (Nat.le_refl _) (by have := HA.out; intro x hx; simp at hx; omega)
            clear hc' hK hK' hb hd
            refine ⟨.bool true, ?_, rfl, hfin⟩
            simp [results, go_sem, hb']
          case hstop =>
            intro c m W hk hI hK
            exact hI.elim
set_option maxRecDepth 100000 in
set_option maxHeartbeats 1000000 in
theorem frameRows_law (u v : Value) (fs : List (Int × List (BitVec 8))) (bs : List (BitVec 8)) (w : World) (hu : FrArg w u fs) (hv : IsBytes w v bs) (ht : Tab w) :
    Calls Tryd.prog 16 #[u, v] w fun e w' => e = .returned (.bool true) ∧ Below w.heap.size w w' := by
  obtain ⟨la, ln, lc, rfl⟩ : ∃ a n c, u = .slice a n c := by obtain ⟨a, c, h, _⟩ := hu; exact ⟨_, _, _, h⟩
  obtain ⟨va, vn, vc, rfl⟩ : ∃ a n c, v = .slice a n c := by obtain ⟨a, n, c, h, _⟩ := hv; exact ⟨_, _, _, h⟩
  have HT := Lib.hid ht
  by_cases h1 : 10 < ln
  · have g1 : (10 : Int) < (ln : Int) := by omega
    clear hu hv ht h1
    go_enter Tryd.func16, Tryd.ntmps16
    go_wp2_with fail
    refine (awake13_any _ (((HT.out.alloc _).alloc _).alloc _)).mono ?_
    rintro e w1 ⟨rfl, hb1⟩
    have cc : ∀ b o, b < w.heap.size + 3 → w1.cell? ⟨b, o, none⟩ = (((w.alloc (.cells #[.slice la ln lc] 67)).alloc (.cells #[.slice va vn vc] 24)).alloc (.cells #[.bool false] 4)).cell? ⟨b, o, none⟩ := fun b o h => hb1.cell (p := ⟨b, o, none⟩) (by simp; omega)
    have ff : ∀ b o, b < w.heap.size + 3 → w1.frozen? ⟨b, o, none⟩ = (((w.alloc (.cells #[.slice la ln lc] 67)).alloc (.cells #[.slice va vn vc] 24)).alloc (.cells #[.bool false] 4)).frozen? ⟨b, o, none⟩ := fun b o h => hb1.frozen (p := ⟨b, o, none⟩) (by simp; omega)
    have q3 : w1.cell? ⟨w.heap.size, 0, none⟩ = some (.slice la ln lc) := (cc w.heap.size 0 (by omega)).trans (new_cell rfl (((Chg.refl _ _).alloc _).alloc _)).1
    have q4 : w1.cell? ⟨w.heap.size + 1 + 1, 0, none⟩ = some (.bool false) := (cc (w.heap.size + 1 + 1) 0 (by omega)).trans (new_cell (by simp) (Chg.refl _ _)).1
    have p4 : w1.frozen? ⟨w.heap.size + 1 + 1, 0, none⟩ = false := (ff (w.heap.size + 1 + 1) 0 (by omega)).trans (new_cell (by simp) (Chg.refl _ _)).2
    have HB1 := Lib.hid hb1
    clear hb1 cc ff
    go_wp2_with fail
    refine bodyPost_ret (v := .bool true) (by simp [results, Tryd.results16, q4, go_sem]) rfl ?_
    exact ⟨rfl, (((((Below.refl _ _).alloc (Nat.le_refl _) _).alloc (by simp) _).alloc (by simp; omega) _).trans (HB1.out.mono (by simp; omega))).setCell (by simp; omega) _⟩
  · by_cases h2 : 100 < vn
    · have g1 : ¬ (10 : Int) < (ln : Int) := by omega
      have g2 : (100 : Int) < (vn : Int) := by omega
      clear hu hv ht h1 h2
      go_enter Tryd.func16, Tryd.ntmps16
      go_wp2_with fail
      refine (awake13_any _ (((HT.out.alloc _).alloc _).alloc _)).mono ?_
      rintro e w1 ⟨rfl, hb1⟩
      have cc : ∀ b o, b < w.heap.size + 3 → w1.cell? ⟨b, o, none⟩ = (((w.alloc (.cells #[.slice la ln lc] 67)).alloc (.cells #[.slice va vn vc] 24)).alloc (.cells #[.bool false] 4)).cell? ⟨b, o, none⟩ := fun b o h => hb1.cell (p := ⟨b, o, none⟩) (by simp; omega)
      have ff : ∀ b o, b < w.heap.size + 3 → w1.frozen? ⟨b, o, none⟩ = (((w.alloc (.cells #[.slice la ln lc] 67)).alloc (.cells #[.slice va vn vc] 24)).alloc (.cells #[.bool false] 4)).frozen? ⟨b, o, none⟩ := fun b o h => hb1.frozen (p := ⟨b, o, none⟩) (by simp; omega)
      have q3 : w1.cell? ⟨w.heap.size, 0, none⟩ = some (.slice la ln lc) := (cc w.heap.size 0 (by omega)).trans (new_cell rfl (((Chg.refl _ _).alloc _).alloc _)).1
      have q5 : w1.cell? ⟨w.heap.size + 1, 0, none⟩ = some (.slice va vn vc) := (cc (w.heap.size + 1) 0 (by omega)).trans (new_cell (by simp) ((Chg.refl _ _).alloc _)).1
      have q4 : w1.cell? ⟨w.heap.size + 1 + 1, 0, none⟩ = some (.bool false) := (cc (w.heap.size + 1 + 1) 0 (by omega)).trans (new_cell (by simp) (Chg.refl _ _)).1
      have p4 : w1.frozen? ⟨w.heap.size + 1 + 1, 0, none⟩ = false := (ff (w.heap.size + 1 + 1) 0 (by omega)).trans (new_cell (by simp) (Chg.refl _ _)).2
      have HB1 := Lib.hid hb1
      clear hb1 cc ff
      go_wp2_with fail
      refine bodyPost_ret (v := .bool true) (by simp [results, Tryd.results16, q4, go_sem]) rfl ?_
      exact ⟨rfl, (((((Below.refl _ _).alloc (Nat.le_refl _) _).alloc (by simp) _).alloc (by simp; omega) _).trans (HB1.out.mono (by simp; omega))).setCell (by simp; omega) _⟩
    · exact callsIn_wide.1 (frameRows_in la ln lc va vn vc fs bs w hu hv (by omega) (by omega) ht)
end Go.Proofs.YtfbepdlahaefgaaDoor
