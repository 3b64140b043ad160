/- The law FrameHunts, walked: the caller of the iterator. (Under way.) -/
import Derived.Test.YtfbepdlahaefgaaDoorRefHunt
import Derived.Test.YtfbepdlahaefgaaDoorLaw13B
import Derived.Test.YtfbepdlahaefgaaDoorRegV
namespace Go.Proofs.YtfbepdlahaefgaaDoor
open Go.RowKit Go.Shelf
open Frm (opened hunt)
attribute [local go_sem] Oper.semAt_some
theorem huntTo_le : ∀ (f at_ : Nat) (b : List (BitVec 8)), (Frm.huntTo f at_ b).length ≤ f := by
  intro f
  induction f with
  | zero => intro at_ b; simp [Frm.huntTo]
  | succ f ih =>
    intro at_ b
    unfold Frm.huntTo
    split
    · simp
    · split
      · exact Nat.le_succ_of_le (ih _ _)
      · simp only [List.length_cons]; exact Nat.succ_le_succ (ih _ _)
theorem hunt_le (at_ : Nat) (b : List (BitVec 8)) : (hunt at_ b).length ≤ b.length + 1 := huntTo_le _ _ _
theorem lt_cell {W : World} {p : Addr} {v : Value} (h : W.cell? p = some v) : p.block < W.heap.size := by
  obtain ⟨o, ho, _⟩ := cells_of_cell h
  exact (Array.getElem?_eq_some_iff.1 ho).1
theorem new_cell {w W : World} {x : Value} {t : TypeId} {k : Nat} (hk : w.heap.size = k) (hc : Chg [] (w.alloc (.cells #[x] t)) W) : W.cell? ⟨k, 0, none⟩ = some x ∧ W.frozen? ⟨k, 0, none⟩ = false := by
  subst hk
  exact ⟨(hc.cell _ 0 (by simp) (by simp)).trans (by simp), (hc.frozen _ 0 (by simp) (by simp)).trans (by simp)⟩
theorem hunt_maker (v : Value) (w : World) (hv : ∃ a n c, v = .slice a n c) :
    Calls Tryd.prog 33 #[v] w fun e w' => e = .returned (.func (.func 45) #[] #[.pointer (some ⟨w.heap.size, 0, none⟩)]) ∧ w' = w.alloc (.cells #[v] 24) := by
  obtain ⟨a, n, c, rfl⟩ := hv
  have hmf : ∀ (fn : Fn) (first cap : Array Value) (w : World), (Instr.makeFunc fn first cap).run Tryd.prog w = .ok (.func fn first cap) w := fun _ _ _ _ => rfl
  go_enter Tryd.func33, Tryd.ntmps33
  go_wp2
  go_ret
  exact ⟨rfl, rfl⟩
set_option maxHeartbeats 4000000 in
theorem frameHunts_in (va : Option Addr) (vn vc : Nat) (most : Int) (bs : List (BitVec 8)) (w : World) (hv : IsBytes w (.slice va vn vc) bs) (hl : vn ≤ 1000) (ht : Tab w) :
    CallsIn Fence.wide 3 Tryd.prog 14 #[.slice va vn vc, .int .i64 most] w fun e w' => e = .returned (.bool true) ∧ Below w.heap.size w w' := by
  have HV := Lib.hid hv
  have HT := Lib.hid ht
  have h1000 : ¬ (1000 : Int) < (vn : Int) := by omega
  clear hv ht
  refine callsIn_of_wp_marks Tryd.func14 rfl trivial ?_ rfl
  simp only [Tryd.ntmps14, List.size_toArray, List.length_cons, List.length_nil, Nat.reduceAdd, Nat.reduceSub, Array.replicate_succ, Array.replicate_zero, List.push_toArray, List.append_toArray, List.nil_append, List.cons_append]
  gi_wp2_with fail
  refine ⟨trivial, callsIn_wide.2 ((awake13_any _ ((HT.out.alloc _).alloc _)).mono ?_)⟩
  rintro e w1 ⟨rfl, hb1⟩
  have HB1 := Lib.hid hb1
  clear hb1
  obtain ⟨W0, hW0⟩ : ∃ W0, W0 = (w.alloc (.cells #[.int .i64 most] 3)).alloc (.cells #[.bool false] 4) := ⟨_, rfl⟩
  have HW0 : Hid (Below w.heap.size w W0) := by unfold Hid; rw [hW0]; exact ((Below.refl _ _).alloc (Nat.le_refl _) _).alloc (by simp) _
  have HV1 : Hid (IsBytes w1 (.slice va vn vc) bs) := (((HV.out.alloc _).alloc _)).below HB1.out
  have HVN : Hid (bs.length ≤ 2000000) := by
    obtain ⟨_, _, _, he, h, _⟩ := HV.out
    injection he with _ e2 _
    unfold Hid; omega
  gi_wp2_with fail
  refine ⟨trivial, callsIn_wide.2 ((refHunt_any _ bs w1 HV1.out HVN.out).mono ?_)⟩
  rintro e w2 ⟨pa, pn, pc, wa, wn, wc, rfl, hop, ⟨X, how⟩, hb2⟩
  have HOP := Lib.hid hop
  have HOW := Lib.hid how
  have HB2 := Lib.hid hb2
  clear hop how hb2
  gi_wp2_with fail
  refine ⟨trivial, callsIn_wide.2 ((hunt_maker _ _ ⟨_, _, _, rfl⟩).mono ?_)⟩
  rintro e w3 ⟨rfl, rfl⟩
  gi_wp2_with fail
  obtain ⟨Z, hZ⟩ : ∃ Z, Z = w2.heap.size := ⟨_, rfl⟩
  obtain ⟨A, hA⟩ : ∃ A, A = w.heap.size := ⟨_, rfl⟩
  obtain ⟨W3, hW3⟩ : ∃ W3, W3 = (((w2.alloc (.cells #[.slice pa pn pc] 59)).alloc (.cells #[.slice wa wn wc] 60)).alloc (.cells #[.int .i64 0] 3)).alloc (.cells #[.slice va vn vc] 24) := ⟨_, rfl⟩
  have HC03 : Hid (Chg [] W0 W3) := by
    unfold Hid
    rw [hW3, hW0]
    exact ((((((Chg.of_below HB1.out).trans (Chg.of_below HB2.out)).alloc _).alloc _).alloc _).alloc _)
  have HC2 : Hid (Chg [] w2 W3) := by unfold Hid; rw [hW3]; exact (((((Chg.refl [] w2).alloc _).alloc _).alloc _).alloc _)
  have HCELLS : Hid (W3.cell? ⟨Z, 0, none⟩ = some (.slice pa pn pc) ∧ W3.cell? ⟨Z + 1, 0, none⟩ = some (.slice wa wn wc) ∧ W3.cell? ⟨Z + 1 + 1, 0, none⟩ = some (.int .i64 0) ∧ W3.cell? ⟨Z + 1 + 1 + 1, 0, none⟩ = some (.slice va vn vc) ∧ W3.frozen? ⟨Z + 1 + 1, 0, none⟩ = false ∧ W3.heap.size = Z + 4) := by
    unfold Hid
    rw [hW3, hZ]
    have h7 := new_cell (w := (w2.alloc (.cells #[.slice pa pn pc] 59)).alloc (.cells #[.slice wa wn wc] 60)) (x := .int .i64 0) (t := 3) (k := w2.heap.size + 1 + 1) (by simp) ((Chg.refl _ _).alloc (.cells #[.slice va vn vc] 24))
    exact ⟨(new_cell rfl ((((Chg.refl _ _).alloc _).alloc _).alloc _)).1, (new_cell (by simp) (((Chg.refl _ _).alloc _).alloc _)).1, h7.1, (new_cell (by simp) (Chg.refl _ _)).1, h7.2, by simp⟩
  have HA0 : Hid (W0.cell? ⟨A, 0, none⟩ = some (.int .i64 most) ∧ W0.cell? ⟨A + 1, 0, none⟩ = some (.bool false) ∧ W0.frozen? ⟨A + 1, 0, none⟩ = false ∧ W0.heap.size = A + 2) := by
    unfold Hid
    rw [hW0, hA]
    simp
  have HZA : Hid (A + 2 ≤ w1.heap.size ∧ w1.heap.size ≤ Z) := by
    unfold Hid
    rw [hA, hZ]
    have := HB1.out.size
    have := HB2.out.size
    simp at *
    omega
  rw [← hW3, ← hZ, ← hA]
  have HAW : Hid (A = w.heap.size) := hA
  have HZW : Hid (Z = w2.heap.size) := hZ
  have HPN : Hid (pn = (hunt 0 bs).length) := by
    obtain ⟨_, _, he, _⟩ := HOP.out.len
    injection he with _ he
    unfold Hid; rw [he, List.length_map]
  have HWN : Hid (wn = (hunt 0 bs).length ∧ wn ≤ wc) := by
    obtain ⟨_, _, he, h, _⟩ := HOW.out.form_
    injection he with _ e2 e3
    rw [List.length_map] at e2 h
    exact ⟨e2, by omega⟩
  clear hW3 hZ hA hW0
  refine wpIn_rangeX (Bs := []) (Cs := [A + 1, Z + 1 + 1]) rfl (by decide) (gf := 45) (lb := #[.pointer (some ⟨Z + 1 + 1 + 1, 0, none⟩)]) rfl trivial (enters_of Tryd.func45 (by kernel_rfl) rfl)
    (hunt1_stops 2 (Z + 1 + 1 + 1) [A + 1, Z + 1 + 1] va vn vc bs W3 HCELLS.out.2.2.2.1 ?hby HVN.out ?hcs ?htab) (by simp) ?hcs2 (fun _ => rfl)
    (fun k W => Chg [A + 1, Z + 1 + 1] W3 W ∧ W.cell? ⟨Z + 1 + 1, 0, none⟩ = some (.int .i64 k) ∧ W.frozen? ⟨Z + 1 + 1, 0, none⟩ = false ∧ W.cell? ⟨A + 1, 0, none⟩ = some (.bool false) ∧ W.frozen? ⟨A + 1, 0, none⟩ = false)
    (fun c k W => c = .ret ∧ Chg [A + 1, Z + 1 + 1] W3 W ∧ W.cell? ⟨A + 1, 0, none⟩ = some (.bool true))
    ?hI ?hIx ?h0 (fun _ x a' W => ∃ Bx, W3.heap.size ≤ Bx ∧ Bx < W.heap.size ∧ W.cell? ⟨Bx, 0, none⟩ = some (.int .i64 x.kind) ∧ W.cell? ⟨Bx, 1, none⟩ = some (.slice x.a x.m x.c) ∧ a' = { tmps := #[.slice va vn vc, .int .i64 most, undef, .pointer (some ⟨A, 0, none⟩), .pointer (some ⟨A + 1, 0, none⟩), .pointer (some ⟨Z, 0, none⟩), .pointer (some ⟨Z + 1, 0, none⟩), .pointer (some ⟨Z + 1 + 1, 0, none⟩), .int .i64 x.at_, .pointer (some ⟨Bx, 0, none⟩), .bool true, .bool false, .slice va vn vc, .int .i64 vn, .bool (decide ((1000 : Int) < (vn : Int))), .tuple #[.slice pa pn pc, .slice wa wn wc], .slice va vn vc, .tuple #[.slice pa pn pc, .slice wa wn wc], .slice pa pn pc, .slice wa wn wc, .slice va vn vc, .func (.func 45) #[] #[.pointer (some ⟨Z + 1 + 1 + 1, 0, none⟩)], .int .i64 x.at_, .agg #[.int .i64 x.kind, .slice x.a x.m x.c], undef, undef, undef, undef, undef, undef, undef, undef, undef, undef, undef, undef, undef, undef, undef, undef, undef, undef, undef, undef, undef, undef, undef, undef, undef, undef, undef, undef, undef, undef, undef, undef, undef, undef], defers := [] }) ?hassign ?hbody ?hdone ?hstop
  case hI =>
    rintro k W W' E ⟨h1, h2, h3, h4, h5⟩ hs hc hE
    have hn : ∀ x, x < W3.heap.size → x ∉ E := fun x hx he => by rcases hE x he with h | h; omega; cases h
    have hz := HCELLS.out.2.2.2.2.2
    have hA3 : A + 1 < W3.heap.size := by have := HC03.out.size; have := HA0.out.2.2.2; omega
    exact ⟨h1.more hc (fun x hx => by rcases hE x hx with h | h; exact .inr h; cases h), (hc.cell _ 0 (by omega) (hn _ (by omega))).trans h2, (hc.frozen _ 0 (by omega) (hn _ (by omega))).trans h3, (hc.cell _ 0 (by omega) (hn _ hA3)).trans h4, (hc.frozen _ 0 (by omega) (hn _ hA3)).trans h5⟩
  case hIx =>
    rintro c k W W' E ⟨h0, h1, h4⟩ hs hc hE
    have hn : ∀ x, x < W3.heap.size → x ∉ E := fun x hx he => by rcases hE x he with h | h; omega; cases h
    have hA3 : A + 1 < W3.heap.size := by have := HC03.out.size; have := HA0.out.2.2.2; omega
    exact ⟨h0, h1.more hc (fun x hx => by rcases hE x hx with h | h; exact .inr h; cases h), (hc.cell _ 0 (by omega) (hn _ hA3)).trans h4⟩
  case h0 =>
    have hA3 := HA0.out.2.2.2
    exact ⟨Chg.refl _ _, HCELLS.out.2.2.1, HCELLS.out.2.2.2.2.1, (HC03.out.cell _ 0 (by omega) (by simp)).trans HA0.out.2.1, (HC03.out.frozen _ 0 (by omega) (by simp)).trans HA0.out.2.2.1⟩
  case hcs => intro c hc; simp at hc; have := HC03.out.size; have := HA0.out.2.2.2; have := HCELLS.out.2.2.2.2.2; omega
  case hcs2 => intro c hc; simp at hc; have := HC03.out.size; have := HA0.out.2.2.2; have := HCELLS.out.2.2.2.2.2; omega
  case hby => exact ((HV1.out.below HB2.out).chg HC2.out (by simp))
  case htab =>
    intro W' E hc hE
    have h3 : Tab W3 := HT.out.below (HW0.out.trans ((HC03.out.below (B := W0.heap.size) (Nat.le_refl _) (by simp)).mono HW0.out.size))
    have hg := HT.out.1
    have haw := HAW.out
    have hlt := h3.1
    have hz := HCELLS.out.2.2.2.2.2
    have hs := HC03.out.size
    have ha := HA0.out.2.2.2
    have hn : 0 ∉ E := fun he => by
      rcases hE _ he with h | h
      · omega
      · first | (simp at h; omega) | (simp at h)
    exact ⟨Nat.lt_of_lt_of_le hlt hc.size, fun k hk => (hc.cell _ k hlt hn).trans (h3.2 k hk)⟩
  case hassign =>
    intro l k x W K hl1 hl2 hi hok hK
    dsimp only [metEnc]
    gi_wp2
    refine hK _ _ ((Chg.refl _ _).alloc _) ?_
    intro W'' hc
    have hne : W.heap.size ∉ [l] := by simp; omega
    exact ⟨W.heap.size, hi.1.size, Nat.lt_of_lt_of_le (by simp) hc.size, (hc.cell _ 0 (by simp) hne).trans (by simp), (hc.cell _ 1 (by simp) hne).trans (by simp), rfl⟩
  case hbody =>
    rintro l k x a' W hl1 hl2 ⟨hc, c7, f7, c4, f4⟩ ⟨p, hget, hby⟩ ⟨Bx, hB1, hB2, b0, b1, rfl⟩
    have hz := HCELLS.out.2.2.2.2.2
    have hA0 := HA0.out.2.2.2
    have hs03 := HC03.out.size
    have hkl := (List.getElem?_eq_some_iff.1 hget).1
    have hza := HZA.out
    have c3 : W.cell? ⟨A, 0, none⟩ = some (.int .i64 most) := (hc.cell _ 0 (by omega) (by simp; omega)).trans ((HC03.out.cell _ 0 (by omega) (by simp)).trans HA0.out.1)
    have c5 : W.cell? ⟨Z, 0, none⟩ = some (.slice pa pn pc) := (hc.cell _ 0 (by omega) (by simp; omega)).trans HCELLS.out.1
    have c6 : W.cell? ⟨Z + 1, 0, none⟩ = some (.slice wa wn wc) := (hc.cell _ 0 (by omega) (by simp; omega)).trans HCELLS.out.2.1
    have hold : ∀ j, w1.heap.size ≤ j → j < w2.heap.size → W.heap[j]? = w2.heap[j]? := fun j hj1 hj2 => by
      have h1 := HZW.out
      exact (hc.block j (by omega) (by simp; omega)).trans (HC2.out.block j hj2 (by simp))
    have hsz : w2.heap.size ≤ W.heap.size := Nat.le_trans HC2.out.size hc.size
    obtain ⟨g, cap, hpe, hat⟩ := HOP.out.at_ (by rw [List.length_map]; omega)
    injection hpe with e1 e2 e3
    subst e1
    have hpl := HOP.out.block_ge g rfl
    have hpc : W.cell? ⟨g, k, none⟩ = some (.int .i64 x.at_) := by
      rw [World.cell?_of_block (a := ⟨g, k, none⟩) (hold g hpl.1 hpl.2), hat.cell k (by rw [List.length_map]; exact hkl), List.getElem_map]
      have := (List.getElem?_eq_some_iff.1 hget).2
      rw [this]; rfl
    have HFW : Hid (Frs W w1.heap.size 50 (.slice wa wn wc) ((hunt 0 bs).map (·.2)) X) := HOW.out.keep hsz (fun j h1 h2 _ => hold j h1 h2) (fun _ hy => .inl hy)
    obtain ⟨g2, cap2, fa, fm, fc, hwe, d0, d1, hfb⟩ := HFW.out.at_ k x.kind p (by rw [List.getElem?_map, hget]; rfl)
    injection hwe with e4 e5 e6
    subst e4
    have HFB := Lib.hid hfb
    have HBY := Lib.hid hby
    have HCW := Lib.hid hc
    have hkp : k < pn := by have := HPN.out; omega
    have hkw : k < wn := by have := HWN.out; omega
    clear hat hold hfb hby hpl hget hkl e2 e3 e5 e6 hc
    by_cases hm : (k : Int) = most
    · subst hm
      have hle : (k : Int) ≤ (wn : Int) := by omega
      gi_wp2_with fail
      have hq : Chg [A + 1, Z + 1 + 1] W (W.setCell ⟨A + 1, 0, none⟩ (.bool true)) := (Chg.refl _ _).setCell _ _ (.inl (by simp))
      exact ⟨hq, rfl, HCW.out.trans hq, by go_simp⟩
    · have hne : ((k : Int) == most) = false := by rw [beq_eq_false_iff_ne]; exact hm
      have hlt : ¬ (wn : Int) ≤ (k : Int) := by omega
      have hxx : ((x.at_ : Int) == x.at_) = true := by simp
      clear hm
      gi_wp2_with fail
      refine wpIn_region_vals (r := some l) (A := { tmps := #[Value.slice va vn vc, .int .i64 most, undef, .pointer (some ⟨A, 0, none⟩), .pointer (some ⟨A + 1, 0, none⟩), .pointer (some ⟨Z, 0, none⟩), .pointer (some ⟨Z + 1, 0, none⟩), .pointer (some ⟨Z + 1 + 1, 0, none⟩), .int .i64 x.at_, .pointer (some ⟨Bx, 0, none⟩), .bool true, .bool false, .slice va vn vc, .int .i64 vn, .bool (decide ((1000 : Int) < (vn : Int))), .tuple #[.slice (some ⟨g, 0, none⟩) pn pc, .slice (some ⟨g2, 0, none⟩) wn wc], .slice va vn vc, .tuple #[.slice (some ⟨g, 0, none⟩) pn pc, .slice (some ⟨g2, 0, none⟩) wn wc], .slice (some ⟨g, 0, none⟩) pn pc, .slice (some ⟨g2, 0, none⟩) wn wc, .slice va vn vc, .func (.func 45) #[] #[.pointer (some ⟨Z + 1 + 1 + 1, 0, none⟩)], .int .i64 x.at_, .agg #[.int .i64 x.kind, .slice x.a x.m x.c], .int .i64 k, .int .i64 most, .bool false, undef, undef, undef, undef, .int .i64 k, .slice (some ⟨g2, 0, none⟩) wn wc, .int .i64 wn, .bool false, .bool false, .int .i64 x.at_, .slice (some ⟨g, 0, none⟩) pn pc, .int .i64 k, .pointer (some ⟨g, k, none⟩), .int .i64 x.at_, .bool false, .bool false, .bool false, .agg #[.int .i64 x.kind, .slice x.a x.m x.c], .slice (some ⟨g2, 0, none⟩) wn wc, .int .i64 k, .pointer (some ⟨g2, k * 2, none⟩), .agg #[.int .i64 x.kind, .slice fa fm fc], .bool true, .bool false, .bool false, undef, undef, undef, undef, undef, undef], defers := [] }) (by kernel_rfl) (by kernel_rfl) (fun a b => Below a.heap.size a b) rfl rfl [0, 1, 2, 3, 4, 5, 6, 7, 8, 9, 10, 11, 12, 13, 14, 15, 16, 17, 18, 19, 20, 21, 22, 23, 24, 25, 26, 27, 28, 29, 30, 52, 53, 54, 55, 56, 57] (by kernel_rfl) ⟨rfl, rfl, rfl, rfl, rfl, rfl, rfl, rfl, rfl, rfl, rfl, rfl, rfl, rfl, rfl, rfl, rfl, rfl, rfl, rfl, rfl, rfl, rfl, rfl, rfl, rfl, rfl, rfl, rfl, rfl, rfl, rfl, rfl, rfl, rfl, rfl, rfl, trivial⟩ (fun h h' => h.trans (h'.mono h.size)) ((Below.refl _ _).drew) ?vops ?vrest
      case vops =>
        intro w5 hR
        have q3 : w5.cell? ⟨A, 0, none⟩ = some (.int .i64 most) := (hR.cell (by simp only []; omega)).trans c3
        have q5 : w5.cell? ⟨Z, 0, none⟩ = some (.slice (some ⟨g, 0, none⟩) pn pc) := (hR.cell (by simp only []; omega)).trans c5
        have q6 : w5.cell? ⟨Z + 1, 0, none⟩ = some (.slice (some ⟨g2, 0, none⟩) wn wc) := (hR.cell (by simp only []; omega)).trans c6
        have q7 : w5.cell? ⟨Z + 1 + 1, 0, none⟩ = some (.int .i64 k) := (hR.cell (by simp only []; omega)).trans c7
        have q8 : w5.cell? ⟨Bx, 0, none⟩ = some (.int .i64 x.kind) := (hR.cell (by simp only []; omega)).trans b0
        have q9 : w5.cell? ⟨Bx, 1, none⟩ = some (.slice x.a x.m x.c) := (hR.cell (by simp only []; omega)).trans b1
        have q10 : w5.cell? ⟨g, k, none⟩ = some (.int .i64 x.at_) := (hR.cell (lt_cell hpc)).trans hpc
        have q11 : w5.cell? ⟨g2, k * 2, none⟩ = some (.int .i64 x.kind) := (hR.cell (lt_cell d0)).trans d0
        have q12 : w5.cell? ⟨g2, k * 2 + 1, none⟩ = some (.slice fa fm fc) := (hR.cell (lt_cell d1)).trans d1
        refine ⟨?_, ?_, ?_, ?_, ?_, ?_, ?_, ?_, ?_, ?_, ?_, ?_, ?_, ?_, ?_, ?_, ?_, ?_, ?_, ?_, ?_, trivial⟩
        all_goals (try (refine opDo_value rfl rfl ?_ (Below.refl _ _); go_simp; done))
        have HX : Hid (IsBytes w5 (.slice x.a x.m x.c) p) := HBY.out.below hR
        have HY : Hid (IsBytes w5 (.slice fa fm fc) p) := HFB.out.below hR
        refine opDo_call (f := 31) (args := #[.agg #[.int .i64 x.kind, .slice x.a x.m x.c], .agg #[.int .i64 x.kind, .slice fa fm fc]]) rfl rfl (w' := w5) ?_ ?_
        · go_simp
        · refine (like_any x.kind x.a fa x.m fm x.c fc p _ HX.out HY.out).mono ?_
          rintro e w6 ⟨rfl, hb6⟩
          exact ⟨rfl, hb6.out⟩
      case vrest =>
        intro w5 hR
        have q7 : w5.cell? ⟨Z + 1 + 1, 0, none⟩ = some (.int .i64 k) := (hR.cell (by simp only []; omega)).trans c7
        have p7 : w5.frozen? ⟨Z + 1 + 1, 0, none⟩ = false := (hR.frozen (by simp only []; omega)).trans f7
        have q4 : w5.cell? ⟨A + 1, 0, none⟩ = some (.bool false) := (hR.cell (by simp only []; omega)).trans c4
        have p4 : w5.frozen? ⟨A + 1, 0, none⟩ = false := (hR.frozen (by simp only []; omega)).trans f4
        gi_wp2_with fail
        have hw64 : wrap64 ((k : Int) + 1) = (k : Int) + 1 := by
          have h1 := hunt_le 0 bs
          have h2 := HVN.out
          have h3 := HWN.out.1
          unfold wrap64
          omega
        rw [hw64]
        have hq : Chg [A + 1, Z + 1 + 1] W (w5.setCell ⟨Z + 1 + 1, 0, none⟩ (.int .i64 ((k : Int) + 1))) := (Chg.of_below hR).setCell _ _ (.inl (by simp))
        have hAZ : ¬ (Z + 1 + 1 = A + 1) := by omega
        have hZA' : ¬ (A + 1 = Z + 1 + 1) := by omega
        refine ⟨hq, HCW.out.trans hq, ?_, ?_, ?_, ?_⟩
        all_goals (push_cast; go_simp)
  case hdone =>
    intro k W hk hI hK
    obtain ⟨hc, c7, f7, c4, f4⟩ := hI
    have hz := HCELLS.out.2.2.2.2.2
    have hA0 := HA0.out.2.2.2
    have hza := HZA.out
    have c6 : W.cell? ⟨Z + 1, 0, none⟩ = some (.slice wa wn wc) := (hc.cell _ 0 (by omega) (by simp; omega)).trans HCELLS.out.2.1
    have hkw : ((k : Int) == (wn : Int)) = true := by rw [hk, HWN.out.1]; simp
    clear hk
    gi_wp2_with fail
    have hd : W3.heap.size < W.heap.size := (Array.getElem?_eq_some_iff.1 hK).1
    have hc' : Chg [A + 1, Z + 1 + 1, W3.heap.size] W3 ((W.setCell ⟨A + 1, 0, none⟩ (.bool true)).putObj W3.heap.size (.deferred none)) := ((hc.mono (by simp +contextual)).setCell _ _ (.inl (by simp))).trans (chg_putObj _ _ _ _ (by simp))
    have hK' : (W.setCell ⟨A + 1, 0, none⟩ (.bool true)).heap[W3.heap.size]? = some (.deferred (some [])) := (((Chg.refl [A + 1] W).setCell _ _ (.inl (by simp))).block _ hd (by simp; omega)).trans hK
    have hb : (W.setCell ⟨A + 1, 0, none⟩ (.bool true)).cell? ⟨A + 1, 0, none⟩ = some (.bool true) := by go_simp
    have hb' : ((W.setCell ⟨A + 1, 0, none⟩ (.bool true)).putObj W3.heap.size (.deferred none)).cell? ⟨A + 1, 0, none⟩ = some (.bool true) := (World.cell?_of_block (World.putObj_heap_other (by simp only []; omega))).trans hb
    refine ⟨by simp, .inl ⟨_, _, rfl, run_takeDeferred hK', ?_⟩⟩
    have hfin : Below w.heap.size w ((W.setCell ⟨A + 1, 0, none⟩ (.bool true)).putObj W3.heap.size (.deferred none)) := by
      have h0 : Chg [A + 1, Z + 1 + 1, W3.heap.size] W0 ((W.setCell ⟨A + 1, 0, none⟩ (.bool true)).putObj W3.heap.size (.deferred none)) := (HC03.out.mono (by simp)).trans hc'
      exact HW0.out.trans (h0.below HW0.out.size (by have := HAW.out; intro x hx; simp at hx; omega))
    clear hc' hK hK' hb hd
    refine ⟨.bool true, ?_, rfl, hfin⟩
    simp [results, go_sem, hb']
  case hstop =>
    intro c k W hk hI hK
    obtain ⟨rfl, hc, c4⟩ := hI
    have hz := HCELLS.out.2.2.2.2.2
    have hA0 := HA0.out.2.2.2
    have hza := HZA.out
    have hd : W3.heap.size < W.heap.size := (Array.getElem?_eq_some_iff.1 hK).1
    have hc' : Chg [A + 1, Z + 1 + 1, W3.heap.size] W3 (W.putObj W3.heap.size (.deferred none)) := (hc.mono (by simp +contextual)).trans (chg_putObj _ _ _ _ (by simp))
    have hb' : (W.putObj W3.heap.size (.deferred none)).cell? ⟨A + 1, 0, none⟩ = some (.bool true) := (World.cell?_of_block (World.putObj_heap_other (by simp only []; omega))).trans c4
    have hfin : Below w.heap.size w (W.putObj W3.heap.size (.deferred none)) := by
      have h0 : Chg [A + 1, Z + 1 + 1, W3.heap.size] W0 (W.putObj W3.heap.size (.deferred none)) := (HC03.out.mono (by simp)).trans hc'
      exact HW0.out.trans (h0.below HW0.out.size (by have := HAW.out; intro x hx; simp at hx; omega))
    gi_wp2_with fail
    refine ⟨by simp, .inl ⟨_, _, rfl, run_takeDeferred hK, ?_⟩⟩
    clear hc' hK hd
    refine ⟨.bool true, ?_, rfl, hfin⟩
    simp [results, go_sem, hb']
theorem frameHunts_law (u : Value) (most : Int) (bs : List (BitVec 8)) (w : World) (hu : IsBytes w u bs) (ht : Tab w) :
    Calls Tryd.prog 14 #[u, .int .i64 most] w fun e w' => e = .returned (.bool true) ∧ Below w.heap.size w w' := by
  have hu' := hu
  obtain ⟨a, n, cp, rfl, hn, _⟩ := hu'
  by_cases h : 1000 < n
  · have g3 : (1000 : Int) < (n : Int) := by omega
    have HT := Lib.hid ht
    clear hu ht hn h
    go_enter Tryd.func14, Tryd.ntmps14
    go_wp2_with (go_at_call 25; refine (awake13_any _ ((HT.out.alloc _).alloc _)).mono ?_; rintro e w1 ⟨rfl, hb1⟩; have q4 : w1.cell? ⟨w.heap.size + 1, 0, none⟩ = some (.bool false) := (hb1.cell (by simp)).trans (by simp); have p4 : w1.frozen? ⟨w.heap.size + 1, 0, none⟩ = false := (hb1.frozen (by simp)).trans (by simp); have HB1 := Lib.hid hb1; clear hb1)
    refine bodyPost_ret (v := .bool true) (by simp [results, Tryd.results14, q4, go_sem]) rfl ?_
    exact ⟨rfl, ((((Below.refl _ _).alloc (Nat.le_refl _) _).alloc (by simp) _).trans (HB1.out.mono (by simp; omega))).setCell (by simp) _⟩
  · exact callsIn_wide.1 (frameHunts_in a n cp most bs w hu (by omega) ht)
end Go.Proofs.YtfbepdlahaefgaaDoor
