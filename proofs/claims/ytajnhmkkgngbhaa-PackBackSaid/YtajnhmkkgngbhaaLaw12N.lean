/- The law PackNone, walked. -/
import Derived.Test.YtajnhmkkgngbhaaLaw12R3
namespace Go.Proofs.Ytajnhmkkgngbhaa
open Go.RowKit

theorem int_cell {w wr : World} {a : Option Addr} {n c : Nat} {ks : List Int} (h : Reads w (.slice a n c) (ks.map intV)) (hb : Below w.heap.size w wr) (j : Nat) (hj : j < n) :
    ∃ b off, a = some ⟨b, off, none⟩ ∧ ∃ x, ks[j]? = some x ∧ wr.cell? ⟨b, off + j, none⟩ = some (.int .i64 x) := by
  obtain ⟨a, n, c, he, hn, _, _, hcells⟩ := h
  injection he with e1 e2 e3
  subst e1 e2 e3
  rw [List.length_map] at hn
  rcases hcells with h | ⟨b, off, rfl, hlt, h⟩
  · have : ks.length = 0 := by simpa using congrArg List.length h
    omega
  · exact ⟨b, off, rfl, ks[j]'(by omega), List.getElem?_eq_getElem (by omega), (hb.cell (p := ⟨b, off + j, none⟩) hlt).trans (by rw [h j (by rw [List.length_map]; omega), List.getElem_map]; rfl)⟩
set_option maxRecDepth 100000 in
set_option maxHeartbeats 2000000 in
theorem packNone_law (v : Value) (ks : List Int) (w : World) (hv : Reads w v (ks.map intV)) :
    Calls Try.prog 6 #[v] w fun e w' => e = .returned (.bool true) ∧ Below w.heap.size w w' := by
  have HV := Lib.hid hv
  obtain ⟨va, vn, vc, rfl, hvl, hvc, hvm, hvb⟩ := hv
  clear hvb hvl
  by_cases h : (60 : Int) < (vn : Int)
  · go_enter Try.func6, Try.ntmps6
    go_wp2_with fail
    refine (awake12_any w).mono ?_
    rintro e w1 ⟨rfl, hb1⟩
    have HB1 := Lib.hid hb1
    clear hb1
    go_wp2_with fail
    go_ret
    exact ⟨rfl, HB1.out⟩
  · have hvn : vn ≤ 60 := by omega
    go_enter Try.func6, Try.ntmps6
    go_wp2_with fail
    refine (awake12_any w).mono ?_
    rintro e w1 ⟨rfl, hb1⟩
    have HB1 := Lib.hid hb1
    clear hb1
    go_wp2_with fail
    obtain ⟨w2, hw2⟩ : ∃ w2, w2 = (w1.alloc (.cells #[.bool false, .slice none 0 0, .int .i64 0] 54)).alloc (.cells #[.pointer none, .pointer (some ⟨w1.heap.size, 0, none⟩)] 44) := ⟨_, rfl⟩
    obtain ⟨U, hU⟩ : ∃ U, U = w1.heap.size := ⟨_, rfl⟩
    have HSZ : Hid (w2.heap.size = U + 2) := by unfold Hid; rw [hw2, hU]; simp
    have HL0 : Hid (w2.cell? ⟨U + 1, 0, none⟩ = some (.pointer none)) := by unfold Hid; rw [hw2, hU]; simp
    have HL1 : Hid (w2.cell? ⟨U + 1, 1, none⟩ = some (.pointer (some ⟨U, 0, none⟩))) := by unfold Hid; rw [hw2, hU]; simp
    have HU0 : Hid (w2.cell? ⟨U, 0, none⟩ = some (.bool false)) := by unfold Hid; rw [hw2, hU]; simp
    have HB2 : Hid (Below w.heap.size w w2) := by unfold Hid; rw [hw2]; exact (HB1.out.alloc HB1.out.size _).alloc (Nat.le_trans HB1.out.size (by simp)) _
    rw [← hw2, ← hU]
    clear hw2 hU
    go_loopw [5, 7, 8, 19, 25] (fun _ _ _ i _ wr => ∃ k : Nat, i = .int .i64 k ∧ k ≤ 2 ∧ Hid (Below w2.heap.size w2 wr)) (fun _ _ _ i _ _ => 2 - (intOf i).toNat)
    case atStart => exact ⟨0, rfl, by omega, Below.refl _ _⟩
    case round =>
      obtain ⟨k, rfl, hk, hb⟩ := hrel
      by_cases hlt : k < 2
      · obtain ⟨p, hp, hsh⟩ : ∃ p, wr.cell? ⟨U + 1, k, none⟩ = some (.pointer p) ∧ Shut wr p 1 := by
          have cc : ∀ b o, b < U + 2 → wr.cell? ⟨b, o, none⟩ = w2.cell? ⟨b, o, none⟩ := fun b o h => hb.out.cell (p := ⟨b, o, none⟩) (by have := HSZ.out; show b < w2.heap.size; omega)
          rcases (by omega : k = 0 ∨ k = 1) with rfl | rfl
          · exact ⟨none, by rw [cc _ _ (by omega)]; exact HL0.out, .absent⟩
          · exact ⟨some ⟨U, 0, none⟩, by rw [cc _ _ (by omega)]; exact HL1.out, .unmade U (by rw [cc _ _ (by omega)]; exact HU0.out)⟩
        have HSH := Lib.hid hsh
        clear hsh
        obtain ⟨wb, hwb⟩ : ∃ wb, wb = wr := ⟨_, rfl⟩
        have HBB : Hid (Below w2.heap.size w2 wb) := by rw [hwb]; exact hb.out
        have HSB : Hid (Shut wb p 1) := by rw [hwb]; exact HSH.out
        go_wp2_with fail
        rw [show decide ((k : Int) < 2) = true from decide_eq_true (by omega)]
        go_loopw [7, 8, 25] (fun _ _ i wr => ∃ j : Nat, i = .int .i64 j ∧ j ≤ vn ∧ Hid (Below wb.heap.size wb wr)) (fun _ _ i _ => vn - (intOf i).toNat)
        case atStart => exact ⟨0, rfl, Nat.zero_le _, by rw [hwb]; exact Below.refl _ _⟩
        case round =>
          obtain ⟨j, rfl, hj, hbj⟩ := hrel
          have HALL : Hid (Below w.heap.size w wr) := HB2.out.trans ((HBB.out.trans (hbj.out.mono HBB.out.size)).mono HB2.out.size)
          have HSJ : Hid (Shut wr p 1) := HSB.out.chg hbj.out
          clear hwb hb hp
          by_cases hlj : j < vn
          · obtain ⟨b, off, rfl, x, hx, hc0⟩ := int_cell HV.out HALL.out j hlj
            clear hx
            go_wp2_with fail
            refine (read_shut x p wr.heap.size 1 1 _ (HSJ.out.chg ((Below.refl _ _).alloc (Nat.le_refl _) _)) ⟨by simp, by decide⟩).mono ?_
            rintro e w5 ⟨rfl, hb5⟩
            have HB5 : Hid (Below wb.heap.size wb w5) := hbj.out.trans (((Below.refl _ _).alloc (Nat.le_refl _) _).trans (hb5.mono (by simp)) |>.mono hbj.out.size)
            clear hb5
            go_wp2_with fail
            exact ⟨⟨j + 1, by go_num, by omega, HB5.out⟩, by simp [intOf]; omega⟩
          · go_wp2_with fail
            refine (error_shut p 1 _ HSJ.out).mono ?_
            rintro e w5 ⟨rfl, rfl⟩
            go_wp2_with fail
            refine (rdone_shut p 1 _ HSJ.out).mono ?_
            rintro e w5 ⟨rfl, rfl⟩
            go_wp2_with fail
            exact ⟨⟨k + 1, by go_num, by omega, HBB.out.trans (hbj.out.mono HBB.out.size)⟩, by simp [intOf]; omega⟩
      · go_wp2_with fail
        go_ret
        exact ⟨rfl, HB2.out.trans (hb.out.mono HB2.out.size)⟩
end Go.Proofs.Ytajnhmkkgngbhaa
