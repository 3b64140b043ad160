/- regattalaw15.step, walked: Safe, Under. -/
import Derived.Test.YtcnhjbipncledaaStep15B
namespace Go.Proofs.Ytcnhjbipncledaa
open Go.RowKit

set_option maxHeartbeats 400000 in
theorem same06_alike (u v : Value) (xs : List Int) (w : World) (hu : Reads w u (xs.map intV)) (hv : Reads w v (xs.map intV)) (hl : xs.length ≤ 1000000) :
    Calls Try.prog 50 #[u, v] w fun e w' => e = .returned (.bool true) ∧ ∃ n, w' = w.drewN n := by
  obtain ⟨a, n, c, rfl, hn, _, _, ha⟩ := hu
  obtain ⟨a2, n2, c2, rfl, hn2, _, _, hb⟩ := hv
  rw [List.length_map] at hn hn2
  subst hn2
  obtain ⟨m, hm⟩ : ∃ m, m = xs.length := ⟨_, rfl⟩
  rw [← hm] at hn ⊢
  subst hn
  have nb : (n : Int) ≤ 1000000 := by omega
  have hne : ((n : Int) != (n : Int)) = false := by simp
  have HA : Hid (∀ k, (h : k < n) → ∃ (b off b2 off2 : Nat) (x : Int), a = some ⟨b, off, none⟩ ∧ a2 = some ⟨b2, off2, none⟩ ∧ w.cell? ⟨b, off + k, none⟩ = some (.int .i64 x) ∧ w.cell? ⟨b2, off2 + k, none⟩ = some (.int .i64 x)) := fun k h => by
    have hk : k < (xs.map intV).length := by rw [List.length_map]; omega
    rcases ha with h0 | ⟨b, off, e1, _, h1⟩
    · rw [h0] at hk; simp at hk
    · rcases hb with h0 | ⟨b2, off2, e2, _, h2⟩
      · rw [h0] at hk; simp at hk
      · have g1 := h1 k hk
        have g2 := h2 k hk
        rw [List.getElem_map] at g1 g2
        exact ⟨b, off, b2, off2, _, e1, e2, g1, g2⟩
  clear ha hb hm hl
  go_enter Try.func50, Try.ntmps50
  go_wp2
  go_loopw [5] (fun i wr => ∃ k : Nat, k ≤ n ∧ i = .int .i64 k ∧ ∃ d, wr = w.drewN d) (fun i _ => n - (intOf i).toNat)
  case atStart => exact ⟨0, by omega, rfl, 0, rfl⟩
  case round =>
    obtain ⟨k, hk, rfl, d, rfl⟩ := hrel
    by_cases hlt : k < n
    · obtain ⟨b, off, b2, off2, x, rfl, rfl, h1, h2⟩ := HA.out k hlt
      have i1 : (0 : Int) ≤ (k : Int) ∧ (k : Int) < (n : Int) := by omega
      have hxx : (x != x) = false := by simp
      go_wp2
      go_quiet (fail)
      go_wp2
      go_roundw
      case rel => exact ⟨k + 1, by omega, by go_num, _, rfl⟩
      case measure => simp [intOf]; omega
    · go_wp2
      go_ret
      exact ⟨rfl, _, rfl⟩
theorem Dk.safe_out {s : Dk} {i : Int} (h : i < 0 ∨ s.blocks ≤ i) : s.safe i = ([], 151) := by unfold Dk.safe; rw [if_pos h]
theorem Dk.safe_in {s : Dk} {i : Int} (h0 : 0 ≤ i) (h1 : i < s.blocks) : s.safe i = (s.blk i, 0) := by unfold Dk.safe; rw [if_neg (by omega)]
set_option maxRecDepth 100000 in
set_option maxHeartbeats 8000000 in
theorem step15_safe (w : World) (B D R : Nat) (s : Dk) (ti : Int) (tb : List B8) (tf : List (Int × Int)) (pb pf : Option Addr) (nb cb nf cf : Nat) (h : Both w B D R s) :
    Calls Try.prog 27 #[.pointer (some ⟨D, 0, none⟩), .pointer (some ⟨R, 0, none⟩), .agg #[.int .i64 6, .int .i64 ti, .slice pb nb cb, .slice pf nf cf]] w fun e w' => e = .returned (.bool true) ∧ Both w' B D R (s.act ⟨6, ti, tb, tf⟩) ∧ Below B w w' := by
  have HH := Lib.hid h
  obtain ⟨F, hd, hr, hF⟩ := h
  have hb1 : Below w.heap.size w (w.alloc (.cells #[.int .i64 6, .int .i64 ti, .slice pb nb cb, .slice pf nf cf] 44)) := (Below.refl _ _).alloc (Nat.le_refl _) _
  have HR := Lib.hid (hr.below hb1)
  have HD := Lib.hid (hd.below hb1)
  have HB := Lib.hid hb1
  clear hd hr hF hb1
  have hlw : (w.alloc (.cells #[.int .i64 6, .int .i64 ti, .slice pb nb cb, .slice pf nf cf] 44)).heap.size = w.heap.size + 1 := by simp
  have HSF : Hid (∀ w2, Below (w.heap.size + 1) (w.alloc (.cells #[.int .i64 6, .int .i64 ti, .slice pb nb cb, .slice pf nf cf] 44)) w2 → Both w2 B D R (s.act ⟨6, ti, tb, tf⟩) ∧ Below B w w2) := fun w2 h2 => by
    have hb : Below w.heap.size w w2 := HB.out.trans (h2.mono (Nat.le_succ _))
    exact ⟨HH.out.below hb, hb.mono HH.out.size⟩
  by_cases ho : ti < 0 ∨ s.blocks ≤ ti
  · have HS := Lib.hid (Dk.safe_out ho)
    go_enter Try.func27, Try.ntmps27
    go_wp2_with fail
    refine (safeF _ D F s HD.out ti).mono ?_
    rintro e w2 ⟨v, rfl, hown, hb2⟩
    rw [HS.out] at hown
    rw [hlw] at hown hb2
    rw [HS.out]
    obtain ⟨va, vc, rfl, -⟩ := hown.len
    have hr2 := HR.out.below (by rw [hlw]; exact hb2)
    have k1 : w2.cell? ⟨w.heap.size, 1, none⟩ = some (.int .i64 ti) := (hb2.cell (p := ⟨w.heap.size, 1, none⟩) (by simp)).trans (by simp)
    have FIN := Lib.hid (HSF.out _ (below_drewN hb2 1))
    obtain ⟨vb, vu, hat⟩ := hr2
    have c0 := hat.c0
    obtain ⟨⟨a, n, c, rfl, hn⟩, -⟩ := hat.forms
    rw [List.length_map, List.length_nil]
    by_cases hi : ti < 0
    · clear ho hown hb2 hat hn
      go_wp2_with fail
      refine wp_region_E (by kernel_rfl) [0, 1, 2, 3, 4, 5, 6, 7, 8, 9, 10, 11, 12] [1, 5, 9] [] [] [0, 1, 2, 3, 4, 5, 6, 7, 8, 9, 10, 11, 12] (by kernel_rfl) (fun _ => True) ?_
      iterate 13 (first | (refine wpE_pure rfl rfl rfl rfl (fun J hJ => ?_); go_simp; refine hJ _ ?_; clear hJ J) | (refine wpE_still rfl rfl rfl (fun J hJ => ?_); go_simp; refine hJ _ ?_; clear hJ J))
      refine wpE_nil ?_
      go_wp2
      go_ret
      exact ⟨rfl, FIN.out⟩
    · have hg : (n : Int) ≤ ti := by omega
      clear ho hown hb2 hat hn
      go_wp2_with fail
      refine wp_region_E (by kernel_rfl) [0, 1, 2, 3, 4, 5, 6, 7, 8, 9, 10, 11, 12] [1, 5, 9] [] [] [0, 1, 2, 3, 4, 5, 6, 7, 8, 9, 10, 11, 12] (by kernel_rfl) (fun _ => True) ?_
      iterate 13 (first | (refine wpE_pure rfl rfl rfl rfl (fun J hJ => ?_); go_simp; refine hJ _ ?_; clear hJ J) | (refine wpE_still rfl rfl rfl (fun J hJ => ?_); go_simp; refine hJ _ ?_; clear hJ J))
      refine wpE_nil ?_
      go_wp2
      go_ret
      exact ⟨rfl, FIN.out⟩
  · have hi : ¬ ti < 0 := fun h => ho (.inl h)
    have hi2 : ti < s.blocks := by omega
    have HS := Lib.hid (Dk.safe_in (s := s) (i := ti) (by omega) hi2)
    go_enter Try.func27, Try.ntmps27
    go_wp2_with fail
    refine (safeF _ D F s HD.out ti).mono ?_
    rintro e w2 ⟨v, rfl, hown, hb2⟩
    rw [HS.out] at hown
    rw [hlw] at hown hb2
    rw [HS.out]
    have hr2 := HR.out.below (by rw [hlw]; exact hb2)
    have k1 : w2.cell? ⟨w.heap.size, 1, none⟩ = some (.int .i64 ti) := (hb2.cell (p := ⟨w.heap.size, 1, none⟩) (by simp)).trans (by simp)
    have HB2 := Lib.hid hb2
    have HO := Lib.hid hown
    obtain ⟨vb, vu, hat⟩ := hr2
    have c0 := hat.c0
    obtain ⟨g, n, gc, ba, bm, bc, rfl, hn, hbc, hbb⟩ := hat.blk_at ti (by omega) hi2
    obtain ⟨ii, rfl⟩ : ∃ ii : Nat, (ii : Int) = ti := ⟨ti.toNat, by omega⟩
    rw [Int.toNat_natCast] at hbc
    have hg : (ii : Int) < (n : Int) := by omega
    have hig : (0 : Int) ≤ (ii : Int) ∧ (ii : Int) < (n : Int) := by omega
    have HBB := Lib.hid hbb
    clear ho hown hb2 hat hn hi2 hbb
    go_wp2_with fail
    refine wp_region_E (by kernel_rfl) [0, 1, 2, 3, 4, 5, 6, 7, 8, 9, 10, 11, 12] [1, 5, 9] [] [] [0, 1, 2, 3, 4, 5, 6, 7, 8, 9, 10, 11, 12] (by kernel_rfl) (fun _ => True) ?_
    iterate 13 (first | (refine wpE_pure rfl rfl rfl rfl (fun J hJ => ?_); go_simp; refine hJ _ ?_; clear hJ J) | (refine wpE_still rfl rfl rfl (fun J hJ => ?_); go_simp; refine hJ _ ?_; clear hJ J))
    refine wpE_nil ?_
    go_wp2_with fail
    refine wp_region_E (by kernel_rfl) [0, 1, 2, 3, 4, 5, 6, 7, 8, 9, 10, 11, 13, 14] [7, 9, 11] [] [] [0, 1, 2, 3, 4, 5, 6, 7, 8, 9, 10, 11, 12, 13, 14] (by kernel_rfl) (fun _ => True) ?_
    iterate 12 (first | (refine wpE_pure rfl rfl rfl rfl (fun J hJ => ?_); go_simp; refine hJ _ ?_; clear hJ J) | (refine wpE_still rfl rfl rfl (fun J hJ => ?_); go_simp; refine hJ _ ?_; clear hJ J))
    refine wpE_call rfl rfl rfl (w' := w2.drew.drew) 24 #[v, .slice ba bm bc] (by go_simp) ?_
    refine (same_any _ _ _ _ _ ((HO.out.reads.bytes.drewN 1).drewN 1) ((HBB.out.drewN 1).drewN 1)).mono ?_
    rintro e w3 ⟨rfl, nd, rfl⟩
    rw [decide_eq_true rfl]
    refine ⟨_, rfl, fun _ => trivial, ?_⟩
    iterate 2 (first | (refine wpE_pure rfl rfl rfl rfl (fun J hJ => ?_); go_simp; refine hJ _ ?_; clear hJ J) | (refine wpE_still rfl rfl rfl (fun J hJ => ?_); go_simp; refine hJ _ ?_; clear hJ J))
    refine wpE_nil ?_
    go_wp2
    go_ret
    exact ⟨rfl, HSF.out _ (below_drewN (below_drewN (below_drewN HB2.out 1) 1) nd)⟩
set_option maxRecDepth 100000 in
set_option maxHeartbeats 8000000 in
theorem step15_under (w : World) (B D R : Nat) (s : Dk) (ti : Int) (tb : List B8) (tf : List (Int × Int)) (pb pf : Option Addr) (nb cb nf cf : Nat) (h : Both w B D R s) (hu : s.under.length ≤ 1000000) :
    Calls Try.prog 27 #[.pointer (some ⟨D, 0, none⟩), .pointer (some ⟨R, 0, none⟩), .agg #[.int .i64 7, .int .i64 ti, .slice pb nb cb, .slice pf nf cf]] w fun e w' => e = .returned (.bool true) ∧ Both w' B D R (s.act ⟨7, ti, tb, tf⟩) ∧ Below B w w' := by
  have HH := Lib.hid h
  have HU := Lib.hid hu
  obtain ⟨F, hd, hr, hF⟩ := h
  have HD := Lib.hid hd
  have HSF : Hid (∀ w2, Below w.heap.size w w2 → Both w2 B D R (s.act ⟨7, ti, tb, tf⟩) ∧ Below B w w2) := fun w2 h2 => ⟨HH.out.below h2, h2.mono HH.out.size⟩
  have hsz := hr.size
  obtain ⟨vb, vu, hat⟩ := hr
  have HAT := Lib.hid hat
  have c1 := hat.c1
  have hRl := cell_lt c1
  have hRn : R ≠ w.heap.size := by omega
  obtain ⟨-, ⟨ua, uc, rfl, -⟩⟩ := hat.forms
  obtain ⟨un, hun⟩ : ∃ un, un = s.under.length := ⟨_, rfl⟩
  rw [← hun] at HAT c1
  have HUN := Lib.hid hun
  have ub : (un : Int) ≤ 1000000 := by omega
  clear hat hun hd hF hu
  go_enter Try.func27, Try.ntmps27
  go_wp2
  go_loopw [21, 23, 176] (fun v' _ i wr => ∃ (k : Nat) (a : Option Addr) (n c : Nat), i = .int .i64 k ∧ k ≤ un ∧ v' = .slice a n c ∧ Hid (Own wr w.heap.size 3 (.slice a n c) ((s.under.take k).map fun x => intV x.1)) ∧ Hid (Below w.heap.size w wr)) (fun _ _ i _ => un - (intOf i).toNat)
  case atStart => exact ⟨0, none, 0, 0, rfl, Nat.zero_le _, rfl, Own.nil_ (by simp), (Below.refl _ _).alloc (Nat.le_refl _) _⟩
  case round =>
    obtain ⟨k, a, n, c, rfl, hk, rfl, how, hbl⟩ := hrel
    by_cases hlt : k < un
    · obtain ⟨g, x, pa, pm, pc, rfl, hx, d0, d1, -⟩ := HAT.out.und_at k hlt
      have e0 : wr.cell? ⟨g, k * 2, none⟩ = some (.int .i64 x.1) := (hbl.out.cell (cell_lt d0)).trans d0
      have e1 : wr.cell? ⟨g, k * 2 + 1, none⟩ = some (.slice pa pm pc) := (hbl.out.cell (cell_lt d1)).trans d1
      have kb : (k : Int) ≤ 1000000 := by omega
      have HX := Lib.hid hx
      have HTL : Hid (((s.under.take k).map fun x => intV x.1).length ≤ 1000000) := by unfold Hid; rw [List.length_map, List.length_take]; omega
      have i1 : (0 : Int) ≤ (k : Int) ∧ (k : Int) < (un : Int) := by omega
      clear d0 d1 hx
      go_wp2_with (at_builtin; refine wpl_append rfl (.tmp 180) (.tmp 183) 22 rfl elemIntD rfl ((how.out.alloc _).alloc _) rfl (Reads.new (k := wr.heap.size + 1) (by simp) #[.int .i64 x.1] 3 (0, 0) [.int .i64 x.1] 1 rfl (by decide) rfl) one_int (by have := HTL.out; simp only [List.length_singleton]; omega) (by have := HTL.out; simp only [List.length_singleton]; unfold maxLen; omega) ?_; intro v' w6 hown6 hg6 _; have HB6 : Hid (Below w.heap.size w w6) := below_grown ((hbl.out.alloc hbl.out.size _).alloc (by have := hbl.out.size; simp; omega) _) ((how.out.alloc _).alloc _) hg6 (Nat.le_refl _); obtain ⟨pa', pn', pc', rfl, _⟩ := hown6.form_; have HO6 := Lib.hid hown6; clear hown6 hg6)
      refine ⟨⟨k + 1, pa', pn', pc', by go_num, hlt, rfl, ?_, HB6.out⟩, by simp [intOf]; omega⟩
      unfold Hid
      rw [List.take_add_one, HX.out, List.map_append]
      exact HO6.out
    · have e : s.under.take k = s.under := List.take_of_length_le (by have := HUN.out; omega)
      rw [e] at how
      have HD2 := Lib.hid (HD.out.below hbl.out)
      clear e
      go_wp2_with fail
      refine (underF wr D F s HD2.out HU.out).mono ?_
      rintro e w2 ⟨v, rfl, hown, hb2⟩
      have HO := Lib.hid hown
      have HB2 := Lib.hid hb2
      clear hown hb2
      go_wp2_with fail
      refine (same06_alike _ _ (s.under.map fun x => x.1) w2 (by rw [List.map_map]; exact HO.out.reads) (by rw [List.map_map]; exact how.out.reads.below HB2.out) (by rw [List.length_map]; exact HU.out)).mono ?_
      rintro e w3 ⟨rfl, nd, rfl⟩
      have FIN := Lib.hid (HSF.out _ (below_drewN (hbl.out.trans (HB2.out.mono hbl.out.size)) nd))
      go_wp2
      go_ret
      exact ⟨rfl, FIN.out⟩
end Go.Proofs.Ytcnhjbipncledaa
