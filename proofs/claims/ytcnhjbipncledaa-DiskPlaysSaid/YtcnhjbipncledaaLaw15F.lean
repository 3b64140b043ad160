/- The law DiskPlays of chapter 15, walked. -/
import Derived.Test.YtcnhjbipncledaaStep15D
import Derived.Test.YtcnhjbipncledaaLaw15E
namespace Go.Proofs.Ytcnhjbipncledaa
open Go.RowKit

set_option maxRecDepth 100000 in
set_option maxHeartbeats 4000000 in
theorem diskPlays_no (n : Int) (v : Value) (ts : List DOp) (w : World) (ho : OpsIs w v ts) (hf : fewD 80 300 100 ts = false ∨ 64 < n ∧ n ≤ 16384) :
    Calls Try.prog 6 #[.int .i64 n, v] w fun e w' => e = .returned (.bool true) ∧ Below w.heap.size w w' := by
  have HO := Lib.hid ho
  cases hfd : fewD 80 300 100 ts with
  | false =>
    have HF := Lib.hid hfd
    clear ho hf hfd
    go_enter Try.func6, Try.ntmps6
    go_wp2_with (first | (go_at_call 12; refine (awake15_any _).mono ?_; rintro e w1 ⟨rfl, HB1⟩; have HB2 := Lib.hid HB1; clear HB1) | (go_at_call 22; refine (few15_any _ ts _ (HO.out.below HB2.out)).mono ?_; rintro e w2 ⟨rfl, b2⟩; have HB3 : Hid (Below w.heap.size w w2) := HB2.out.trans (b2.mono HB2.out.size); clear b2 HB2; rw [HF.out]))
    go_ret
    exact ⟨rfl, HB3.out⟩
  | true =>
    have HF := Lib.hid hfd
    have hn : 64 < n ∧ n ≤ 16384 := by rcases hf with h | h; rw [hfd] at h; cases h; exact h
    obtain ⟨g1, g2⟩ := hn
    clear ho hf hfd
    go_enter Try.func6, Try.ntmps6
    go_wp2_with (first | (go_at_call 12; refine (awake15_any _).mono ?_; rintro e w1 ⟨rfl, HB1⟩; have HB2 := Lib.hid HB1; clear HB1) | (go_at_call 22; refine (few15_any _ ts _ (HO.out.below HB2.out)).mono ?_; rintro e w2 ⟨rfl, b2⟩; have HB3 : Hid (Below w.heap.size w w2) := HB2.out.trans (b2.mono HB2.out.size); clear b2 HB2; rw [HF.out]))
    go_ret
    exact ⟨rfl, HB3.out⟩
set_option maxRecDepth 100000 in
set_option maxHeartbeats 4000000 in
theorem diskPlays_out (n : Int) (v : Value) (ts : List DOp) (w : World) (ho : OpsIs w v ts) (hf : fewD 80 300 100 ts = true) (hn : n < 1 ∨ 16384 < n) :
    Calls Try.prog 6 #[.int .i64 n, v] w fun e w' => e = .returned (.bool true) ∧ Below w.heap.size w w' := by
  have HO := Lib.hid ho
  have HF := Lib.hid hf
  have HN := Lib.hid (fun w => newF_no w n hn)
  by_cases h1 : n < 1
  · have g1 : ¬ 64 < n := by omega
    clear ho hf hn
    go_enter Try.func6, Try.ntmps6
    go_wp2_with (first | (go_at_call 12; refine (awake15_any _).mono ?_; rintro e w1 ⟨rfl, HB1⟩; have HB2 := Lib.hid HB1; clear HB1) | (go_at_call 22; refine (few15_any _ ts _ (HO.out.below HB2.out)).mono ?_; rintro e w2 ⟨rfl, b2⟩; have HB3 : Hid (Below w.heap.size w w2) := HB2.out.trans (b2.mono HB2.out.size); clear b2 HB2; rw [HF.out]))
    refine (HN.out _).mono ?_
    rintro e w3 ⟨rfl, rfl⟩
    go_wp2_with fail
    go_ret
    exact ⟨rfl, HB3.out⟩
  · have g1 : 64 < n := by omega
    have g2 : ¬ n ≤ 16384 := by omega
    have g3 : 16384 < n := by omega
    clear ho hf hn
    go_enter Try.func6, Try.ntmps6
    go_wp2_with (first | (go_at_call 12; refine (awake15_any _).mono ?_; rintro e w1 ⟨rfl, HB1⟩; have HB2 := Lib.hid HB1; clear HB1) | (go_at_call 22; refine (few15_any _ ts _ (HO.out.below HB2.out)).mono ?_; rintro e w2 ⟨rfl, b2⟩; have HB3 : Hid (Below w.heap.size w w2) := HB2.out.trans (b2.mono HB2.out.size); clear b2 HB2; rw [HF.out]))
    refine (HN.out _).mono ?_
    rintro e w3 ⟨rfl, rfl⟩
    go_wp2_with fail
    go_ret
    exact ⟨rfl, HB3.out⟩
set_option maxRecDepth 100000 in
set_option maxHeartbeats 16000000 in
theorem diskPlays_yes (n : Nat) (v : Value) (ts : List DOp) (w : World) (ho : OpsIs w v ts) (hf : fewD 80 300 100 ts = true) (h1 : 1 ≤ n) (h64 : n ≤ 64) :
    Calls Try.prog 6 #[.int .i64 n, v] w fun e w' => e = .returned (.bool true) ∧ Below w.heap.size w w' := by
  obtain ⟨oa, on, oc, rfl, hon⟩ : ∃ a n c, v = .slice a n c ∧ n = ts.length := by obtain ⟨a, n, c, h, hl, _⟩ := ho; exact ⟨a, n, c, h, hl⟩
  have HO := Lib.hid ho
  have HF := Lib.hid hf
  have HON := Lib.hid hon
  have ol : on ≤ 80 := by rw [hon]; exact (fewD_is hf).1
  have HOL := Lib.hid ol
  have HFM := Lib.hid (fewD_is hf).2
  have HN : Hid (1 ≤ n ∧ n ≤ 64) := ⟨h1, h64⟩
  have g1 : ¬ 64 < (n : Int) := by omega
  have g2 : ¬ (n : Int) < 1 := by omega
  have g3 : ¬ 16384 < (n : Int) := by omega
  have hnn : ((n : Int) != (n : Int)) = false := by simp
  clear ho hf hon ol h1 h64
  go_enter Try.func6, Try.ntmps6
  go_wp2_with (first | (go_at_call 12; refine (awake15_any _).mono ?_; rintro e w1 ⟨rfl, HB1⟩; have HB2 := Lib.hid HB1; clear HB1) | (go_at_call 22; refine (few15_any _ ts _ (HO.out.below HB2.out)).mono ?_; rintro e w2 ⟨rfl, b2⟩; have HB3 : Hid (Below w.heap.size w w2) := HB2.out.trans (b2.mono HB2.out.size); clear b2 HB2; rw [HF.out]))
  refine (newF w2 n (by have := HN.out; omega) (by have := HN.out; omega)).mono ?_
  rintro e w3 ⟨rfl, ⟨F3, h3, gr3⟩, b3⟩
  obtain ⟨D, hD⟩ : ∃ D, D = w2.heap.size + 1 := ⟨_, rfl⟩
  rw [← hD] at h3 ⊢
  have B3 : Hid (Below w.heap.size w w3) := HB3.out.trans (b3.mono HB3.out.size)
  have G3 : Hid (∀ x ∈ F3, w.heap.size ≤ x) := fun x hx => Nat.le_trans HB3.out.size (gr3 x hx)
  have H3 := Lib.hid h3
  clear h3 gr3 b3 HB3 hD
  go_wp2_with fail
  refine (new_rk w3 n F3 HN.out.1 (by have := HN.out; omega) H3.out.lt).mono ?_
  rintro e w4 ⟨rfl, h4, b4⟩
  obtain ⟨R, hR⟩ : ∃ R, R = w3.heap.size := ⟨_, rfl⟩
  have H4 := Lib.hid (h4.lower B3.out.size)
  rw [← hR] at H4 ⊢
  have HD4 := Lib.hid (H3.out.below b4)
  have B4 : Hid (Below w.heap.size w w4) := B3.out.trans (b4.mono B3.out.size)
  have S4 : Hid (Both w4 w.heap.size D R (Dk.fresh n)) := ⟨F3, HD4.out, H4.out, G3.out⟩
  clear h4 b4 hR
  go_wp2_with fail
  refine (blocksF w4 D F3 _ HD4.out).mono ?_
  rintro e w5 ⟨rfl, rfl⟩
  rw [show (Dk.fresh (n : Int)).blocks = (n : Int) from rfl]
  clear H3 H4 HD4 G3 B3
  go_wp2_with fail
  obtain ⟨wo, rfl⟩ : ∃ wo : World, wo = w5 := ⟨_, rfl⟩
  go_loopw [9, 55] (fun _ j wr => ∃ (k : Nat) (s : Dk), k ≤ on ∧ j = .int .i64 k ∧ Hid (Both wr w.heap.size D R s) ∧ Hid (s.blocks = n ∧ s.under.length ≤ k) ∧ Hid (Below w.heap.size w wr)) (fun _ j _ => on - (intOf j).toNat)
  case atStart => exact ⟨0, _, Nat.zero_le _, rfl, S4.out, ⟨rfl, Nat.le_refl _⟩, B4.out⟩
  case round =>
    obtain ⟨k, s, hk, rfl, hbo, hs, hbl⟩ := hrel
    by_cases hlt : k < on
    · obtain ⟨b0, off, t, rfl, htk, hat⟩ := HO.out.at_ k hlt
      obtain ⟨pb, pf, nb, cb, nf, cf, q0, q1, q2, q3, qb, qf, qi⟩ := hat
      have k0 := (hbl.out.cell (p := ⟨b0, off + k * 4, none⟩) (cell_lt q0)).trans q0
      have k1 := (hbl.out.cell (p := ⟨b0, off + k * 4 + 1, none⟩) (cell_lt q1)).trans q1
      have k2 := (hbl.out.cell (p := ⟨b0, off + k * 4 + 2, none⟩) (cell_lt q2)).trans q2
      have k3 := (hbl.out.cell (p := ⟨b0, off + k * 4 + 3, none⟩) (cell_lt q3)).trans q3
      have kb : (k : Int) ≤ 80 := by have := HOL.out; omega
      have HM := Lib.hid (HFM.out t (List.mem_of_getElem? htk))
      have HU : Hid (s.under.length ≤ 1000000) := by have := hs.out.2; have := HOL.out; unfold Hid; omega
      have HQ : Hid (IsBytes w (.slice pb nb cb) t.b ∧ IsFates w (.slice pf nf cf) t.fs ∧ -9223372036854775808 ≤ t.i ∧ t.i ≤ 9223372036854775807) := ⟨qb, qf, qi⟩
      have HA := Lib.hid (s.act_same t)
      clear q0 q1 q2 q3 qb qf qi htk
      go_wp2_with fail
      obtain ⟨wp, hwp⟩ : ∃ wp, wp = (wr.alloc (.cells #[.int .i64 t.kind, .int .i64 t.i, .slice pb nb cb, .slice pf nf cf] 44)).drew := ⟨_, rfl⟩
      have HBP : Hid (Below wr.heap.size wr wp) := by unfold Hid; rw [hwp]; exact below_drewN ((Below.refl _ _).alloc (Nat.le_refl _) _) 1
      refine wp_region_E (by kernel_rfl) [0, 1, 2, 4, 5, 6, 8, 9, 10, 11, 12, 13] [2] [11] [7] [0, 1, 2, 3, 4, 5, 6, 8, 9, 10, 11, 7, 12, 13] (by kernel_rfl) (fun w' => w'.cell? ⟨R, 4, none⟩ = some (.bool (s.act t).down)) ?_
      iterate 2 (refine wpE_pure rfl rfl rfl rfl (fun J hJ => ?_); go_simp; refine hJ _ ?_; clear hJ J)
      refine wpE_still rfl rfl rfl (fun J hJ => ?_)
      go_simp
      refine hJ _ ?_
      clear hJ J
      refine wpE_call rfl rfl rfl (w' := wp) 27 #[.pointer (some ⟨D, 0, none⟩), .pointer (some ⟨R, 0, none⟩), .agg #[.int .i64 t.kind, .int .i64 t.i, .slice pb nb cb, .slice pf nf cf]] (by rw [hwp]; go_simp) ?_
      refine (step15_any wp w.heap.size D R s t pb pf nb cb nf cf (hbo.out.below HBP.out) (ActIn.of (hbl.out.trans (HBP.out.mono hbl.out.size)) HQ.out.1 HQ.out.2.1 HQ.out.2.2) HU.out (Nat.le_trans HM.out.1 (by decide)) (Nat.le_trans HM.out.2 (by decide))).mono ?_
      rintro e w6 ⟨rfl, hb6, hbl6⟩
      have HB6 := Lib.hid hb6
      have HBL6 : Hid (Below w.heap.size w w6) := (hbl.out.trans (HBP.out.mono hbl.out.size)).trans hbl6
      obtain ⟨F6, hd6, ⟨vb6, vu6, hr6⟩, -⟩ := hb6
      have HD6 := Lib.hid hd6
      have c4 := hr6.c4
      have hdd : ((s.act t).down != (s.act t).down) = false := by simp
      clear hbl6 hd6 hr6 hwp
      refine ⟨_, rfl, (fun e => by cases e), ?_⟩
      iterate 6 (refine wpE_pure rfl rfl rfl rfl (fun J hJ => ?_); go_simp; refine hJ _ ?_; clear hJ J)
      refine wpE_read rfl rfl rfl (.bool (s.act t).down) rfl c4 (fun w' hc => by go_simp) rfl ?_
      refine wpE_call rfl rfl rfl (w' := w6) 17 #[.pointer (some ⟨D, 0, none⟩)] (by go_simp) ?_
      refine (downF w6 D F6 _ HD6.out).mono ?_
      rintro e w7 ⟨rfl, rfl⟩
      refine ⟨_, rfl, fun _ => c4, ?_⟩
      iterate 2 (refine wpE_pure rfl rfl rfl rfl (fun J hJ => ?_); go_simp; refine hJ _ ?_; clear hJ J)
      refine wpE_nil ?_
      go_wp2_with fail
      refine ⟨⟨k + 1, _, hlt, by go_num, HB6.out, ⟨HA.out.1.trans hs.out.1, Nat.le_trans HA.out.2 (Nat.succ_le_succ hs.out.2)⟩, HBL6.out⟩, by simp [intOf]; omega⟩
    · have HB7 := Lib.hid hbo
      have HS7 := Lib.hid hs
      have HBL7 := Lib.hid hbl
      clear hbo hs hbl
      go_wp2_with fail
      obtain ⟨wq, rfl⟩ : ∃ wq : World, wq = wr := ⟨_, rfl⟩
      go_loopw [10, 75] (fun _ j wr => ∃ (i : Nat), i ≤ n ∧ j = .int .i64 i ∧ Hid (Both wr w.heap.size D R s) ∧ Hid (Below w.heap.size w wr)) (fun _ j _ => n - (intOf j).toNat)
      case atStart => exact ⟨0, Nat.zero_le _, rfl, HB7.out.out, HBL7.out.out⟩
      case round =>
        obtain ⟨i, hi, rfl, hbx, hblx⟩ := hrel
        by_cases hin : i < n
        · have ib : (i : Int) ≤ 64 := by have := HN.out; omega
          obtain ⟨F, hd, hr, -⟩ := hbx.out
          have HR := Lib.hid hr
          have hsb := HS7.out.out.1
          have E := Lib.hid (Dk.safe_in (s := s) (i := i) (by omega) (by omega))
          have HD := Lib.hid hd
          clear hr hd
          go_wp2_with fail
          refine (safeF _ D F s HD.out i).mono ?_
          rintro e w8 ⟨v, rfl, hown, hb8⟩
          rw [E.out] at hown ⊢
          have HO8 := Lib.hid hown
          have HB8 := Lib.hid hb8
          obtain ⟨vb, vu, hat⟩ := HR.out.below hb8
          have c0 := hat.c0
          obtain ⟨g, gn, gc, ba, bm, bc, rfl, hgn, hbc, hbb⟩ := hat.blk_at i (by omega) (by omega)
          rw [Int.toNat_natCast] at hbc
          have hig : (0 : Int) ≤ (i : Int) ∧ (i : Int) < (gn : Int) := by omega
          have HBB := Lib.hid hbb
          clear hat hgn hbb hown hb8 hsb
          go_wp2_with fail
          refine (same_any _ _ _ _ _ HO8.out.reads.bytes HBB.out).mono ?_
          rintro e w9 ⟨rfl, nd, rfl⟩
          rw [decide_eq_true rfl]
          have hb9 : Below wr.heap.size wr (w8.drewN nd) := below_drewN HB8.out nd
          have H9 := Lib.hid (hbx.out.below hb9)
          have B9 := Lib.hid (hblx.out.trans (hb9.mono hblx.out.size))
          clear hb9
          go_wp2_with fail
          refine ⟨⟨i + 1, hin, by go_num, H9.out, B9.out⟩, by simp [intOf]; omega⟩
        · go_wp2_with fail
          go_ret
          exact ⟨rfl, hblx.out⟩
theorem diskPlays_law (n : Int) (v : Value) (ts : List DOp) (w : World) (ho : OpsIs w v ts) :
    Calls Try.prog 6 #[.int .i64 n, v] w fun e w' => e = .returned (.bool true) ∧ Below w.heap.size w w' := by
  by_cases h1 : fewD 80 300 100 ts = false ∨ 64 < n ∧ n ≤ 16384
  · exact diskPlays_no n v ts w ho h1
  · have hf : fewD 80 300 100 ts = true := by cases h : fewD 80 300 100 ts with | true => rfl | false => exact absurd (.inl h) h1
    by_cases h2 : n < 1 ∨ 16384 < n
    · exact diskPlays_out n v ts w ho hf h2
    · have h3 : ¬ (64 < n ∧ n ≤ 16384) := fun h => h1 (.inr h)
      obtain ⟨m, rfl⟩ : ∃ m : Nat, (m : Int) = n := ⟨n.toNat, by omega⟩
      exact diskPlays_yes m v ts w ho hf (by omega) (by omega)
end Go.Proofs.Ytcnhjbipncledaa
