/- The law DiskFlushed, walked. -/
import Derived.Test.YtcnhjbipncledaaLaw15A
import Derived.Test.YtcnhjbipncledaaDkP
import Derived.Test.YtcnhjbipncledaaFew15
namespace Go.Proofs.Ytcnhjbipncledaa
open Go.RowKit

theorem Stays.start {i : Int} {b : List B8} (h0 : 0 ≤ i) (h1 : i ≤ 15) (hb : b.length ≤ 128) : (Dk.fresh 16).write i b = ((Dk.fresh 16).lay i b, 0) ∧ ((Dk.fresh 16).lay i b).flush = (((Dk.fresh 16).lay i b).flushed, 0) ∧ Stays 16 i (full b) 0 ((Dk.fresh 16).lay i b).flushed := by
  refine ⟨Dk.write_ok rfl h0 (show i < 16 by omega) hb rfl, Dk.flush_ok rfl rfl, (Dk.flushed_same _).1, ?_, (fun x hx => by cases hx), Nat.le_refl _⟩
  show (((Dk.fresh 16).lay i b).puts ([] ++ [(i, full b)])).blk i = _
  exact Dk.puts_put _ _ _ _
theorem fates_apart {w : World} {v : Value} {fs : List (Int × Int)} {F : List Nat} (h : IsFates w v fs) (hF : ∀ x ∈ F, w.heap.size ≤ x) : ∀ b c n, v = .slice (some b) n c → fs ≠ [] → b.block ∉ F := fun b c n hv h0 hx => by
  have := h.lt h0 b c n hv
  have := hF _ hx
  omega
set_option maxHeartbeats 1000000 in
theorem diskFlushed_no (i : Int) (v vo : Value) (b : List B8) (ts : List DOp) (w : World) (hv : IsBytes w v b) (ho : OpsIs w vo ts) (h : fewD 80 300 100 ts = false ∨ i < 0 ∨ 15 < i ∨ 128 < b.length) :
    Calls Try.prog 5 #[.int .i64 i, v, vo] w fun e w' => e = .returned (.bool true) ∧ Below w.heap.size w w' := by
  obtain ⟨va, vn, vc, rfl⟩ : ∃ a n c, v = .slice a n c := by obtain ⟨a, n, c, h, _⟩ := hv; exact ⟨a, n, c, h⟩
  have hvn : vn = b.length := by obtain ⟨_, _, _, h, hl, _⟩ := hv; injection h with _ h _; rw [h, hl]
  have HO := Lib.hid ho
  rw [← hvn] at h
  clear ho hv hvn
  cases hf : fewD 80 300 100 ts with
  | false =>
    have HF := Lib.hid hf
    clear hf h
    go_enter Try.func5, Try.ntmps5
    go_wp2_with (first | (go_at_call 12; refine (awake15_any _).mono ?_; rintro e w1 ⟨rfl, HB1⟩; have HB2 := Lib.hid HB1; clear HB1) | (go_at_call 22; refine (few15_any _ ts _ (HO.out.below HB2.out)).mono ?_; rintro e w2 ⟨rfl, b2⟩; have HB3 : Hid (Below w.heap.size w w2) := HB2.out.trans (b2.mono HB2.out.size); clear b2 HB2; rw [HF.out]))
    go_ret
    exact ⟨rfl, HB3.out⟩
  | true =>
    have HF := Lib.hid hf
    rw [hf] at h
    clear hf
    by_cases h0 : i < 0
    · have g0 : decide (i < 0) = true := decide_eq_true h0
      clear h
      go_enter Try.func5, Try.ntmps5
      go_wp2_with (first | (go_at_call 12; refine (awake15_any _).mono ?_; rintro e w1 ⟨rfl, HB1⟩; have HB2 := Lib.hid HB1; clear HB1) | (go_at_call 22; refine (few15_any _ ts _ (HO.out.below HB2.out)).mono ?_; rintro e w2 ⟨rfl, b2⟩; have HB3 : Hid (Below w.heap.size w w2) := HB2.out.trans (b2.mono HB2.out.size); clear b2 HB2; rw [HF.out]))
      go_ret
      exact ⟨rfl, HB3.out⟩
    · have g0 : decide (i < 0) = false := decide_eq_false h0
      by_cases h1 : 15 < i
      · have g1 : decide (15 < i) = true := decide_eq_true h1
        clear h h0
        go_enter Try.func5, Try.ntmps5
        go_wp2_with (first | (go_at_call 12; refine (awake15_any _).mono ?_; rintro e w1 ⟨rfl, HB1⟩; have HB2 := Lib.hid HB1; clear HB1) | (go_at_call 22; refine (few15_any _ ts _ (HO.out.below HB2.out)).mono ?_; rintro e w2 ⟨rfl, b2⟩; have HB3 : Hid (Below w.heap.size w w2) := HB2.out.trans (b2.mono HB2.out.size); clear b2 HB2; rw [HF.out]))
        go_ret
        exact ⟨rfl, HB3.out⟩
      · have g1 : decide (15 < i) = false := decide_eq_false h1
        have g2 : decide (128 < (vn : Int)) = true := decide_eq_true (by rcases h with h | h | h | h; exact absurd h (by decide); omega; omega; omega)
        clear h h0 h1
        go_enter Try.func5, Try.ntmps5
        go_wp2_with (first | (go_at_call 12; refine (awake15_any _).mono ?_; rintro e w1 ⟨rfl, HB1⟩; have HB2 := Lib.hid HB1; clear HB1) | (go_at_call 22; refine (few15_any _ ts _ (HO.out.below HB2.out)).mono ?_; rintro e w2 ⟨rfl, b2⟩; have HB3 : Hid (Below w.heap.size w w2) := HB2.out.trans (b2.mono HB2.out.size); clear b2 HB2; rw [HF.out]))
        go_ret
        exact ⟨rfl, HB3.out⟩
set_option maxRecDepth 10000 in
set_option maxHeartbeats 4000000 in
theorem diskFlushed_yes (i : Int) (v vo : Value) (b : List B8) (ts : List DOp) (w : World) (hv : IsBytes w v b) (ho : OpsIs w vo ts) (hf : fewD 80 300 100 ts = true) (h0 : 0 ≤ i) (h1 : i ≤ 15) (hb : b.length ≤ 128) :
    Calls Try.prog 5 #[.int .i64 i, v, vo] w fun e w' => e = .returned (.bool true) ∧ Below w.heap.size w w' := by
  obtain ⟨va, vn, vc, rfl⟩ : ∃ a n c, v = .slice a n c := by obtain ⟨a, n, c, h, _⟩ := hv; exact ⟨a, n, c, h⟩
  have hvn : vn = b.length := by obtain ⟨_, _, _, h, hl, _⟩ := hv; injection h with _ h _; rw [h, hl]
  obtain ⟨oa, on, oc, rfl, hon⟩ : ∃ a n c, vo = .slice a n c ∧ n = ts.length := by obtain ⟨a, n, c, h, hl, _⟩ := ho; exact ⟨a, n, c, h, hl⟩
  have HO := Lib.hid ho
  have HV := Lib.hid hv
  have HF := Lib.hid hf
  have HON := Lib.hid hon
  have HB := Lib.hid hb
  have ol : on ≤ 80 := by rw [hon]; exact (fewD_is hf).1
  have HOL := Lib.hid ol
  have ST := Lib.hid (Stays.start h0 h1 hb)
  have g0 : decide (i < 0) = false := decide_eq_false (by omega)
  have g1 : decide (15 < i) = false := decide_eq_false (by omega)
  have g2 : decide (128 < (vn : Int)) = false := decide_eq_false (by omega)
  have HI : Hid (0 ≤ i ∧ i ≤ 15) := ⟨h0, h1⟩
  clear hv ho hf hon hb ol h0 h1 hvn
  go_enter Try.func5, Try.ntmps5
  go_wp2_with (first | (go_at_call 12; refine (awake15_any _).mono ?_; rintro e w1 ⟨rfl, HB1⟩; have HB2 := Lib.hid HB1; clear HB1) | (go_at_call 22; refine (few15_any _ ts _ (HO.out.below HB2.out)).mono ?_; rintro e w2 ⟨rfl, b2⟩; have HB3 : Hid (Below w.heap.size w w2) := HB2.out.trans (b2.mono HB2.out.size); clear b2 HB2; rw [HF.out]))
  refine (newF w2 16 (by decide) (by decide)).mono ?_
  rintro e w3 ⟨rfl, ⟨F3, h3, gr3⟩, b3⟩
  obtain ⟨D, hD⟩ : ∃ D, D = w2.heap.size + 1 := ⟨_, rfl⟩
  rw [← hD] at h3 ⊢
  have B3 : Hid (Below w.heap.size w w3) := HB3.out.trans (b3.mono HB3.out.size)
  have G3 : Hid (∀ x ∈ F3, w.heap.size ≤ x) := fun x hx => Nat.le_trans HB3.out.size (gr3 x hx)
  have H3 := Lib.hid h3
  clear h3 gr3 b3 HB3 hD
  go_wp2_with fail
  refine (writeF _ _ F3 _ H3.out i va vn vc b (HV.out.below B3.out) (by decide)).mono ?_
  rintro e w4 ⟨rfl, ⟨F4, h4, gr4⟩, c4⟩
  rw [ST.out.1] at h4 ⊢
  have B4 : Hid (Below w.heap.size w w4) := B3.out.trans (c4.below B3.out.size G3.out)
  have G4 : Hid (∀ x ∈ F4, w.heap.size ≤ x) := gr4.above B3.out.size G3.out
  have H4 := Lib.hid h4
  clear h4 gr4 c4 H3 G3 B3
  go_wp2_with fail
  refine (flushF _ _ F4 _ H4.out).mono ?_
  rintro e w5 ⟨rfl, ⟨F5, h5, gr5⟩, c5⟩
  rw [ST.out.2.1] at h5 ⊢
  have B5 : Hid (Below w.heap.size w w5) := B4.out.trans (c5.below B4.out.size G4.out)
  have G5 : Hid (∀ x ∈ F5, w.heap.size ≤ x) := gr5.above B4.out.size G4.out
  have H5 := Lib.hid h5
  clear h5 gr5 c5 H4 G4 B4
  go_wp2_with fail
  go_loopw [10, 51] (fun _ j wr => ∃ (k : Nat) (F : List Nat) (s : Dk), k ≤ on ∧ j = .int .i64 k ∧ Hid (DiskF wr D F s) ∧ Hid (Stays 16 i (full b) k s) ∧ Hid (∀ x ∈ F, w.heap.size ≤ x) ∧ Hid (Below w.heap.size w wr)) (fun _ j _ => on - (intOf j).toNat)
  case atStart => exact ⟨0, F5, _, Nat.zero_le _, rfl, H5.out, ST.out.2.2, G5.out, B5.out⟩
  case round =>
    obtain ⟨k, F, s, hk, rfl, hd, hst, hF, hbl⟩ := hrel
    by_cases hlt : k < on
    · obtain ⟨B, off, t, rfl, htk, hat⟩ := HO.out.at_ k hlt
      obtain ⟨pb, pf, nb, cb, nf, cf, q0, q1, q2, q3, qb, qf, qi⟩ := hat.below hbl.out
      have HQB := Lib.hid qb
      have HQF := Lib.hid ((hat.below (Below.refl _ _)))
      have HU : Hid (s.under.length ≤ 1000000) := by have := hst.out.2.2.2; have := HOL.out; unfold Hid; omega
      have kb : (k : Int) ≤ 80 := by have := HOL.out; omega
      have HQI := Lib.hid qi
      obtain ⟨pf', hpf'⟩ : ∃ x : True, x = trivial := ⟨trivial, rfl⟩
      have HAP : Hid (∀ b c n, Value.slice pf nf cf = .slice (some b) n c → t.fs ≠ [] → b.block ∉ F) := by
        obtain ⟨pb', pf', nb', cb', nf', cf', z0, z1, z2, z3, zb, zf, zi⟩ := hat
        have e := (World.cell?_of_block (a := ⟨B, off + k * 4 + 3, none⟩) (hbl.out.block B (cell_lt z0))).trans z3
        rw [q3] at e
        injection e with e
        rw [e]
        exact fates_apart zf hF.out
      have HQG := Lib.hid qf
      clear qb qf qi hat htk hpf' pf' HQF
      obtain ⟨kind, ti, tb, tf⟩ := t
      simp only at q0 q1
      by_cases k1 : kind = 1
      · subst k1
        by_cases hi : ti = i
        · subst hi
          skip
          go_wp2_with fail
          exact ⟨⟨k + 1, F, _, hlt, by go_num, hd.out.alloc _, hst.out.more, hF.out, hbl.out.alloc hbl.out.size _⟩, by simp [intOf]; omega⟩
        · have hn : (ti != i) = true := by rw [bne_iff_ne]; exact hi
          have HNE := Lib.hid hi
          clear hi
          go_wp2_with fail
          refine (writeF _ _ F s (hd.out.alloc _) ti pb nb cb tb (HQB.out.alloc _) HU.out).mono ?_
          rintro e w6 ⟨rfl, ⟨F6, h6, gr6⟩, c6⟩
          have B6 : Hid (Below w.heap.size w w6) := (hbl.out.alloc hbl.out.size _).trans (c6.below (by have := hbl.out.size; simp; omega) hF.out)
          have G6 : Hid (∀ x ∈ F6, w.heap.size ≤ x) := gr6.above (by have := hbl.out.size; simp; omega) hF.out
          have H6 := Lib.hid h6
          clear h6 c6 gr6
          go_wp2_with fail
          exact ⟨⟨k + 1, F6, _, hlt, by go_num, H6.out, hst.out.write _ _ HNE.out, G6.out, B6.out⟩, by simp [intOf]; omega⟩
      · by_cases k3 : kind = 3
        · subst k3
          skip
          go_wp2_with fail
          refine (flushF _ _ F s (hd.out.alloc _)).mono ?_
          rintro e w6 ⟨rfl, ⟨F6, h6, gr6⟩, c6⟩
          have B6 : Hid (Below w.heap.size w w6) := (hbl.out.alloc hbl.out.size _).trans (c6.below (by have := hbl.out.size; simp; omega) hF.out)
          have G6 : Hid (∀ x ∈ F6, w.heap.size ≤ x) := gr6.above (by have := hbl.out.size; simp; omega) hF.out
          have H6 := Lib.hid h6
          clear h6 c6 gr6
          go_wp2_with fail
          exact ⟨⟨k + 1, F6, _, hlt, by go_num, H6.out, hst.out.flush, G6.out, B6.out⟩, by simp [intOf]; omega⟩
        · by_cases k4 : kind = 4
          · subst k4
            skip
            go_wp2_with fail
            refine (armF _ _ F s (hd.out.alloc _) ti HQI.out.2).mono ?_
            rintro e w6 ⟨rfl, h6, c6⟩
            have B6 : Hid (Below w.heap.size w w6) := (hbl.out.alloc hbl.out.size _).trans (c6.below (by have := hbl.out.size; simp; omega) hF.out)
            have G6 := hF
            have H6 := Lib.hid h6
            clear h6 c6
            go_wp2_with fail
            exact ⟨⟨k + 1, F, _, hlt, by go_num, H6.out, hst.out.arm _, G6.out, B6.out⟩, by simp [intOf]; omega⟩
          · by_cases k5 : kind = 5
            · subst k5
              skip
              go_wp2_with fail
              refine (crashF _ _ F s (hd.out.alloc _) _ tf (HQG.out.below ((Below.refl _ _).alloc (Nat.le_refl _) _)) HAP.out).mono ?_
              rintro e w6 ⟨rfl, ⟨F6, h6, gr6⟩, c6⟩
              have B6 : Hid (Below w.heap.size w w6) := (hbl.out.alloc hbl.out.size _).trans (c6.below (by have := hbl.out.size; simp; omega) hF.out)
              have G6 : Hid (∀ x ∈ F6, w.heap.size ≤ x) := gr6.above (by have := hbl.out.size; simp; omega) hF.out
              have H6 := Lib.hid h6
              clear h6 c6 gr6
              go_wp2_with fail
              exact ⟨⟨k + 1, F6, _, hlt, by go_num, H6.out, hst.out.crash _, G6.out, B6.out⟩, by simp [intOf]; omega⟩
            · have e1 : (kind == 1) = false := by rw [beq_eq_false_iff_ne]; exact k1
              have e3 : (kind == 3) = false := by rw [beq_eq_false_iff_ne]; exact k3
              have e4 : (kind == 4) = false := by rw [beq_eq_false_iff_ne]; exact k4
              have e5 : (kind == 5) = false := by rw [beq_eq_false_iff_ne]; exact k5
              clear k1 k3 k4 k5
              go_wp2_with fail
              exact ⟨⟨k + 1, F, _, hlt, by go_num, hd.out.alloc _, hst.out.more, hF.out, hbl.out.alloc hbl.out.size _⟩, by simp [intOf]; omega⟩
    · have hkv : k = on := by omega
      have hsf : s.safe i = (full b, 0) := by
        unfold Dk.safe
        rw [if_neg (by have := HI.out; have := hst.out.1; omega), hst.out.2.1]
      have HSF := Lib.hid hsf
      clear hlt hsf
      go_wp2_with fail
      refine (safeF _ _ F s hd.out i).mono ?_
      rintro e w6 ⟨v6, rfl, hown, b6⟩
      rw [HSF.out] at hown ⊢
      have HV6 : Hid (IsBytes w6 v6 (full b)) := hown.reads.bytes
      have B6 : Hid (Below w.heap.size w w6) := hbl.out.trans (b6.mono hbl.out.size)
      obtain ⟨xa, xn, xc, rfl⟩ : ∃ a n c, v6 = .slice a n c := by obtain ⟨a, n, c, h, _⟩ := hown.form_; exact ⟨a, n, c, h⟩
      clear hown b6
      go_wp2_with fail
      refine (full_any _ b _ (HV.out.below B6.out) HB.out).mono ?_
      rintro e w7 ⟨v7, rfl, hown, b7⟩
      have HV7 : Hid (IsBytes w7 v7 (full b)) := hown.reads.bytes
      have HW7 : Hid (IsBytes w7 (.slice xa xn xc) (full b)) := HV6.out.below b7
      have B7 : Hid (Below w.heap.size w w7) := B6.out.trans (b7.mono B6.out.size)
      obtain ⟨ua, un, uc, rfl⟩ : ∃ a n c, v7 = .slice a n c := by obtain ⟨a, n, c, h, _⟩ := hown.form_; exact ⟨a, n, c, h⟩
      clear hown b7 B6 HV6
      go_wp2_with fail
      refine (same_any _ _ (full b) (full b) _ HW7.out HV7.out).mono ?_
      rintro e w8 ⟨rfl, n8, rfl⟩
      rw [decide_eq_true rfl]
      go_wp2
      go_ret
      exact ⟨rfl, below_drewN B7.out _⟩
theorem diskFlushed_law (i : Int) (v vo : Value) (b : List B8) (ts : List DOp) (w : World) (hv : IsBytes w v b) (ho : OpsIs w vo ts) :
    Calls Try.prog 5 #[.int .i64 i, v, vo] w fun e w' => e = .returned (.bool true) ∧ Below w.heap.size w w' := by
  by_cases h : fewD 80 300 100 ts = false ∨ i < 0 ∨ 15 < i ∨ 128 < b.length
  · exact diskFlushed_no i v vo b ts w hv ho h
  · have hf : fewD 80 300 100 ts = true := by
      cases hf : fewD 80 300 100 ts with
      | true => rfl
      | false => exact absurd (.inl hf) h
    exact diskFlushed_yes i v vo b ts w hv ho hf (by omega) (by omega) (by omega)
end Go.Proofs.Ytcnhjbipncledaa
