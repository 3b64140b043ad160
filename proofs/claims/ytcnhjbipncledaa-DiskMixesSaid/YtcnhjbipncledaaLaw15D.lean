/- The law DiskMixes, walked. -/
import Derived.Test.YtcnhjbipncledaaLaw15B
import Derived.Test.YtcnhjbipncledaaAllM
namespace Go.Proofs.Ytcnhjbipncledaa
open Go.RowKit

theorem fates_apart' {w : World} {v : Value} {fs : List (Int × Int)} {F : List Nat} (h : IsFates w v fs) (hF : ∀ x ∈ F, w.heap.size ≤ x) : ∀ b c n, v = .slice (some b) n c → fs ≠ [] → b.block ∉ F := fun b c n hv h0 hx => by
  have := h.lt h0 b c n hv
  have := hF _ hx
  omega
theorem IsFates.below' {w w' : World} {v : Value} {fs : List (Int × Int)} (h : IsFates w v fs) (hb : Below w.heap.size w w') : IsFates w' v fs := h.keep hb.size fun _ _ _ _ hlt _ => hb.block _ hlt
/-- The disk while the list is written. -/
structure Mixing (old : List B8) (L : List (List B8)) (s : Dk) : Prop where
  blocks : s.blocks = 1
  down : s.down = false
  armed : s.armed = false
  blk : s.blk 0 = full old
  under : s.under = L.map fun b => (0, full b)
theorem Mixing.start {old : List B8} (hb : old.length ≤ 128) : (Dk.fresh 1).write 0 old = ((Dk.fresh 1).lay 0 old, 0) ∧ ((Dk.fresh 1).lay 0 old).flush = (((Dk.fresh 1).lay 0 old).flushed, 0) ∧ Mixing old [] ((Dk.fresh 1).lay 0 old).flushed := by
  refine ⟨Dk.write_ok rfl (by decide) (by decide) hb rfl, Dk.flush_ok rfl rfl, (Dk.flushed_same _).1, (Dk.flushed_same _).2.2.2.1, (Dk.flushed_same _).2.1, ?_, rfl⟩
  show (((Dk.fresh 1).lay 0 old).puts ([] ++ [(0, full old)])).blk 0 = _
  exact Dk.puts_put _ _ _ _
theorem Mixing.write {old b : List B8} {L : List (List B8)} {s : Dk} (h : Mixing old L s) (hb : b.length ≤ 128) : s.write 0 b = (s.lay 0 b, 0) ∧ Mixing old (L ++ [b]) (s.lay 0 b) :=
  ⟨Dk.write_ok h.down (by decide) (by rw [h.blocks]; decide) hb h.armed, h.blocks, h.down, h.armed, h.blk, by show s.under ++ [(0, full b)] = _; rw [h.under]; simp⟩
theorem Mixing.crash {old : List B8} {L : List (List B8)} {s : Dk} (h : Mixing old L s) (ho : old.length ≤ 128) (hL : ∀ b ∈ L, b.length ≤ 128) (fs : List (Int × Int)) : (s.crash fs).read 0 = ((s.crash fs).blk 0, 0) ∧ Mixed ((old :: L).map full) ((s.crash fs).blk 0) := by
  constructor
  · have e : (s.crash fs).asked 0 = 0 := Dk.asked_ok rfl (by decide) (by show 0 < (s.strikes _).blocks; rw [(Dk.strikes_same _ _).2, h.blocks]; decide)
    unfold Dk.read
    rw [if_neg (by simp [e])]
    rfl
  · refine mixed_strikes (s.under.zip fs) s ?_ (fun x hx => ?_)
    · rw [h.blk]
      exact .of_mem (by simp) (full_length _ ho)
    · have hm := zip_fst hx
      rw [h.under] at hm
      obtain ⟨b, hb, e⟩ := List.mem_map.1 hm
      rw [← e]
      exact ⟨rfl, List.mem_map.2 ⟨b, List.mem_cons_of_mem _ hb, rfl⟩, full_length _ (hL b hb)⟩
theorem snoc_at {α : Type} {l : List α} {k : Nat} {x : α} (h : l[k]? = some x) : l.take (k + 1) = l.take k ++ [x] := by
  rw [List.take_add_one, h]; rfl
/-- A part of a list of texts, its slice's address known. -/
theorem parts_at {w : World} {a : Option Addr} {n c : Nat} {ps : List (List B8)} (h : IsParts w (.slice a n c) ps) (k : Nat) (hk : k < n) : ∃ B off ua un uc b, a = some ⟨B, off, none⟩ ∧ B < w.heap.size ∧ w.cell? ⟨B, off + k, none⟩ = some (.slice ua un uc) ∧ ps[k]? = some b ∧ IsBytes w (.slice ua un uc) b := by
  obtain ⟨a', len, cap, he, hl, hc, hm, hb⟩ := h
  injection he with e1 e2 e3
  subst e1 e2 e3
  rcases hb with rfl | ⟨B, off, us, ha, hlt, hul, hu, hi⟩
  · simp at hl; omega
  · have h1 : k < us.length := by omega
    have h2 : k < ps.length := by omega
    have hi' := hi k h1 h2
    have hu' := hu k h1
    obtain ⟨ua, un, uc, e, r⟩ := hi'
    exact ⟨B, off, ua, un, uc, ps[k], ha, hlt, by rw [hu', e], List.getElem?_eq_getElem h2, by rw [← e]; exact hi k h1 h2⟩
theorem full_all {old : List B8} {ps : List (List B8)} (h0 : old.length ≤ 128) (h : ∀ b ∈ ps, b.length ≤ 128) : ∀ x ∈ (old :: ps).map full, x.length = 128 := by
  intro x hx
  obtain ⟨b, hb, rfl⟩ := List.mem_map.1 hx
  rcases List.mem_cons.1 hb with rfl | hb
  · exact full_length _ h0
  · exact full_length _ (h b hb)
/-- The texts of a row, each with its address. -/
theorem all_at {w : World} {base : Nat} {F : List Nat} {a : Option Addr} {n c : Nat} {L : List (List B8)} (h : AllIs w base F (.slice a n c) L) (hL : ∀ x ∈ L, x.length = 128) : ∃ ga : Nat, n = L.length ∧ ∀ m, m < n → a = some ⟨ga, 0, none⟩ ∧ ∃ (x : List B8) (px : Addr) (cx : Nat), L[m]? = some x ∧ w.cell? ⟨ga, m, none⟩ = some (.slice (some ⟨px.block, px.off, none⟩) 128 cx) ∧ BytesAt w px.block px.off x := by
  obtain ⟨us, ho, hl, hx, hk⟩ := h
  have hn : n = us.length := by obtain ⟨a', c', e, _⟩ := ho.len; injection e
  rcases Nat.eq_zero_or_pos us.length with h0 | hp
  · exact ⟨0, by omega, fun m hm => by omega⟩
  · obtain ⟨g, cap, he, hat⟩ := ho.at_ hp
    injection he with e1 e2 e3
    refine ⟨g, by omega, fun m hm => ⟨e1, ?_⟩⟩
    have hum : us[m]? = some us[m] := List.getElem?_eq_getElem (by omega)
    have hLm : L[m]? = some L[m] := List.getElem?_eq_getElem (by omega)
    obtain ⟨hb, p, n', c', hu, _⟩ := hx m _ _ hum hLm
    have hl' := hL _ (List.mem_of_getElem? hLm)
    obtain ⟨a2, len2, cap2, hu2, hl2, _, _, hb2⟩ := hb
    rcases hb2 with h0 | ⟨B, off, ha2, _, hB⟩
    · rw [h0] at hl'; simp at hl'
    · exact ⟨L[m], ⟨B, off, none⟩, cap2, hLm, by rw [hat.cell m (by omega), hu2, ha2, hl2, hl'], hB⟩
set_option maxHeartbeats 1000000 in
theorem diskMixes_no (v vp vf : Value) (old : List B8) (ps : List (List B8)) (fs : List (Int × Int)) (w : World) (hv : IsBytes w v old) (hp : IsParts w vp ps) (hf : IsFates w vf fs) (h : 128 < old.length ∨ 20 < ps.length ∨ 100 < fs.length) :
    Calls Try.prog 4 #[v, vp, vf] w fun e w' => e = .returned (.bool true) ∧ Below w.heap.size w w' := by
  obtain ⟨va, vn, vc, rfl, hvn⟩ : ∃ a n c, v = .slice a n c ∧ n = old.length := by obtain ⟨a, n, c, h, hl, _⟩ := hv; exact ⟨a, n, c, h, hl⟩
  obtain ⟨pa, pn, pc, rfl, hpn⟩ : ∃ a n c, vp = .slice a n c ∧ n = ps.length := by obtain ⟨a, n, c, h, hl, _⟩ := hp; exact ⟨a, n, c, h, hl⟩
  obtain ⟨fa, fn, fc, rfl, hfn⟩ : ∃ a n c, vf = .slice a n c ∧ n = fs.length := by obtain ⟨a, c, h, _⟩ := hf; exact ⟨a, _, c, h, rfl⟩
  rw [← hvn, ← hpn, ← hfn] at h
  clear hv hp hf hvn hpn hfn
  by_cases h0 : 128 < vn
  · have g0 : decide (128 < (vn : Int)) = true := decide_eq_true (by omega)
    clear h h0
    go_enter Try.func4, Try.ntmps4
    go_wp2_with (go_at_call 12; refine (awake15_any _).mono ?_; rintro e w1 ⟨rfl, HB1⟩; have HB2 := Lib.hid HB1; clear HB1)
    go_ret
    exact ⟨rfl, HB2.out⟩
  · have g0 : decide (128 < (vn : Int)) = false := decide_eq_false (by omega)
    by_cases h1 : 20 < pn
    · have g1 : decide (20 < (pn : Int)) = true := decide_eq_true (by omega)
      clear h h0 h1
      go_enter Try.func4, Try.ntmps4
      go_wp2_with (go_at_call 12; refine (awake15_any _).mono ?_; rintro e w1 ⟨rfl, HB1⟩; have HB2 := Lib.hid HB1; clear HB1)
      go_ret
      exact ⟨rfl, HB2.out⟩
    · have g1 : decide (20 < (pn : Int)) = false := decide_eq_false (by omega)
      have g2 : decide (100 < (fn : Int)) = true := decide_eq_true (by omega)
      clear h h0 h1
      go_enter Try.func4, Try.ntmps4
      go_wp2_with (go_at_call 12; refine (awake15_any _).mono ?_; rintro e w1 ⟨rfl, HB1⟩; have HB2 := Lib.hid HB1; clear HB1)
      go_ret
      exact ⟨rfl, HB2.out⟩
set_option maxRecDepth 10000 in
set_option maxHeartbeats 4000000 in
theorem diskMixes_yes (v vp vf : Value) (old : List B8) (ps : List (List B8)) (fs : List (Int × Int)) (w : World) (hv : IsBytes w v old) (hp : IsParts w vp ps) (hf : IsFates w vf fs) (h0 : old.length ≤ 128) (h1 : ps.length ≤ 20) (h2 : fs.length ≤ 100) :
    Calls Try.prog 4 #[v, vp, vf] w fun e w' => e = .returned (.bool true) ∧ Below w.heap.size w w' := by
  obtain ⟨va, vn, vc, rfl, hvn⟩ : ∃ a n c, v = .slice a n c ∧ n = old.length := by obtain ⟨a, n, c, h, hl, _⟩ := hv; exact ⟨a, n, c, h, hl⟩
  obtain ⟨pa, pn, pc, rfl, hpn⟩ : ∃ a n c, vp = .slice a n c ∧ n = ps.length := by obtain ⟨a, n, c, h, hl, _⟩ := hp; exact ⟨a, n, c, h, hl⟩
  obtain ⟨fa, fn, fc, rfl, hfn⟩ : ∃ a n c, vf = .slice a n c ∧ n = fs.length := by obtain ⟨a, c, h, _⟩ := hf; exact ⟨a, _, c, h, rfl⟩
  have HV := Lib.hid hv
  have HP := Lib.hid hp
  have HF := Lib.hid hf
  have HPN := Lib.hid hpn
  have ST := Lib.hid (Mixing.start h0)
  have H0 := Lib.hid h0
  have pl : pn ≤ 20 := by omega
  have HPL := Lib.hid pl
  have g0 : decide (128 < (vn : Int)) = false := decide_eq_false (by omega)
  have g1 : decide (20 < (pn : Int)) = false := decide_eq_false (by omega)
  have g2 : decide (100 < (fn : Int)) = false := decide_eq_false (by omega)
  clear hv hp hf hvn hpn hfn h0 h1 h2 pl
  go_enter Try.func4, Try.ntmps4
  go_wp2_with (go_at_call 12; refine (awake15_any _).mono ?_; rintro e w1 ⟨rfl, HB1⟩; have HB2 := Lib.hid HB1; clear HB1)
  refine (newF w1 1 (by decide) (by decide)).mono ?_
  rintro e w3 ⟨rfl, ⟨F3, h3, gr3⟩, b3⟩
  obtain ⟨D, hD⟩ : ∃ D, D = w1.heap.size + 1 := ⟨_, rfl⟩
  rw [← hD] at h3 ⊢
  have B3 : Hid (Below w.heap.size w w3) := HB2.out.trans (b3.mono HB2.out.size)
  have G3 : Hid (∀ x ∈ F3, w.heap.size ≤ x) := fun x hx => Nat.le_trans HB2.out.size (gr3 x hx)
  have H3 := Lib.hid h3
  clear h3 gr3 b3 HB2 hD
  go_wp2_with fail
  refine (writeF _ _ F3 _ H3.out 0 va vn vc old (HV.out.below B3.out) (by decide)).mono ?_
  rintro e w4 ⟨rfl, ⟨F4, h4, gr4⟩, c4⟩
  rw [ST.out.1] at h4 ⊢
  have B4 : Hid (Below w.heap.size w w4) := B3.out.trans (c4.below B3.out.size G3.out)
  have G4 : Hid (∀ x ∈ F4, w.heap.size ≤ x) := gr4.above B3.out.size G3.out
  have H4 := Lib.hid h4
  clear h4 gr4 c4 H3 G3 B3
  go_wp2_with fail
  refine (flushF _ _ F4 _ H4.out).mono ?_
  rintro e w5 ⟨rfl, ⟨F5, h5, gr5⟩, c5⟩
  rw [ST.out.2.1] at h5 ⊢
  have B5 : Hid (Below w.heap.size w w5) := B4.out.trans (c5.below B4.out.size G4.out)
  have G5 : Hid (∀ x ∈ F5, w.heap.size ≤ x) := gr5.above B4.out.size G4.out
  have H5 := Lib.hid h5
  clear h5 gr5 c5 H4 G4 B4
  go_wp2_with fail
  refine (full_any _ old _ (HV.out.below B5.out) H0.out).mono ?_
  rintro e w6 ⟨v6, rfl, hown, b6⟩
  have A6 : Hid (AllIs (w6.alloc (.cells #[v6] 30)) w.heap.size F5 (.slice (some ⟨w6.heap.size, 0, none⟩) 1 1) [full old]) := AllIs.one H5.out hown b6.size rfl B5.out.size (by rw [full_length _ H0.out]; decide)
  have B6 : Hid (Below w.heap.size w (w6.alloc (.cells #[v6] 30))) := (B5.out.trans (b6.mono B5.out.size)).alloc (Nat.le_trans B5.out.size b6.size) _
  have H6 : Hid (DiskF (w6.alloc (.cells #[v6] 30)) D F5 ((Dk.fresh 1).lay 0 old).flushed) := (H5.out.below b6).alloc _
  obtain ⟨xa, xn, xc, rfl⟩ : ∃ a n c, v6 = .slice a n c := by obtain ⟨a, n, c, h, _⟩ := hown.form_; exact ⟨a, n, c, h⟩
  clear hown b6 H5 B5
  go_wp2
  go_loopw [9, 56] (fun va j wr => ∃ (k : Nat) (F : List Nat) (s : Dk) (a : Option Addr) (n c : Nat), k ≤ pn ∧ j = .int .i64 k ∧ va = .slice a n c ∧ Hid (DiskF wr D F s) ∧ Hid (Mixing old (ps.take k) s) ∧ Hid (∀ x ∈ F, w.heap.size ≤ x) ∧ Hid (AllIs wr w.heap.size F (.slice a n c) ((old :: ps.take k).map full)) ∧ Hid (∀ b ∈ ps.take k, b.length ≤ 128) ∧ Hid (Below w.heap.size w wr)) (fun _ j _ => pn - (intOf j).toNat)
  case atStart => exact ⟨0, F5, _, _, _, _, Nat.zero_le _, rfl, rfl, H6.out, ST.out.2.2, G5.out, A6.out, (by unfold Hid; simp), B6.out⟩
  case round =>
    obtain ⟨k, F, s, a, n, c, hk, rfl, rfl, hd, hst, hF, hall, hls, hbl⟩ := hrel
    by_cases hlt : k < pn
    · obtain ⟨B, off, ua, un, uc, b, rfl, hBl, hcell, hbk, hbs⟩ := parts_at HP.out k hlt
      have hcell' := (World.cell?_of_block (a := ⟨B, off + k, none⟩) (hbl.out.block B hBl)).trans hcell
      have hun : un = b.length := by obtain ⟨_, _, _, h, hl, _⟩ := hbs; injection h with _ h _; rw [h, hl]
      have HBS := Lib.hid hbs
      have HBK := Lib.hid hbk
      have kb : (k : Int) ≤ 20 := by have := HPL.out; omega
      by_cases hbig : 128 < un
      · have g3 : decide (128 < (un : Int)) = true := decide_eq_true (by omega)
        clear hcell hun hbig hbs hbk
        go_wp2
        go_ret
        exact ⟨rfl, hbl.out⟩
      · have g3 : decide (128 < (un : Int)) = false := decide_eq_false (by omega)
        have HBL : Hid (b.length ≤ 128) := by unfold Hid; omega
        have HU : Hid (s.under.length ≤ 1000000) := by unfold Hid; rw [hst.out.under, List.length_map, List.length_take]; omega
        have W := Lib.hid (hst.out.write HBL.out)
        clear hcell hun hbig hbs hbk
        go_wp2_with fail
        refine (writeF _ _ F s hd.out 0 ua un uc b (HBS.out.below hbl.out) HU.out).mono ?_
        rintro e w7 ⟨rfl, ⟨F7, h7, gr7⟩, c7⟩
        rw [W.out.1] at h7 ⊢
        have B7 : Hid (Below w.heap.size w w7) := hbl.out.trans (c7.below hbl.out.size hF.out)
        have G7 : Hid (∀ x ∈ F7, w.heap.size ≤ x) := gr7.above hbl.out.size hF.out
        have A7 : Hid (AllIs w7 w.heap.size F7 (.slice a n c) ((old :: ps.take k).map full)) := hall.out.turn c7 gr7
        have H7 := Lib.hid h7
        clear h7 gr7 c7 hd hall hbl hF hcell'
        go_wp2_with fail
        refine (full_any _ b _ (HBS.out.below B7.out) HBL.out).mono ?_
        rintro e w8 ⟨v8, rfl, hown8, b8⟩
        obtain ⟨ya, yn, yc, rfl⟩ : ∃ a n c, v8 = .slice a n c := by obtain ⟨a, n, c, h, _⟩ := hown8.form_; exact ⟨a, n, c, h⟩
        obtain ⟨us, hau⟩ := A7.out
        have HAU := Lib.hid hau
        have HL8 : Hid (us.length ≤ 21) := by unfold Hid; rw [hau.len]; simp; omega
        have HO8 : Hid (Own (w8.alloc (.cells #[.slice ya yn yc] 30)) w.heap.size 30 (.slice a n c) us) := (hau.own.below b8).alloc _
        have B8' := Lib.hid b8
        have HOWN8 := Lib.hid hown8
        have B8 : Hid (Below w.heap.size w (w8.alloc (.cells #[.slice ya yn yc] 30))) := (B7.out.trans (b8.mono B7.out.size)).alloc (Nat.le_trans B7.out.size b8.size) _
        clear hau b8 hown8 A7
        go_wp2_with (at_builtin; refine wpl_append rfl (.tmp 67) (.tmp 70) 34 rfl elemRow rfl HO8.out rfl (Reads.one _ _ _) (by intro u hu; simp at hu; subst hu; rfl) (by have := HL8.out; simp only [List.length_singleton]; omega) (by have := HL8.out; simp only [List.length_singleton]; unfold maxLen; omega) ?_; intro v9 w9 hown9 hg9 hv9; have HB9 : Hid (Below w.heap.size w w9) := below_grown B8.out HO8.out hg9 (Nat.le_refl _); have H9 : Hid (DiskF w9 D F7 (s.lay 0 b)) := ((H7.out.below B8'.out).alloc _).chg (Chg.of_grown hg9) (fun x hx hx' => by simp at hx'; exact HAU.out.out x hx' hx); have A9 : Hid (AllIs w9 w.heap.size F7 v9 ((old :: ps.take k).map full ++ [full b])) := HAU.out.snoc H7.out HOWN8.out (by rw [full_length _ HBL.out]; decide) B8'.out ((Below.refl _ _).alloc (Nat.le_refl _) _) hown9 hg9 hv9; obtain ⟨za, zn, zc, rfl, _⟩ := hown9.form_; clear hown9 hg9 hv9)
        refine ⟨⟨k + 1, F7, _, za, zn, zc, hlt, by go_num, rfl, H9.out, ?_, G7.out, ?_, ?_, HB9.out⟩, by simp [intOf]; omega⟩
        · unfold Hid; rw [snoc_at HBK.out]; exact W.out.2
        · unfold Hid
          have := A9.out
          rw [snoc_at HBK.out]
          simpa using this
        · unfold Hid
          rw [snoc_at HBK.out]
          intro x hx
          rcases List.mem_append.1 hx with hx | hx
          · exact hls.out x hx
          · simp at hx; subst hx; exact HBL.out
    · have hkp : ps.take k = ps := List.take_of_length_le (by have := HPN.out; omega)
      rw [hkp] at hst hall hls
      have MX := Lib.hid (hst.out.crash H0.out hls.out fs)
      have LS := hls
      clear hkp hls
      go_wp2_with fail
      refine (crashF _ _ F s hd.out _ fs (HF.out.below' hbl.out) (fates_apart' HF.out hF.out)).mono ?_
      rintro e w7 ⟨rfl, ⟨F7, h7, gr7⟩, c7⟩
      have B7 : Hid (Below w.heap.size w w7) := hbl.out.trans (c7.below hbl.out.size hF.out)
      have A7 : Hid (AllIs w7 w.heap.size F7 (.slice a n c) ((old :: ps).map full)) := hall.out.turn c7 gr7
      have H7 := Lib.hid h7
      clear h7 gr7 c7 hd hall hbl hF
      go_wp2_with fail
      refine (downF _ _ F7 _ H7.out).mono ?_
      rintro e w8 ⟨rfl, rfl⟩
      rw [show (s.crash fs).down = false from rfl]
      go_wp2_with fail
      refine (underF _ _ F7 _ H7.out (Nat.zero_le _)).mono ?_
      rintro e w9 ⟨v9, rfl, hown9, b9⟩
      obtain ⟨xa, xc, rfl, -⟩ := hown9.len
      have B9 : Hid (Below w.heap.size w w9) := B7.out.trans (b9.mono B7.out.size)
      have A9 : Hid (AllIs w9 w.heap.size F7 (.slice a n c) ((old :: ps).map full)) := A7.out.below b9
      have H9 := Lib.hid (H7.out.below b9)
      clear b9 hown9 A7 H7 B7
      rw [show ((s.crash fs).under.map fun x : Int × List B8 => Value.int .i64 x.1).length = 0 from rfl]
      go_wp2_with fail
      refine (readF _ _ F7 _ H9.out 0).mono ?_
      rintro e w10 ⟨v10, rfl, hown10, b10⟩
      rw [MX.out.1] at hown10 ⊢
      have B10 : Hid (Below w.heap.size w w10) := B9.out.trans (b10.mono B9.out.size)
      have A10 : Hid (AllIs w10 w.heap.size F7 (.slice a n c) ((old :: ps).map full)) := A9.out.below b10
      obtain ⟨R, hR⟩ : ∃ R, R = (s.crash fs).blk 0 := ⟨_, rfl⟩
      rw [← hR] at hown10
      have MM : Hid (Mixed ((old :: ps).map full) R) := by unfold Hid; rw [hR]; exact MX.out.2
      have hRl : (R.map byteV).length = 128 := by rw [List.length_map]; exact MM.out.1
      obtain ⟨g, gc, rfl, hat⟩ := hown10.at_ (by rw [hRl]; decide)
      rw [hRl]
      have hcR : ∀ i, i < 128 → w10.cell? ⟨g, i, none⟩ = some (.int .u8 ((R.getD i 0#8).toNat : Int)) := fun i hi => by
        have h := hat.cell i (by rw [hRl]; exact hi)
        rw [h, List.getElem_map, List.getD_eq_getElem?_getD, List.getElem?_eq_getElem (by rw [List.length_map] at hRl; omega)]; rfl
      have HCR := Lib.hid hcR
      obtain ⟨ga, hga⟩ := all_at A10.out (full_all H0.out LS.out)
      have HGA := Lib.hid hga
      have hn : n = ((old :: ps).map full).length := hga.1
      have HNN := Lib.hid hn
      have hnb : n ≤ 21 := by rw [hn]; simp; have := HPN.out; have := HPL.out; omega
      obtain ⟨L, hL⟩ : ∃ L, L = (old :: ps).map full := ⟨_, rfl⟩
      rw [← hL] at HGA MM HNN
      have HXL : Hid (∀ x ∈ L, x.length = 128) := by unfold Hid; rw [hL]; exact full_all H0.out LS.out
      clear b10 hown10 A9 H9 B9 hat hcR hRl hga hn hR hL A10 MX hst
      go_wp2
      go_loop [101] (fun j => ∃ i : Nat, i ≤ 128 ∧ j = .int .i64 i) (fun j => 128 - (intOf j).toNat)
      case atStart => exact ⟨0, by omega, rfl⟩
      case round =>
        obtain ⟨i, hi, rfl⟩ := hrel
        by_cases hlt : i < 128
        · have hci := HCR.out i hlt
          have i1 : (0 : Int) ≤ (i : Int) ∧ (i : Int) < 128 := by omega
          obtain ⟨cb, hcb⟩ : ∃ cb, cb = R.getD i 0#8 := ⟨_, rfl⟩
          rw [← hcb] at hci
          have HCB := Lib.hid hcb
          clear hcb
          go_wp2
          go_loop [16, 108] (fun f j => ∃ (m : Nat) (fnd : Bool), m ≤ n ∧ j = .int .i64 m ∧ f = .bool fnd ∧ Hid (fnd = anyB (L.take m) i cb)) (fun _ j => n - (intOf j).toNat)
          case atStart => exact ⟨0, false, by omega, rfl, rfl, rfl⟩
          case round =>
            obtain ⟨m, fnd, hm, rfl, rfl, hfnd⟩ := hrel
            by_cases hlm : m < n
            ·
              obtain ⟨hga1, x, px, cx, hLx, hcx, hbx⟩ := HGA.out.2 m hlm
              subst hga1
              have m1 : (0 : Int) ≤ (m : Int) ∧ (m : Int) < (n : Int) := by omega
              have mb : (m : Int) ≤ 21 := by omega
              have HF1 : Hid (anyB (L.take (m + 1)) i cb = (fnd || (x.getD i 0#8 == cb))) := by unfold Hid; rw [anyB_snoc hLx, ← hfnd.out]
              have hxl : x.length = 128 := HXL.out x (List.mem_of_getElem? hLx)
              have hbi := hbx i (by omega)
              rw [show x[i]'(by omega) = x.getD i 0#8 by rw [List.getD_eq_getElem?_getD, List.getElem?_eq_getElem (by omega)]; rfl] at hbi
              obtain ⟨xi, hxi⟩ : ∃ xi, xi = x.getD i 0#8 := ⟨_, rfl⟩
              rw [← hxi] at hbi HF1
              clear hxi hxl hbx hLx hfnd
              cases fnd with
              | true =>
                go_wp2
                exact ⟨⟨m + 1, true, hlm, by go_num, rfl, by unfold Hid; rw [HF1.out]; rfl⟩, by simp [intOf]; omega⟩
              | false =>
                by_cases he : xi = cb
                · have e8 : ((xi.toNat : Int) == (cb.toNat : Int)) = true := by rw [he]; simp
                  have HE := Lib.hid he
                  clear he
                  go_wp2
                  exact ⟨⟨m + 1, true, hlm, by go_num, rfl, by unfold Hid; rw [HF1.out, HE.out]; simp⟩, by simp [intOf]; omega⟩
                · have e8 : ((xi.toNat : Int) == (cb.toNat : Int)) = false := by rw [beq_eq_false_iff_ne]; intro e; exact he (BitVec.eq_of_toNat_eq (by omega))
                  have HE := Lib.hid he
                  clear he
                  go_wp2
                  exact ⟨⟨m + 1, false, hlm, by go_num, rfl, by unfold Hid; rw [HF1.out, beq_eq_false_iff_ne.2 HE.out]; rfl⟩, by simp [intOf]; omega⟩
            · have hmn : L.take m = L := List.take_of_length_le (by have := HNN.out; omega)
              have hf : fnd = true := by
                rw [hfnd.out, hmn, HCB.out]
                exact anyB_of MM.out i hlt
              subst hf
              clear hmn hfnd
              go_wp2
              go_round
              case rel => exact ⟨i + 1, by omega, by go_num⟩
              case measure => simp [intOf]; omega
        · go_wp2
          go_ret
          exact ⟨rfl, B10.out⟩
theorem diskMixes_law (v vp vf : Value) (old : List B8) (ps : List (List B8)) (fs : List (Int × Int)) (w : World) (hv : IsBytes w v old) (hp : IsParts w vp ps) (hf : IsFates w vf fs) :
    Calls Try.prog 4 #[v, vp, vf] w fun e w' => e = .returned (.bool true) ∧ Below w.heap.size w w' := by
  by_cases h : 128 < old.length ∨ 20 < ps.length ∨ 100 < fs.length
  · exact diskMixes_no v vp vf old ps fs w hv hp hf h
  · exact diskMixes_yes v vp vf old ps fs w hv hp hf (by omega) (by omega) (by omega)
end Go.Proofs.Ytcnhjbipncledaa
