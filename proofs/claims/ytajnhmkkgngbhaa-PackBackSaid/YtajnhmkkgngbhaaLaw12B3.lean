/- The law PackBack, walked. -/
import Derived.Test.YtajnhmkkgngbhaaLaw12B2
namespace Go.Proofs.Ytajnhmkkgngbhaa
open Go.RowKit
open Pack (Got form room)

/-- Less than all is left to read; or it was told. -/
def CutSt (w : World) (S : Nat) (us : List Th) : Prop := (∃ c, c < (us.flatMap formOf).length ∧ ReaderIs w S ((us.flatMap formOf).take c) 0) ∨ ReaderEnd w S 120
theorem drop_thing {ts : List Th} {k : Nat} {t : Th} (h : ts[k]? = some t) : (ts.drop k).flatMap formOf = formOf t ++ (ts.drop (k + 1)).flatMap formOf := by
  obtain ⟨hk, rfl⟩ := List.getElem?_eq_some_iff.1 h
  rw [List.drop_eq_getElem_cons hk, List.flatMap_cons]
theorem drop_len {ts : List Th} (h : ts.all fewT = true) (hl : ts.length ≤ 40) (k : Nat) : ((ts.drop k).flatMap formOf).length ≤ 40400 := by
  have h1 : (ts.drop k).all fewT = true := List.all_eq_true.2 fun x hx => List.all_eq_true.1 h x (List.mem_of_mem_drop hx)
  have := forms_le _ h1
  rw [List.length_drop] at this
  have : 1010 * (ts.length - k) ≤ 1010 * 40 := Nat.mul_le_mul_left _ (by omega)
  omega
theorem again_cut (S : Nat) (t : Th) (pb pl pf : Option Addr) (nb cb nl cl nf cf : Nat) (ts : List Th) (k : Nat) (w0 w : World) (h0 : Below w0.heap.size w0 w) (hlo : w0.heap.size ≤ S)
    (ht : ThIs w0 (.slice pb nb cb) (.slice pl nl cl) (.slice pf nf cf) t) (hf : fewT t = true) (hk : ts[k]? = some t) (hl : ((ts.drop k).flatMap formOf).length ≤ 40400) (h : CutSt w S (ts.drop k)) :
    Calls Try.prog 22 #[.agg #[.int .i64 t.kind, .int .u64 t.u, .int .i64 t.n, .int .i64 t.x, .slice pb nb cb, .slice pl nl cl, .slice pf nf cf], .pointer (some ⟨S, 0, none⟩)] w
      fun e w' => (∃ r, e = .returned (.bool r)) ∧ CutSt w' S (ts.drop (k + 1)) ∧ Chg [S] w w' := by
  have ok := ht.ok hf
  rcases h with ⟨c, hc, hR⟩ | hE
  · have hd := drop_thing hk
    rw [hd] at hc hR hl
    by_cases hlt : c < (formOf t).length
    · rw [List.take_append_of_le_length (by omega)] at hR
      refine (again_got S t pb pl pf nb cb nl cl nf cf _ _ w0 w h0 hlo ht hf hR (by rw [List.length_take]; omega) (gets_cut ok c hlt)).mono fun e w' ⟨⟨r, h1, _⟩, h2, h3⟩ => ⟨⟨r, h1⟩, .inr h2, h3⟩
    · rw [List.take_append, List.take_of_length_le (by omega)] at hR
      refine (again_got S t pb pl pf nb cb nl cl nf cf _ _ w0 w h0 hlo ht hf hR (by rw [List.length_append, List.length_take]; rw [List.length_append] at hl; omega) (gets_back ok _)).mono fun e w' ⟨⟨r, h1, _⟩, h2, h3⟩ => ⟨⟨r, h1⟩, .inl ⟨c - (formOf t).length, by rw [List.length_append] at hc; omega, h2⟩, h3⟩
  · refine (again_shut _ 120 t pb pl pf nb cb nl cl nf cf w (.bad S 120 hE (by decide)) (ht.below h0) hf).mono fun e w' ⟨h1, h2⟩ => ⟨h1, .inr (hE.chg (Chg.of_below h2 : Chg [] w w') (by simp)), Chg.of_below h2⟩
set_option maxHeartbeats 1000000 in
theorem packBack_out (v : Value) (ts : List Th) (cut : Int) (w : World) (hv : ThsIs w v ts) (hf : fewB ts = false ∨ cut < 0) :
    Calls Try.prog 7 #[v, .int .i64 cut] w fun e w' => e = .returned (.bool true) ∧ Below w.heap.size w w' := by
  have HV := Lib.hid hv
  obtain ⟨a, len, cap, rfl, hl, hc, hm, _⟩ := hv
  clear hl
  cases hfb : fewB ts with
  | false =>
    clear hf
    go_enter Try.func7, Try.ntmps7
    go_wp2_with fail
    refine (awake12_any w).mono ?_
    rintro e w1 ⟨rfl, hb1⟩
    have HB1 := Lib.hid hb1
    clear hb1
    go_wp2_with fail
    refine (few_any _ ts w1 (HV.out.below HB1.out)).mono ?_
    rintro e w2 ⟨rfl, hb2⟩
    have HB2 : Hid (Below w.heap.size w w2) := HB1.out.trans (hb2.mono HB1.out.size)
    rw [hfb]
    clear hb2
    go_wp2_with fail
    go_ret
    exact ⟨rfl, HB2.out⟩
  | true =>
    have h0 : cut < 0 := by rcases hf with h | h; rw [hfb] at h; cases h; exact h
    clear hf
    go_enter Try.func7, Try.ntmps7
    go_wp2_with fail
    refine (awake12_any w).mono ?_
    rintro e w1 ⟨rfl, hb1⟩
    have HB1 := Lib.hid hb1
    clear hb1
    go_wp2_with fail
    refine (few_any _ ts w1 (HV.out.below HB1.out)).mono ?_
    rintro e w2 ⟨rfl, hb2⟩
    have HB2 : Hid (Below w.heap.size w w2) := HB1.out.trans (hb2.mono HB1.out.size)
    rw [hfb]
    clear hb2
    go_wp2_with fail
    go_ret
    exact ⟨rfl, HB2.out⟩
set_option maxRecDepth 100000 in
set_option maxHeartbeats 4000000 in
theorem packBack_in (v : Value) (ts : List Th) (cn : Nat) (w : World) (hv : ThsIs w v ts) (hf : fewB ts = true) (hcn : cn ≤ 9223372036854775807) :
    Calls Try.prog 7 #[v, .int .i64 (cn : Int)] w fun e w' => e = .returned (.bool true) ∧ Below w.heap.size w w' := by
  have HV := Lib.hid hv
  have HF := Lib.hid hf
  have HP := Lib.hid (fewB_parts hf)
  obtain ⟨a, len, cap, rfl, hl, hc, hm, _⟩ := hv
  have h40 : len ≤ 40 := by have := HP.out.1; omega
  have HL := Lib.hid hl
  have HALL : Hid ((ts.flatMap formOf).length ≤ 40400) := drop_len HP.out.2 HP.out.1 0
  clear hf hl
  have hn0 : ¬ ((cn : Int) < 0) := by omega
  go_enter Try.func7, Try.ntmps7
  go_wp2_with fail
  refine (awake12_any w).mono ?_
  rintro e w1 ⟨rfl, hb1⟩
  have HB1 := Lib.hid hb1
  clear hb1
  go_wp2_with fail
  refine (few_any _ ts w1 (HV.out.below HB1.out)).mono ?_
  rintro e w2 ⟨rfl, hb2⟩
  have HB2 : Hid (Below w.heap.size w w2) := HB1.out.trans (hb2.mono HB1.out.size)
  rw [HF.out]
  clear hb2
  go_wp2_with fail
  obtain ⟨W, hW⟩ : ∃ W, W = w2.heap.size := ⟨_, rfl⟩
  have HW : Hid (w.heap.size ≤ W) := by unfold Hid; rw [hW]; exact HB2.out.size
  have HB3 : Hid (Below w.heap.size w (w2.alloc (.cells #[.slice none 0 0, .bool false] 26))) := HB2.out.alloc HB2.out.size _
  have HN : Hid (WrAt (w2.alloc (.cells #[.slice none 0 0, .bool false] 26)) W none ([], false)) := WrAt.new hW.symm
  rw [← hW]
  clear hW
  go_loopw [7, 29] (fun _ i wr => ∃ k : Nat, i = .int .i64 k ∧ k ≤ len ∧ Hid (WrIs wr W ((ts.take k).flatMap formOf, false)) ∧ Hid (Below w.heap.size w wr)) (fun _ i _ => len - (intOf i).toNat)
  case atStart => exact ⟨0, rfl, Nat.zero_le _, HN.out.is, HB3.out⟩
  case round =>
    obtain ⟨k, rfl, hk, hwr, hb⟩ := hrel
    by_cases hlt : k < len
    · have hbw := hb.out
      obtain ⟨b, off, t, rfl, htk, hat⟩ := HV.out.at_ k hlt
      obtain ⟨pb, pl, pf, nb, cb, nl, cl, nf, cf, h0, h1, h2, h3, h4, h5, h6, ht⟩ := hat
      have kk : ∀ o, wr.cell? ⟨b, o, none⟩ = w.cell? ⟨b, o, none⟩ := fun o => hbw.cell (p := ⟨b, o, none⟩) (cell_lt h0)
      rw [← kk] at h0 h1 h2 h3 h4 h5 h6
      clear kk
      have HT := Lib.hid ht
      have HTK := Lib.hid htk
      have HFT : Hid (fewT t = true) := (List.all_eq_true.1 HP.out.2) t (List.mem_of_getElem? htk)
      obtain ⟨wa, hwa⟩ : ∃ wa, wa = wr.alloc (.cells #[.int .i64 t.kind, .int .u64 t.u, .int .i64 t.n, .int .i64 t.x, .slice pb nb cb, .slice pl nl cl, .slice pf nf cf] 40) := ⟨_, rfl⟩
      have HBWA : Hid (Below wr.heap.size wr wa) := by unfold Hid; rw [hwa]; exact (Below.refl _ _).alloc (Nat.le_refl _) _
      have HOK : Hid (ThOk t) := ht.ok HFT.out
      obtain ⟨kb, hkb⟩ := hwr.out.at_
      have HKB := Lib.hid hkb
      clear ht htk hkb hbw
      go_wp2_with fail
      rw [← hwa]
      clear hwa h0 h1 h2 h3 h4 h5 h6
      refine (write_any (some W) kb ((ts.take k).flatMap formOf, false) t pb pl pf nb cb nl cl nf cf wa (HKB.out.below HBWA.out) (HT.out.below (hb.out.trans (HBWA.out.mono hb.out.size))) (few_mid HFT.out)).mono ?_
      rintro e w3 ⟨⟨r, rfl⟩, hw3, hb3, hc3⟩
      have HW3 : Hid (WrIs w3 W ((ts.take (k + 1)).flatMap formOf, false)) := by
        have hle := forms_le (ts.take (k + 1)) (take_all HP.out.2 (k + 1))
        have hl40 : (ts.take (k + 1)).length ≤ 40 := by rw [List.length_take]; have := HP.out.1; omega
        have e : (ts.take (k + 1)).flatMap formOf = (ts.take k).flatMap formOf ++ formOf t := by
          rw [take_snoc? HTK.out, List.flatMap_append, List.flatMap_cons, List.flatMap_nil, List.append_nil]
        rw [e, List.length_append] at hle
        unfold Hid
        rw [e, ← wOf_room _ _ (by omega)]
        exact hw3
      have HB3 : Hid (Below w.heap.size w w3) := (hb.out.trans (HBWA.out.mono hb.out.size)).trans (hb3.mono HW.out)
      clear hw3 hb3 hc3
      go_wp2_with fail
      exact ⟨⟨k + 1, by go_num, by omega, HW3.out, HB3.out⟩, by simp [intOf]; omega⟩
    · obtain rfl : k = len := by omega
      have HTK : Hid (ts.take k = ts) := List.take_of_length_le (by have := HL.out; omega)
      have HWR : Hid (WrIs wr W (ts.flatMap formOf, false)) := by have := hwr.out; rwa [HTK.out] at this
      clear hlt
      go_wp2_with fail
      refine (done_st W _ wr HWR.out).mono ?_
      rintro e w4 ⟨ba, bn, bc, rfl, hby, hbl⟩
      have HBY := Lib.hid hby
      have HBN : Hid (bn = (ts.flatMap formOf).length ∧ bn ≤ bc ∧ bc ≤ 9223372036854775807) := by
        obtain ⟨_, _, _, he, h1, h2, h3, _⟩ := hby
        injection he with e1 e2 e3
        subst e2 e3
        exact ⟨h1, h2, h3⟩
      have HB4 : Hid (Below w.heap.size w w4) := hb.out.trans (hbl.mono hb.out.size)
      clear hby hbl hwr hb HWR
      go_wp2_with fail
      refine (read_is _ _ w4 HBY.out (by have := HALL.out; omega)).mono ?_
      rintro e w5 ⟨R, rfl, hr5, hge5, hb5, -⟩
      have HR5 : Hid (ReaderIs w5 R ((ts.drop 0).flatMap formOf) 0) := hr5
      have HGE5 : Hid (w4.heap.size < R) := hge5
      have HB5 : Hid (Below w4.heap.size w4 w5) := hb5
      clear hr5 hge5 hb5
      go_wp2_with fail
      go_loopw [12, 48] (fun _ i wr => ∃ j : Nat, i = .int .i64 j ∧ j ≤ k ∧ Hid (ReaderIs wr R ((ts.drop j).flatMap formOf) 0) ∧ Hid (Below w4.heap.size w4 wr)) (fun _ i _ => k - (intOf i).toNat)
      case atStart => exact ⟨0, rfl, Nat.zero_le _, HR5.out, HB5.out⟩
      case round =>
        obtain ⟨j, rfl, hj, hrj, hbj⟩ := hrel
        have HBJ : Hid (Below w.heap.size w wr) := HB4.out.trans (hbj.out.mono HB4.out.size)
        by_cases hlt : j < k
        · have hbw := HBJ.out
          obtain ⟨b, off, t, rfl, htk, hat⟩ := HV.out.at_ j hlt
          obtain ⟨pb, pl, pf, nb, cb, nl, cl, nf, cf, h0, h1, h2, h3, h4, h5, h6, ht⟩ := hat
          have kk : ∀ o, wr.cell? ⟨b, o, none⟩ = w.cell? ⟨b, o, none⟩ := fun o => hbw.cell (p := ⟨b, o, none⟩) (cell_lt h0)
          rw [← kk] at h0 h1 h2 h3 h4 h5 h6
          clear kk
          have HT := Lib.hid ht
          have HTK := Lib.hid htk
          have HFT : Hid (fewT t = true) := (List.all_eq_true.1 HP.out.2) t (List.mem_of_getElem? htk)
          obtain ⟨wa, hwa⟩ : ∃ wa, wa = wr.alloc (.cells #[.int .i64 t.kind, .int .u64 t.u, .int .i64 t.n, .int .i64 t.x, .slice pb nb cb, .slice pl nl cl, .slice pf nf cf] 40) := ⟨_, rfl⟩
          have HBWA : Hid (Below wr.heap.size wr wa) := by unfold Hid; rw [hwa]; exact (Below.refl _ _).alloc (Nat.le_refl _) _
          have HOK : Hid (ThOk t) := ht.ok HFT.out
          clear ht htk hbw
          go_wp2_with fail
          rw [← hwa]
          clear hwa h0 h1 h2 h3 h4 h5 h6
          have HRA : Hid (ReaderIs wa R (formOf t ++ (ts.drop (j + 1)).flatMap formOf) 0) := by
            have h := hrj.out.chg (Chg.of_below HBWA.out : Chg [] wr wa) (by simp)
            rwa [drop_thing HTK.out] at h
          refine (again_got R t pb pl pf nb cb nl cl nf cf _ _ w wa (HBJ.out.trans (HBWA.out.mono HBJ.out.size)) (by have := HGE5.out; have := HB4.out.size; omega) HT.out HFT.out HRA.out (by rw [← drop_thing HTK.out]; have := drop_len HP.out.2 HP.out.1 j; omega) (gets_back HOK.out _)).mono ?_
          rintro e w6 ⟨⟨r, rfl, hr⟩, hst, hc6⟩
          obtain rfl : r = true := hr ⟨_, rfl⟩
          have HR6 : Hid (ReaderIs w6 R ((ts.drop (j + 1)).flatMap formOf) 0) := hst
          have HB6 : Hid (Below w4.heap.size w4 w6) := (hbj.out.trans (HBWA.out.mono hbj.out.size)).trans (hc6.below (Nat.le_trans hbj.out.size HBWA.out.size) (by intro z hz; simp at hz; have := HGE5.out; omega))
          clear hr hst hc6
          go_wp2_with fail
          exact ⟨⟨j + 1, by go_num, by omega, HR6.out, HB6.out⟩, by simp [intOf]; omega⟩
        · have HRE : Hid (ReaderIs wr R [] 0) := by
            have h := hrj.out
            rwa [List.drop_of_length_le (by have := HL.out; omega)] at h
          have HBYR : Hid (IsBytes wr (.slice ba bn bc) (ts.flatMap formOf)) := HBY.out.below hbj.out
          have HDONE := Lib.hid ((rdone_is R [] wr HRE.out).mono (R' := fun x w' => x = .returned (.int .i64 0) ∧ wr = w') (fun _ _ h => h))
          obtain ⟨-, hbn1, hbn2⟩ := HBN.out
          by_cases hz : bn = 0
          · subst hz
            go_wp2_with fail
            refine HDONE.out.mono ?_
            rintro e w6 ⟨rfl, rfl⟩
            go_wp2_with fail
            refine HDONE.out.mono ?_
            rintro e w6 ⟨rfl, rfl⟩
            go_wp2_with fail
            go_ret
            exact ⟨rfl, HBJ.out⟩
          · have hzb : ((bn : Int) == 0) = false := by rw [beq_eq_false_iff_ne]; omega
            go_wp2_with fail
            refine HDONE.out.mono ?_
            rintro e w6 ⟨rfl, rfl⟩
            have hm1 : (cn : Int) % (bn : Int) ≤ (bc : Int) := by
              have h := Int.emod_lt_of_pos (cn : Int) (b := (bn : Int)) (by omega)
              omega
            have hm0 : (0 : Int) ≤ (cn : Int) % (bn : Int) := Int.emod_nonneg _ (by omega)
            have hcc : cn % bn < bn := Nat.mod_lt _ (by omega)
            have HCC : Hid (cn % bn < (ts.flatMap formOf).length) := by unfold Hid; rw [← HBN.out.1]; exact hcc
            have HSUB : Hid (IsBytes wr (.slice ba (cn % bn) bc) ((ts.flatMap formOf).take (cn % bn))) := by
              obtain ⟨_, _, _, he, h1, h2, h3, h4⟩ := HBYR.out
              injection he with e1 e2 e3
              subst e1 e2 e3
              refine ⟨_, _, _, rfl, by rw [List.length_take]; omega, by omega, h3, ?_⟩
              rcases h4 with h | ⟨b, off, rfl, hb, hat⟩
              · left; rw [h]; simp
              · exact .inr ⟨b, off, rfl, hb, hat.take _⟩
            clear hz hzb HBN HBYR hrj
            go_wp2_with fail
            refine (read_is _ _ wr HSUB.out (by rw [List.length_take]; have := HALL.out; omega)).mono ?_
            rintro e w6 ⟨S, rfl, hr6, hge6, hb6, -⟩
            have HST6 : Hid (CutSt w6 S (ts.drop 0)) := .inl ⟨cn % bn, HCC.out, hr6⟩
            have HGE6 : Hid (w.heap.size ≤ S) := by unfold Hid; have := HBJ.out.size; omega
            have HB6 : Hid (Below w.heap.size w w6) := HBJ.out.trans (hb6.mono HBJ.out.size)
            clear hr6 hge6 hb6
            go_wp2_with fail
            go_loopw [15, 77] (fun _ i wr => ∃ m : Nat, i = .int .i64 m ∧ m ≤ k ∧ Hid (CutSt wr S (ts.drop m)) ∧ Hid (Below w.heap.size w wr)) (fun _ i _ => k - (intOf i).toNat)
            case atStart => exact ⟨0, rfl, Nat.zero_le _, HST6.out, HB6.out⟩
            case round =>
              obtain ⟨m, rfl, hm, hst, hbm⟩ := hrel
              by_cases hlm : m < k
              · have hbw := hbm.out
                obtain ⟨b, off, t, rfl, htk, hat⟩ := HV.out.at_ m hlm
                obtain ⟨pb, pl, pf, nb, cb, nl, cl, nf, cf, h0, h1, h2, h3, h4, h5, h6, ht⟩ := hat
                have kk : ∀ o, wr.cell? ⟨b, o, none⟩ = w.cell? ⟨b, o, none⟩ := fun o => hbw.cell (p := ⟨b, o, none⟩) (cell_lt h0)
                rw [← kk] at h0 h1 h2 h3 h4 h5 h6
                clear kk
                have HT := Lib.hid ht
                have HTK := Lib.hid htk
                have HFT : Hid (fewT t = true) := (List.all_eq_true.1 HP.out.2) t (List.mem_of_getElem? htk)
                obtain ⟨wa, hwa⟩ : ∃ wa, wa = wr.alloc (.cells #[.int .i64 t.kind, .int .u64 t.u, .int .i64 t.n, .int .i64 t.x, .slice pb nb cb, .slice pl nl cl, .slice pf nf cf] 40) := ⟨_, rfl⟩
                have HBWA : Hid (Below wr.heap.size wr wa) := by unfold Hid; rw [hwa]; exact (Below.refl _ _).alloc (Nat.le_refl _) _
                have HOK : Hid (ThOk t) := ht.ok HFT.out
                clear ht htk hbw
                go_wp2_with fail
                rw [← hwa]
                clear hwa h0 h1 h2 h3 h4 h5 h6
                have HCA : Hid (CutSt wa S (ts.drop m)) := by
                  rcases hst.out with ⟨c, h1, h2⟩ | h
                  · exact .inl ⟨c, h1, h2.chg (Chg.of_below HBWA.out : Chg [] wr wa) (by simp)⟩
                  · exact .inr (h.chg (Chg.of_below HBWA.out : Chg [] wr wa) (by simp))
                refine (again_cut S t pb pl pf nb cb nl cl nf cf ts m w wa (hbm.out.trans (HBWA.out.mono hbm.out.size)) HGE6.out HT.out HFT.out HTK.out (drop_len HP.out.2 HP.out.1 m) HCA.out).mono ?_
                rintro e w7 ⟨⟨r, rfl⟩, hst7, hc7⟩
                have HST7 := Lib.hid hst7
                have HB7 : Hid (Below w.heap.size w w7) := (hbm.out.trans (HBWA.out.mono hbm.out.size)).trans (hc7.below (Nat.le_trans hbm.out.size HBWA.out.size) (by intro z hz; simp at hz; have := HGE6.out; omega))
                clear hst7 hc7
                go_wp2_with fail
                exact ⟨⟨m + 1, by go_num, by omega, HST7.out, HB7.out⟩, by simp [intOf]; omega⟩
              · have HE : Hid (ReaderEnd wr S 120) := by
                  have h := hst.out
                  rw [List.drop_of_length_le (by have := HL.out; omega)] at h
                  rcases h with ⟨c, h1, _⟩ | h
                  · simp at h1
                  · exact h
                go_wp2_with fail
                refine (rdone_shut _ 120 _ (.bad S 120 HE.out (by decide))).mono ?_
                rintro e w7 ⟨rfl, rfl⟩
                go_wp2_with fail
                go_ret
                exact ⟨rfl, hbm.out⟩

theorem packBack_law (v : Value) (ts : List Th) (cut : Int) (w : World) (hv : ThsIs w v ts) (hc : cut ≤ 9223372036854775807) :
    Calls Try.prog 7 #[v, .int .i64 cut] w fun e w' => e = .returned (.bool true) ∧ Below w.heap.size w w' := by
  cases hf : fewB ts with
  | false => exact packBack_out v ts cut w hv (.inl hf)
  | true =>
    by_cases h0 : cut < 0
    · exact packBack_out v ts cut w hv (.inr h0)
    · obtain ⟨cn, rfl⟩ := Int.eq_ofNat_of_zero_le (show 0 ≤ cut by omega)
      exact packBack_in v ts cn w hv hf (by omega)
end Go.Proofs.Ytajnhmkkgngbhaa
