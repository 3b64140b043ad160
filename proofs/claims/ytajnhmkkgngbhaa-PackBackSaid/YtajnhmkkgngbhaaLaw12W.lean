/- The law PackWrites, walked. -/
import Derived.Test.YtajnhmkkgngbhaaThing4
import Derived.Test.YtajnhmkkgngbhaaLaw12A
namespace Go.Proofs.Ytajnhmkkgngbhaa
open Go.RowKit
open Pack (form room)

theorem wOf_room (bs : List (BitVec 8)) (t : Th) (h : bs.length + (formOf t).length ≤ 1048576) : wOf (bs, false) t = (bs ++ formOf t, false) := by
  unfold wOf
  by_cases hk : 1 ≤ t.kind ∧ t.kind ≤ 6
  · rw [if_pos hk]
    unfold room
    rw [if_neg (by simp), if_neg (by simp only; omega)]
  · rw [if_neg hk]
    have hform : formOf t = [] := by
      unfold formOf
      rw [if_neg (by omega), if_neg (by omega), if_neg (by omega), if_neg (by omega), if_neg (by omega), if_neg (by omega)]
    rw [hform, List.append_nil]
theorem packWrites_many (v : Value) (ts : List Th) (w : World) (hv : ThsIs w v ts) (hf : fewB ts = false) :
    Calls Try.prog 4 #[v] w fun e w' => e = .returned (.bool true) ∧ Below w.heap.size w w' := by
  have HV := Lib.hid hv
  have HF := Lib.hid hf
  obtain ⟨a, len, cap, rfl, hl, hc, hm, _⟩ := hv
  clear hf hl
  go_enter Try.func4, Try.ntmps4
  go_wp2_with fail
  refine (awake12_any w).mono ?_
  rintro e w1 ⟨rfl, hb1⟩
  have HB1 := Lib.hid hb1
  clear hb1
  go_wp2_with fail
  refine (few_any _ ts w1 (HV.out.below HB1.out)).mono ?_
  rintro e w2 ⟨rfl, hb2⟩
  have HB2 : Hid (Below w.heap.size w w2) := HB1.out.trans (hb2.mono HB1.out.size)
  rw [HF.out]
  clear hb2
  go_wp2_with fail
  go_ret
  exact ⟨rfl, HB2.out⟩
set_option maxRecDepth 100000 in
set_option maxHeartbeats 2000000 in
theorem packWrites_few (v : Value) (ts : List Th) (w : World) (hv : ThsIs w v ts) (hf : fewB ts = true) :
    Calls Try.prog 4 #[v] w fun e w' => e = .returned (.bool true) ∧ Below w.heap.size w w' := by
  have HV := Lib.hid hv
  have HF := Lib.hid hf
  have HP := Lib.hid (fewB_parts hf)
  obtain ⟨a, len, cap, rfl, hl, hc, hm, _⟩ := hv
  have h40 : len ≤ 40 := by have := HP.out.1; omega
  have HL := Lib.hid hl
  clear hf hl
  go_enter Try.func4, Try.ntmps4
  go_wp2_with fail
  refine (awake12_any w).mono ?_
  rintro e w1 ⟨rfl, hb1⟩
  have HB1 := Lib.hid hb1
  clear hb1
  go_wp2_with fail
  refine (few_any _ ts w1 (HV.out.below HB1.out)).mono ?_
  rintro e w2 ⟨rfl, hb2⟩
  have HB2 : Hid (Below w.heap.size w w2) := HB1.out.trans (hb2.mono HB1.out.size)
  rw [HF.out]
  clear hb2
  go_wp2_with fail
  obtain ⟨W, hW⟩ : ∃ W, W = w2.heap.size := ⟨_, rfl⟩
  have HW : Hid (w.heap.size ≤ W) := by unfold Hid; rw [hW]; exact HB2.out.size
  have HB3 : Hid (Below w.heap.size w (w2.alloc (.cells #[.slice none 0 0, .bool false] 26))) := HB2.out.alloc HB2.out.size _
  have HN : Hid (WrAt (w2.alloc (.cells #[.slice none 0 0, .bool false] 26)) W none ([], false)) := WrAt.new hW.symm
  rw [← hW]
  clear hW
  go_loopw [6, 22] (fun _ i wr => ∃ k : Nat, i = .int .i64 k ∧ k ≤ len ∧ Hid (WrIs wr W ((ts.take k).flatMap formOf, false)) ∧ Hid (Below w.heap.size w wr)) (fun _ i _ => len - (intOf i).toNat)
  case atStart => exact ⟨0, rfl, Nat.zero_le _, HN.out.is, HB3.out⟩
  case round =>
    obtain ⟨k, rfl, hk, hwr, hb⟩ := hrel
    by_cases hlt : k < len
    · obtain ⟨b, off, t, rfl, htk, hat⟩ := HV.out.at_ k hlt
      obtain ⟨kb, hkb⟩ := hwr.out.at_
      have HKB := Lib.hid hkb
      obtain ⟨pb, pl, pf, nb, cb, nl, cl, nf, cf, h0, h1, h2, h3, h4, h5, h6, ht⟩ := hat
      have kk : ∀ o, wr.cell? ⟨b, o, none⟩ = w.cell? ⟨b, o, none⟩ := fun o => hb.out.cell (p := ⟨b, o, none⟩) (cell_lt h0)
      rw [← kk] at h0 h1 h2 h3 h4 h5 h6
      clear kk
      have HT := Lib.hid ht
      have HTK := Lib.hid htk
      have HFT : Hid (fewT t = true) := (List.all_eq_true.1 HP.out.2) t (List.mem_of_getElem? htk)
      obtain ⟨wa, hwa⟩ : ∃ wa, wa = wr.alloc (.cells #[.int .i64 t.kind, .int .u64 t.u, .int .i64 t.n, .int .i64 t.x, .slice pb nb cb, .slice pl nl cl, .slice pf nf cf] 40) := ⟨_, rfl⟩
      have hbwa : Below wr.heap.size wr wa := by rw [hwa]; exact (Below.refl _ _).alloc (Nat.le_refl _) _
      have hsz : wa.heap.size = wr.heap.size + 1 := by rw [hwa]; simp
      have c0 : wa.cell? ⟨wr.heap.size, 0, none⟩ = some (.int .i64 t.kind) := by rw [hwa]; simp
      have c1 : wa.cell? ⟨wr.heap.size, 1, none⟩ = some (.int .u64 t.u) := by rw [hwa]; simp
      have c2 : wa.cell? ⟨wr.heap.size, 2, none⟩ = some (.int .i64 t.n) := by rw [hwa]; simp
      have c3 : wa.cell? ⟨wr.heap.size, 3, none⟩ = some (.int .i64 t.x) := by rw [hwa]; simp
      have c4 : wa.cell? ⟨wr.heap.size, 4, none⟩ = some (.slice pb nb cb) := by rw [hwa]; simp
      have c5 : wa.cell? ⟨wr.heap.size, 5, none⟩ = some (.slice pl nl cl) := by rw [hwa]; simp
      have c6 : wa.cell? ⟨wr.heap.size, 6, none⟩ = some (.slice pf nf cf) := by rw [hwa]; simp
      have HC := Lib.hid (And.intro c0 (And.intro c1 (And.intro c2 (And.intro c3 (And.intro c4 (And.intro c5 c6))))))
      have HBWA := Lib.hid hbwa
      have HSZ := Lib.hid hsz
      clear ht htk hkb hbwa hsz c0 c1 c2 c3 c4 c5 c6
      go_wp2_with fail
      rw [← hwa]
      clear hwa h0 h1 h2 h3 h4 h5 h6
      refine (write_any (some W) kb ((ts.take k).flatMap formOf, false) t pb pl pf nb cb nl cl nf cf wa (HKB.out.below HBWA.out) (HT.out.below (hb.out.trans (HBWA.out.mono hb.out.size))) (few_mid HFT.out)).mono ?_
      rintro e w3 ⟨⟨r, rfl⟩, hw3, hb3, hc3⟩
      have hlt3 := HKB.out.lt
      have hns : wr.heap.size ∉ W :: kb.toList := by
        intro hx
        rcases List.mem_cons.1 hx with h | h
        · omega
        · have := hlt3.2 _ h; omega
      have hsz := HSZ.out
      have cc : ∀ o, w3.cell? ⟨wr.heap.size, o, none⟩ = wa.cell? ⟨wr.heap.size, o, none⟩ := fun o => hc3.cell _ o (by omega) hns
      obtain ⟨c0, c1, c2, c3, c4, c5, c6⟩ := HC.out
      rw [← cc] at c0 c1 c2 c3 c4 c5 c6
      have HW3 : Hid (WrIs w3 W ((ts.take (k + 1)).flatMap formOf, false)) := by
        have hle := forms_le (ts.take (k + 1)) (take_all HP.out.2 (k + 1))
        have hl40 : (ts.take (k + 1)).length ≤ 40 := by rw [List.length_take]; have := HP.out.1; omega
        have e : (ts.take (k + 1)).flatMap formOf = (ts.take k).flatMap formOf ++ formOf t := by
          rw [take_snoc? HTK.out, List.flatMap_append, List.flatMap_cons, List.flatMap_nil, List.append_nil]
        rw [e, List.length_append] at hle
        unfold Hid
        rw [e, ← wOf_room _ _ (by omega)]
        exact hw3
      have HB3 : Hid (Below w.heap.size w w3) := (hb.out.trans (HBWA.out.mono hb.out.size)).trans (hb3.mono HW.out)
      have HC3 := Lib.hid hc3
      have HSW : Hid (wr.heap.size ≤ w3.heap.size) := by unfold Hid; have := hc3.size; omega
      clear cc hns hlt3 hw3 hb3 hsz
      go_wp2_with fail
      refine (write_any none none ([], false) t pb pl pf nb cb nl cl nf cf w3 trivial (HT.out.below HB3.out) (few_mid HFT.out)).mono ?_
      rintro e w4 ⟨⟨r2, rfl⟩, hb4⟩
      have HW4 : Hid (WrIs w4 W ((ts.take (k + 1)).flatMap formOf, false)) := HW3.out.below hb4
      have HB4 : Hid (Below w.heap.size w w4) := HB3.out.trans (hb4.mono HB3.out.size)
      clear hb4 c0 c1 c2 c3 c4 c5 c6 hc3
      go_wp2_with fail
      exact ⟨⟨k + 1, by go_num, by omega, HW4.out, HB4.out⟩, by simp [intOf]; omega⟩
    · obtain rfl : k = len := by omega
      have HTK : Hid (ts.take k = ts) := List.take_of_length_le (by have := HL.out; omega)
      have HWR : Hid (WrIs wr W (ts.flatMap formOf, false)) := by have := hwr.out; rwa [HTK.out] at this
      clear hlt
      go_wp2_with fail
      refine (done_st W _ wr HWR.out).mono ?_
      rintro e w3 ⟨a3, m3, c3, rfl, h3, b3⟩
      have H3 := Lib.hid h3
      have HB3 : Hid (Below w.heap.size w w3) := hb.out.trans (b3.mono hb.out.size)
      have HW3 : Hid (WrIs w3 W (ts.flatMap formOf, false)) := HWR.out.below b3
      clear h3 b3
      go_wp2_with fail
      refine (done_st W _ w3 HW3.out).mono ?_
      rintro e w4 ⟨a4, m4, c4, rfl, h4, b4⟩
      have H4 := Lib.hid h4
      have H34 : Hid (IsBytes w4 (.slice a3 m3 c3) (ts.flatMap formOf)) := H3.out.below b4
      have HB4 : Hid (Below w.heap.size w w4) := HB3.out.trans (b4.mono HB3.out.size)
      clear h4 b4
      go_wp2_with fail
      refine (done_nil w4).mono ?_
      rintro e w5 ⟨rfl, rfl⟩
      go_wp2_with fail
      refine (forms_any _ ts w4 (HV.out.below HB4.out) HF.out).mono ?_
      rintro e w5 ⟨a5, m5, c5, rfl, h5, b5⟩
      have H5 := Lib.hid h5
      have H35 : Hid (IsBytes w5 (.slice a3 m3 c3) (ts.flatMap formOf)) := H34.out.below b5
      have H45 : Hid (IsBytes w5 (.slice a4 m4 c4) (ts.flatMap formOf)) := H4.out.below b5
      have HB5 : Hid (Below w.heap.size w w5) := HB4.out.trans (b5.mono HB4.out.size)
      clear h5 b5
      go_wp2_with fail
      refine (same_any _ _ _ _ _ H35.out H5.out).mono ?_
      rintro e w6 ⟨rfl, q, rfl⟩
      rw [decide_eq_true (rfl : ts.flatMap formOf = ts.flatMap formOf)]
      go_wp2_with fail
      refine (same_any _ _ (ts.flatMap formOf) (ts.flatMap formOf) _ (H45.out.drewN q) (H35.out.drewN q)).mono ?_
      rintro e w6 ⟨rfl, q2, rfl⟩
      rw [decide_eq_true (rfl : ts.flatMap formOf = ts.flatMap formOf)]
      go_wp2_with fail
      go_ret
      exact ⟨rfl, below_drewN HB5.out (q + q2)⟩
theorem packWrites_law (v : Value) (ts : List Th) (w : World) (hv : ThsIs w v ts) :
    Calls Try.prog 4 #[v] w fun e w' => e = .returned (.bool true) ∧ Below w.heap.size w w' := by
  cases h : fewB ts with
  | true => exact packWrites_few v ts w hv h
  | false => exact packWrites_many v ts w hv h
end Go.Proofs.Ytajnhmkkgngbhaa
