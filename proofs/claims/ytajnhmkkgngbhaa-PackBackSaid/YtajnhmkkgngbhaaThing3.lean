/- The things of chapter 12's statements: their forms by the reference. -/
import Derived.Test.YtajnhmkkgngbhaaThing2
import Derived.Test.YtajnhmkkgngbhaaReg3
namespace Go.Proofs.Ytajnhmkkgngbhaa
open Go.RowKit
open Pack (form zig leB un eight formI formT formL room)

def FormPost (w : World) (bs : List (BitVec 8)) (e : Ending) (w' : World) : Prop := ∃ a m c, e = .returned (.slice a m c) ∧ Own w' w.heap.size 5 (.slice a m c) (bs.map byteV) ∧ Below w.heap.size w w'

set_option maxRecDepth 100000 in
set_option maxHeartbeats 1000000 in
theorem form_1 (t : Th) (pb pl pf : Option Addr) (nb cb nl cl nf cf : Nat) (w : World) (ht : ThIs w (.slice pb nb cb) (.slice pl nl cl) (.slice pf nf cf) t) (hf : fewT t = true) (hk : t.kind = 1) :
    Calls Try.prog 35 #[.agg #[.int .i64 1, .int .u64 t.u, .int .i64 t.n, .int .i64 t.x, .slice pb nb cb, .slice pl nl cl, .slice pf nf cf]] w (FormPost w (formOf t)) := by
  obtain ⟨w0, hw0⟩ : ∃ w0, w0 = w.alloc (.cells #[.int .i64 1, .int .u64 t.u, .int .i64 t.n, .int .i64 t.x, .slice pb nb cb, .slice pl nl cl, .slice pf nf cf] 40) := ⟨_, rfl⟩
  have hb0 : Below w.heap.size w w0 := by rw [hw0]; exact (Below.refl _ w).alloc (Nat.le_refl _) _
  have HT := Lib.hid (ht.below hb0)
  have HL := Lib.hid ht.lens
  have hfew := few_le hf
  have HF := Lib.hid hfew
  have HB0 := Lib.hid hb0
  have hform : formOf t = form t.u := by unfold formOf; rw [if_pos (by omega)]
  rw [hform]
  clear hform hfew hb0 ht hf hk
  go_enter Try.func35, Try.ntmps35
  go_wp2_with fail
  rw [← hw0]
  clear hw0
  refine (refUint_any t.u w0 HT.out.u).mono ?_
  rintro e w1 ⟨a, m, c, rfl, ho, hb⟩
  have HO := Lib.hid (ho.down HB0.out.size)
  have HB : Hid (Below w.heap.size w w1) := HB0.out.trans (hb.mono HB0.out.size)
  clear ho hb
  go_wp2_with fail
  go_ret
  exact ⟨_, _, _, rfl, HO.out, HB.out⟩

set_option maxRecDepth 100000 in
set_option maxHeartbeats 1000000 in
theorem form_2 (t : Th) (pb pl pf : Option Addr) (nb cb nl cl nf cf : Nat) (w : World) (ht : ThIs w (.slice pb nb cb) (.slice pl nl cl) (.slice pf nf cf) t) (hf : fewT t = true) (hk : t.kind = 2) :
    Calls Try.prog 35 #[.agg #[.int .i64 2, .int .u64 t.u, .int .i64 t.n, .int .i64 t.x, .slice pb nb cb, .slice pl nl cl, .slice pf nf cf]] w (FormPost w (formOf t)) := by
  obtain ⟨w0, hw0⟩ : ∃ w0, w0 = w.alloc (.cells #[.int .i64 2, .int .u64 t.u, .int .i64 t.n, .int .i64 t.x, .slice pb nb cb, .slice pl nl cl, .slice pf nf cf] 40) := ⟨_, rfl⟩
  have hb0 : Below w.heap.size w w0 := by rw [hw0]; exact (Below.refl _ w).alloc (Nat.le_refl _) _
  have HT := Lib.hid (ht.below hb0)
  have HL := Lib.hid ht.lens
  have hfew := few_le hf
  have HF := Lib.hid hfew
  have HB0 := Lib.hid hb0
  have hform : formOf t = formI t.n := by unfold formOf; rw [if_neg (by omega), if_pos (by omega)]
  rw [hform]
  clear hform hfew hb0 ht hf hk
  go_enter Try.func35, Try.ntmps35
  go_wp2_with fail
  rw [← hw0]
  clear hw0
  refine (refCount_any t.n w0 HT.out.n.1 HT.out.n.2).mono ?_
  rintro e w1 ⟨rfl, rfl⟩
  go_wp2_with fail
  refine (refUint_any (zig t.n) w0 (Pack.zig_lt _ HT.out.n.1 HT.out.n.2)).mono ?_
  rintro e w1 ⟨a, m, c, rfl, ho, hb⟩
  have HO := Lib.hid (ho.down HB0.out.size)
  have HB : Hid (Below w.heap.size w w1) := HB0.out.trans (hb.mono HB0.out.size)
  clear ho hb
  go_wp2_with fail
  go_ret
  exact ⟨_, _, _, rfl, HO.out, HB.out⟩

set_option maxRecDepth 100000 in
set_option maxHeartbeats 1000000 in
theorem form_3 (t : Th) (pb pl pf : Option Addr) (nb cb nl cl nf cf : Nat) (w : World) (ht : ThIs w (.slice pb nb cb) (.slice pl nl cl) (.slice pf nf cf) t) (hf : fewT t = true) (hk : t.kind = 3) :
    Calls Try.prog 35 #[.agg #[.int .i64 3, .int .u64 t.u, .int .i64 t.n, .int .i64 t.x, .slice pb nb cb, .slice pl nl cl, .slice pf nf cf]] w (FormPost w (formOf t)) := by
  obtain ⟨w0, hw0⟩ : ∃ w0, w0 = w.alloc (.cells #[.int .i64 3, .int .u64 t.u, .int .i64 t.n, .int .i64 t.x, .slice pb nb cb, .slice pl nl cl, .slice pf nf cf] 40) := ⟨_, rfl⟩
  have hb0 : Below w.heap.size w w0 := by rw [hw0]; exact (Below.refl _ w).alloc (Nat.le_refl _) _
  have HT := Lib.hid (ht.below hb0)
  have HL := Lib.hid ht.lens
  have hfew := few_le hf
  have HF := Lib.hid hfew
  have HB0 := Lib.hid hb0
  have hform : formOf t = eight t.x := by unfold formOf; rw [if_neg (by omega), if_neg (by omega), if_pos (by omega)]
  rw [hform]
  clear hform hfew hb0 ht hf hk
  go_enter Try.func35, Try.ntmps35
  go_wp2_with fail
  rw [← hw0]
  clear hw0
  refine (refFix_any t.x w0).mono ?_
  rintro e w1 ⟨a, m, c, rfl, ho, hb⟩
  have HO := Lib.hid (ho.down HB0.out.size)
  have HB : Hid (Below w.heap.size w w1) := HB0.out.trans (hb.mono HB0.out.size)
  clear ho hb
  go_wp2_with fail
  go_ret
  exact ⟨_, _, _, rfl, HO.out, HB.out⟩

set_option maxRecDepth 100000 in
set_option maxHeartbeats 1000000 in
theorem form_4 (t : Th) (pb pl pf : Option Addr) (nb cb nl cl nf cf : Nat) (w : World) (ht : ThIs w (.slice pb nb cb) (.slice pl nl cl) (.slice pf nf cf) t) (hf : fewT t = true) (hk : t.kind = 4) :
    Calls Try.prog 35 #[.agg #[.int .i64 4, .int .u64 t.u, .int .i64 t.n, .int .i64 t.x, .slice pb nb cb, .slice pl nl cl, .slice pf nf cf]] w (FormPost w (formOf t)) := by
  obtain ⟨w0, hw0⟩ : ∃ w0, w0 = w.alloc (.cells #[.int .i64 4, .int .u64 t.u, .int .i64 t.n, .int .i64 t.x, .slice pb nb cb, .slice pl nl cl, .slice pf nf cf] 40) := ⟨_, rfl⟩
  have hb0 : Below w.heap.size w w0 := by rw [hw0]; exact (Below.refl _ w).alloc (Nat.le_refl _) _
  have HT := Lib.hid (ht.below hb0)
  have HL := Lib.hid ht.lens
  have hfew := few_le hf
  have HF := Lib.hid hfew
  have HB0 := Lib.hid hb0
  have hform : formOf t = formT t.b := by unfold formOf; rw [if_neg (by omega), if_neg (by omega), if_neg (by omega), if_pos (by omega)]
  rw [hform]
  clear hform hfew hb0 ht hf hk
  go_enter Try.func35, Try.ntmps35
  have k4 : w0.cell? ⟨w.heap.size, 4, none⟩ = some (.slice pb nb cb) := by rw [hw0]; simp
  have hs0 : w.heap.size < w0.heap.size := by rw [hw0]; simp
  have hnb : IntKind.u64.wrap (nb : Int) = (nb : Int) := by have := HL.out; have := HF.out; rw [IntKind.wrap_u64]; omega
  go_wp2_with fail
  rw [← hw0]
  clear hw0
  have HK4 := Lib.hid k4
  have HNB := Lib.hid hnb
  clear k4 hnb
  refine wp_region_phase (by kernel_rfl) (by kernel_rfl) (by kernel_rfl) (fun s v => match s with
    | 28 => v = .pointer (some ⟨w.heap.size, 4, none⟩)
    | 29 => v = .slice pb nb cb
    | 30 => v = .int .i64 nb
    | 31 => v = .int .u64 nb
    | 32 => ∃ a m c, v = .slice a m c
    | 33 => v = .pointer (some ⟨w.heap.size, 4, none⟩)
    | 34 => v = .slice pb nb cb
    | 35 => ∃ a m c, v = .slice a m c
    | 2 => ∃ a m c, v = .slice a m c
    | _ => True)
    (fun f a w' => Below w0.heap.size w0 w' ∧ (f 4 = true → f 7 = false → Own w' w0.heap.size 5 (a.tmps.getD 32 undef) ((form nb).map byteV)) ∧ (f 7 = true → Own w' w0.heap.size 5 (a.tmps.getD 35 undef) ((form nb ++ t.b).map byteV)) ∧
      (f 8 = true → a.tmps.getD 2 undef = a.tmps.getD 35 undef) ∧ (f 7 = true → f 4 = true) ∧ (f 8 = true → f 7 = true)) ?_ ?_ ?_
  · exact ⟨(Below.refl _ _).drew, by simp, by simp, by simp, by simp, by simp⟩
  · rintro f i o a w1 ho hdf hsz hbase hfact ⟨hB, p4, p7, p8, p74, p87⟩ hfi hpre
    have kc : w1.cell? ⟨w.heap.size, 4, none⟩ = some (.slice pb nb cb) := (hB.cell (p := ⟨w.heap.size, 4, none⟩) hs0).trans HK4.out
    have quiet : ∀ d v, d ≠ 32 → d ≠ 35 → d ≠ 2 → i ≠ 4 → i ≠ 7 → i ≠ 8 → (Below w0.heap.size w0 w1 ∧ (upd f i 4 = true → upd f i 7 = false → Own w1 w0.heap.size 5 ((a.put (some d) v).tmps.getD 32 undef) ((form nb).map byteV)) ∧ (upd f i 7 = true → Own w1 w0.heap.size 5 ((a.put (some d) v).tmps.getD 35 undef) ((form nb ++ t.b).map byteV)) ∧
      (upd f i 8 = true → (a.put (some d) v).tmps.getD 2 undef = (a.put (some d) v).tmps.getD 35 undef) ∧ (upd f i 7 = true → upd f i 4 = true) ∧ (upd f i 8 = true → upd f i 7 = true)) := by
      intro d v d1 d2 d3 i1 i2 i3
      rw [upd_other f (Ne.symm i1), upd_other f (Ne.symm i2), upd_other f (Ne.symm i3), put_other a v (Ne.symm d1), put_other a v (Ne.symm d2), put_other a v (Ne.symm d3)]
      exact ⟨hB, p4, p7, p8, p74, p87⟩
    match i, ho with
    | 0, ho =>
      injection ho with ho
      subst ho
      have h1 := slot_of (hbase 1 (noDst_spec (by kernel_rfl)))
      refine inv_done rfl rfl (v := .pointer (some ⟨w.heap.size, 4, none⟩)) (w' := w1) (by clear hfact hbase hpre p4 p7 p8 p74 p87 quiet hsz hdf; go_simp) ⟨_, rfl, by rintro t ⟨⟩; rfl, quiet 28 _ (by decide) (by decide) (by decide) (by decide) (by decide) (by decide)⟩
    | 1, ho =>
      injection ho with ho
      subst ho
      have h1 := slot_of (hfact 0 28 (by kernel_rfl) (by kernel_rfl))
      refine inv_done rfl rfl (v := .slice pb nb cb) (w' := w1) (by clear hfact hbase hpre p4 p7 p8 p74 p87 quiet hsz hdf; go_simp) ⟨_, rfl, by rintro t ⟨⟩; rfl, quiet 29 _ (by decide) (by decide) (by decide) (by decide) (by decide) (by decide)⟩
    | 2, ho =>
      injection ho with ho
      subst ho
      have h1 := slot_of (hfact 1 29 (by kernel_rfl) (by kernel_rfl))
      refine inv_done rfl rfl (v := .int .i64 nb) (w' := w1) (by clear hfact hbase hpre p4 p7 p8 p74 p87 quiet hsz hdf; go_simp) ⟨_, rfl, by rintro t ⟨⟩; rfl, quiet 30 _ (by decide) (by decide) (by decide) (by decide) (by decide) (by decide)⟩
    | 3, ho =>
      injection ho with ho
      subst ho
      have h1 := slot_of (hfact 2 30 (by kernel_rfl) (by kernel_rfl))
      have hnb := HNB.out
      refine inv_done rfl rfl (v := .int .u64 nb) (w' := w1) (by clear hfact hbase hpre p4 p7 p8 p74 p87 quiet hsz hdf; go_simp) ⟨_, rfl, by rintro t ⟨⟩; rfl, quiet 31 _ (by decide) (by decide) (by decide) (by decide) (by decide) (by decide)⟩
    | 4, ho =>
      injection ho with ho
      subst ho
      have h1 := slot_of (hfact 3 31 (by kernel_rfl) (by kernel_rfl))
      have hf7 : f 7 = false := by
        cases h : f 7 with
        | false => rfl
        | true => have := p74 h; rw [hfi] at this; cases this
      refine inv_call rfl rfl (f := 67) (args := #[.int .u64 nb]) (w1 := w1) (by clear hfact hbase hpre p4 p7 p8 p74 p87 quiet hsz hdf; go_simp) ?_
      refine (refUint_any nb w1 (by have := HL.out; have := HF.out; omega)).mono ?_
      rintro e w2 ⟨x, m, c, rfl, ho2, hb2⟩
      refine .inl ⟨_, rfl, _, rfl, by rintro t ⟨⟩; exact ⟨_, _, _, rfl⟩, hB.trans (hb2.mono hB.size), fun _ _ => ?_, ?_, ?_, ?_, ?_⟩
      · show Own w2 w0.heap.size 5 ((a.put (some 32) _).tmps.getD 32 undef) _
        rw [put_same _ (by rw [hsz]; show 32 < 76; decide)]; exact ho2.down hB.size
      · intro h; rw [upd_other f (by decide), hf7] at h; cases h
      · intro h; rw [upd_other f (by decide)] at h; have := p87 h; rw [hf7] at this; cases this
      · intro _; exact upd_same f 4
      · intro h; rw [upd_other f (by decide)] at h; have := p87 h; rw [hf7] at this; cases this
    | 5, ho =>
      injection ho with ho
      subst ho
      have h1 := slot_of (hbase 1 (noDst_spec (by kernel_rfl)))
      refine inv_done rfl rfl (v := .pointer (some ⟨w.heap.size, 4, none⟩)) (w' := w1) (by clear hfact hbase hpre p4 p7 p8 p74 p87 quiet hsz hdf; go_simp) ⟨_, rfl, by rintro t ⟨⟩; rfl, quiet 33 _ (by decide) (by decide) (by decide) (by decide) (by decide) (by decide)⟩
    | 6, ho =>
      injection ho with ho
      subst ho
      have h1 := slot_of (hfact 5 33 (by kernel_rfl) (by kernel_rfl))
      refine inv_done rfl rfl (v := .slice pb nb cb) (w' := w1) (by clear hfact hbase hpre p4 p7 p8 p74 p87 quiet hsz hdf; go_simp) ⟨_, rfl, by rintro t ⟨⟩; rfl, quiet 34 _ (by decide) (by decide) (by decide) (by decide) (by decide) (by decide)⟩
    | 7, ho =>
      injection ho with ho
      subst ho
      have hown := p4 (hpre 4 (by kernel_rfl)) hfi
      have h34 := hfact 6 34 (by kernel_rfl) (by kernel_rfl)
      have hbt : IsBytes w1 (.slice pb nb cb) t.b := HT.out.b.below hB
      have hf8 : f 8 = false := by
        cases h : f 8 with
        | false => rfl
        | true => have := p87 h; rw [hfi] at this; cases this
      refine inv_append rfl rfl (.tmp 32) (.tmp 34) 24 rfl elemU8 rfl hown (eval_tmp a 34 |>.trans h34) hbt.reads one_byteV (by have := HF.out; have := form_length nb; rw [List.length_map, List.length_map]; omega) (by have := HF.out; have := form_length nb; rw [List.length_map, List.length_map]; unfold maxLen; omega) ?_
      intro v' w2 hown2 hg2 _
      rw [← List.map_append] at hown2
      have hb2 : Below w0.heap.size w0 w2 := below_grown hB hown hg2 (Nat.le_refl _)
      obtain ⟨x, m, c, rfl, _⟩ := hown2.form_
      refine ⟨_, rfl, by rintro t ⟨⟩; exact ⟨_, _, _, rfl⟩, hb2, ?_, ?_, ?_, ?_, ?_⟩
      · intro _ h; rw [upd_same] at h; cases h
      · intro _
        show Own w2 w0.heap.size 5 ((a.put (some 35) _).tmps.getD 35 undef) _
        rw [put_same _ (by rw [hsz]; show 35 < 76; decide)]; exact hown2
      · intro h; rw [upd_other f (by decide), hf8] at h; cases h
      · intro _; rw [upd_other f (by decide)]; exact hpre 4 (by kernel_rfl)
      · intro _; exact upd_same f 7
    | 8, ho =>
      injection ho with ho
      subst ho
      have hf7 := hpre 7 (by kernel_rfl)
      obtain ⟨x, m, c, h35⟩ := hfact 7 35 (by kernel_rfl) (by kernel_rfl)
      have h1 := slot_of h35
      refine inv_done rfl rfl (v := .slice x m c) (w' := w1) (by clear hfact hbase hpre p4 p7 p8 p74 p87 quiet h35 hsz hdf; go_simp) ⟨_, rfl, by rintro t ⟨⟩; exact ⟨_, _, _, rfl⟩, hB, ?_, ?_, ?_, ?_, ?_⟩
      · intro _ h; rw [upd_other f (by decide), hf7] at h; cases h
      · intro _
        show Own w1 w0.heap.size 5 ((a.put (some 2) _).tmps.getD 35 undef) _
        rw [put_other _ _ (by decide)]; exact p7 hf7
      · intro _
        show (a.put (some 2) _).tmps.getD 2 undef = (a.put (some 2) _).tmps.getD 35 undef
        rw [put_same _ (by rw [hsz]; show 2 < 76; decide), put_other _ _ (by decide), h35]
      · intro _; rw [upd_other f (by decide)]; exact p74 hf7
      · intro _; rw [upd_other f (by decide)]; exact hf7
  · rintro f a w1 hdf hsz hbase hfact ⟨hB, p4, p7, p8, p74, p87⟩ hall
    obtain ⟨x, m, c, h2⟩ := hfact 8 2 (by kernel_rfl)
    have hown := p7 (hall 7 (by decide))
    rw [← p8 (hall 8 (by decide)), h2] at hown
    obtain ⟨tmps, defers⟩ := a
    have HO := Lib.hid (hown.down HB0.out.size)
    have HB : Hid (Below w.heap.size w w1) := HB0.out.trans (hB.mono HB0.out.size)
    have hd : defers = [] := hdf
    subst hd
    clear hdf hsz hbase hfact p4 p7 p8 p74 p87 hall hown hB
    go_wp2_with fail
    go_ret
    exact ⟨x, m, c, by show Ending.returned (tmps.getD 2 undef) = _; rw [show tmps.getD 2 undef = .slice x m c from h2], by have := HO.out; rw [HL.out.1] at this; exact this, HB.out⟩

set_option maxRecDepth 100000 in
set_option maxHeartbeats 1000000 in
theorem form_5 (t : Th) (pb pl pf : Option Addr) (nb cb nl cl nf cf : Nat) (w : World) (ht : ThIs w (.slice pb nb cb) (.slice pl nl cl) (.slice pf nf cf) t) (hf : fewT t = true) (hk : t.kind = 5) :
    Calls Try.prog 35 #[.agg #[.int .i64 5, .int .u64 t.u, .int .i64 t.n, .int .i64 t.x, .slice pb nb cb, .slice pl nl cl, .slice pf nf cf]] w (FormPost w (formOf t)) := by
  obtain ⟨w0, hw0⟩ : ∃ w0, w0 = w.alloc (.cells #[.int .i64 5, .int .u64 t.u, .int .i64 t.n, .int .i64 t.x, .slice pb nb cb, .slice pl nl cl, .slice pf nf cf] 40) := ⟨_, rfl⟩
  have hb0 : Below w.heap.size w w0 := by rw [hw0]; exact (Below.refl _ w).alloc (Nat.le_refl _) _
  have HT := Lib.hid (ht.below hb0)
  have HL := Lib.hid ht.lens
  have hfew := few_le hf
  have HF := Lib.hid hfew
  have HB0 := Lib.hid hb0
  have hform : formOf t = formL formI t.l := by unfold formOf; rw [if_neg (by omega), if_neg (by omega), if_neg (by omega), if_neg (by omega), if_pos (by omega)]
  rw [hform]
  clear hform hfew hb0 ht hf hk
  have k5 : w0.cell? ⟨w.heap.size, 5, none⟩ = some (.slice pl nl cl) := by rw [hw0]; simp
  have hs0 : w.heap.size < w0.heap.size := by rw [hw0]; simp
  have HLEN : Hid (nl = t.l.length ∧ nl ≤ 100) := by unfold Hid; have := HL.out; have := HF.out; omega
  have hnn := HLEN.out.2
  have hnb : IntKind.u64.wrap (nl : Int) = (nl : Int) := by have := HLEN.out; rw [IntKind.wrap_u64]; omega
  have hsum : Hid (∀ k, k ≤ t.l.length → ((t.l.take k).flatMap formI).length ≤ 10 * k) := by
    intro k
    induction k with
    | zero => intro _; simp
    | succ k ih =>
      intro hk
      have h1 := ih (by omega)
      have h2 : (formI t.l[k]).length ≤ 10 := form_length _
      rw [take_snoc _ k (by omega), List.flatMap_append, List.length_append]
      simp only [List.flatMap_cons, List.flatMap_nil, List.append_nil]
      omega
  go_enter Try.func35, Try.ntmps35
  go_wp2_with fail
  rw [← hw0]
  clear hw0
  refine (refUint_any nl w0 (by have := HLEN.out; omega)).mono ?_
  rintro e w1 ⟨a, m, c, rfl, ho, hb⟩
  have HO := Lib.hid ho
  have HB : Hid (Below w0.heap.size w0 w1) := hb
  have k5' : w1.cell? ⟨w.heap.size, 5, none⟩ = some (.slice pl nl cl) := (hb.cell (p := ⟨w.heap.size, 5, none⟩) hs0).trans k5
  clear ho hb k5
  go_wp2_with fail
  go_loopw [3, 5, 46] (fun u _ i wr => ∃ k : Nat, i = .int .i64 k ∧ k ≤ nl ∧ Own wr w0.heap.size 5 u ((form nl ++ (t.l.take k).flatMap formI).map byteV) ∧ Hid (Below w0.heap.size w0 wr)) (fun _ _ i _ => nl - (intOf i).toNat)
  case atStart => exact ⟨0, rfl, Nat.zero_le _, by simpa using HO.out, HB.out⟩
  case round =>
    obtain ⟨k, rfl, hk, hown, hbl0⟩ := hrel
    have HOWN := Lib.hid hown
    clear hown k5'
    by_cases hlt : k < nl
    · have hkl : k < t.l.length := by have := HLEN.out; omega
      obtain ⟨b, off, x, hx, hc0⟩ : ∃ b off x, pl = some ⟨b, off, none⟩ ∧ w0.cell? ⟨b, off + k, none⟩ = some (.int .i64 x) ∧ x = t.l[k] := by
        obtain ⟨a', n', c', he, hn', _, _, h⟩ := HT.out.li
        injection he with e1 e2 e3
        subst e1 e2 e3
        rcases h with h | ⟨b, off, ha, _, h⟩
        · have := congrArg List.length h; simp at this; rw [this] at hkl; simp at hkl
        · exact ⟨b, off, _, ha, by rw [h k (by rw [List.length_map]; omega), List.getElem_map]; rfl, rfl⟩
      subst hx
      obtain ⟨hc0, hxe⟩ := hc0
      have hc1 : wr.cell? ⟨b, off + k, none⟩ = some (.int .i64 x) := (hbl0.out.cell (p := ⟨b, off + k, none⟩) (cell_lt hc0)).trans hc0
      have hsn : Hid ((t.l.take (k + 1)).flatMap formI = (t.l.take k).flatMap formI ++ formI x) := by
        unfold Hid
        rw [take_snoc _ k hkl, List.flatMap_append, ← hxe]
        simp
      have HX : Hid (x ∈ t.l) := by unfold Hid; rw [hxe]; exact List.getElem_mem _
      have HS := Lib.hid (hsum.out k (Nat.le_of_lt hkl))
      clear hc0 hxe hkl
      go_wp2_with fail
      have hxr := HT.out.l x HX.out
      have HXR := Lib.hid hxr
      refine (refCount_any x _ hxr.1 hxr.2).mono ?_
      clear hxr
      rintro e w2 ⟨rfl, rfl⟩
      go_wp2_with fail
      refine (refUint_any (zig x) _ (Pack.zig_lt _ HXR.out.1 HXR.out.2)).mono ?_
      rintro e w2 ⟨a2, m2, c2, rfl, ho2, hb2⟩
      have HO2 : Hid (Reads w2 (.slice a2 m2 c2) ((formI x).map byteV)) := ho2.reads
      have HOWN2 : Hid (Own w2 w0.heap.size 5 u3 ((form nl ++ (t.l.take k).flatMap formI).map byteV)) := HOWN.out.below hb2
      have HB20 : Hid (Below w0.heap.size w0 w2) := hbl0.out.trans (hb2.mono hbl0.out.size)
      clear ho2 hb2
      go_wp2_with (at_builtin; refine wpl_append rfl (.tmp 50) (.tmp 53) _ rfl elemU8 rfl HOWN2.out rfl HO2.out one_byteV (by have := HS.out; have := form_length nl; have h2 : (formI x).length ≤ 10 := form_length _; have := HLEN.out; rw [List.length_map, List.length_map, List.length_append]; omega) (by have := HS.out; have := form_length nl; have h2 : (formI x).length ≤ 10 := form_length _; have := HLEN.out; rw [List.length_map, List.length_map, List.length_append]; unfold maxLen; omega) ?_; intro v' w3 hown3 hg3 hat3)
      exact ⟨⟨k + 1, by go_num, by omega, by rw [hsn.out, ← List.append_assoc, List.map_append]; exact hown3, below_grown HB20.out HOWN2.out hg3 (Nat.le_refl _)⟩, by simp [intOf]; omega⟩
    · obtain rfl : k = nl := by omega
      have HTK : Hid (t.l.take k = t.l) := List.take_of_length_le (by have := HLEN.out; omega)
      obtain ⟨x, m', c', rfl, _⟩ := HOWN.out.form_
      clear hlt
      go_wp2_with fail
      go_ret
      refine ⟨x, m', c', rfl, ?_, HB0.out.trans (hbl0.out.mono HB0.out.size)⟩
      have := HOWN.out.down HB0.out.size
      rw [HTK.out, HLEN.out.1] at this
      exact this

set_option maxRecDepth 100000 in
set_option maxHeartbeats 1000000 in
theorem form_6 (t : Th) (pb pl pf : Option Addr) (nb cb nl cl nf cf : Nat) (w : World) (ht : ThIs w (.slice pb nb cb) (.slice pl nl cl) (.slice pf nf cf) t) (hf : fewT t = true) (hk : t.kind = 6) :
    Calls Try.prog 35 #[.agg #[.int .i64 6, .int .u64 t.u, .int .i64 t.n, .int .i64 t.x, .slice pb nb cb, .slice pl nl cl, .slice pf nf cf]] w (FormPost w (formOf t)) := by
  obtain ⟨w0, hw0⟩ : ∃ w0, w0 = w.alloc (.cells #[.int .i64 6, .int .u64 t.u, .int .i64 t.n, .int .i64 t.x, .slice pb nb cb, .slice pl nl cl, .slice pf nf cf] 40) := ⟨_, rfl⟩
  have hb0 : Below w.heap.size w w0 := by rw [hw0]; exact (Below.refl _ w).alloc (Nat.le_refl _) _
  have HT := Lib.hid (ht.below hb0)
  have HL := Lib.hid ht.lens
  have hfew := few_le hf
  have HF := Lib.hid hfew
  have HB0 := Lib.hid hb0
  have hform : formOf t = formL eight t.f := by unfold formOf; rw [if_neg (by omega), if_neg (by omega), if_neg (by omega), if_neg (by omega), if_neg (by omega), if_pos (by omega)]
  rw [hform]
  clear hform hfew hb0 ht hf hk
  have k5 : w0.cell? ⟨w.heap.size, 6, none⟩ = some (.slice pf nf cf) := by rw [hw0]; simp
  have hs0 : w.heap.size < w0.heap.size := by rw [hw0]; simp
  have HLEN : Hid (nf = t.f.length ∧ nf ≤ 100) := by unfold Hid; have := HL.out; have := HF.out; omega
  have hnn := HLEN.out.2
  have hnb : IntKind.u64.wrap (nf : Int) = (nf : Int) := by have := HLEN.out; rw [IntKind.wrap_u64]; omega
  have hsum : Hid (∀ k, k ≤ t.f.length → ((t.f.take k).flatMap eight).length ≤ 10 * k) := by
    intro k
    induction k with
    | zero => intro _; simp
    | succ k ih =>
      intro hk
      have h1 := ih (by omega)
      have h2 : (eight t.f[k]).length ≤ 10 := (by unfold eight; rw [Pack.leB_length]; omega)
      rw [take_snoc _ k (by omega), List.flatMap_append, List.length_append]
      simp only [List.flatMap_cons, List.flatMap_nil, List.append_nil]
      omega
  go_enter Try.func35, Try.ntmps35
  go_wp2_with fail
  rw [← hw0]
  clear hw0
  refine (refUint_any nf w0 (by have := HLEN.out; omega)).mono ?_
  rintro e w1 ⟨a, m, c, rfl, ho, hb⟩
  have HO := Lib.hid ho
  have HB : Hid (Below w0.heap.size w0 w1) := hb
  have k5' : w1.cell? ⟨w.heap.size, 6, none⟩ = some (.slice pf nf cf) := (hb.cell (p := ⟨w.heap.size, 6, none⟩) hs0).trans k5
  clear ho hb k5
  go_wp2_with fail
  go_loopw [3, 7, 66] (fun u _ i wr => ∃ k : Nat, i = .int .i64 k ∧ k ≤ nf ∧ Own wr w0.heap.size 5 u ((form nf ++ (t.f.take k).flatMap eight).map byteV) ∧ Hid (Below w0.heap.size w0 wr)) (fun _ _ i _ => nf - (intOf i).toNat)
  case atStart => exact ⟨0, rfl, Nat.zero_le _, by simpa using HO.out, HB.out⟩
  case round =>
    obtain ⟨k, rfl, hk, hown, hbl0⟩ := hrel
    have HOWN := Lib.hid hown
    clear hown k5'
    by_cases hlt : k < nf
    · have hkl : k < t.f.length := by have := HLEN.out; omega
      obtain ⟨b, off, x, hx, hc0⟩ : ∃ b off x, pf = some ⟨b, off, none⟩ ∧ w0.cell? ⟨b, off + k, none⟩ = some (.int .i64 x) ∧ x = t.f[k] := by
        obtain ⟨a', n', c', he, hn', _, _, h⟩ := HT.out.fi
        injection he with e1 e2 e3
        subst e1 e2 e3
        rcases h with h | ⟨b, off, ha, _, h⟩
        · have := congrArg List.length h; simp at this; rw [this] at hkl; simp at hkl
        · exact ⟨b, off, _, ha, by rw [h k (by rw [List.length_map]; omega), List.getElem_map]; rfl, rfl⟩
      subst hx
      obtain ⟨hc0, hxe⟩ := hc0
      have hc1 : wr.cell? ⟨b, off + k, none⟩ = some (.int .i64 x) := (hbl0.out.cell (p := ⟨b, off + k, none⟩) (cell_lt hc0)).trans hc0
      have hsn : Hid ((t.f.take (k + 1)).flatMap eight = (t.f.take k).flatMap eight ++ eight x) := by
        unfold Hid
        rw [take_snoc _ k hkl, List.flatMap_append, ← hxe]
        simp
      have HX : Hid (x ∈ t.f) := by unfold Hid; rw [hxe]; exact List.getElem_mem _
      have HS := Lib.hid (hsum.out k (Nat.le_of_lt hkl))
      clear hc0 hxe hkl
      go_wp2_with fail
      refine (refFix_any x _).mono ?_
      rintro e w2 ⟨a2, m2, c2, rfl, ho2, hb2⟩
      have HO2 : Hid (Reads w2 (.slice a2 m2 c2) ((eight x).map byteV)) := ho2.reads
      have HOWN2 : Hid (Own w2 w0.heap.size 5 u3 ((form nf ++ (t.f.take k).flatMap eight).map byteV)) := HOWN.out.below hb2
      have HB20 : Hid (Below w0.heap.size w0 w2) := hbl0.out.trans (hb2.mono hbl0.out.size)
      clear ho2 hb2
      go_wp2_with (at_builtin; refine wpl_append rfl (.tmp 70) (.tmp 72) _ rfl elemU8 rfl HOWN2.out rfl HO2.out one_byteV (by have := HS.out; have := form_length nf; have h2 : (eight x).length ≤ 10 := (by unfold eight; rw [Pack.leB_length]; omega); have := HLEN.out; rw [List.length_map, List.length_map, List.length_append]; omega) (by have := HS.out; have := form_length nf; have h2 : (eight x).length ≤ 10 := (by unfold eight; rw [Pack.leB_length]; omega); have := HLEN.out; rw [List.length_map, List.length_map, List.length_append]; unfold maxLen; omega) ?_; intro v' w3 hown3 hg3 hat3)
      exact ⟨⟨k + 1, by go_num, by omega, by rw [hsn.out, ← List.append_assoc, List.map_append]; exact hown3, below_grown HB20.out HOWN2.out hg3 (Nat.le_refl _)⟩, by simp [intOf]; omega⟩
    · obtain rfl : k = nf := by omega
      have HTK : Hid (t.f.take k = t.f) := List.take_of_length_le (by have := HLEN.out; omega)
      obtain ⟨x, m', c', rfl, _⟩ := HOWN.out.form_
      clear hlt
      go_wp2_with fail
      go_ret
      refine ⟨x, m', c', rfl, ?_, HB0.out.trans (hbl0.out.mono HB0.out.size)⟩
      have := HOWN.out.down HB0.out.size
      rw [HTK.out, HLEN.out.1] at this
      exact this
end Go.Proofs.Ytajnhmkkgngbhaa
