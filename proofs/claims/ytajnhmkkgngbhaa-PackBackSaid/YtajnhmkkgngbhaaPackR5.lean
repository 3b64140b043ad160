/- The walks of package pack, the reader: a text. -/
import Derived.Test.YtajnhmkkgngbhaaPackR4
import Derived.Test.YtajnhmkkgngbhaaReg3
namespace Go.Proofs.Ytajnhmkkgngbhaa
open Go.RowKit
open Pack (Got cnt whole fixed sizeOf_ text many ints fixes unzig signed64 le)
theorem size_no (R each : Nat) (e : Int) (bs : List (BitVec 8)) (w : World) (hR : ReaderIs w R bs 0) (he : each = 1 ∨ each = 8) (hg : sizeOf_ each bs = .no e) :
    Calls Try.prog 55 #[.pointer (some ⟨R, 0, none⟩), .int .i64 each] w fun x w' => x = thrown e ∧ (∃ rest, ReaderIs w' R rest 0) ∧ Chg [R] w w' :=
  (size_any R each bs w hR he).mono fun x w' h => by rw [hg] at h; exact h
theorem size_yes (R each n : Nat) (bs rest : List (BitVec 8)) (w : World) (hR : ReaderIs w R bs 0) (he : each = 1 ∨ each = 8) (hg : sizeOf_ each bs = .yes n rest) :
    Calls Try.prog 55 #[.pointer (some ⟨R, 0, none⟩), .int .i64 each] w fun x w' => x = .returned (.int .i64 n) ∧ ReaderIs w' R rest 0 ∧ Chg [R] w w' :=
  (size_any R each bs w hR he).mono fun x w' h => by rw [hg] at h; obtain ⟨⟨v, rfl, rfl⟩, h2, h3⟩ := h; exact ⟨rfl, h2, h3⟩
theorem size_le {each n : Nat} {bs rest : List (BitVec 8)} (hz : sizeOf_ each bs = .yes n rest) : rest.length ≤ bs.length ∧ n ≤ rest.length := by
  unfold sizeOf_ at hz
  cases hcn : cnt bs with
  | no e => rw [hcn] at hz; cases hz
  | yes m r =>
    rw [hcn] at hz
    have hlt := (Pack.cnt_lt hcn).2
    simp only [Pack.Got.then] at hz
    by_cases h : r.length / each < m
    · rw [if_pos h] at hz; cases hz
    · rw [if_neg h] at hz
      injection hz with h1 h2
      subst h1 h2
      have := Nat.div_le_self r.length each
      omega
/-- A text that was read: a row of the call's own. -/
def isText (base : Nat) (w : World) (bs : List (BitVec 8)) (v : Value) : Prop := ∃ p n c, v = .slice p n c ∧ Own w base 5 v (bs.map byteV)
/-- An operation that calls a Go function which throws. -/
theorem op_throws {P : Program} {ops : Array Oper} {Q : Exit → Act → World → Prop} {K : Act → World → Prop} {i : Nat} {o : Oper} {a : Act} {w w1 : World} {f : FuncId} {args : Array Value} (ho : ops[i]? = some o) (hg : o.guard = none)
    (hrun : (execOp a.eval o).run P w = .ok (.enter f args) w1) (hc : Calls P f args w1 fun e w' => ∃ ch, e = .panicked ch ∧ Q (.panic ch) a w') : wpOp P ops Q i K a w := by
  unfold wpOp
  rw [ho]
  simp only []
  rw [if_pos (by simp [Region.wanted, hg])]
  refine .inl ?_
  unfold Oper.wp
  rw [hrun]
  refine Calls.mono hc ?_
  rintro e w' ⟨ch, rfl, hQ⟩
  exact hQ
set_option maxHeartbeats 1000000 in
theorem bytes1_no (R B : Nat) (e : Int) (bs : List (BitVec 8)) (w : World) (hR : ReaderIs w R bs 0) (hB : w.cell? ⟨B, 0, none⟩ = some (.pointer (some ⟨R, 0, none⟩))) (hg : sizeOf_ 1 bs = .no e) :
    Calls Try.prog 53 #[.pointer (some ⟨B, 0, none⟩)] w (RdPost (isText w.heap.size) R w (text bs)) := by
  have HG : Hid (text bs = .no e) := by unfold text; rw [hg]; rfl
  have HR := Lib.hid hR
  have HZ := Lib.hid hg
  clear hR hg
  go_enter Try.func53, Try.ntmps53
  go_wp2_with fail
  refine wp_region_facts (by kernel_rfl) (by kernel_rfl) (fun t v w => match t with
    | 3 => v = .pointer (some ⟨R, 0, none⟩)
    | 4 => v = .pointer (some ⟨R, 0, none⟩)
    | 5 => False
    | 6 => False
    | 7 => False
    | _ => True) (fun w w' => Chg [] w w') (fun h h' => h.trans h') ((Chg.refl _ _).drewN 1) ?_ ?_ ?_
  · intro t v w w' _ h _
    exact h
  · intro i o ac w1 ho hR1 hdf hsz hbase hfact
    clear hsz
    have hB1 : w1.cell? ⟨B, 0, none⟩ = some (.pointer (some ⟨R, 0, none⟩)) := (hR1.cell B 0 (cell_lt hB) (by simp)).trans hB
    match i, ho with
    | 0, ho =>
      injection ho with ho
      subst ho
      refine op_done rfl rfl (v := .slice (some ⟨w1.heap.size, 0, none⟩) 0 0) (w' := w1.alloc (.cells #[] 5)) ?_ ((Chg.refl _ _).alloc _) (by rintro t ⟨⟩; trivial)
      clear hfact hbase
      go_simp
    | 1, ho =>
      injection ho with ho
      subst ho
      have h1 := slot_of (hbase 0 (base_of (by kernel_rfl)) (by decide))
      refine op_done rfl rfl (v := .pointer (some ⟨R, 0, none⟩)) (w' := w1) ?_ (Chg.refl _ _) (by rintro t ⟨⟩; rfl)
      clear hfact hbase
      go_simp
    | 2, ho =>
      injection ho with ho
      subst ho
      have h1 := slot_of (hbase 0 (base_of (by kernel_rfl)) (by decide))
      refine op_done rfl rfl (v := .pointer (some ⟨R, 0, none⟩)) (w' := w1) ?_ (Chg.refl _ _) (by rintro t ⟨⟩; rfl)
      clear hfact hbase
      go_simp
    | 3, ho =>
      injection ho with ho
      subst ho
      have h1 := slot_of (hfact 2 4 (by kernel_rfl) (by kernel_rfl))
      refine op_throws rfl rfl (f := 55) (args := #[.pointer (some ⟨R, 0, none⟩), .int .i64 1]) (w1 := w1) ?_ ?_
      · clear hfact hbase
        go_simp
      · refine (size_no R 1 e bs w1 (HR.out.chg hR1 (by simp)) (.inl rfl) HZ.out).mono ?_
        rintro x w2 ⟨rfl, ⟨rest, hr⟩, hc⟩
        exact ⟨_, rfl, hdf, RdPost.no HG.out hr ((hR1.mono (by simp)).more hc (by simp))⟩
    | 4, ho => exact absurd (hfact 3 5 (by kernel_rfl) (by kernel_rfl)) (by simp)
    | 5, ho => exact absurd (hfact 4 6 (by kernel_rfl) (by kernel_rfl)) (by simp)
    | 6, ho => exact absurd (hfact 5 7 (by kernel_rfl) (by kernel_rfl)) (by simp)
  · intro a w1 _ _ _ _ hf
    exact absurd (hf 3 5 (by kernel_rfl)) (by simp)
set_option maxHeartbeats 1000000 in
theorem bytes1_yes (R B n : Nat) (bs rest : List (BitVec 8)) (w : World) (hR : ReaderIs w R bs 0) (hB : w.cell? ⟨B, 0, none⟩ = some (.pointer (some ⟨R, 0, none⟩))) (hBR : B ≠ R) (hg : sizeOf_ 1 bs = .yes n rest) (hl : bs.length ≤ 2000000) :
    Calls Try.prog 53 #[.pointer (some ⟨B, 0, none⟩)] w (RdPost (isText w.heap.size) R w (text bs)) := by
  have HG : Hid (text bs = .yes (rest.take n) (rest.drop n)) := by unfold text; rw [hg]; rfl
  have HR := Lib.hid hR
  have HZ := Lib.hid hg
  have HBR := Lib.hid hBR
  clear hR hg hBR
  go_enter Try.func53, Try.ntmps53
  go_wp2_with fail
  have hbs : rest.length ≤ 2000000 ∧ n ≤ rest.length := by have hs := size_le HZ.out; omega
  have HL := Lib.hid hbs
  have hBl := cell_lt hB
  clear hl hbs
  refine wp_region_inv (by kernel_rfl) (by kernel_rfl) (fun f a w' => ∃ x1 x2 x3 x4 x5 x6 x7, a = { tmps := #[.pointer (some ⟨B, 0, none⟩), x1, x2, x3, x4, x5, x6, x7], defers := [] } ∧ Chg [R] w w' ∧
      (f 0 = true → ∃ g, x2 = .slice (some ⟨g, 0, none⟩) 0 0 ∧ (f 5 = false → Own w' w.heap.size 5 x2 [])) ∧ (f 1 = true → x3 = .pointer (some ⟨R, 0, none⟩)) ∧ (f 2 = true → x4 = .pointer (some ⟨R, 0, none⟩)) ∧ (f 3 = true → x5 = .int .i64 n) ∧
      (f 4 = true → IsBytes w' x6 (rest.take n) ∧ ∃ b off, x6 = .slice (some ⟨b, off, none⟩) n n ∧ b < R) ∧ (f 5 = true → isText w.heap.size w' (rest.take n) x7) ∧ (f 6 = true → isText w.heap.size w' (rest.take n) x1) ∧
      ReaderIs w' R (if f 4 = true then rest.drop n else if f 3 = true then rest else bs) 0 ∧ (f 4 = true → f 3 = true) ∧ (f 6 = true → f 5 = true)) ?_ ?_ ?_
  · exact ⟨_, _, _, _, _, _, _, rfl, (Chg.refl _ _).drewN 1, by simp, by simp, by simp, by simp, by simp, by simp, by simp, HR.out.chg ((Chg.refl [] _).drewN 1) (by simp), by simp, by simp⟩
  · rintro f i o a w1 ho ⟨x1, x2, x3, x4, x5, x6, x7, rfl, hc, h0, h1, h2, h3, h4, h5, h6, hr, h43, h65⟩ hfi hpre
    have hB1 : w1.cell? ⟨B, 0, none⟩ = some (.pointer (some ⟨R, 0, none⟩)) := (hc.cell B 0 hBl (by simpa using HBR.out)).trans hB
    match i, ho with
    | 0, ho =>
      injection ho with ho
      subst ho
      clear hpre
      refine inv_done rfl rfl (v := .slice (some ⟨w1.heap.size, 0, none⟩) 0 0) (w' := w1.alloc (.cells #[] 5)) (by go_simp) ?_
      have ch := (Chg.refl [] w1).alloc (.cells #[] 5)
      refine ⟨_, _, _, _, _, _, _, rfl, hc.alloc _, ?_⟩
      simp only [upd, if_true, if_false, Nat.reduceEqDiff, forall_const]
      refine ⟨⟨_, rfl, fun _ => Own.empty_ rfl hc.size⟩, h1, h2, h3, fun h => ⟨(h4 h).1.alloc _, (h4 h).2⟩, fun h => ?_, fun h => ?_, hr.alloc _, h43, h65⟩
      · obtain ⟨p, m, c, rfl, ho⟩ := h5 h; exact ⟨p, m, c, rfl, ho.alloc _⟩
      · obtain ⟨p, m, c, rfl, ho⟩ := h6 h; exact ⟨p, m, c, rfl, ho.alloc _⟩
    | 1, ho =>
      injection ho with ho
      subst ho
      clear hpre
      refine inv_done rfl rfl (v := .pointer (some ⟨R, 0, none⟩)) (w' := w1) (by go_simp) ?_
      refine ⟨_, _, _, _, _, _, _, rfl, hc, ?_⟩
      simp only [upd, if_true, if_false, Nat.reduceEqDiff, forall_const]
      exact ⟨h0, trivial, h2, h3, h4, h5, h6, hr, h43, h65⟩
    | 2, ho =>
      injection ho with ho
      subst ho
      clear hpre
      refine inv_done rfl rfl (v := .pointer (some ⟨R, 0, none⟩)) (w' := w1) (by go_simp) ?_
      refine ⟨_, _, _, _, _, _, _, rfl, hc, ?_⟩
      simp only [upd, if_true, if_false, Nat.reduceEqDiff, forall_const]
      exact ⟨h0, h1, trivial, h3, h4, h5, h6, hr, h43, h65⟩
    | 3, ho =>
      injection ho with ho
      subst ho
      obtain rfl := h2 (hpre 2 (by kernel_rfl))
      have hf4 : f 4 = false := by
        cases h : f 4 with
        | false => rfl
        | true => have := h43 h; rw [hfi] at this; cases this
      rw [hf4, hfi] at hr
      have hr' : ReaderIs w1 R bs 0 := hr
      clear hpre
      refine inv_call rfl rfl (f := 55) (args := #[.pointer (some ⟨R, 0, none⟩), .int .i64 1]) (w1 := w1) (by go_simp) ?_
      refine (size_yes R 1 n bs rest w1 hr' (.inl rfl) HZ.out).mono ?_
      rintro x w2 ⟨rfl, hr2, hc2⟩
      refine .inl ⟨_, rfl, _, _, _, _, _, _, _, rfl, hc.trans hc2, ?_⟩
      simp only [upd, if_true, if_false, Nat.reduceEqDiff, forall_const]
      have hRl := HR.out.lt
      refine ⟨fun h => ?_, h1, fun _ => trivial, trivial, fun h => (by rw [hf4] at h; cases h), fun h => ?_, fun h => ?_, by rw [hf4]; exact hr2, fun h => trivial, h65⟩
      · obtain ⟨g, rfl, ho⟩ := h0 h; exact ⟨g, rfl, fun h' => (ho h').chg hc2 (by simpa using hRl)⟩
      · obtain ⟨p, m, c, rfl, ho⟩ := h5 h; exact ⟨p, m, c, rfl, ho.chg hc2 (by simpa using hRl)⟩
      · obtain ⟨p, m, c, rfl, ho⟩ := h6 h; exact ⟨p, m, c, rfl, ho.chg hc2 (by simpa using hRl)⟩
    | 4, ho =>
      injection ho with ho
      subst ho
      obtain rfl := h1 (hpre 1 (by kernel_rfl))
      have hf3 := hpre 3 (by kernel_rfl)
      obtain rfl := h3 hf3
      rw [hf3, hfi] at hr
      have hr' : ReaderIs w1 R rest 0 := hr
      clear hpre
      refine inv_call rfl rfl (f := 54) (args := #[.pointer (some ⟨R, 0, none⟩), .int .i64 n]) (w1 := w1) (by go_simp) ?_
      refine (next_ok R n rest 0 w1 hr' HL.out.2).mono ?_
      rintro x w2 ⟨b, off, rfl, hb, hat, hr2, hc2⟩
      refine .inl ⟨_, rfl, _, _, _, _, _, _, _, rfl, hc.trans hc2, ?_⟩
      simp only [upd, if_true, if_false, Nat.reduceEqDiff, forall_const]
      have hRl := HR.out.lt
      refine ⟨fun h => ?_, fun _ => trivial, h2, fun _ => trivial, ⟨⟨_, _, _, rfl, by have := HL.out.2; rw [List.length_take]; omega, Nat.le_refl _, by have := HL.out; unfold maxLen; omega, .inr ⟨b, off, rfl, Nat.lt_trans hb hr2.lt, hat⟩⟩, b, off, rfl, hb⟩, fun h => ?_, fun h => ?_, hr2, hf3, h65⟩
      · obtain ⟨g, rfl, ho⟩ := h0 h; exact ⟨g, rfl, fun h' => (ho h').chg hc2 (by simpa using hRl)⟩
      · obtain ⟨p, m, c, rfl, ho⟩ := h5 h; exact ⟨p, m, c, rfl, ho.chg hc2 (by simpa using hRl)⟩
      · obtain ⟨p, m, c, rfl, ho⟩ := h6 h; exact ⟨p, m, c, rfl, ho.chg hc2 (by simpa using hRl)⟩
    | 5, ho =>
      injection ho with ho
      subst ho
      obtain ⟨g, rfl, hown⟩ := h0 (hpre 0 (by kernel_rfl))
      have hf4 := hpre 4 (by kernel_rfl)
      obtain ⟨hb6, b, off, rfl, hb⟩ := h4 hf4
      clear hpre
      have hRl := HR.out.lt
      refine inv_append rfl rfl (.tmp 2) (.tmp 6) 24 rfl elemU8 rfl (hown hfi) rfl hb6.reads one_byteV (by have := HL.out; rw [List.length_map, List.length_take, List.length_nil]; omega) (by have := HL.out; rw [List.length_map, List.length_take, List.length_nil]; unfold maxLen; omega) ?_
      intro v' w2 hown2 hg2 _
      have hge := ((hown hfi).block_ge g rfl).1
      have hc2 : Chg [g] w1 w2 := Chg.of_grown hg2
      rw [List.nil_append] at hown2
      obtain ⟨p, m, c, rfl, _⟩ := hown2.form_
      refine ⟨_, _, _, _, _, _, _, rfl, hc.more (hc2) (by simp; omega), ?_⟩
      simp only [upd, if_true, if_false, Nat.reduceEqDiff, forall_const]
      refine ⟨fun h => ⟨g, rfl, fun h' => by cases h'⟩, h1, h2, h3, fun _ => ⟨hb6.chg hc2 (by rintro p' n' c' he; injection he with he; injection he with he; subst he; simp; omega), b, off, rfl, hb⟩, ⟨p, m, c, rfl, hown2⟩, fun h => ?_, hr.chg hc2 (by simp; omega), h43, fun _ => trivial⟩
      rw [hfi] at h65; exact absurd (h65 h) (by simp)
    | 6, ho =>
      injection ho with ho
      subst ho
      have hf5 := hpre 5 (by kernel_rfl)
      have hx := h5 hf5
      obtain ⟨p, m, c, rfl, hx'⟩ := hx
      clear hpre
      refine inv_done rfl rfl (v := .slice p m c) (w' := w1) (by go_simp) ?_
      refine ⟨_, _, _, _, _, _, _, rfl, hc, ?_⟩
      simp only [upd, if_true, if_false, Nat.reduceEqDiff, forall_const]
      exact ⟨h0, h1, h2, h3, h4, h5, ⟨p, m, c, rfl, hx'⟩, hr, h43, hf5⟩
  · rintro f a w1 ⟨x1, x2, x3, x4, x5, x6, x7, rfl, hc, h0, h1, h2, h3, h4, h5, h6, hr, h43, h65⟩ hall
    rw [hall 4 (by decide)] at hr
    have hr' : ReaderIs w1 R (rest.drop n) 0 := hr
    obtain ⟨p, m, c, rfl, ho⟩ := h6 (hall 6 (by decide))
    have HO := Lib.hid ho
    have HR2 := Lib.hid hr'
    have HC := Lib.hid hc
    clear h0 h1 h2 h3 h4 h5 h6 hr hr' h43 h65 hall ho hc hB
    go_wp2_with fail
    go_ret
    exact RdPost.yes HG.out ⟨p, m, c, rfl, HO.out⟩ HR2.out HC.out
end Go.Proofs.Ytajnhmkkgngbhaa
