/- The law PackOne, walked. -/
import Derived.Test.YtajnhmkkgngbhaaLaw12N
import Derived.Test.YtajnhmkkgngbhaaLaw12W
import Derived.Test.YtajnhmkkgngbhaaPackP
namespace Go.Proofs.Ytajnhmkkgngbhaa
open Go.RowKit
open Pack (Got cnt whole fixed text ints fixes form formI eight formT formL okI okN OneForm Bad)

/-- A reader alive at a place, or with an error. -/
def Rd (R : Nat) (bs : List (BitVec 8)) (w : World) : Option Nat → Prop
  | some n => ReaderIs w R (bs.drop n) 0
  | none => ∃ e, e ≠ 0 ∧ ReaderEnd w R e
theorem Rd.below {R : Nat} {bs : List (BitVec 8)} {w w' : World} {o : Option Nat} (h : Rd R bs w o) (hb : Below w.heap.size w w') : Rd R bs w' o := by
  cases o with
  | some n => exact ReaderIs.chg h (Chg.of_below hb : Chg [] w w') (by simp)
  | none => obtain ⟨e, he, h⟩ := h; exact ⟨e, he, h.chg (Chg.of_below hb : Chg [] w w') (by simp)⟩
theorem Rd.chg {C : List Nat} {R : Nat} {bs : List (BitVec 8)} {w w' : World} {o : Option Nat} (h : Rd R bs w o) (hc : Chg C w w') (hs : ∀ x ∈ C, R < x) : Rd R bs w' o := by
  cases o with
  | some n => exact ReaderIs.chg h hc hs
  | none => obtain ⟨e, he, h⟩ := h; exact ⟨e, he, h.chg hc (fun hx => by have := hs R hx; omega)⟩
theorem Rd.lt {R : Nat} {bs : List (BitVec 8)} {w : World} {o : Option Nat} (h : Rd R bs w o) : R < w.heap.size := by
  cases o with
  | some n => exact ReaderIs.lt h
  | none => obtain ⟨e, he, h⟩ := h; exact h.lt
/-- From one place to the next a form lies. -/
def Steps (bs : List (BitVec 8)) (o o' : Option Nat) (f : List (BitVec 8)) : Prop := ∀ n', o' = some n' → n' ≤ bs.length ∧ ∃ n, o = some n ∧ f ++ bs.drop n' = bs.drop n
theorem rd_steps {α : Type} {R n : Nat} {bs : List (BitVec 8)} {g : Got α} {w : World} {f : List (BitVec 8)} (h : RdSt R g w) (hb : Bad g) (hf : ∀ a r, g = .yes a r → f ++ r = bs.drop n) : ∃ o', Rd R bs w o' ∧ Steps bs (some n) o' f := by
  cases g with
  | no e => exact ⟨none, ⟨e, hb.ne e rfl, h⟩, fun n' h => by cases h⟩
  | yes a r =>
    have e := hf a r rfl
    have hl : f.length + r.length = bs.length - n := by rw [← List.length_append, e, List.length_drop]
    have hd : bs.drop (bs.length - r.length) = r := by
      have := congrArg (fun l => l.drop f.length) e
      simp only [List.drop_left, List.drop_drop] at this
      rcases Nat.lt_or_ge n bs.length with hn | hn
      · rw [show bs.length - r.length = n + f.length by omega]; exact this.symm
      · have hr : r = [] := List.length_eq_zero_iff.1 (by omega)
        rw [hr, List.drop_of_length_le (by simp)]
    refine ⟨some (bs.length - r.length), by show ReaderIs w R (bs.drop _) 0; rw [hd]; exact h, fun n' h' => ?_⟩
    injection h' with h'
    subst h'
    exact ⟨by omega, n, rfl, by rw [hd]; exact e⟩

theorem one_U (R : Nat) (bs : List (BitVec 8)) (o : Option Nat) (w : World) (h : Rd R bs w o) :
    Calls Try.prog 23 #[.pointer (some ⟨R, 0, none⟩)] w fun x w' => ∃ (y : Nat) (o' : Option Nat), x = .returned (.int .u64 y) ∧ okN y ∧ Rd R bs w' o' ∧ Chg [R] w w' ∧ Steps bs o o' (form y) := by
  cases o with
  | none =>
    obtain ⟨e, he, hr⟩ := h
    exact (rd_U_shut _ e w (.bad R e hr he)).mono fun x w' ⟨h1, h2⟩ => ⟨0, none, h1, by unfold okN; omega, ⟨e, he, hr.chg (Chg.of_below h2 : Chg [] w w') (by simp)⟩, Chg.of_below h2, fun n' h' => by cases h'⟩
  | some n =>
    refine (rd_U R (bs.drop n) w h).mono fun x w' hq => ?_
    obtain ⟨h1, h2, h3⟩ := hq.u64
    obtain ⟨o', ho, hs⟩ := rd_steps (f := form (cnt (bs.drop n)).nat) h2 (Pack.bad_cnt _) (fun a r hg => by rw [hg]; exact (Pack.cnt_form _ _ _ hg).1)
    refine ⟨_, o', h1, ?_, ho, h3, hs⟩
    cases hg : cnt (bs.drop n) with
    | no e => unfold okN; simp [Got.nat]
    | yes a r => exact (Pack.cnt_form _ _ _ hg).2

theorem one_N (R : Nat) (bs : List (BitVec 8)) (o : Option Nat) (w : World) (h : Rd R bs w o) :
    Calls Try.prog 24 #[.pointer (some ⟨R, 0, none⟩)] w fun x w' => ∃ (y : Int) (o' : Option Nat), x = .returned (.int .i64 y) ∧ okI y ∧ Rd R bs w' o' ∧ Chg [R] w w' ∧ Steps bs o o' (formI y) := by
  cases o with
  | none =>
    obtain ⟨e, he, hr⟩ := h
    exact (rd_N_shut _ e w (.bad R e hr he)).mono fun x w' ⟨h1, h2⟩ => ⟨0, none, h1, by unfold okI; omega, ⟨e, he, hr.chg (Chg.of_below h2 : Chg [] w w') (by simp)⟩, Chg.of_below h2, fun n' h' => by cases h'⟩
  | some n =>
    refine (rd_N R (bs.drop n) w h).mono fun x w' hq => ?_
    obtain ⟨h1, h2, h3⟩ := hq.i64
    obtain ⟨o', ho, hs⟩ := rd_steps (f := formI (whole (bs.drop n)).int) h2 (Pack.bad_whole _) (fun a r hg => by rw [hg]; exact (Pack.whole_form _ _ _ hg).1)
    refine ⟨_, o', h1, ?_, ho, h3, hs⟩
    cases hg : whole (bs.drop n) with
    | no e => unfold okI; simp [Got.int]
    | yes a r => exact (Pack.whole_form _ _ _ hg).2

theorem one_X (R : Nat) (bs : List (BitVec 8)) (o : Option Nat) (w : World) (h : Rd R bs w o) :
    Calls Try.prog 25 #[.pointer (some ⟨R, 0, none⟩)] w fun x w' => ∃ (y : Int) (o' : Option Nat), x = .returned (.int .i64 y) ∧ okI y ∧ Rd R bs w' o' ∧ Chg [R] w w' ∧ Steps bs o o' (eight y) := by
  cases o with
  | none =>
    obtain ⟨e, he, hr⟩ := h
    exact (rd_X_shut _ e w (.bad R e hr he)).mono fun x w' ⟨h1, h2⟩ => ⟨0, none, h1, by unfold okI; omega, ⟨e, he, hr.chg (Chg.of_below h2 : Chg [] w w') (by simp)⟩, Chg.of_below h2, fun n' h' => by cases h'⟩
  | some n =>
    refine (rd_X R (bs.drop n) w h).mono fun x w' hq => ?_
    obtain ⟨h1, h2, h3⟩ := hq.i64
    obtain ⟨o', ho, hs⟩ := rd_steps (f := eight (fixed (bs.drop n)).int) h2 (Pack.bad_fixed _) (fun a r hg => by rw [hg]; exact (Pack.fixed_form _ _ _ hg).1)
    refine ⟨_, o', h1, ?_, ho, h3, hs⟩
    cases hg : fixed (bs.drop n) with
    | no e => unfold okI; simp [Got.int]
    | yes a r => exact (Pack.fixed_form _ _ _ hg).2

theorem text_len (bs : List (BitVec 8)) : (text bs).list.length ≤ bs.length := by
  cases hg : text bs with
  | no e => simp [Got.list]
  | yes a r =>
    have h := congrArg List.length (Pack.text_form _ _ _ hg).1
    unfold formT at h
    simp only [List.length_append] at h
    simp only [Got.list]
    omega

theorem one_B (R : Nat) (bs : List (BitVec 8)) (o : Option Nat) (w : World) (h : Rd R bs w o) (hl : bs.length ≤ 1000) :
    Calls Try.prog 26 #[.pointer (some ⟨R, 0, none⟩)] w fun x w' => ∃ (p : Option Addr) (n c : Nat) (ys : List (BitVec 8)) (o' : Option Nat), x = .returned (.slice p n c) ∧ Own w' w.heap.size 5 (.slice p n c) (ys.map byteV) ∧ ys.length ≤ 1000 ∧ True ∧ Rd R bs w' o' ∧ Chg [R] w w' ∧ Steps bs o o' (formT ys) := by
  cases o with
  | none =>
    obtain ⟨e, he, hr⟩ := h
    exact (rd_B_shut _ e w (.bad R e hr he)).mono fun x w' ⟨h1, h2⟩ => ⟨none, 0, 0, [], none, h1, Own.nil_ h2.size, by simp, by simp, ⟨e, he, hr.chg (Chg.of_below h2 : Chg [] w w') (by simp)⟩, Chg.of_below h2, fun n' h' => by cases h'⟩
  | some n =>
    refine (rd_B R (bs.drop n) w h (by rw [List.length_drop]; omega)).mono fun x w' hq => ?_
    obtain ⟨p, m, c, h1, h1', h2, h3⟩ := hq.text
    obtain ⟨o', ho, hs⟩ := rd_steps (f := formT (text (bs.drop n)).list) h2 (Pack.bad_text _) (fun a r hg => by rw [hg]; exact (Pack.text_form _ _ _ hg).1)
    refine ⟨p, m, c, _, o', h1, h1', ?_, ?_, ho, h3, hs⟩
    · have := text_len (bs.drop n)
      rw [List.length_drop] at this
      omega
    · cases hg : text (bs.drop n) with
      | no e => trivial
      | yes a r => exact (Pack.text_form _ _ _ hg).2

theorem one_L (R : Nat) (bs : List (BitVec 8)) (o : Option Nat) (w : World) (h : Rd R bs w o) (hl : bs.length ≤ 1000) :
    Calls Try.prog 27 #[.pointer (some ⟨R, 0, none⟩)] w fun x w' => ∃ (p : Option Addr) (n c : Nat) (ys : List Int) (o' : Option Nat), x = .returned (.slice p n c) ∧ Own w' w.heap.size 3 (.slice p n c) (ys.map intV) ∧ ys.length ≤ 1000 ∧ (∀ y ∈ ys, okI y) ∧ Rd R bs w' o' ∧ Chg [R] w w' ∧ Steps bs o o' (formL formI ys) := by
  cases o with
  | none =>
    obtain ⟨e, he, hr⟩ := h
    exact (rd_L_shut _ e w (.bad R e hr he)).mono fun x w' ⟨h1, h2⟩ => ⟨none, 0, 0, [], none, h1, Own.nil_ h2.size, by simp, by simp, ⟨e, he, hr.chg (Chg.of_below h2 : Chg [] w w') (by simp)⟩, Chg.of_below h2, fun n' h' => by cases h'⟩
  | some n =>
    refine (rd_L R (bs.drop n) w h (by rw [List.length_drop]; omega)).mono fun x w' hq => ?_
    obtain ⟨p, m, c, h1, h1', h2, h3⟩ := hq.list
    obtain ⟨o', ho, hs⟩ := rd_steps (f := formL formI (ints (bs.drop n)).list) h2 (Pack.bad_ints _) (fun a r hg => by rw [hg]; exact (Pack.ints_form _ _ _ hg).1)
    refine ⟨p, m, c, _, o', h1, h1', ?_, ?_, ho, h3, hs⟩
    · have := Pack.ints_len (bs.drop n)
      rw [List.length_drop] at this
      omega
    · cases hg : ints (bs.drop n) with
      | no e => simp [Got.list]
      | yes a r => exact (Pack.ints_form _ _ _ hg).2

theorem one_F (R : Nat) (bs : List (BitVec 8)) (o : Option Nat) (w : World) (h : Rd R bs w o) (hl : bs.length ≤ 1000) :
    Calls Try.prog 28 #[.pointer (some ⟨R, 0, none⟩)] w fun x w' => ∃ (p : Option Addr) (n c : Nat) (ys : List Int) (o' : Option Nat), x = .returned (.slice p n c) ∧ Own w' w.heap.size 36 (.slice p n c) (ys.map intV) ∧ ys.length ≤ 1000 ∧ (∀ y ∈ ys, okI y) ∧ Rd R bs w' o' ∧ Chg [R] w w' ∧ Steps bs o o' (formL eight ys) := by
  cases o with
  | none =>
    obtain ⟨e, he, hr⟩ := h
    exact (rd_F_shut _ e w (.bad R e hr he)).mono fun x w' ⟨h1, h2⟩ => ⟨none, 0, 0, [], none, h1, Own.nil_ h2.size, by simp, by simp, ⟨e, he, hr.chg (Chg.of_below h2 : Chg [] w w') (by simp)⟩, Chg.of_below h2, fun n' h' => by cases h'⟩
  | some n =>
    refine (rd_F R (bs.drop n) w h (by rw [List.length_drop]; omega)).mono fun x w' hq => ?_
    obtain ⟨p, m, c, h1, h1', h2, h3⟩ := hq.list
    obtain ⟨o', ho, hs⟩ := rd_steps (f := formL eight (fixes (bs.drop n)).list) h2 (Pack.bad_fixes _) (fun a r hg => by rw [hg]; exact (Pack.fixes_form _ _ _ hg).1)
    refine ⟨p, m, c, _, o', h1, h1', ?_, ?_, ho, h3, hs⟩
    · have := Pack.fixes_len (bs.drop n)
      rw [List.length_drop] at this
      omega
    · cases hg : fixes (bs.drop n) with
      | no e => simp [Got.list]
      | yes a r => exact (Pack.fixes_form _ _ _ hg).2

theorem zero_u : (0 : Nat) < 18446744073709551616 := by decide
theorem zero_i : (-9223372036854775808 : Int) ≤ 0 ∧ (0 : Int) ≤ 9223372036854775807 := by decide
def One (R W : Nat) (bs : List (BitVec 8)) (w : World) : Prop := ∃ (o : Option Nat) (st : List (BitVec 8) × Bool), Rd R bs w o ∧ WrIs w W st ∧ ∀ n, o = some n → n ≤ bs.length ∧ st = (bs.take n, false)
theorem one_step {R W : Nat} {bs f : List (BitVec 8)} {w : World} {o o' : Option Nat} {st : List (BitVec 8) × Bool} {t : Th} (hb : bs.length ≤ 1000) (hi : ∀ n, o = some n → n ≤ bs.length ∧ st = (bs.take n, false)) (hr : Rd R bs w o') (hs : Steps bs o o' f) (hw : WrIs w W (wOf st t)) (hf : formOf t = f) : One R W bs w := by
  refine ⟨o', _, hr, hw, fun n' hn' => ?_⟩
  obtain ⟨h1, n, rfl, h2⟩ := hs n' hn'
  obtain ⟨h3, rfl⟩ := hi n rfl
  have hl := congrArg List.length h2
  rw [List.length_append, List.length_drop, List.length_drop] at hl
  rw [wOf_room _ _ (by rw [hf, List.length_take]; omega), hf]
  refine ⟨h1, ?_⟩
  have e : bs = bs.take n ++ f ++ bs.drop n' := by rw [List.append_assoc, h2, List.take_append_drop]
  have : bs.take n' = bs.take n ++ f := by
    conv => lhs; rw [e]
    exact List.take_left' (by rw [List.length_append, List.length_take]; omega)
  rw [this]
set_option maxRecDepth 100000 in
set_option maxHeartbeats 4000000 in
theorem packOne_law (u v : Value) (bs : List (BitVec 8)) (ks : List Int) (w : World) (hu : IsBytes w u bs) (hv : Reads w v (ks.map intV)) :
    Calls Try.prog 8 #[u, v] w fun e w' => e = .returned (.bool true) ∧ Below w.heap.size w w' := by
  have HU := Lib.hid hu
  have HV := Lib.hid hv
  obtain ⟨ua, un, uc, rfl, hul, huc, hum, hub⟩ := hu
  obtain ⟨va, vn, vc, rfl, hvl, hvc, hvm, hvb⟩ := hv
  have HUL := Lib.hid hul
  clear hub hvb hul hvl
  by_cases h : 1000 < un ∨ 60 < vn
  · go_enter Try.func8, Try.ntmps8
    go_wp2_with fail
    refine (awake12_any w).mono ?_
    rintro e w1 ⟨rfl, hb1⟩
    have HB1 := Lib.hid hb1
    clear hb1
    by_cases h1 : (1000 : Int) < (un : Int)
    · go_wp2_with fail
      go_ret
      exact ⟨rfl, HB1.out⟩
    · have h2 : (60 : Int) < (vn : Int) := by omega
      clear h
      go_wp2_with fail
      go_ret
      exact ⟨rfl, HB1.out⟩
  · have h1 : ¬ (1000 : Int) < (un : Int) := by omega
    have h2 : ¬ (60 : Int) < (vn : Int) := by omega
    have hun : un ≤ 1000 := by omega
    have hvn : vn ≤ 60 := by omega
    have HLEN : Hid (bs.length ≤ 1000) := by unfold Hid; have := HUL.out; omega
    clear h
    go_enter Try.func8, Try.ntmps8
    go_wp2_with fail
    refine (awake12_any w).mono ?_
    rintro e w1 ⟨rfl, hb1⟩
    have HB1 := Lib.hid hb1
    have HU1 : Hid (IsBytes w1 (.slice ua un uc) bs) := HU.out.below hb1
    clear hb1
    go_wp2_with fail
    refine (read_is _ bs w1 HU1.out (by have := HLEN.out; omega)).mono ?_
    rintro e w2 ⟨R, rfl, hr2, hge, hb2, -⟩
    have HB2 : Hid (Below w.heap.size w w2) := HB1.out.trans (hb2.mono HB1.out.size)
    obtain ⟨w3, hw3⟩ : ∃ w3, w3 = w2.alloc (.cells #[.slice none 0 0, .bool false] 26) := ⟨_, rfl⟩
    obtain ⟨W, hW⟩ : ∃ W, W = w2.heap.size := ⟨_, rfl⟩
    have HRW : Hid (w.heap.size ≤ R ∧ R < W) := ⟨by have := HB1.out.size; omega, by rw [hW]; exact hr2.lt⟩
    have HB3 : Hid (Below w.heap.size w w3) := by unfold Hid; rw [hw3]; exact HB2.out.alloc HB2.out.size _
    have HONE : Hid (One R W bs w3) := ⟨some 0, ([], false), by rw [hw3]; exact hr2.alloc _, by rw [hw3]; exact (WrAt.new hW.symm).is, fun n hn => by injection hn with hn; subst hn; exact ⟨Nat.zero_le _, rfl⟩⟩
    clear hr2 hge hb2
    go_wp2_with fail
    rw [← hW, ← hw3]
    clear hW hw3
    go_loopw [8, 9, 28] (fun _ _ i wr => ∃ k : Nat, i = .int .i64 k ∧ k ≤ vn ∧ Hid (One R W bs wr) ∧ Hid (Below w.heap.size w wr)) (fun _ _ i _ => vn - (intOf i).toNat)
    case atStart => exact ⟨0, rfl, Nat.zero_le _, HONE.out, HB3.out⟩
    case round =>
      obtain ⟨k, rfl, hk, hone, hb⟩ := hrel
      by_cases hlt : k < vn
      · obtain ⟨b, off, rfl, x, hx, hc0⟩ := int_cell HV.out hb.out k hlt
        obtain ⟨o, st, hrd, hwr, hst⟩ := hone.out
        have HRD := Lib.hid hrd
        have HWR := Lib.hid hwr
        have HST := Lib.hid hst
        clear hx hrd hwr hst
        rcases kinds x with rfl | rfl | rfl | rfl | rfl | rfl | hkk
        · obtain ⟨wa, hwa⟩ : ∃ wa, wa = wr.alloc (.cells #[.int .i64 1, .int .u64 0, .int .i64 0, .int .i64 0, .slice none 0 0, .slice none 0 0, .slice none 0 0] 40) := ⟨_, rfl⟩
          obtain ⟨T, hT⟩ : ∃ T, T = wr.heap.size := ⟨_, rfl⟩
          have HA : Hid (Below wr.heap.size wr wa) := by unfold Hid; rw [hwa]; exact (Below.refl _ _).alloc (Nat.le_refl _) _
          have HCELL : Hid (wa.cell? ⟨T, 0, none⟩ = some (.int .i64 1) ∧ wa.cell? ⟨T, 1, none⟩ = some (.int .u64 0) ∧ wa.cell? ⟨T, 2, none⟩ = some (.int .i64 0) ∧ wa.cell? ⟨T, 3, none⟩ = some (.int .i64 0) ∧ wa.cell? ⟨T, 4, none⟩ = some (.slice none 0 0) ∧ wa.cell? ⟨T, 5, none⟩ = some (.slice none 0 0) ∧ wa.cell? ⟨T, 6, none⟩ = some (.slice none 0 0)) := by unfold Hid; rw [hwa, hT]; simp
          have HFR : Hid (wa.frozen? ⟨T, 1, none⟩ = false) := by unfold Hid; rw [hwa, hT]; simp
          have HT : Hid (T = wr.heap.size ∧ wa.heap.size = T + 1 ∧ W < T ∧ R < T) := by
            have h1 := HWR.out.lt
            have h2 := HRD.out.lt
            unfold Hid
            rw [hwa, hT]
            simp
            omega
          go_wp2_with fail
          rw [← hwa, ← hT]
          clear hwa hT
          refine (one_U R bs o wa (HRD.out.below HA.out)).mono ?_
          rintro e w5 ⟨m, o', rfl, hm, hrd5, hc, hs⟩
          have HOK := Lib.hid hm
          have HRD5 := Lib.hid hrd5
          have HST5 := Lib.hid hs
          have HC5 := Lib.hid hc
          have hTn : T < wa.heap.size := by have := HT.out; omega
          have hTR : T ∉ [R] := by have := HT.out; simp; omega
          obtain ⟨c0, c1, c2, c3, c4, c5, c6⟩ := HCELL.out
          have cc : ∀ o, w5.cell? ⟨T, o, none⟩ = wa.cell? ⟨T, o, none⟩ := fun o => hc.cell T o hTn hTR
          have fr : w5.frozen? ⟨T, 1, none⟩ = false := (hc.frozen T _ hTn hTR).trans HFR.out
          rw [← cc] at c0 c1 c2 c3 c4 c5 c6
          clear cc hTn hTR hm hrd5 hs hc
          go_wp2_with fail
          obtain ⟨w6, hw6⟩ : ∃ w6, w6 = w5.setCell ⟨T, 1, none⟩ (.int .u64 (m : Int)) := ⟨_, rfl⟩
          have HC6 : Hid (Chg [R] wr w6) := by unfold Hid; rw [hw6]; exact ((Chg.of_below HA.out).trans (HC5.out.more (T := [R]) (Chg.refl _ _) (by simp))).setCell _ _ (.inr (Nat.le_of_eq HT.out.1.symm))
          have HCT : Hid (Chg [T] w5 w6) := by unfold Hid; rw [hw6]; exact (Chg.refl _ _).setCell _ _ (by simp)
          have HRD6 : Hid (Rd R bs w6 o') := HRD5.out.chg HCT.out (by intro y hy; simp at hy; subst hy; exact HT.out.2.2.2)
          have HWR6 : Hid (WrIs w6 W st) := HWR.out.chg HC6.out (by intro y hy; simp at hy; subst hy; exact HRW.out.2)
          obtain ⟨kb, hkb⟩ := HWR6.out.at_
          have HKB := Lib.hid hkb
          rw [← hw6]
          clear hw6 hkb c0 c1 c2 c3 c4 c5 c6 fr
          refine (write_any (some W) kb st ⟨1, m, 0, 0, [], [], []⟩ none none none 0 0 0 0 0 0 w6 HKB.out ⟨HOK.out, zero_i, by simp, (Own.nil_ (Nat.zero_le _) : Own w6 0 0 _ _).reads.bytes (bs := []), (Own.nil_ (Nat.zero_le _) : Own w6 0 0 _ _).reads, (Own.nil_ (Nat.zero_le _) : Own w6 0 0 _ _).reads, zero_i, by simp⟩ (by unfold MidT; simp)).mono ?_
          rintro e w7 ⟨⟨r, rfl⟩, hw7, hb7, hc7⟩
          have HO7 : Hid (One R W bs w7) := one_step HLEN.out HST.out (HRD6.out.chg hc7 (by intro y hy; rcases List.mem_cons.1 hy with h | h; exact h ▸ HRW.out.2; exact Nat.lt_trans HRW.out.2 (HKB.out.lt.2 y h).1)) HST5.out hw7 (by simp [formOf])
          have HB7 : Hid (Below w.heap.size w w7) := (hb.out.trans (HC6.out.below hb.out.size (by intro y hy; simp at hy; subst hy; exact HRW.out.1))).trans (hb7.mono (Nat.le_trans HRW.out.1 (Nat.le_of_lt HRW.out.2)))
          clear hw7 hb7 hc7
          go_wp2_with fail
          exact ⟨⟨k + 1, by go_num, by omega, HO7.out, HB7.out⟩, by simp [intOf]; omega⟩
        · obtain ⟨wa, hwa⟩ : ∃ wa, wa = wr.alloc (.cells #[.int .i64 2, .int .u64 0, .int .i64 0, .int .i64 0, .slice none 0 0, .slice none 0 0, .slice none 0 0] 40) := ⟨_, rfl⟩
          obtain ⟨T, hT⟩ : ∃ T, T = wr.heap.size := ⟨_, rfl⟩
          have HA : Hid (Below wr.heap.size wr wa) := by unfold Hid; rw [hwa]; exact (Below.refl _ _).alloc (Nat.le_refl _) _
          have HCELL : Hid (wa.cell? ⟨T, 0, none⟩ = some (.int .i64 2) ∧ wa.cell? ⟨T, 1, none⟩ = some (.int .u64 0) ∧ wa.cell? ⟨T, 2, none⟩ = some (.int .i64 0) ∧ wa.cell? ⟨T, 3, none⟩ = some (.int .i64 0) ∧ wa.cell? ⟨T, 4, none⟩ = some (.slice none 0 0) ∧ wa.cell? ⟨T, 5, none⟩ = some (.slice none 0 0) ∧ wa.cell? ⟨T, 6, none⟩ = some (.slice none 0 0)) := by unfold Hid; rw [hwa, hT]; simp
          have HFR : Hid (wa.frozen? ⟨T, 2, none⟩ = false) := by unfold Hid; rw [hwa, hT]; simp
          have HT : Hid (T = wr.heap.size ∧ wa.heap.size = T + 1 ∧ W < T ∧ R < T) := by
            have h1 := HWR.out.lt
            have h2 := HRD.out.lt
            unfold Hid
            rw [hwa, hT]
            simp
            omega
          go_wp2_with fail
          rw [← hwa, ← hT]
          clear hwa hT
          refine (one_N R bs o wa (HRD.out.below HA.out)).mono ?_
          rintro e w5 ⟨m, o', rfl, hm, hrd5, hc, hs⟩
          have HOK := Lib.hid hm
          have HRD5 := Lib.hid hrd5
          have HST5 := Lib.hid hs
          have HC5 := Lib.hid hc
          have hTn : T < wa.heap.size := by have := HT.out; omega
          have hTR : T ∉ [R] := by have := HT.out; simp; omega
          obtain ⟨c0, c1, c2, c3, c4, c5, c6⟩ := HCELL.out
          have cc : ∀ o, w5.cell? ⟨T, o, none⟩ = wa.cell? ⟨T, o, none⟩ := fun o => hc.cell T o hTn hTR
          have fr : w5.frozen? ⟨T, 2, none⟩ = false := (hc.frozen T _ hTn hTR).trans HFR.out
          rw [← cc] at c0 c1 c2 c3 c4 c5 c6
          clear cc hTn hTR hm hrd5 hs hc
          go_wp2_with fail
          obtain ⟨w6, hw6⟩ : ∃ w6, w6 = w5.setCell ⟨T, 2, none⟩ (.int .i64 m) := ⟨_, rfl⟩
          have HC6 : Hid (Chg [R] wr w6) := by unfold Hid; rw [hw6]; exact ((Chg.of_below HA.out).trans (HC5.out.more (T := [R]) (Chg.refl _ _) (by simp))).setCell _ _ (.inr (Nat.le_of_eq HT.out.1.symm))
          have HCT : Hid (Chg [T] w5 w6) := by unfold Hid; rw [hw6]; exact (Chg.refl _ _).setCell _ _ (by simp)
          have HRD6 : Hid (Rd R bs w6 o') := HRD5.out.chg HCT.out (by intro y hy; simp at hy; subst hy; exact HT.out.2.2.2)
          have HWR6 : Hid (WrIs w6 W st) := HWR.out.chg HC6.out (by intro y hy; simp at hy; subst hy; exact HRW.out.2)
          obtain ⟨kb, hkb⟩ := HWR6.out.at_
          have HKB := Lib.hid hkb
          rw [← hw6]
          clear hw6 hkb c0 c1 c2 c3 c4 c5 c6 fr
          refine (write_any (some W) kb st ⟨2, 0, m, 0, [], [], []⟩ none none none 0 0 0 0 0 0 w6 HKB.out ⟨zero_u, HOK.out, by simp, (Own.nil_ (Nat.zero_le _) : Own w6 0 0 _ _).reads.bytes (bs := []), (Own.nil_ (Nat.zero_le _) : Own w6 0 0 _ _).reads, (Own.nil_ (Nat.zero_le _) : Own w6 0 0 _ _).reads, zero_i, by simp⟩ (by unfold MidT; simp)).mono ?_
          rintro e w7 ⟨⟨r, rfl⟩, hw7, hb7, hc7⟩
          have HO7 : Hid (One R W bs w7) := one_step HLEN.out HST.out (HRD6.out.chg hc7 (by intro y hy; rcases List.mem_cons.1 hy with h | h; exact h ▸ HRW.out.2; exact Nat.lt_trans HRW.out.2 (HKB.out.lt.2 y h).1)) HST5.out hw7 (by simp [formOf])
          have HB7 : Hid (Below w.heap.size w w7) := (hb.out.trans (HC6.out.below hb.out.size (by intro y hy; simp at hy; subst hy; exact HRW.out.1))).trans (hb7.mono (Nat.le_trans HRW.out.1 (Nat.le_of_lt HRW.out.2)))
          clear hw7 hb7 hc7
          go_wp2_with fail
          exact ⟨⟨k + 1, by go_num, by omega, HO7.out, HB7.out⟩, by simp [intOf]; omega⟩
        · obtain ⟨wa, hwa⟩ : ∃ wa, wa = wr.alloc (.cells #[.int .i64 3, .int .u64 0, .int .i64 0, .int .i64 0, .slice none 0 0, .slice none 0 0, .slice none 0 0] 40) := ⟨_, rfl⟩
          obtain ⟨T, hT⟩ : ∃ T, T = wr.heap.size := ⟨_, rfl⟩
          have HA : Hid (Below wr.heap.size wr wa) := by unfold Hid; rw [hwa]; exact (Below.refl _ _).alloc (Nat.le_refl _) _
          have HCELL : Hid (wa.cell? ⟨T, 0, none⟩ = some (.int .i64 3) ∧ wa.cell? ⟨T, 1, none⟩ = some (.int .u64 0) ∧ wa.cell? ⟨T, 2, none⟩ = some (.int .i64 0) ∧ wa.cell? ⟨T, 3, none⟩ = some (.int .i64 0) ∧ wa.cell? ⟨T, 4, none⟩ = some (.slice none 0 0) ∧ wa.cell? ⟨T, 5, none⟩ = some (.slice none 0 0) ∧ wa.cell? ⟨T, 6, none⟩ = some (.slice none 0 0)) := by unfold Hid; rw [hwa, hT]; simp
          have HFR : Hid (wa.frozen? ⟨T, 3, none⟩ = false) := by unfold Hid; rw [hwa, hT]; simp
          have HT : Hid (T = wr.heap.size ∧ wa.heap.size = T + 1 ∧ W < T ∧ R < T) := by
            have h1 := HWR.out.lt
            have h2 := HRD.out.lt
            unfold Hid
            rw [hwa, hT]
            simp
            omega
          go_wp2_with fail
          rw [← hwa, ← hT]
          clear hwa hT
          refine (one_X R bs o wa (HRD.out.below HA.out)).mono ?_
          rintro e w5 ⟨m, o', rfl, hm, hrd5, hc, hs⟩
          have HOK := Lib.hid hm
          have HRD5 := Lib.hid hrd5
          have HST5 := Lib.hid hs
          have HC5 := Lib.hid hc
          have hTn : T < wa.heap.size := by have := HT.out; omega
          have hTR : T ∉ [R] := by have := HT.out; simp; omega
          obtain ⟨c0, c1, c2, c3, c4, c5, c6⟩ := HCELL.out
          have cc : ∀ o, w5.cell? ⟨T, o, none⟩ = wa.cell? ⟨T, o, none⟩ := fun o => hc.cell T o hTn hTR
          have fr : w5.frozen? ⟨T, 3, none⟩ = false := (hc.frozen T _ hTn hTR).trans HFR.out
          rw [← cc] at c0 c1 c2 c3 c4 c5 c6
          clear cc hTn hTR hm hrd5 hs hc
          go_wp2_with fail
          obtain ⟨w6, hw6⟩ : ∃ w6, w6 = w5.setCell ⟨T, 3, none⟩ (.int .i64 m) := ⟨_, rfl⟩
          have HC6 : Hid (Chg [R] wr w6) := by unfold Hid; rw [hw6]; exact ((Chg.of_below HA.out).trans (HC5.out.more (T := [R]) (Chg.refl _ _) (by simp))).setCell _ _ (.inr (Nat.le_of_eq HT.out.1.symm))
          have HCT : Hid (Chg [T] w5 w6) := by unfold Hid; rw [hw6]; exact (Chg.refl _ _).setCell _ _ (by simp)
          have HRD6 : Hid (Rd R bs w6 o') := HRD5.out.chg HCT.out (by intro y hy; simp at hy; subst hy; exact HT.out.2.2.2)
          have HWR6 : Hid (WrIs w6 W st) := HWR.out.chg HC6.out (by intro y hy; simp at hy; subst hy; exact HRW.out.2)
          obtain ⟨kb, hkb⟩ := HWR6.out.at_
          have HKB := Lib.hid hkb
          rw [← hw6]
          clear hw6 hkb c0 c1 c2 c3 c4 c5 c6 fr
          refine (write_any (some W) kb st ⟨3, 0, 0, m, [], [], []⟩ none none none 0 0 0 0 0 0 w6 HKB.out ⟨zero_u, zero_i, by simp, (Own.nil_ (Nat.zero_le _) : Own w6 0 0 _ _).reads.bytes (bs := []), (Own.nil_ (Nat.zero_le _) : Own w6 0 0 _ _).reads, (Own.nil_ (Nat.zero_le _) : Own w6 0 0 _ _).reads, HOK.out, by simp⟩ (by unfold MidT; simp)).mono ?_
          rintro e w7 ⟨⟨r, rfl⟩, hw7, hb7, hc7⟩
          have HO7 : Hid (One R W bs w7) := one_step HLEN.out HST.out (HRD6.out.chg hc7 (by intro y hy; rcases List.mem_cons.1 hy with h | h; exact h ▸ HRW.out.2; exact Nat.lt_trans HRW.out.2 (HKB.out.lt.2 y h).1)) HST5.out hw7 (by simp [formOf])
          have HB7 : Hid (Below w.heap.size w w7) := (hb.out.trans (HC6.out.below hb.out.size (by intro y hy; simp at hy; subst hy; exact HRW.out.1))).trans (hb7.mono (Nat.le_trans HRW.out.1 (Nat.le_of_lt HRW.out.2)))
          clear hw7 hb7 hc7
          go_wp2_with fail
          exact ⟨⟨k + 1, by go_num, by omega, HO7.out, HB7.out⟩, by simp [intOf]; omega⟩
        · obtain ⟨wa, hwa⟩ : ∃ wa, wa = wr.alloc (.cells #[.int .i64 4, .int .u64 0, .int .i64 0, .int .i64 0, .slice none 0 0, .slice none 0 0, .slice none 0 0] 40) := ⟨_, rfl⟩
          obtain ⟨T, hT⟩ : ∃ T, T = wr.heap.size := ⟨_, rfl⟩
          have HA : Hid (Below wr.heap.size wr wa) := by unfold Hid; rw [hwa]; exact (Below.refl _ _).alloc (Nat.le_refl _) _
          have HCELL : Hid (wa.cell? ⟨T, 0, none⟩ = some (.int .i64 4) ∧ wa.cell? ⟨T, 1, none⟩ = some (.int .u64 0) ∧ wa.cell? ⟨T, 2, none⟩ = some (.int .i64 0) ∧ wa.cell? ⟨T, 3, none⟩ = some (.int .i64 0) ∧ wa.cell? ⟨T, 4, none⟩ = some (.slice none 0 0) ∧ wa.cell? ⟨T, 5, none⟩ = some (.slice none 0 0) ∧ wa.cell? ⟨T, 6, none⟩ = some (.slice none 0 0)) := by unfold Hid; rw [hwa, hT]; simp
          have HFR : Hid (wa.frozen? ⟨T, 4, none⟩ = false) := by unfold Hid; rw [hwa, hT]; simp
          have HT : Hid (T = wr.heap.size ∧ wa.heap.size = T + 1 ∧ W < T ∧ R < T) := by
            have h1 := HWR.out.lt
            have h2 := HRD.out.lt
            unfold Hid
            rw [hwa, hT]
            simp
            omega
          go_wp2_with fail
          rw [← hwa, ← hT]
          clear hwa hT
          refine (one_B R bs o wa (HRD.out.below HA.out) HLEN.out).mono ?_
          rintro e w5 ⟨p, n, c, ys, o', rfl, hown, hlen, hm, hrd5, hc, hs⟩
          have HOK := Lib.hid hm
          have HRD5 := Lib.hid hrd5
          have HST5 := Lib.hid hs
          have HC5 := Lib.hid hc
          have HOWN := Lib.hid hown
          have HLN := Lib.hid hlen
          have hTn : T < wa.heap.size := by have := HT.out; omega
          have hTR : T ∉ [R] := by have := HT.out; simp; omega
          obtain ⟨c0, c1, c2, c3, c4, c5, c6⟩ := HCELL.out
          have cc : ∀ o, w5.cell? ⟨T, o, none⟩ = wa.cell? ⟨T, o, none⟩ := fun o => hc.cell T o hTn hTR
          have fr : w5.frozen? ⟨T, 4, none⟩ = false := (hc.frozen T _ hTn hTR).trans HFR.out
          rw [← cc] at c0 c1 c2 c3 c4 c5 c6
          clear cc hTn hTR hm hrd5 hs hc hown hlen
          go_wp2_with fail
          obtain ⟨w6, hw6⟩ : ∃ w6, w6 = w5.setCell ⟨T, 4, none⟩ (.slice p n c) := ⟨_, rfl⟩
          have HC6 : Hid (Chg [R] wr w6) := by unfold Hid; rw [hw6]; exact ((Chg.of_below HA.out).trans (HC5.out.more (T := [R]) (Chg.refl _ _) (by simp))).setCell _ _ (.inr (Nat.le_of_eq HT.out.1.symm))
          have HCT : Hid (Chg [T] w5 w6) := by unfold Hid; rw [hw6]; exact (Chg.refl _ _).setCell _ _ (by simp)
          have HRD6 : Hid (Rd R bs w6 o') := HRD5.out.chg HCT.out (by intro y hy; simp at hy; subst hy; exact HT.out.2.2.2)
          have HWR6 : Hid (WrIs w6 W st) := HWR.out.chg HC6.out (by intro y hy; simp at hy; subst hy; exact HRW.out.2)
          have HOW6 : Hid (Own w6 wa.heap.size 5 (.slice p n c) (ys.map byteV)) := HOWN.out.chg HCT.out (by intro y hy; simp at hy; have := HT.out; omega)
          obtain ⟨kb, hkb⟩ := HWR6.out.at_
          have HKB := Lib.hid hkb
          rw [← hw6]
          clear hw6 hkb c0 c1 c2 c3 c4 c5 c6 fr
          refine (write_any (some W) kb st ⟨4, 0, 0, 0, ys, [], []⟩ p none none n c 0 0 0 0 w6 HKB.out ⟨zero_u, zero_i, by simp, HOW6.out.reads.bytes, (Own.nil_ (Nat.zero_le _) : Own w6 0 0 _ _).reads, (Own.nil_ (Nat.zero_le _) : Own w6 0 0 _ _).reads, zero_i, by simp⟩ (by unfold MidT; have := HLN.out; simp; omega)).mono ?_
          rintro e w7 ⟨⟨r, rfl⟩, hw7, hb7, hc7⟩
          have HO7 : Hid (One R W bs w7) := one_step HLEN.out HST.out (HRD6.out.chg hc7 (by intro y hy; rcases List.mem_cons.1 hy with h | h; exact h ▸ HRW.out.2; exact Nat.lt_trans HRW.out.2 (HKB.out.lt.2 y h).1)) HST5.out hw7 (by simp [formOf])
          have HB7 : Hid (Below w.heap.size w w7) := (hb.out.trans (HC6.out.below hb.out.size (by intro y hy; simp at hy; subst hy; exact HRW.out.1))).trans (hb7.mono (Nat.le_trans HRW.out.1 (Nat.le_of_lt HRW.out.2)))
          clear hw7 hb7 hc7
          go_wp2_with fail
          exact ⟨⟨k + 1, by go_num, by omega, HO7.out, HB7.out⟩, by simp [intOf]; omega⟩
        · obtain ⟨wa, hwa⟩ : ∃ wa, wa = wr.alloc (.cells #[.int .i64 5, .int .u64 0, .int .i64 0, .int .i64 0, .slice none 0 0, .slice none 0 0, .slice none 0 0] 40) := ⟨_, rfl⟩
          obtain ⟨T, hT⟩ : ∃ T, T = wr.heap.size := ⟨_, rfl⟩
          have HA : Hid (Below wr.heap.size wr wa) := by unfold Hid; rw [hwa]; exact (Below.refl _ _).alloc (Nat.le_refl _) _
          have HCELL : Hid (wa.cell? ⟨T, 0, none⟩ = some (.int .i64 5) ∧ wa.cell? ⟨T, 1, none⟩ = some (.int .u64 0) ∧ wa.cell? ⟨T, 2, none⟩ = some (.int .i64 0) ∧ wa.cell? ⟨T, 3, none⟩ = some (.int .i64 0) ∧ wa.cell? ⟨T, 4, none⟩ = some (.slice none 0 0) ∧ wa.cell? ⟨T, 5, none⟩ = some (.slice none 0 0) ∧ wa.cell? ⟨T, 6, none⟩ = some (.slice none 0 0)) := by unfold Hid; rw [hwa, hT]; simp
          have HFR : Hid (wa.frozen? ⟨T, 5, none⟩ = false) := by unfold Hid; rw [hwa, hT]; simp
          have HT : Hid (T = wr.heap.size ∧ wa.heap.size = T + 1 ∧ W < T ∧ R < T) := by
            have h1 := HWR.out.lt
            have h2 := HRD.out.lt
            unfold Hid
            rw [hwa, hT]
            simp
            omega
          go_wp2_with fail
          rw [← hwa, ← hT]
          clear hwa hT
          refine (one_L R bs o wa (HRD.out.below HA.out) HLEN.out).mono ?_
          rintro e w5 ⟨p, n, c, ys, o', rfl, hown, hlen, hm, hrd5, hc, hs⟩
          have HOK := Lib.hid hm
          have HRD5 := Lib.hid hrd5
          have HST5 := Lib.hid hs
          have HC5 := Lib.hid hc
          have HOWN := Lib.hid hown
          have HLN := Lib.hid hlen
          have hTn : T < wa.heap.size := by have := HT.out; omega
          have hTR : T ∉ [R] := by have := HT.out; simp; omega
          obtain ⟨c0, c1, c2, c3, c4, c5, c6⟩ := HCELL.out
          have cc : ∀ o, w5.cell? ⟨T, o, none⟩ = wa.cell? ⟨T, o, none⟩ := fun o => hc.cell T o hTn hTR
          have fr : w5.frozen? ⟨T, 5, none⟩ = false := (hc.frozen T _ hTn hTR).trans HFR.out
          rw [← cc] at c0 c1 c2 c3 c4 c5 c6
          clear cc hTn hTR hm hrd5 hs hc hown hlen
          go_wp2_with fail
          obtain ⟨w6, hw6⟩ : ∃ w6, w6 = w5.setCell ⟨T, 5, none⟩ (.slice p n c) := ⟨_, rfl⟩
          have HC6 : Hid (Chg [R] wr w6) := by unfold Hid; rw [hw6]; exact ((Chg.of_below HA.out).trans (HC5.out.more (T := [R]) (Chg.refl _ _) (by simp))).setCell _ _ (.inr (Nat.le_of_eq HT.out.1.symm))
          have HCT : Hid (Chg [T] w5 w6) := by unfold Hid; rw [hw6]; exact (Chg.refl _ _).setCell _ _ (by simp)
          have HRD6 : Hid (Rd R bs w6 o') := HRD5.out.chg HCT.out (by intro y hy; simp at hy; subst hy; exact HT.out.2.2.2)
          have HWR6 : Hid (WrIs w6 W st) := HWR.out.chg HC6.out (by intro y hy; simp at hy; subst hy; exact HRW.out.2)
          have HOW6 : Hid (Own w6 wa.heap.size 3 (.slice p n c) (ys.map intV)) := HOWN.out.chg HCT.out (by intro y hy; simp at hy; have := HT.out; omega)
          obtain ⟨kb, hkb⟩ := HWR6.out.at_
          have HKB := Lib.hid hkb
          rw [← hw6]
          clear hw6 hkb c0 c1 c2 c3 c4 c5 c6 fr
          refine (write_any (some W) kb st ⟨5, 0, 0, 0, [], ys, []⟩ none p none 0 0 n c 0 0 w6 HKB.out ⟨zero_u, zero_i, HOK.out, (Own.nil_ (Nat.zero_le _) : Own w6 0 0 _ _).reads.bytes (bs := []), HOW6.out.reads, (Own.nil_ (Nat.zero_le _) : Own w6 0 0 _ _).reads, zero_i, by simp⟩ (by unfold MidT; have := HLN.out; simp; omega)).mono ?_
          rintro e w7 ⟨⟨r, rfl⟩, hw7, hb7, hc7⟩
          have HO7 : Hid (One R W bs w7) := one_step HLEN.out HST.out (HRD6.out.chg hc7 (by intro y hy; rcases List.mem_cons.1 hy with h | h; exact h ▸ HRW.out.2; exact Nat.lt_trans HRW.out.2 (HKB.out.lt.2 y h).1)) HST5.out hw7 (by simp [formOf])
          have HB7 : Hid (Below w.heap.size w w7) := (hb.out.trans (HC6.out.below hb.out.size (by intro y hy; simp at hy; subst hy; exact HRW.out.1))).trans (hb7.mono (Nat.le_trans HRW.out.1 (Nat.le_of_lt HRW.out.2)))
          clear hw7 hb7 hc7
          go_wp2_with fail
          exact ⟨⟨k + 1, by go_num, by omega, HO7.out, HB7.out⟩, by simp [intOf]; omega⟩
        · obtain ⟨wa, hwa⟩ : ∃ wa, wa = wr.alloc (.cells #[.int .i64 6, .int .u64 0, .int .i64 0, .int .i64 0, .slice none 0 0, .slice none 0 0, .slice none 0 0] 40) := ⟨_, rfl⟩
          obtain ⟨T, hT⟩ : ∃ T, T = wr.heap.size := ⟨_, rfl⟩
          have HA : Hid (Below wr.heap.size wr wa) := by unfold Hid; rw [hwa]; exact (Below.refl _ _).alloc (Nat.le_refl _) _
          have HCELL : Hid (wa.cell? ⟨T, 0, none⟩ = some (.int .i64 6) ∧ wa.cell? ⟨T, 1, none⟩ = some (.int .u64 0) ∧ wa.cell? ⟨T, 2, none⟩ = some (.int .i64 0) ∧ wa.cell? ⟨T, 3, none⟩ = some (.int .i64 0) ∧ wa.cell? ⟨T, 4, none⟩ = some (.slice none 0 0) ∧ wa.cell? ⟨T, 5, none⟩ = some (.slice none 0 0) ∧ wa.cell? ⟨T, 6, none⟩ = some (.slice none 0 0)) := by unfold Hid; rw [hwa, hT]; simp
          have HFR : Hid (wa.frozen? ⟨T, 6, none⟩ = false) := by unfold Hid; rw [hwa, hT]; simp
          have HT : Hid (T = wr.heap.size ∧ wa.heap.size = T + 1 ∧ W < T ∧ R < T) := by
            have h1 := HWR.out.lt
            have h2 := HRD.out.lt
            unfold Hid
            rw [hwa, hT]
            simp
            omega
          go_wp2_with fail
          rw [← hwa, ← hT]
          clear hwa hT
          refine (one_F R bs o wa (HRD.out.below HA.out) HLEN.out).mono ?_
          rintro e w5 ⟨p, n, c, ys, o', rfl, hown, hlen, hm, hrd5, hc, hs⟩
          have HOK := Lib.hid hm
          have HRD5 := Lib.hid hrd5
          have HST5 := Lib.hid hs
          have HC5 := Lib.hid hc
          have HOWN := Lib.hid hown
          have HLN := Lib.hid hlen
          have hTn : T < wa.heap.size := by have := HT.out; omega
          have hTR : T ∉ [R] := by have := HT.out; simp; omega
          obtain ⟨c0, c1, c2, c3, c4, c5, c6⟩ := HCELL.out
          have cc : ∀ o, w5.cell? ⟨T, o, none⟩ = wa.cell? ⟨T, o, none⟩ := fun o => hc.cell T o hTn hTR
          have fr : w5.frozen? ⟨T, 6, none⟩ = false := (hc.frozen T _ hTn hTR).trans HFR.out
          rw [← cc] at c0 c1 c2 c3 c4 c5 c6
          clear cc hTn hTR hm hrd5 hs hc hown hlen
          go_wp2_with fail
          obtain ⟨w6, hw6⟩ : ∃ w6, w6 = w5.setCell ⟨T, 6, none⟩ (.slice p n c) := ⟨_, rfl⟩
          have HC6 : Hid (Chg [R] wr w6) := by unfold Hid; rw [hw6]; exact ((Chg.of_below HA.out).trans (HC5.out.more (T := [R]) (Chg.refl _ _) (by simp))).setCell _ _ (.inr (Nat.le_of_eq HT.out.1.symm))
          have HCT : Hid (Chg [T] w5 w6) := by unfold Hid; rw [hw6]; exact (Chg.refl _ _).setCell _ _ (by simp)
          have HRD6 : Hid (Rd R bs w6 o') := HRD5.out.chg HCT.out (by intro y hy; simp at hy; subst hy; exact HT.out.2.2.2)
          have HWR6 : Hid (WrIs w6 W st) := HWR.out.chg HC6.out (by intro y hy; simp at hy; subst hy; exact HRW.out.2)
          have HOW6 : Hid (Own w6 wa.heap.size 36 (.slice p n c) (ys.map intV)) := HOWN.out.chg HCT.out (by intro y hy; simp at hy; have := HT.out; omega)
          obtain ⟨kb, hkb⟩ := HWR6.out.at_
          have HKB := Lib.hid hkb
          rw [← hw6]
          clear hw6 hkb c0 c1 c2 c3 c4 c5 c6 fr
          refine (write_any (some W) kb st ⟨6, 0, 0, 0, [], [], ys⟩ none none p 0 0 0 0 n c w6 HKB.out ⟨zero_u, zero_i, by simp, (Own.nil_ (Nat.zero_le _) : Own w6 0 0 _ _).reads.bytes (bs := []), (Own.nil_ (Nat.zero_le _) : Own w6 0 0 _ _).reads, HOW6.out.reads, zero_i, HOK.out⟩ (by unfold MidT; have := HLN.out; simp; omega)).mono ?_
          rintro e w7 ⟨⟨r, rfl⟩, hw7, hb7, hc7⟩
          have HO7 : Hid (One R W bs w7) := one_step HLEN.out HST.out (HRD6.out.chg hc7 (by intro y hy; rcases List.mem_cons.1 hy with h | h; exact h ▸ HRW.out.2; exact Nat.lt_trans HRW.out.2 (HKB.out.lt.2 y h).1)) HST5.out hw7 (by simp [formOf])
          have HB7 : Hid (Below w.heap.size w w7) := (hb.out.trans (HC6.out.below hb.out.size (by intro y hy; simp at hy; subst hy; exact HRW.out.1))).trans (hb7.mono (Nat.le_trans HRW.out.1 (Nat.le_of_lt HRW.out.2)))
          clear hw7 hb7 hc7
          go_wp2_with fail
          exact ⟨⟨k + 1, by go_num, by omega, HO7.out, HB7.out⟩, by simp [intOf]; omega⟩
        · have g1 : (x == 1) = false := by rw [beq_eq_false_iff_ne]; omega
          have g2 : (x == 2) = false := by rw [beq_eq_false_iff_ne]; omega
          have g3 : (x == 3) = false := by rw [beq_eq_false_iff_ne]; omega
          have g4 : (x == 4) = false := by rw [beq_eq_false_iff_ne]; omega
          have g5 : (x == 5) = false := by rw [beq_eq_false_iff_ne]; omega
          have g6 : (x == 6) = false := by rw [beq_eq_false_iff_ne]; omega
          have HKK := Lib.hid hkk
          clear hkk
          obtain ⟨w6, hw6⟩ : ∃ w6, w6 = wr.alloc (.cells #[.int .i64 x, .int .u64 0, .int .i64 0, .int .i64 0, .slice none 0 0, .slice none 0 0, .slice none 0 0] 40) := ⟨_, rfl⟩
          have HA : Hid (Below wr.heap.size wr w6) := by unfold Hid; rw [hw6]; exact (Below.refl _ _).alloc (Nat.le_refl _) _
          obtain ⟨kb, hkb⟩ := (HWR.out.below HA.out).at_
          have HKB := Lib.hid hkb
          clear hkb
          go_wp2_with fail
          rw [← hw6]
          clear hw6
          refine (write_any (some W) kb st ⟨x, 0, 0, 0, [], [], []⟩ none none none 0 0 0 0 0 0 w6 HKB.out ⟨zero_u, zero_i, by simp, (Own.nil_ (Nat.zero_le _) : Own w6 0 0 _ _).reads.bytes (bs := []), (Own.nil_ (Nat.zero_le _) : Own w6 0 0 _ _).reads, (Own.nil_ (Nat.zero_le _) : Own w6 0 0 _ _).reads, zero_i, by simp⟩ (by unfold MidT; simp)).mono ?_
          rintro e w7 ⟨⟨r, rfl⟩, hw7, hb7, hc7⟩
          have HO7 : Hid (One R W bs w7) := ⟨o, st, (HRD.out.below HA.out).chg hc7 (by intro y hy; rcases List.mem_cons.1 hy with h | h; exact h ▸ HRW.out.2; exact Nat.lt_trans HRW.out.2 (HKB.out.lt.2 y h).1), by have := hw7; unfold wOf at this; rwa [if_neg HKK.out] at this, HST.out⟩
          have HB7 : Hid (Below w.heap.size w w7) := (hb.out.trans (HA.out.mono hb.out.size)).trans (hb7.mono (Nat.le_trans HRW.out.1 (Nat.le_of_lt HRW.out.2)))
          clear hw7 hb7 hc7
          go_wp2_with fail
          exact ⟨⟨k + 1, by go_num, by omega, HO7.out, HB7.out⟩, by simp [intOf]; omega⟩
      · obtain ⟨o, st, hrd, hwr, hst⟩ := hone.out
        have HWR := Lib.hid hwr
        have HST := Lib.hid hst
        clear hwr hst
        cases o with
        | none =>
          obtain ⟨e, he, hr⟩ := hrd
          have g : (e != 0) = true := by rw [bne_iff_ne]; exact he
          go_wp2_with fail
          refine (rdone_shut _ e _ (.bad R e hr he)).mono ?_
          rintro x wy ⟨rfl, rfl⟩
          clear he hr
          go_wp2_with fail
          go_ret
          exact ⟨rfl, hb.out⟩
        | some n =>
          by_cases hz : (bs.drop n).length = 0
          · have HST' : Hid (st = (bs, false)) := by
              obtain ⟨h1, h2⟩ := HST.out n rfl
              rw [List.length_drop] at hz
              unfold Hid
              rw [h2, List.take_of_length_le (by omega)]
            have HDONE := Lib.hid (rdone_is R _ _ hrd)
            rw [if_pos hz] at HDONE
            clear hz hrd
            go_wp2_with fail
            refine HDONE.out.mono ?_
            rintro x wy ⟨rfl, rfl⟩
            go_wp2_with fail
            refine (done_st W bs _ (by have := HWR.out; rwa [HST'.out] at this)).mono ?_
            rintro x wy ⟨a', m, c', rfl, hby, hbl⟩
            have HBY := Lib.hid hby
            have HBL : Hid (Below w.heap.size w wy) := hb.out.trans (hbl.mono hb.out.size)
            clear hby hbl
            go_wp2_with fail
            refine (same_any _ _ bs bs _ HBY.out (HU.out.below HBL.out)).mono ?_
            rintro x wz ⟨rfl, q, rfl⟩
            rw [decide_eq_true rfl]
            go_wp2_with fail
            go_ret
            exact ⟨rfl, below_drewN HBL.out q⟩
          · have HDONE := Lib.hid (rdone_is R _ _ hrd)
            rw [if_neg hz] at HDONE
            clear hz hrd
            go_wp2_with fail
            refine HDONE.out.mono ?_
            rintro x wy ⟨rfl, rfl⟩
            go_wp2_with fail
            go_ret
            exact ⟨rfl, hb.out⟩
end Go.Proofs.Ytajnhmkkgngbhaa
