/- The statements of chapter 12: one thing read by both. -/
import Derived.Test.YtajnhmkkgngbhaaLaw12R1
namespace Go.Proofs.Ytajnhmkkgngbhaa
open Go.RowKit
open Pack (Got cnt whole fixed text ints fixes sizeOf_ many)

namespace Pack
def Got.list {α : Type} : Got (List α) → List α
  | .no _ => []
  | .yes a _ => a
def Got.int : Got Int → Int
  | .no _ => 0
  | .yes a _ => a
def Got.nat : Got Nat → Nat
  | .no _ => 0
  | .yes a _ => a
theorem many_len {one : List (BitVec 8) → Got Int} : ∀ (k : Nat) (acc : List Int) (bs : List (BitVec 8)) (xs : List Int) (r : List (BitVec 8)), many one k acc bs = .yes xs r → xs.length = acc.length + k
  | 0, acc, bs, xs, r, h => by injection h with h1 h2; subst h1; rfl
  | k + 1, acc, bs, xs, r, h => by
    have h' : (one bs).then (fun x r => many one k (acc ++ [x]) r) = .yes xs r := h
    cases hg : one bs with
    | no e => rw [hg] at h'; cases h'
    | yes x r1 =>
      rw [hg] at h'
      have := many_len k (acc ++ [x]) r1 xs r h'
      simp at this
      omega
theorem list_len {each : Nat} {one : List (BitVec 8) → Got Int} {bs : List (BitVec 8)} : ((sizeOf_ each bs).then fun n r => many one n [] r).list.length ≤ bs.length := by
  cases hg : sizeOf_ each bs with
  | no e => simp [Got.then, Got.list]
  | yes n r =>
    have hs := size_le hg
    show (many one n [] r).list.length ≤ _
    cases hm : many one n [] r with
    | no e => simp [Got.list]
    | yes xs r2 =>
      have := many_len n [] r xs r2 hm
      simp at this
      simp only [Got.list]
      omega
theorem ints_len (bs : List (BitVec 8)) : (ints bs).list.length ≤ bs.length := list_len
theorem fixes_len (bs : List (BitVec 8)) : (fixes bs).list.length ≤ bs.length := list_len
end Pack
/-- The program's reader behind a reading; the reference's. -/
def RdSt {α : Type} (R : Nat) (g : Got α) (w : World) : Prop :=
  match g with
  | .no e => ReaderEnd w R e
  | .yes _ rest => ReaderIs w R rest 0
def RfSt {α : Type} (lo S : Nat) (all : List (BitVec 8)) (g : Got α) (w : World) : Prop :=
  match g with
  | .no e => ∃ n, RefIs lo w S all n e
  | .yes _ rest => ∃ n, RefIs lo w S all n 0 ∧ all.drop n = rest
/-- Both readers, in step. -/
def Joint (lo R S : Nat) (all : List (BitVec 8)) (w : World) : Prop :=
  (∃ n, ReaderIs w R (all.drop n) 0 ∧ RefIs lo w S all n 0) ∨ ∃ e n, e ≠ 0 ∧ ReaderEnd w R e ∧ RefIs lo w S all n e
theorem ReaderEnd.chg {C : List Nat} {w w' : World} {R : Nat} {e : Int} (h : ReaderEnd w R e) (hc : Chg C w w') (hR : R ∉ C) : ReaderEnd w' R e :=
  ⟨Nat.lt_of_lt_of_le h.lt hc.size, (hc.cell R 0 h.lt hR).trans h.made, (hc.cell R 2 h.lt hR).trans h.err⟩
theorem RefIs.beside {lo : Nat} {C : List Nat} {w w' : World} {S : Nat} {bs : List (BitVec 8)} {at_ : Nat} {e : Int} (h : RefIs lo w S bs at_ e) (hc : Chg C w w') (hS : ∀ x ∈ C, lo ≤ x ∧ x ≠ S) : RefIs lo w' S bs at_ e := by
  obtain ⟨hlt, ⟨p, c, h1, h2, h3, h4⟩, h5, h6, f1, f2, h7⟩ := h
  have n1 : S ∉ C := fun h => (hS S h).2 rfl
  refine ⟨Nat.lt_of_lt_of_le hlt hc.size, ⟨p, c, h1, h2, (hc.cell S 0 hlt n1).trans h3, ?_⟩, (hc.cell S 1 hlt n1).trans h5, (hc.cell S 2 hlt n1).trans h6, (hc.frozen S 1 hlt n1).trans f1, (hc.frozen S 2 hlt n1).trans f2, h7⟩
  rcases h4 with h | ⟨b, off, hp, hb, hat⟩
  · exact .inl h
  · exact .inr ⟨b, off, hp, hb, hat.chg hc (by omega) (fun h => by have := (hS b h).1; omega)⟩
theorem RdSt.chg {α : Type} {R : Nat} {g : Got α} {w w' : World} {C : List Nat} (h : RdSt R g w) (hc : Chg C w w') (hR : ∀ x ∈ C, R < x) : RdSt R g w' := by
  cases g with
  | no e => exact ReaderEnd.chg (e := e) h hc (fun h => by have := hR R h; omega)
  | yes a r => exact ReaderIs.chg h hc hR
theorem RfSt.beside {α : Type} {lo S : Nat} {all : List (BitVec 8)} {g : Got α} {w w' : World} {C : List Nat} (h : RfSt lo S all g w) (hc : Chg C w w') (hS : ∀ x ∈ C, lo ≤ x ∧ x ≠ S) : RfSt lo S all g w' := by
  cases g with
  | no e => obtain ⟨n, h⟩ := h; exact ⟨n, h.beside hc hS⟩
  | yes a r => obtain ⟨n, h, e⟩ := h; exact ⟨n, h.beside hc hS, e⟩
theorem joint {α : Type} {lo R S : Nat} {all : List (BitVec 8)} {g : Got α} {w : World} (h : RdSt R g w) (k : RfSt lo S all g w) (hb : Pack.Bad g) : Joint lo R S all w := by
  cases g with
  | no e => obtain ⟨n, k⟩ := k; exact .inr ⟨e, n, by rcases hb e rfl with h | h <;> rw [h] <;> decide, h, k⟩
  | yes a r => obtain ⟨n, k, rfl⟩ := k; exact .inl ⟨n, h, k⟩
theorem CtPost.u64 {R : Nat} {g : Got Nat} {w w' : World} {x : Ending} (h : CtPost (.int .u64 0) isU64 R w g x w') : x = .returned (.int .u64 (g.nat : Int)) ∧ RdSt R g w' ∧ Chg [R] w w' := by
  cases g with
  | no e => exact h
  | yes a r => obtain ⟨⟨v, h1, h2⟩, h3⟩ := h; exact ⟨by rw [h1, h2]; rfl, h3⟩
theorem CtPost.i64 {R : Nat} {g : Got Int} {w w' : World} {x : Ending} (h : CtPost (.int .i64 0) isI64 R w g x w') : x = .returned (.int .i64 g.int) ∧ RdSt R g w' ∧ Chg [R] w w' := by
  cases g with
  | no e => exact h
  | yes a r => obtain ⟨⟨v, h1, h2⟩, h3⟩ := h; exact ⟨by rw [h1, h2]; rfl, h3⟩
theorem CtPost.list {R : Nat} {t : TypeId} {g : Got (List Int)} {w w' : World} {x : Ending} (h : CtPost (.slice none 0 0) (isInts t w.heap.size) R w g x w') : ∃ p n c, x = .returned (.slice p n c) ∧ Own w' w.heap.size t (.slice p n c) (g.list.map intV) ∧ RdSt R g w' ∧ Chg [R] w w' := by
  cases g with
  | no e => exact ⟨_, _, _, h.1, Own.nil_ h.2.2.size, h.2⟩
  | yes a r => obtain ⟨⟨v, h1, p, n, c, rfl, ho⟩, h3⟩ := h; exact ⟨p, n, c, h1, ho, h3⟩
theorem CtPost.text {R : Nat} {g : Got (List (BitVec 8))} {w w' : World} {x : Ending} (h : CtPost (.slice none 0 0) (isText w.heap.size) R w g x w') : ∃ p n c, x = .returned (.slice p n c) ∧ Own w' w.heap.size 5 (.slice p n c) (g.list.map byteV) ∧ RdSt R g w' ∧ Chg [R] w w' := by
  cases g with
  | no e => exact ⟨_, _, _, h.1, Own.nil_ h.2.2.size, h.2⟩
  | yes a r => obtain ⟨⟨v, h1, p, n, c, rfl, ho⟩, h3⟩ := h; exact ⟨p, n, c, h1, ho, h3⟩
theorem RfPost.u64 {lo S : Nat} {all : List (BitVec 8)} {g : Got Nat} {w w' : World} {x : Ending} (h : RfPost lo (.int .u64 0) isU64 S all w g x w') : x = .returned (.int .u64 (g.nat : Int)) ∧ RfSt lo S all g w' ∧ Chg [S] w w' := by
  cases g with
  | no e => exact h
  | yes a r => obtain ⟨⟨v, h1, h2⟩, h3⟩ := h; exact ⟨by rw [h1, h2]; rfl, h3⟩
theorem RfPost.i64 {lo S : Nat} {all : List (BitVec 8)} {g : Got Int} {w w' : World} {x : Ending} (h : RfPost lo (.int .i64 0) isI64 S all w g x w') : x = .returned (.int .i64 g.int) ∧ RfSt lo S all g w' ∧ Chg [S] w w' := by
  cases g with
  | no e => exact h
  | yes a r => obtain ⟨⟨v, h1, h2⟩, h3⟩ := h; exact ⟨by rw [h1, h2]; rfl, h3⟩
theorem RfPost.list {lo S : Nat} {all : List (BitVec 8)} {g : Got (List Int)} {w w' : World} {x : Ending} (h : RfPost lo (.slice none 0 0) isIntsV S all w g x w') : ∃ p n c, x = .returned (.slice p n c) ∧ Reads w' (.slice p n c) (g.list.map intV) ∧ RfSt lo S all g w' ∧ Chg [S] w w' := by
  cases g with
  | no e => exact ⟨_, _, _, h.1, (Own.nil_ (Nat.zero_le _) : Own w' 0 0 _ _).reads, h.2⟩
  | yes a r => obtain ⟨⟨v, h1, p, n, c, rfl, ho⟩, h3⟩ := h; exact ⟨p, n, c, h1, ho, h3⟩
theorem RfPost.text {lo S : Nat} {all : List (BitVec 8)} {g : Got (List (BitVec 8))} {w w' : World} {x : Ending} (h : RfPost lo (.slice none 0 0) isBytesV S all w g x w') : ∃ p n c, x = .returned (.slice p n c) ∧ IsBytes w' (.slice p n c) g.list ∧ RfSt lo S all g w' ∧ Chg [S] w w' := by
  cases g with
  | no e => exact ⟨_, _, _, h.1, (Own.nil_ (Nat.zero_le _) : Own w' 0 0 _ _).reads.bytes (bs := []), h.2⟩
  | yes a r => obtain ⟨⟨v, h1, p, n, c, rfl, ho⟩, h3⟩ := h; exact ⟨p, n, c, h1, ho, h3⟩
theorem RfSt.orNone {lo S : Nat} {all : List (BitVec 8)} {g : Got Int} {w : World} (h : RfSt lo S all g w) : ∃ e, w.cell? ⟨S, 2, none⟩ = some (.int .i64 e) ∧ (if e = 0 then g.int else 0) = g.int := by
  cases g with
  | no e => obtain ⟨n, h⟩ := h; exact ⟨e, h.err, by simp [Got.int]⟩
  | yes a r => obtain ⟨n, h, _⟩ := h; exact ⟨0, h.err, by simp⟩

set_option maxHeartbeats 1000000 in
theorem read1 (lo R S n : Nat) (all : List (BitVec 8)) (w : World) (h1 : lo ≤ R) (h2 : R < S) (hR : ReaderIs w R (all.drop n) 0) (hS : RefIs lo w S all n 0) :
    Calls Try.prog 18 #[.int .i64 1, .pointer (some ⟨R, 0, none⟩), .pointer (some ⟨S, 0, none⟩)] w fun x w' => x = .returned (.bool true) ∧ Joint lo R S all w' ∧ Chg [R, S] w w' := by
  have HP := Lib.hid (rd_U R (all.drop n) w hR)
  have HS := Lib.hid hS
  have HBAD := Lib.hid (Pack.bad_cnt (all.drop n))
  have H12 := Lib.hid (And.intro h1 h2)
  clear hR hS h1 h2
  obtain ⟨m, hm⟩ : ∃ m, (cnt (all.drop n)).nat = m := ⟨_, rfl⟩
  go_enter Try.func18, Try.ntmps18
  go_wp2_with fail
  refine HP.out.mono ?_
  intro x w1 hq
  obtain ⟨rfl, hst, hc1⟩ := hq.u64
  rw [hm]
  have HST := Lib.hid hst
  have HS1 : Hid (RefIs lo w1 S all n 0) := HS.out.beside hc1 (by intro x hx; simp at hx; subst hx; exact ⟨H12.out.1, by have := H12.out.2; omega⟩)
  have HC1 := Lib.hid hc1
  clear hq hst hc1
  go_wp2_with fail
  refine (rf_uint S all n w1 HS1.out).mono ?_
  intro x w2 hq
  obtain ⟨rfl, hsf, hc2⟩ := hq.u64
  rw [hm]
  have HJ : Hid (Joint lo R S all w2) := joint (HST.out.chg hc2 (by intro x hx; simp at hx; subst hx; exact H12.out.2)) hsf HBAD.out
  have HC2 : Hid (Chg [R, S] w w2) := (HC1.out.mono (by simp)).trans (hc2.mono (by simp))
  clear hq hc2 hsf hm HP
  go_wp2_with fail
  go_ret
  exact ⟨rfl, HJ.out, HC2.out⟩

set_option maxHeartbeats 1000000 in
theorem read2 (lo R S n : Nat) (all : List (BitVec 8)) (w : World) (h1 : lo ≤ R) (h2 : R < S) (hR : ReaderIs w R (all.drop n) 0) (hS : RefIs lo w S all n 0) :
    Calls Try.prog 18 #[.int .i64 2, .pointer (some ⟨R, 0, none⟩), .pointer (some ⟨S, 0, none⟩)] w fun x w' => x = .returned (.bool true) ∧ Joint lo R S all w' ∧ Chg [R, S] w w' := by
  have HP := Lib.hid (rd_N R (all.drop n) w hR)
  have HS := Lib.hid hS
  have HBAD := Lib.hid (Pack.bad_whole (all.drop n))
  have H12 := Lib.hid (And.intro h1 h2)
  clear hR hS h1 h2
  obtain ⟨m, hm⟩ : ∃ m, (whole (all.drop n)).int = m := ⟨_, rfl⟩
  go_enter Try.func18, Try.ntmps18
  go_wp2_with fail
  refine HP.out.mono ?_
  intro x w1 hq
  obtain ⟨rfl, hst, hc1⟩ := hq.i64
  rw [hm]
  have HST := Lib.hid hst
  have HS1 : Hid (RefIs lo w1 S all n 0) := HS.out.beside hc1 (by intro x hx; simp at hx; subst hx; exact ⟨H12.out.1, by have := H12.out.2; omega⟩)
  have HC1 := Lib.hid hc1
  clear hq hst hc1
  go_wp2_with fail
  refine (rf_int S all n w1 HS1.out).mono ?_
  intro x w2 hq
  obtain ⟨rfl, hsf, hc2⟩ := hq.i64
  rw [hm]
  have HJ : Hid (Joint lo R S all w2) := joint (HST.out.chg hc2 (by intro x hx; simp at hx; subst hx; exact H12.out.2)) hsf HBAD.out
  have HC2 : Hid (Chg [R, S] w w2) := (HC1.out.mono (by simp)).trans (hc2.mono (by simp))
  obtain ⟨e, he, hz⟩ := hsf.orNone
  rw [hm] at hz
  clear hq hc2 hsf hm HP
  go_wp2_with fail
  refine (orNone_any m e S w2 he).mono ?_
  rintro x w3 ⟨rfl, rfl⟩
  rw [hz]
  clear he hz
  go_wp2_with fail
  go_ret
  exact ⟨rfl, HJ.out, HC2.out⟩

set_option maxHeartbeats 1000000 in
theorem read3 (lo R S n : Nat) (all : List (BitVec 8)) (w : World) (h1 : lo ≤ R) (h2 : R < S) (hR : ReaderIs w R (all.drop n) 0) (hS : RefIs lo w S all n 0) :
    Calls Try.prog 18 #[.int .i64 3, .pointer (some ⟨R, 0, none⟩), .pointer (some ⟨S, 0, none⟩)] w fun x w' => x = .returned (.bool true) ∧ Joint lo R S all w' ∧ Chg [R, S] w w' := by
  have HP := Lib.hid (rd_X R (all.drop n) w hR)
  have HS := Lib.hid hS
  have HBAD := Lib.hid (Pack.bad_fixed (all.drop n))
  have H12 := Lib.hid (And.intro h1 h2)
  clear hR hS h1 h2
  obtain ⟨m, hm⟩ : ∃ m, (fixed (all.drop n)).int = m := ⟨_, rfl⟩
  go_enter Try.func18, Try.ntmps18
  go_wp2_with fail
  refine HP.out.mono ?_
  intro x w1 hq
  obtain ⟨rfl, hst, hc1⟩ := hq.i64
  rw [hm]
  have HST := Lib.hid hst
  have HS1 : Hid (RefIs lo w1 S all n 0) := HS.out.beside hc1 (by intro x hx; simp at hx; subst hx; exact ⟨H12.out.1, by have := H12.out.2; omega⟩)
  have HC1 := Lib.hid hc1
  clear hq hst hc1
  go_wp2_with fail
  refine (rf_fix S all n w1 HS1.out).mono ?_
  intro x w2 hq
  obtain ⟨rfl, hsf, hc2⟩ := hq.i64
  rw [hm]
  have HJ : Hid (Joint lo R S all w2) := joint (HST.out.chg hc2 (by intro x hx; simp at hx; subst hx; exact H12.out.2)) hsf HBAD.out
  have HC2 : Hid (Chg [R, S] w w2) := (HC1.out.mono (by simp)).trans (hc2.mono (by simp))
  clear hq hc2 hsf hm HP
  go_wp2_with fail
  go_ret
  exact ⟨rfl, HJ.out, HC2.out⟩

theorem ReaderEnd.drewN {w : World} {R : Nat} {e : Int} (h : ReaderEnd w R e) (q : Nat) : ReaderEnd (w.drewN q) R e := ⟨h.lt, h.made, h.err⟩
theorem Joint.chg {lo R S : Nat} {all : List (BitVec 8)} {w w' : World} (h : Joint lo R S all w) (hc : Chg [] w w') : Joint lo R S all w' := by
  rcases h with ⟨n, h1, h2⟩ | ⟨e, n, he, h1, h2⟩
  · exact .inl ⟨n, h1.chg hc (by simp), h2.chg hc (by simp)⟩
  · exact .inr ⟨e, n, he, h1.chg hc (by simp), h2.chg hc (by simp)⟩
theorem Joint.drewN {lo R S : Nat} {all : List (BitVec 8)} {w : World} (h : Joint lo R S all w) (q : Nat) : Joint lo R S all (w.drewN q) := h.chg ((Chg.refl _ _).drewN q)

set_option maxHeartbeats 1000000 in
theorem read4 (lo R S n : Nat) (all : List (BitVec 8)) (w : World) (h1 : lo ≤ R) (h2 : R < S) (hR : ReaderIs w R (all.drop n) 0) (hS : RefIs lo w S all n 0) (hl : all.length ≤ 2000000) :
    Calls Try.prog 18 #[.int .i64 4, .pointer (some ⟨R, 0, none⟩), .pointer (some ⟨S, 0, none⟩)] w fun x w' => x = .returned (.bool true) ∧ Joint lo R S all w' ∧ Chg [R, S] w w' := by
  have HL := Lib.hid hl
  have HP := Lib.hid (rd_B R (all.drop n) w hR (by rw [List.length_drop]; omega))
  have HS := Lib.hid hS
  have HBAD := Lib.hid (Pack.bad_text (all.drop n))
  have H12 := Lib.hid (And.intro h1 h2)
  have HSZ : Hid (S < w.heap.size) := hS.lt
  clear hR hS h1 h2 hl
  go_enter Try.func18, Try.ntmps18
  go_wp2_with fail
  refine HP.out.mono ?_
  intro x w1 hq
  obtain ⟨p, m, c, rfl, hown, hst, hc1⟩ := hq.text
  have HST := Lib.hid hst
  have HO := Lib.hid hown
  have HS1 : Hid (RefIs lo w1 S all n 0) := HS.out.beside hc1 (by intro x hx; simp at hx; subst hx; exact ⟨H12.out.1, by have := H12.out.2; omega⟩)
  have HC1 := Lib.hid hc1
  clear hq hst hc1 hown
  go_wp2_with fail
  refine (rf_bytes S all n w1 HS1.out HL.out).mono ?_
  intro x w2 hq
  obtain ⟨p2, m2, c2, rfl, hby, hsf, hc2⟩ := hq.text
  have HJ : Hid (Joint lo R S all w2) := joint (HST.out.chg hc2 (by intro x hx; simp at hx; subst hx; exact H12.out.2)) hsf HBAD.out
  have HC2 : Hid (Chg [R, S] w w2) := (HC1.out.mono (by simp)).trans (hc2.mono (by simp))
  have HA : Hid (IsBytes w2 (.slice p m c) (text (all.drop n)).list) := (HO.out.chg hc2 (by intro x hx; simp at hx; subst hx; exact HSZ.out)).reads.bytes
  have HB : Hid (IsBytes w2 (.slice p2 m2 c2) (text (all.drop n)).list) := hby
  clear hq hc2 hsf HP hby
  go_wp2_with fail
  refine (same_any _ _ _ _ w2 HA.out HB.out).mono ?_
  rintro x w3 ⟨rfl, q, rfl⟩
  rw [decide_eq_true rfl]
  have HJ3 : Hid (Joint lo R S all (w2.drewN q)) := HJ.out.drewN q
  go_wp2_with fail
  go_ret
  exact ⟨rfl, HJ3.out, HC2.out.drewN q⟩

set_option maxHeartbeats 1000000 in
theorem read5 (lo R S n : Nat) (all : List (BitVec 8)) (w : World) (h1 : lo ≤ R) (h2 : R < S) (hR : ReaderIs w R (all.drop n) 0) (hS : RefIs lo w S all n 0) (hl : all.length ≤ 2000000) :
    Calls Try.prog 18 #[.int .i64 5, .pointer (some ⟨R, 0, none⟩), .pointer (some ⟨S, 0, none⟩)] w fun x w' => x = .returned (.bool true) ∧ Joint lo R S all w' ∧ Chg [R, S] w w' := by
  have HL := Lib.hid hl
  have HP := Lib.hid (rd_L R (all.drop n) w hR (by rw [List.length_drop]; omega))
  have HS := Lib.hid hS
  have HBAD := Lib.hid (Pack.bad_ints (all.drop n))
  have H12 := Lib.hid (And.intro h1 h2)
  have HSZ : Hid (S < w.heap.size) := hS.lt
  clear hR hS h1 h2 hl
  go_enter Try.func18, Try.ntmps18
  go_wp2_with fail
  refine HP.out.mono ?_
  intro x w1 hq
  obtain ⟨p, m, c, rfl, hown, hst, hc1⟩ := hq.list
  have HST := Lib.hid hst
  have HO := Lib.hid hown
  have HS1 : Hid (RefIs lo w1 S all n 0) := HS.out.beside hc1 (by intro x hx; simp at hx; subst hx; exact ⟨H12.out.1, by have := H12.out.2; omega⟩)
  have HC1 := Lib.hid hc1
  clear hq hst hc1 hown
  go_wp2_with fail
  have HLEN : Hid ((ints (all.drop n)).list.length ≤ 2000000) := by unfold Hid; have := Pack.ints_len (all.drop n); rw [List.length_drop] at this; have := HL.out; omega
  refine (wide_any _ _ w1 HO.out.reads HLEN.out).mono ?_
  rintro x w2 ⟨p2, m2, c2, rfl, hown2, hb2⟩
  have HST2 : Hid (RdSt R (ints (all.drop n)) w2) := HST.out.chg (Chg.of_below hb2 : Chg [] w1 w2) (by simp)
  have HS2 : Hid (RefIs lo w2 S all n 0) := HS1.out.chg (Chg.of_below hb2 : Chg [] w1 w2) (by simp)
  have HO2 := Lib.hid hown2
  have HC2 : Hid (Chg [R, S] w w2) := (HC1.out.mono (by simp)).trans (Chg.of_below hb2)
  have HSZ1 : Hid (S < w1.heap.size) := HS1.out.lt
  clear hown2 hb2
  go_wp2_with fail
  refine (rf_ints S all n w2 HS2.out HL.out).mono ?_
  intro x w3 hq
  obtain ⟨p3, m3, c3, rfl, hby, hsf, hc3⟩ := hq.list
  have HJ : Hid (Joint lo R S all w3) := joint (HST2.out.chg hc3 (by intro x hx; simp at hx; subst hx; exact H12.out.2)) hsf HBAD.out
  have HC3 : Hid (Chg [R, S] w w3) := HC2.out.trans (hc3.mono (by simp))
  have HA : Hid (Reads w3 (.slice p2 m2 c2) ((ints (all.drop n)).list.map intV)) := (HO2.out.chg hc3 (by intro x hx; simp at hx; subst hx; exact HSZ1.out)).reads
  have HB : Hid (Reads w3 (.slice p3 m3 c3) ((ints (all.drop n)).list.map intV)) := hby
  clear hq hc3 hsf HP hby
  go_wp2_with fail
  refine (same04_any _ _ _ _ w3 HA.out HB.out).mono ?_
  rintro x w4 ⟨rfl, q, rfl⟩
  rw [decide_eq_true rfl]
  have HJ4 : Hid (Joint lo R S all (w3.drewN q)) := HJ.out.drewN q
  go_wp2_with fail
  go_ret
  exact ⟨rfl, HJ4.out, HC3.out.drewN q⟩

set_option maxHeartbeats 1000000 in
theorem read6 (lo R S n : Nat) (all : List (BitVec 8)) (w : World) (h1 : lo ≤ R) (h2 : R < S) (hR : ReaderIs w R (all.drop n) 0) (hS : RefIs lo w S all n 0) (hl : all.length ≤ 2000000) :
    Calls Try.prog 18 #[.int .i64 6, .pointer (some ⟨R, 0, none⟩), .pointer (some ⟨S, 0, none⟩)] w fun x w' => x = .returned (.bool true) ∧ Joint lo R S all w' ∧ Chg [R, S] w w' := by
  have HL := Lib.hid hl
  have HP := Lib.hid (rd_F R (all.drop n) w hR (by rw [List.length_drop]; omega))
  have HS := Lib.hid hS
  have HBAD := Lib.hid (Pack.bad_fixes (all.drop n))
  have H12 := Lib.hid (And.intro h1 h2)
  have HSZ : Hid (S < w.heap.size) := hS.lt
  clear hR hS h1 h2 hl
  go_enter Try.func18, Try.ntmps18
  go_wp2_with fail
  refine HP.out.mono ?_
  intro x w1 hq
  obtain ⟨p, m, c, rfl, hown, hst, hc1⟩ := hq.list
  have HST := Lib.hid hst
  have HO := Lib.hid hown
  have HS1 : Hid (RefIs lo w1 S all n 0) := HS.out.beside hc1 (by intro x hx; simp at hx; subst hx; exact ⟨H12.out.1, by have := H12.out.2; omega⟩)
  have HC1 := Lib.hid hc1
  clear hq hst hc1 hown
  go_wp2_with fail
  have HLEN : Hid ((fixes (all.drop n)).list.length ≤ 2000000) := by unfold Hid; have := Pack.fixes_len (all.drop n); rw [List.length_drop] at this; have := HL.out; omega
  refine (plain_any _ _ w1 HO.out.reads HLEN.out).mono ?_
  rintro x w2 ⟨p2, m2, c2, rfl, hown2, hb2⟩
  have HST2 : Hid (RdSt R (fixes (all.drop n)) w2) := HST.out.chg (Chg.of_below hb2 : Chg [] w1 w2) (by simp)
  have HS2 : Hid (RefIs lo w2 S all n 0) := HS1.out.chg (Chg.of_below hb2 : Chg [] w1 w2) (by simp)
  have HO2 := Lib.hid hown2
  have HC2 : Hid (Chg [R, S] w w2) := (HC1.out.mono (by simp)).trans (Chg.of_below hb2)
  have HSZ1 : Hid (S < w1.heap.size) := HS1.out.lt
  clear hown2 hb2
  go_wp2_with fail
  refine (rf_fixes S all n w2 HS2.out HL.out).mono ?_
  intro x w3 hq
  obtain ⟨p3, m3, c3, rfl, hby, hsf, hc3⟩ := hq.list
  have HJ : Hid (Joint lo R S all w3) := joint (HST2.out.chg hc3 (by intro x hx; simp at hx; subst hx; exact H12.out.2)) hsf HBAD.out
  have HC3 : Hid (Chg [R, S] w w3) := HC2.out.trans (hc3.mono (by simp))
  have HA : Hid (Reads w3 (.slice p2 m2 c2) ((fixes (all.drop n)).list.map intV)) := (HO2.out.chg hc3 (by intro x hx; simp at hx; subst hx; exact HSZ1.out)).reads
  have HB : Hid (Reads w3 (.slice p3 m3 c3) ((fixes (all.drop n)).list.map intV)) := hby
  clear hq hc3 hsf HP hby
  go_wp2_with fail
  refine (same04_any _ _ _ _ w3 HA.out HB.out).mono ?_
  rintro x w4 ⟨rfl, q, rfl⟩
  rw [decide_eq_true rfl]
  have HJ4 : Hid (Joint lo R S all (w3.drewN q)) := HJ.out.drewN q
  go_wp2_with fail
  go_ret
  exact ⟨rfl, HJ4.out, HC3.out.drewN q⟩

set_option maxHeartbeats 1000000 in
theorem read1_shut (p : Option Addr) (S : Nat) (e e' : Int) (w : World) (h : Shut w p e) (hS : RefEnd w S e') :
    Calls Try.prog 18 #[.int .i64 1, .pointer p, .pointer (some ⟨S, 0, none⟩)] w fun x w' => x = .returned (.bool true) ∧ Below w.heap.size w w' := by
  have HP := Lib.hid (rd_U_shut p e w h)
  have HS := Lib.hid hS
  clear h hS
  go_enter Try.func18, Try.ntmps18
  go_wp2_with fail
  refine HP.out.mono ?_
  rintro x w1 ⟨rfl, hb⟩
  have HB : Hid (Below w.heap.size w w1) := hb
  have HS1 : Hid (RefEnd w1 S e') := ⟨(hb.cell (p := ⟨S, 2, none⟩) (cell_lt HS.out.1)).trans HS.out.1, HS.out.2⟩
  clear hb
  go_wp2_with fail
  refine (rf_uint_end S e' _ HS1.out).mono ?_
  rintro x w2 ⟨rfl, rfl⟩
  go_wp2_with fail
  go_ret
  exact ⟨rfl, HB.out⟩

set_option maxHeartbeats 1000000 in
theorem read2_shut (p : Option Addr) (S : Nat) (e e' : Int) (w : World) (h : Shut w p e) (hS : RefEnd w S e') :
    Calls Try.prog 18 #[.int .i64 2, .pointer p, .pointer (some ⟨S, 0, none⟩)] w fun x w' => x = .returned (.bool true) ∧ Below w.heap.size w w' := by
  have HP := Lib.hid (rd_N_shut p e w h)
  have HS := Lib.hid hS
  clear h hS
  go_enter Try.func18, Try.ntmps18
  go_wp2_with fail
  refine HP.out.mono ?_
  rintro x w1 ⟨rfl, hb⟩
  have HB : Hid (Below w.heap.size w w1) := hb
  have HS1 : Hid (RefEnd w1 S e') := ⟨(hb.cell (p := ⟨S, 2, none⟩) (cell_lt HS.out.1)).trans HS.out.1, HS.out.2⟩
  clear hb
  go_wp2_with fail
  refine (rf_int_end S e' _ HS1.out).mono ?_
  rintro x w2 ⟨rfl, rfl⟩
  have hc : w1.cell? ⟨S, 2, none⟩ = some (.int .i64 e') := HS1.out.1
  go_wp2_with fail
  refine (orNone_any 0 e' S w1 hc).mono ?_
  rintro x w3 ⟨rfl, rfl⟩
  rw [show (if e' = 0 then (0 : Int) else 0) = 0 by simp]
  go_wp2_with fail
  go_ret
  exact ⟨rfl, HB.out⟩

set_option maxHeartbeats 1000000 in
theorem read3_shut (p : Option Addr) (S : Nat) (e e' : Int) (w : World) (h : Shut w p e) (hS : RefEnd w S e') :
    Calls Try.prog 18 #[.int .i64 3, .pointer p, .pointer (some ⟨S, 0, none⟩)] w fun x w' => x = .returned (.bool true) ∧ Below w.heap.size w w' := by
  have HP := Lib.hid (rd_X_shut p e w h)
  have HS := Lib.hid hS
  clear h hS
  go_enter Try.func18, Try.ntmps18
  go_wp2_with fail
  refine HP.out.mono ?_
  rintro x w1 ⟨rfl, hb⟩
  have HB : Hid (Below w.heap.size w w1) := hb
  have HS1 : Hid (RefEnd w1 S e') := ⟨(hb.cell (p := ⟨S, 2, none⟩) (cell_lt HS.out.1)).trans HS.out.1, HS.out.2⟩
  clear hb
  go_wp2_with fail
  refine (rf_fix_end S e' _ HS1.out).mono ?_
  rintro x w2 ⟨rfl, rfl⟩
  go_wp2_with fail
  go_ret
  exact ⟨rfl, HB.out⟩

set_option maxHeartbeats 1000000 in
theorem read4_shut (p : Option Addr) (S : Nat) (e e' : Int) (w : World) (h : Shut w p e) (hS : RefEnd w S e') :
    Calls Try.prog 18 #[.int .i64 4, .pointer p, .pointer (some ⟨S, 0, none⟩)] w fun x w' => x = .returned (.bool true) ∧ Below w.heap.size w w' := by
  have HP := Lib.hid (rd_B_shut p e w h)
  have HS := Lib.hid hS
  clear h hS
  go_enter Try.func18, Try.ntmps18
  go_wp2_with fail
  refine HP.out.mono ?_
  rintro x w1 ⟨rfl, hb⟩
  have HB : Hid (Below w.heap.size w w1) := hb
  have HS1 : Hid (RefEnd w1 S e') := ⟨(hb.cell (p := ⟨S, 2, none⟩) (cell_lt HS.out.1)).trans HS.out.1, HS.out.2⟩
  clear hb
  go_wp2_with fail
  refine (rf_bytes_end S e' _ HS1.out).mono ?_
  rintro x w2 ⟨rfl, q, rfl⟩
  have hby : IsBytes (w1.drewN q) (.slice none 0 0) [] := (Own.nil_ (Nat.zero_le _) : Own (w1.drewN q) 0 0 _ _).reads.bytes (bs := [])
  go_wp2_with fail
  refine (same_any _ _ _ _ _ hby hby).mono ?_
  rintro x w3 ⟨rfl, q2, rfl⟩
  rw [decide_eq_true rfl]
  go_wp2_with fail
  go_ret
  exact ⟨rfl, below_drewN HB.out _⟩

set_option maxHeartbeats 1000000 in
theorem read5_shut (p : Option Addr) (S : Nat) (e e' : Int) (w : World) (h : Shut w p e) (hS : RefEnd w S e') :
    Calls Try.prog 18 #[.int .i64 5, .pointer p, .pointer (some ⟨S, 0, none⟩)] w fun x w' => x = .returned (.bool true) ∧ Below w.heap.size w w' := by
  have HP := Lib.hid (rd_L_shut p e w h)
  have HS := Lib.hid hS
  clear h hS
  go_enter Try.func18, Try.ntmps18
  go_wp2_with fail
  refine HP.out.mono ?_
  rintro x w1 ⟨rfl, hb⟩
  have HB : Hid (Below w.heap.size w w1) := hb
  have HS1 : Hid (RefEnd w1 S e') := ⟨(hb.cell (p := ⟨S, 2, none⟩) (cell_lt HS.out.1)).trans HS.out.1, HS.out.2⟩
  clear hb
  go_wp2_with fail
  refine (wide_any _ [] w1 (Own.nil_ (Nat.zero_le _) : Own w1 0 0 _ _).reads (by decide)).mono ?_
  rintro x w2 ⟨p2, m2, c2, rfl, hown2, hb2⟩
  have HO2 := Lib.hid hown2
  have HS2 : Hid (RefEnd w2 S e') := ⟨(hb2.cell (p := ⟨S, 2, none⟩) (cell_lt HS1.out.1)).trans HS1.out.1, HS1.out.2⟩
  have HB2 : Hid (Below w.heap.size w w2) := HB.out.trans (hb2.mono HB.out.size)
  clear hown2 hb2
  go_wp2_with fail
  refine (rf_ints_end S e' _ HS2.out).mono ?_
  rintro x w3 ⟨rfl, q, rfl⟩
  have hn : Reads (w2.drewN q) (.slice none 0 0) (([] : List Int).map intV) := (Own.nil_ (Nat.zero_le _) : Own (w2.drewN q) 0 0 _ _).reads
  have ho : Reads (w2.drewN q) (.slice p2 m2 c2) (([] : List Int).map intV) := HO2.out.reads.keep (Nat.le_refl _) (fun _ _ => rfl)
  go_wp2_with fail
  refine (same04_any _ _ _ _ _ ho hn).mono ?_
  rintro x w4 ⟨rfl, q2, rfl⟩
  rw [decide_eq_true rfl]
  go_wp2_with fail
  go_ret
  exact ⟨rfl, below_drewN HB2.out _⟩

set_option maxHeartbeats 1000000 in
theorem read6_shut (p : Option Addr) (S : Nat) (e e' : Int) (w : World) (h : Shut w p e) (hS : RefEnd w S e') :
    Calls Try.prog 18 #[.int .i64 6, .pointer p, .pointer (some ⟨S, 0, none⟩)] w fun x w' => x = .returned (.bool true) ∧ Below w.heap.size w w' := by
  have HP := Lib.hid (rd_F_shut p e w h)
  have HS := Lib.hid hS
  clear h hS
  go_enter Try.func18, Try.ntmps18
  go_wp2_with fail
  refine HP.out.mono ?_
  rintro x w1 ⟨rfl, hb⟩
  have HB : Hid (Below w.heap.size w w1) := hb
  have HS1 : Hid (RefEnd w1 S e') := ⟨(hb.cell (p := ⟨S, 2, none⟩) (cell_lt HS.out.1)).trans HS.out.1, HS.out.2⟩
  clear hb
  go_wp2_with fail
  refine (plain_any _ [] w1 (Own.nil_ (Nat.zero_le _) : Own w1 0 0 _ _).reads (by decide)).mono ?_
  rintro x w2 ⟨p2, m2, c2, rfl, hown2, hb2⟩
  have HO2 := Lib.hid hown2
  have HS2 : Hid (RefEnd w2 S e') := ⟨(hb2.cell (p := ⟨S, 2, none⟩) (cell_lt HS1.out.1)).trans HS1.out.1, HS1.out.2⟩
  have HB2 : Hid (Below w.heap.size w w2) := HB.out.trans (hb2.mono HB.out.size)
  clear hown2 hb2
  go_wp2_with fail
  refine (rf_fixes_end S e' _ HS2.out).mono ?_
  rintro x w3 ⟨rfl, q, rfl⟩
  have hn : Reads (w2.drewN q) (.slice none 0 0) (([] : List Int).map intV) := (Own.nil_ (Nat.zero_le _) : Own (w2.drewN q) 0 0 _ _).reads
  have ho : Reads (w2.drewN q) (.slice p2 m2 c2) (([] : List Int).map intV) := HO2.out.reads.keep (Nat.le_refl _) (fun _ _ => rfl)
  go_wp2_with fail
  refine (same04_any _ _ _ _ _ ho hn).mono ?_
  rintro x w4 ⟨rfl, q2, rfl⟩
  rw [decide_eq_true rfl]
  go_wp2_with fail
  go_ret
  exact ⟨rfl, below_drewN HB2.out _⟩

set_option maxHeartbeats 1000000 in
theorem readO (k : Int) (u v : Value) (w : World) (h : ¬ (1 ≤ k ∧ k ≤ 6)) :
    Calls Try.prog 18 #[.int .i64 k, u, v] w fun x w' => x = .returned (.bool true) ∧ w = w' := by
  have g1 : (k == 1) = false := by rw [beq_eq_false_iff_ne]; omega
  have g2 : (k == 2) = false := by rw [beq_eq_false_iff_ne]; omega
  have g3 : (k == 3) = false := by rw [beq_eq_false_iff_ne]; omega
  have g4 : (k == 4) = false := by rw [beq_eq_false_iff_ne]; omega
  have g5 : (k == 5) = false := by rw [beq_eq_false_iff_ne]; omega
  have g6 : (k == 6) = false := by rw [beq_eq_false_iff_ne]; omega
  clear h
  go_enter Try.func18, Try.ntmps18
  go_wp2_with fail
  go_ret
  exact ⟨rfl, rfl⟩
theorem kinds (k : Int) : k = 1 ∨ k = 2 ∨ k = 3 ∨ k = 4 ∨ k = 5 ∨ k = 6 ∨ ¬ (1 ≤ k ∧ k ≤ 6) := by omega
theorem read_shut (k : Int) (p : Option Addr) (S : Nat) (e e' : Int) (w : World) (h : Shut w p e) (hS : RefEnd w S e') :
    Calls Try.prog 18 #[.int .i64 k, .pointer p, .pointer (some ⟨S, 0, none⟩)] w fun x w' => x = .returned (.bool true) ∧ Below w.heap.size w w' := by
  rcases kinds k with rfl | rfl | rfl | rfl | rfl | rfl | hk
  · exact read1_shut p S e e' w h hS
  · exact read2_shut p S e e' w h hS
  · exact read3_shut p S e e' w h hS
  · exact read4_shut p S e e' w h hS
  · exact read5_shut p S e e' w h hS
  · exact read6_shut p S e e' w h hS
  · exact (readO k _ _ w hk).mono fun x w' ⟨h1, h2⟩ => ⟨h1, h2 ▸ Below.refl _ _⟩
theorem read_joint (k : Int) (lo R S : Nat) (all : List (BitVec 8)) (w : World) (h1 : lo ≤ R) (h2 : R < S) (hJ : Joint lo R S all w) (hl : all.length ≤ 2000000) :
    Calls Try.prog 18 #[.int .i64 k, .pointer (some ⟨R, 0, none⟩), .pointer (some ⟨S, 0, none⟩)] w fun x w' => x = .returned (.bool true) ∧ Joint lo R S all w' ∧ Chg [R, S] w w' := by
  rcases hJ with ⟨n, hR, hS⟩ | ⟨e, n, he, hR, hS⟩
  · rcases kinds k with rfl | rfl | rfl | rfl | rfl | rfl | hk
    · exact read1 lo R S n all w h1 h2 hR hS
    · exact read2 lo R S n all w h1 h2 hR hS
    · exact read3 lo R S n all w h1 h2 hR hS
    · exact read4 lo R S n all w h1 h2 hR hS hl
    · exact read5 lo R S n all w h1 h2 hR hS hl
    · exact read6 lo R S n all w h1 h2 hR hS hl
    · exact (readO k _ _ w hk).mono fun x w' ⟨h3, h4⟩ => ⟨h3, h4 ▸ .inl ⟨n, hR, hS⟩, h4 ▸ Chg.refl _ _⟩
  · refine (read_shut k _ S e e w (.bad R e hR he) ⟨hS.err, he⟩).mono fun x w' ⟨h3, h4⟩ => ?_
    have hc : Chg [] w w' := Chg.of_below h4
    exact ⟨h3, .inr ⟨e, n, he, hR.chg hc (by simp), hS.chg hc (by simp)⟩, hc.mono (by simp)⟩
end Go.Proofs.Ytajnhmkkgngbhaa
