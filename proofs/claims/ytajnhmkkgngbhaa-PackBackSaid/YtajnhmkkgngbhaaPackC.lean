/- The walks of package pack, the reader: caught, instance by instance. -/
import Derived.Test.YtajnhmkkgngbhaaPackE
import Derived.Shelf.Abstract
namespace Go.Proofs.Ytajnhmkkgngbhaa
open Go.RowKit
open Pack (Got)

/-- How a reading ends outside the guard. -/
def CtPost {α : Type} (zero : Value) (is : World → α → Value → Prop) (R : Nat) (w : World) (g : Got α) (x : Ending) (w' : World) : Prop :=
  match g with
  | .no e => x = .returned zero ∧ ReaderEnd w' R e ∧ Chg [R] w w'
  | .yes a rest => (∃ v, x = .returned v ∧ is w' a v) ∧ ReaderIs w' R rest 0 ∧ Chg [R] w w'
theorem CtPost.no {α : Type} {zero : Value} {is : World → α → Value → Prop} {R : Nat} {w w' : World} {g : Got α} {e : Int} (hg : g = .no e) (hr : ReaderEnd w' R e) (hc : Chg [R] w w') : CtPost zero is R w g (.returned zero) w' := by
  subst hg; exact ⟨rfl, hr, hc⟩
theorem CtPost.yes {α : Type} {zero : Value} {is : World → α → Value → Prop} {R : Nat} {w w' : World} {g : Got α} {a : α} {v : Value} {rest : List (BitVec 8)} (hg : g = .yes a rest) (hi : is w' a v) (hr : ReaderIs w' R rest 0) (hc : Chg [R] w w') : CtPost zero is R w g (.returned v) w' := by
  subst hg; exact ⟨⟨_, rfl, hi⟩, hr, hc⟩
theorem ReaderIs.setBox {w : World} {R : Nat} {bs : List (BitVec 8)} {e : Int} (h : ReaderIs w R bs e) {O : Nat} (hO : R < O) (v : Value) : ReaderIs (w.setCell ⟨O, 0, none⟩ v) R bs e :=
  h.chg (S := [O]) ((Chg.refl [O] w).setCell _ _ (by simp)) (by simpa using hO)
/-- What an outcome says of a reading, whichever it is. -/
theorem RdPost.part {α : Type} {is : World → α → Value → Prop} {R : Nat} {w w' : World} {g : Got α} {x : Ending} (h : RdPost is R w g x w') :
    (∃ e rest, g = .no e ∧ x = thrown e ∧ ReaderIs w' R rest 0 ∧ Chg [R] w w') ∨ ∃ a v rest, g = .yes a rest ∧ x = .returned v ∧ is w' a v ∧ ReaderIs w' R rest 0 ∧ Chg [R] w w' := by
  cases g with
  | no e => obtain ⟨h1, ⟨rest, h2⟩, h3⟩ := h; exact .inl ⟨e, rest, rfl, h1, h2, h3⟩
  | yes a rest => obtain ⟨⟨v, h1, h2⟩, h3, h4⟩ := h; exact .inr ⟨a, v, rest, rfl, h1, h2, h3, h4⟩
/-- What stands behind the closure's call: what was read lies in its box; or it was thrown. -/
def ClPost {α : Type} (is : World → α → Value → Prop) (R O : Nat) (w : World) (g : Got α) (x : Ending) (w' : World) : Prop :=
  (∃ e rest, g = .no e ∧ x = thrown e ∧ ReaderIs w' R rest 0 ∧ Chg [R] w w') ∨ (∃ a v rest, g = .yes a rest ∧ x = .returned (.tuple #[]) ∧ w'.cell? ⟨O, 0, none⟩ = some v ∧ is w' a v ∧ ReaderIs w' R rest 0 ∧ Chg [R, O] w w')

set_option maxHeartbeats 1000000 in
theorem closureU (R F O G : Nat) (first caps : Array Value) (old : Value) {α : Type} (is : World → α → Value → Prop) (g : Got α) (w : World) (hG : ∀ args w, (callFunc G args).run Try.prog w = .ok (.enter G args) w)
    (hRO : R < O) (hOw : O < w.heap.size) (hF : w.cell? ⟨F, 0, none⟩ = some (.func (.func G) first caps)) (hO : w.cell? ⟨O, 0, none⟩ = some old) (hOf : w.frozen? ⟨O, 0, none⟩ = false)
    (hf : Calls Try.prog G (first ++ caps) w (RdPost is R w g)) (hst : ∀ w0 a v u, is w0 a v → is (w0.setCell ⟨O, 0, none⟩ u) a v) (hsh : ∀ w0 a v, is w0 a v → ∃ n, v = .int .u64 n) :
    Calls Try.prog 73 #[.pointer (some ⟨F, 0, none⟩), .pointer (some ⟨O, 0, none⟩)] w (ClPost is R O w g) := by
  have HF := Lib.hid hf
  have HS := Lib.hid hst
  have HSH := Lib.hid hsh
  clear hf hst hsh
  go_enter Try.func73, Try.ntmps73
  go_wp2_with fail
  refine HF.out.mono ?_
  intro x w1 hq
  rcases hq.part with ⟨e, rest, rfl, rfl, hr, hc⟩ | ⟨a, v, rest, rfl, rfl, hi, hr, hc⟩
  · have HR := Lib.hid hr
    have HC := Lib.hid hc
    clear hq hr hc
    simp only [thrown]
    go_wp2_with fail
    exact ⟨rfl, .inl ⟨e, rest, rfl, rfl, HR.out, HC.out⟩⟩
  · obtain ⟨n, rfl⟩ := HSH.out _ _ _ hi
    have c1 : w1.cell? ⟨O, 0, none⟩ = some old := (hc.cell O 0 hOw (by simp; omega)).trans hO
    have f1 : w1.frozen? ⟨O, 0, none⟩ = false := (hc.frozen O 0 hOw (by simp; omega)).trans hOf
    have HR := Lib.hid hr
    have HC := Lib.hid hc
    have HI := Lib.hid hi
    clear hq hr hc hi hO hOf
    go_wp2_with fail
    go_end0
    exact .inr ⟨a, _, rest, rfl, rfl, World.cell?_setCell_same _ _ _ c1, HS.out _ _ _ _ HI.out, HR.out.setBox hRO _, (HC.out.mono (by simp)).setCell _ _ (by simp)⟩
set_option maxHeartbeats 1000000 in
theorem caughtU (R G : Nat) (first caps : Array Value) (bs : List (BitVec 8)) {α : Type} (is : World → α → Value → Prop) (g : Got α) (w : World) (hG : ∀ args w, (callFunc G args).run Try.prog w = .ok (.enter G args) w)
    (hR : ReaderIs w R bs 0) (hne : ∀ e, g = .no e → e ≠ 0)
    (hf : ∀ w1, Chg [] w w1 → w1.heap.size = w.heap.size + 3 → Calls Try.prog G (first ++ caps) w1 (RdPost is R w1 g)) (hst : ∀ w0 a v u, is w0 a v → is (w0.setCell ⟨w.heap.size + 1, 0, none⟩ u) a v) (hsh : ∀ w0 a v, is w0 a v → ∃ n, v = .int .u64 n) :
    Calls Try.prog 46 #[.pointer (some ⟨R, 0, none⟩), .func (.func G) first caps] w (CtPost (.int .u64 0) is R w g) := by
  have hlt := hR.lt
  obtain ⟨w2, hw2⟩ : ∃ w2, w2 = (w.alloc (.cells #[.func (.func G) first caps] 59)).alloc (.cells #[.int .u64 0] 32) := ⟨_, rfl⟩
  have ch2 : Chg [] w w2 := by rw [hw2]; exact ((Chg.refl [] w).alloc _).alloc _
  have hs2 : w2.heap.size = w.heap.size + 2 := by rw [hw2]; simp
  have hF : w2.cell? ⟨w.heap.size, 0, none⟩ = some (.func (.func G) first caps) := by rw [hw2]; simp
  have hO : w2.cell? ⟨w.heap.size + 1, 0, none⟩ = some (.int .u64 0) := by rw [hw2]; simp
  have hOf : w2.frozen? ⟨w.heap.size + 1, 0, none⟩ = false := by rw [hw2]; simp
  have hR2 : ReaderIs w2 R bs 0 := hR.chg ch2 (by simp)
  have ch3 : Chg [] w (w2.alloc (.cells #[.pointer (some ⟨R, 0, none⟩)] 44)) := ch2.alloc _
  have hb3 : (w2.alloc (.cells #[.pointer (some ⟨R, 0, none⟩)] 44)).cell? ⟨w.heap.size + 2, 0, none⟩ = some (.pointer (some ⟨R, 0, none⟩)) := by rw [← hs2]; simp
  have hE := enters_of (P := Try.prog) (f := 73) Try.func73 (by kernel_rfl) rfl
  have hclo := closureU R w.heap.size (w.heap.size + 1) G first caps (.int .u64 0) is g (w2.alloc (.cells #[.pointer (some ⟨R, 0, none⟩)] 44)) hG (by omega) (by rw [World.size_alloc]; omega)
    (((Chg.refl [] w2).alloc _).cell _ _ (by omega) (by simp) |>.trans hF) (((Chg.refl [] w2).alloc _).cell _ _ (by omega) (by simp) |>.trans hO) (((Chg.refl [] w2).alloc _).frozen _ _ (by omega) (by simp) |>.trans hOf)
    (hf _ ch3 (by rw [World.size_alloc]; omega)) hst hsh
  have hgd := guard_run R 73 #[.pointer (some ⟨w.heap.size, 0, none⟩), .pointer (some ⟨w.heap.size + 1, 0, none⟩)] bs w2 _ hE hR2 hclo (by
    rintro x w' (⟨e, rest, _, rfl, hr, hc⟩ | ⟨a, v, rest, _, rfl, _⟩)
    · exact .inr ⟨e, rfl, ⟨rest, hr⟩, by rw [hs2]; exact (hc.cell _ _ (by rw [World.size_alloc]; omega) (by simp; omega)).trans hb3⟩
    · exact .inl ⟨_, rfl⟩)
  have HG := Lib.hid hgd
  have HN := Lib.hid hne
  have HC3 := Lib.hid ch3
  have HS2 := Lib.hid hs2
  have HSH := Lib.hid hsh
  clear hf hst hsh hclo hgd hne hR hR2 hF hO hOf ch2 ch3 hb3 hE hs2
  go_enter Try.func46, Try.ntmps46
  have hmf : ∀ (fn : Fn) (first cap : Array Value) (w : World), (Instr.makeFunc fn first cap).run Try.prog w = .ok (.func fn first cap) w := fun _ _ _ _ => rfl
  go_wp2_with fail
  rw [← hw2]
  refine HG.out.mono ?_
  rintro x w4 ⟨⟨v0, rfl⟩, ⟨v1, h⟩ | ⟨e, w0, n, h, rfl⟩⟩
  · rcases h with ⟨_, _, _, h, _⟩ | ⟨a, v, rest, hg, -, hc, hi, hr, hch⟩
    · cases h
    obtain ⟨n, rfl⟩ := HSH.out _ _ _ hi
    have hend : ReaderEnd w4 R 0 := ⟨hr.lt, hr.made, hr.err⟩
    have HC4 : Hid (Chg [R] w w4) := (HC3.out.mono (by simp)).more hch (by simp)
    have HR4 := Lib.hid hr
    have HI := Lib.hid hi
    have HGE := Lib.hid hg
    clear hch hr hi hg hw2
    go_wp2_with fail
    refine (error_is R 0 w4 hend).mono ?_
    rintro x w5 ⟨rfl, rfl⟩
    go_wp2_with fail
    go_ret
    exact CtPost.yes HGE.out HI.out HR4.out HC4.out
  · rcases h with ⟨e', rest, hg, h, hr, hch⟩ | ⟨a, v, rest, hg, h, _⟩
    · obtain rfl : e' = e := by injection h with h; injection h with h _; injection h with h _; injection h with _ h; injection h with h; have := congrArg Array.toList h; simpa using this.symm
      have hend : ReaderEnd ((w0.setCell ⟨R, 2, none⟩ (.int .i64 e')).drewN n) R e' :=
        ⟨by simpa [World.setCell] using hr.lt, (World.cell?_setCell_other _ _ _ _ (fun h => by simp at h)).trans hr.made, World.cell?_setCell_same _ _ _ hr.err⟩
      have HC4 : Hid (Chg [R] w ((w0.setCell ⟨R, 2, none⟩ (.int .i64 e')).drewN n)) := (((HC3.out.mono (by simp)).more hch (by simp)).setCell _ _ (by simp)).drewN n
      have HE := Lib.hid hend
      have he' := HN.out e' hg
      have hb : (e' != 0) = true := by rw [bne_iff_ne]; exact he'
      have HGE := Lib.hid hg
      obtain ⟨w4, hw4⟩ : ∃ w4, w4 = (w0.setCell ⟨R, 2, none⟩ (.int .i64 e')).drewN n := ⟨_, rfl⟩
      rw [← hw4] at hend HC4 ⊢
      clear hch hr hg hw2 HE hw4 he'
      go_wp2_with fail
      refine (error_is R e' w4 hend).mono ?_
      rintro x w5 ⟨rfl, rfl⟩
      have HE := Lib.hid hend
      clear hend
      go_wp2_with fail
      go_ret
      exact CtPost.no HGE.out HE.out HC4.out
    · cases h
theorem caughtU_shut (p : Option Addr) (e : Int) (fn : Fn) (first caps : Array Value) (w : World) (h : Shut w p e) :
    Calls Try.prog 46 #[.pointer p, .func fn first caps] w fun x w' => x = .returned (.int .u64 0) ∧ Below w.heap.size w w' := by
  have hb2 : Below w.heap.size w ((w.alloc (.cells #[.func fn first caps] 59)).alloc (.cells #[.int .u64 0] 32)) := ((Below.refl _ w).alloc (Nat.le_refl _) _).alloc (by simp) _
  have h2 := h.chg hb2
  have HH := Lib.hid h2
  have HB := Lib.hid hb2
  have hb : (e != 0) = true := by rw [bne_iff_ne]; exact h.ne
  clear h hb2 h2
  have hmf : ∀ (fn : Fn) (first cap : Array Value) (w : World), (Instr.makeFunc fn first cap).run Try.prog w = .ok (.func fn first cap) w := fun _ _ _ _ => rfl
  go_enter Try.func46, Try.ntmps46
  go_wp2_with fail
  refine (guard_shut p e _ _ HH.out).mono ?_
  rintro x w4 ⟨⟨v, rfl⟩, hb4⟩
  have H4 : Hid (Shut w4 p e) := HH.out.chg hb4
  have HB4 : Hid (Below w.heap.size w w4) := HB.out.trans (hb4.mono HB.out.size)
  clear hb4
  go_wp2_with fail
  refine (error_shut p e w4 H4.out).mono ?_
  rintro x w5 ⟨rfl, rfl⟩
  go_wp2_with fail
  go_ret
  exact ⟨rfl, HB4.out⟩

set_option maxHeartbeats 1000000 in
theorem closureN (R F O G : Nat) (first caps : Array Value) (old : Value) {α : Type} (is : World → α → Value → Prop) (g : Got α) (w : World) (hG : ∀ args w, (callFunc G args).run Try.prog w = .ok (.enter G args) w)
    (hRO : R < O) (hOw : O < w.heap.size) (hF : w.cell? ⟨F, 0, none⟩ = some (.func (.func G) first caps)) (hO : w.cell? ⟨O, 0, none⟩ = some old) (hOf : w.frozen? ⟨O, 0, none⟩ = false)
    (hf : Calls Try.prog G (first ++ caps) w (RdPost is R w g)) (hst : ∀ w0 a v u, is w0 a v → is (w0.setCell ⟨O, 0, none⟩ u) a v) (hsh : ∀ w0 a v, is w0 a v → ∃ n, v = .int .i64 n) :
    Calls Try.prog 74 #[.pointer (some ⟨F, 0, none⟩), .pointer (some ⟨O, 0, none⟩)] w (ClPost is R O w g) := by
  have HF := Lib.hid hf
  have HS := Lib.hid hst
  have HSH := Lib.hid hsh
  clear hf hst hsh
  go_enter Try.func74, Try.ntmps74
  go_wp2_with fail
  refine HF.out.mono ?_
  intro x w1 hq
  rcases hq.part with ⟨e, rest, rfl, rfl, hr, hc⟩ | ⟨a, v, rest, rfl, rfl, hi, hr, hc⟩
  · have HR := Lib.hid hr
    have HC := Lib.hid hc
    clear hq hr hc
    simp only [thrown]
    go_wp2_with fail
    exact ⟨rfl, .inl ⟨e, rest, rfl, rfl, HR.out, HC.out⟩⟩
  · obtain ⟨n, rfl⟩ := HSH.out _ _ _ hi
    have c1 : w1.cell? ⟨O, 0, none⟩ = some old := (hc.cell O 0 hOw (by simp; omega)).trans hO
    have f1 : w1.frozen? ⟨O, 0, none⟩ = false := (hc.frozen O 0 hOw (by simp; omega)).trans hOf
    have HR := Lib.hid hr
    have HC := Lib.hid hc
    have HI := Lib.hid hi
    clear hq hr hc hi hO hOf
    go_wp2_with fail
    go_end0
    exact .inr ⟨a, _, rest, rfl, rfl, World.cell?_setCell_same _ _ _ c1, HS.out _ _ _ _ HI.out, HR.out.setBox hRO _, (HC.out.mono (by simp)).setCell _ _ (by simp)⟩
set_option maxHeartbeats 1000000 in
theorem caughtN (R G : Nat) (first caps : Array Value) (bs : List (BitVec 8)) {α : Type} (is : World → α → Value → Prop) (g : Got α) (w : World) (hG : ∀ args w, (callFunc G args).run Try.prog w = .ok (.enter G args) w)
    (hR : ReaderIs w R bs 0) (hne : ∀ e, g = .no e → e ≠ 0)
    (hf : ∀ w1, Chg [] w w1 → w1.heap.size = w.heap.size + 3 → Calls Try.prog G (first ++ caps) w1 (RdPost is R w1 g)) (hst : ∀ w0 a v u, is w0 a v → is (w0.setCell ⟨w.heap.size + 1, 0, none⟩ u) a v) (hsh : ∀ w0 a v, is w0 a v → ∃ n, v = .int .i64 n) :
    Calls Try.prog 48 #[.pointer (some ⟨R, 0, none⟩), .func (.func G) first caps] w (CtPost (.int .i64 0) is R w g) := by
  have hlt := hR.lt
  obtain ⟨w2, hw2⟩ : ∃ w2, w2 = (w.alloc (.cells #[.func (.func G) first caps] 51)).alloc (.cells #[.int .i64 0] 3) := ⟨_, rfl⟩
  have ch2 : Chg [] w w2 := by rw [hw2]; exact ((Chg.refl [] w).alloc _).alloc _
  have hs2 : w2.heap.size = w.heap.size + 2 := by rw [hw2]; simp
  have hF : w2.cell? ⟨w.heap.size, 0, none⟩ = some (.func (.func G) first caps) := by rw [hw2]; simp
  have hO : w2.cell? ⟨w.heap.size + 1, 0, none⟩ = some (.int .i64 0) := by rw [hw2]; simp
  have hOf : w2.frozen? ⟨w.heap.size + 1, 0, none⟩ = false := by rw [hw2]; simp
  have hR2 : ReaderIs w2 R bs 0 := hR.chg ch2 (by simp)
  have ch3 : Chg [] w (w2.alloc (.cells #[.pointer (some ⟨R, 0, none⟩)] 44)) := ch2.alloc _
  have hb3 : (w2.alloc (.cells #[.pointer (some ⟨R, 0, none⟩)] 44)).cell? ⟨w.heap.size + 2, 0, none⟩ = some (.pointer (some ⟨R, 0, none⟩)) := by rw [← hs2]; simp
  have hE := enters_of (P := Try.prog) (f := 74) Try.func74 (by kernel_rfl) rfl
  have hclo := closureN R w.heap.size (w.heap.size + 1) G first caps (.int .i64 0) is g (w2.alloc (.cells #[.pointer (some ⟨R, 0, none⟩)] 44)) hG (by omega) (by rw [World.size_alloc]; omega)
    (((Chg.refl [] w2).alloc _).cell _ _ (by omega) (by simp) |>.trans hF) (((Chg.refl [] w2).alloc _).cell _ _ (by omega) (by simp) |>.trans hO) (((Chg.refl [] w2).alloc _).frozen _ _ (by omega) (by simp) |>.trans hOf)
    (hf _ ch3 (by rw [World.size_alloc]; omega)) hst hsh
  have hgd := guard_run R 74 #[.pointer (some ⟨w.heap.size, 0, none⟩), .pointer (some ⟨w.heap.size + 1, 0, none⟩)] bs w2 _ hE hR2 hclo (by
    rintro x w' (⟨e, rest, _, rfl, hr, hc⟩ | ⟨a, v, rest, _, rfl, _⟩)
    · exact .inr ⟨e, rfl, ⟨rest, hr⟩, by rw [hs2]; exact (hc.cell _ _ (by rw [World.size_alloc]; omega) (by simp; omega)).trans hb3⟩
    · exact .inl ⟨_, rfl⟩)
  have HG := Lib.hid hgd
  have HN := Lib.hid hne
  have HC3 := Lib.hid ch3
  have HS2 := Lib.hid hs2
  have HSH := Lib.hid hsh
  clear hf hst hsh hclo hgd hne hR hR2 hF hO hOf ch2 ch3 hb3 hE hs2
  go_enter Try.func48, Try.ntmps48
  have hmf : ∀ (fn : Fn) (first cap : Array Value) (w : World), (Instr.makeFunc fn first cap).run Try.prog w = .ok (.func fn first cap) w := fun _ _ _ _ => rfl
  go_wp2_with fail
  rw [← hw2]
  refine HG.out.mono ?_
  rintro x w4 ⟨⟨v0, rfl⟩, ⟨v1, h⟩ | ⟨e, w0, n, h, rfl⟩⟩
  · rcases h with ⟨_, _, _, h, _⟩ | ⟨a, v, rest, hg, -, hc, hi, hr, hch⟩
    · cases h
    obtain ⟨n, rfl⟩ := HSH.out _ _ _ hi
    have hend : ReaderEnd w4 R 0 := ⟨hr.lt, hr.made, hr.err⟩
    have HC4 : Hid (Chg [R] w w4) := (HC3.out.mono (by simp)).more hch (by simp)
    have HR4 := Lib.hid hr
    have HI := Lib.hid hi
    have HGE := Lib.hid hg
    clear hch hr hi hg hw2
    go_wp2_with fail
    refine (error_is R 0 w4 hend).mono ?_
    rintro x w5 ⟨rfl, rfl⟩
    go_wp2_with fail
    go_ret
    exact CtPost.yes HGE.out HI.out HR4.out HC4.out
  · rcases h with ⟨e', rest, hg, h, hr, hch⟩ | ⟨a, v, rest, hg, h, _⟩
    · obtain rfl : e' = e := by injection h with h; injection h with h _; injection h with h _; injection h with _ h; injection h with h; have := congrArg Array.toList h; simpa using this.symm
      have hend : ReaderEnd ((w0.setCell ⟨R, 2, none⟩ (.int .i64 e')).drewN n) R e' :=
        ⟨by simpa [World.setCell] using hr.lt, (World.cell?_setCell_other _ _ _ _ (fun h => by simp at h)).trans hr.made, World.cell?_setCell_same _ _ _ hr.err⟩
      have HC4 : Hid (Chg [R] w ((w0.setCell ⟨R, 2, none⟩ (.int .i64 e')).drewN n)) := (((HC3.out.mono (by simp)).more hch (by simp)).setCell _ _ (by simp)).drewN n
      have HE := Lib.hid hend
      have he' := HN.out e' hg
      have hb : (e' != 0) = true := by rw [bne_iff_ne]; exact he'
      have HGE := Lib.hid hg
      obtain ⟨w4, hw4⟩ : ∃ w4, w4 = (w0.setCell ⟨R, 2, none⟩ (.int .i64 e')).drewN n := ⟨_, rfl⟩
      rw [← hw4] at hend HC4 ⊢
      clear hch hr hg hw2 HE hw4 he'
      go_wp2_with fail
      refine (error_is R e' w4 hend).mono ?_
      rintro x w5 ⟨rfl, rfl⟩
      have HE := Lib.hid hend
      clear hend
      go_wp2_with fail
      go_ret
      exact CtPost.no HGE.out HE.out HC4.out
    · cases h
theorem caughtN_shut (p : Option Addr) (e : Int) (fn : Fn) (first caps : Array Value) (w : World) (h : Shut w p e) :
    Calls Try.prog 48 #[.pointer p, .func fn first caps] w fun x w' => x = .returned (.int .i64 0) ∧ Below w.heap.size w w' := by
  have hb2 : Below w.heap.size w ((w.alloc (.cells #[.func fn first caps] 51)).alloc (.cells #[.int .i64 0] 3)) := ((Below.refl _ w).alloc (Nat.le_refl _) _).alloc (by simp) _
  have h2 := h.chg hb2
  have HH := Lib.hid h2
  have HB := Lib.hid hb2
  have hb : (e != 0) = true := by rw [bne_iff_ne]; exact h.ne
  clear h hb2 h2
  have hmf : ∀ (fn : Fn) (first cap : Array Value) (w : World), (Instr.makeFunc fn first cap).run Try.prog w = .ok (.func fn first cap) w := fun _ _ _ _ => rfl
  go_enter Try.func48, Try.ntmps48
  go_wp2_with fail
  refine (guard_shut p e _ _ HH.out).mono ?_
  rintro x w4 ⟨⟨v, rfl⟩, hb4⟩
  have H4 : Hid (Shut w4 p e) := HH.out.chg hb4
  have HB4 : Hid (Below w.heap.size w w4) := HB.out.trans (hb4.mono HB.out.size)
  clear hb4
  go_wp2_with fail
  refine (error_shut p e w4 H4.out).mono ?_
  rintro x w5 ⟨rfl, rfl⟩
  go_wp2_with fail
  go_ret
  exact ⟨rfl, HB4.out⟩

set_option maxHeartbeats 1000000 in
theorem closureX (R F O G : Nat) (first caps : Array Value) (old : Value) {α : Type} (is : World → α → Value → Prop) (g : Got α) (w : World) (hG : ∀ args w, (callFunc G args).run Try.prog w = .ok (.enter G args) w)
    (hRO : R < O) (hOw : O < w.heap.size) (hF : w.cell? ⟨F, 0, none⟩ = some (.func (.func G) first caps)) (hO : w.cell? ⟨O, 0, none⟩ = some old) (hOf : w.frozen? ⟨O, 0, none⟩ = false)
    (hf : Calls Try.prog G (first ++ caps) w (RdPost is R w g)) (hst : ∀ w0 a v u, is w0 a v → is (w0.setCell ⟨O, 0, none⟩ u) a v) (hsh : ∀ w0 a v, is w0 a v → ∃ n, v = .int .i64 n) :
    Calls Try.prog 75 #[.pointer (some ⟨F, 0, none⟩), .pointer (some ⟨O, 0, none⟩)] w (ClPost is R O w g) := by
  have HF := Lib.hid hf
  have HS := Lib.hid hst
  have HSH := Lib.hid hsh
  clear hf hst hsh
  go_enter Try.func75, Try.ntmps75
  go_wp2_with fail
  refine HF.out.mono ?_
  intro x w1 hq
  rcases hq.part with ⟨e, rest, rfl, rfl, hr, hc⟩ | ⟨a, v, rest, rfl, rfl, hi, hr, hc⟩
  · have HR := Lib.hid hr
    have HC := Lib.hid hc
    clear hq hr hc
    simp only [thrown]
    go_wp2_with fail
    exact ⟨rfl, .inl ⟨e, rest, rfl, rfl, HR.out, HC.out⟩⟩
  · obtain ⟨n, rfl⟩ := HSH.out _ _ _ hi
    have c1 : w1.cell? ⟨O, 0, none⟩ = some old := (hc.cell O 0 hOw (by simp; omega)).trans hO
    have f1 : w1.frozen? ⟨O, 0, none⟩ = false := (hc.frozen O 0 hOw (by simp; omega)).trans hOf
    have HR := Lib.hid hr
    have HC := Lib.hid hc
    have HI := Lib.hid hi
    clear hq hr hc hi hO hOf
    go_wp2_with fail
    go_end0
    exact .inr ⟨a, _, rest, rfl, rfl, World.cell?_setCell_same _ _ _ c1, HS.out _ _ _ _ HI.out, HR.out.setBox hRO _, (HC.out.mono (by simp)).setCell _ _ (by simp)⟩
set_option maxHeartbeats 1000000 in
theorem caughtX (R G : Nat) (first caps : Array Value) (bs : List (BitVec 8)) {α : Type} (is : World → α → Value → Prop) (g : Got α) (w : World) (hG : ∀ args w, (callFunc G args).run Try.prog w = .ok (.enter G args) w)
    (hR : ReaderIs w R bs 0) (hne : ∀ e, g = .no e → e ≠ 0)
    (hf : ∀ w1, Chg [] w w1 → w1.heap.size = w.heap.size + 3 → Calls Try.prog G (first ++ caps) w1 (RdPost is R w1 g)) (hst : ∀ w0 a v u, is w0 a v → is (w0.setCell ⟨w.heap.size + 1, 0, none⟩ u) a v) (hsh : ∀ w0 a v, is w0 a v → ∃ n, v = .int .i64 n) :
    Calls Try.prog 50 #[.pointer (some ⟨R, 0, none⟩), .func (.func G) first caps] w (CtPost (.int .i64 0) is R w g) := by
  have hlt := hR.lt
  obtain ⟨w2, hw2⟩ : ∃ w2, w2 = (w.alloc (.cells #[.func (.func G) first caps] 60)).alloc (.cells #[.int .i64 0] 36) := ⟨_, rfl⟩
  have ch2 : Chg [] w w2 := by rw [hw2]; exact ((Chg.refl [] w).alloc _).alloc _
  have hs2 : w2.heap.size = w.heap.size + 2 := by rw [hw2]; simp
  have hF : w2.cell? ⟨w.heap.size, 0, none⟩ = some (.func (.func G) first caps) := by rw [hw2]; simp
  have hO : w2.cell? ⟨w.heap.size + 1, 0, none⟩ = some (.int .i64 0) := by rw [hw2]; simp
  have hOf : w2.frozen? ⟨w.heap.size + 1, 0, none⟩ = false := by rw [hw2]; simp
  have hR2 : ReaderIs w2 R bs 0 := hR.chg ch2 (by simp)
  have ch3 : Chg [] w (w2.alloc (.cells #[.pointer (some ⟨R, 0, none⟩)] 44)) := ch2.alloc _
  have hb3 : (w2.alloc (.cells #[.pointer (some ⟨R, 0, none⟩)] 44)).cell? ⟨w.heap.size + 2, 0, none⟩ = some (.pointer (some ⟨R, 0, none⟩)) := by rw [← hs2]; simp
  have hE := enters_of (P := Try.prog) (f := 75) Try.func75 (by kernel_rfl) rfl
  have hclo := closureX R w.heap.size (w.heap.size + 1) G first caps (.int .i64 0) is g (w2.alloc (.cells #[.pointer (some ⟨R, 0, none⟩)] 44)) hG (by omega) (by rw [World.size_alloc]; omega)
    (((Chg.refl [] w2).alloc _).cell _ _ (by omega) (by simp) |>.trans hF) (((Chg.refl [] w2).alloc _).cell _ _ (by omega) (by simp) |>.trans hO) (((Chg.refl [] w2).alloc _).frozen _ _ (by omega) (by simp) |>.trans hOf)
    (hf _ ch3 (by rw [World.size_alloc]; omega)) hst hsh
  have hgd := guard_run R 75 #[.pointer (some ⟨w.heap.size, 0, none⟩), .pointer (some ⟨w.heap.size + 1, 0, none⟩)] bs w2 _ hE hR2 hclo (by
    rintro x w' (⟨e, rest, _, rfl, hr, hc⟩ | ⟨a, v, rest, _, rfl, _⟩)
    · exact .inr ⟨e, rfl, ⟨rest, hr⟩, by rw [hs2]; exact (hc.cell _ _ (by rw [World.size_alloc]; omega) (by simp; omega)).trans hb3⟩
    · exact .inl ⟨_, rfl⟩)
  have HG := Lib.hid hgd
  have HN := Lib.hid hne
  have HC3 := Lib.hid ch3
  have HS2 := Lib.hid hs2
  have HSH := Lib.hid hsh
  clear hf hst hsh hclo hgd hne hR hR2 hF hO hOf ch2 ch3 hb3 hE hs2
  go_enter Try.func50, Try.ntmps50
  have hmf : ∀ (fn : Fn) (first cap : Array Value) (w : World), (Instr.makeFunc fn first cap).run Try.prog w = .ok (.func fn first cap) w := fun _ _ _ _ => rfl
  go_wp2_with fail
  rw [← hw2]
  refine HG.out.mono ?_
  rintro x w4 ⟨⟨v0, rfl⟩, ⟨v1, h⟩ | ⟨e, w0, n, h, rfl⟩⟩
  · rcases h with ⟨_, _, _, h, _⟩ | ⟨a, v, rest, hg, -, hc, hi, hr, hch⟩
    · cases h
    obtain ⟨n, rfl⟩ := HSH.out _ _ _ hi
    have hend : ReaderEnd w4 R 0 := ⟨hr.lt, hr.made, hr.err⟩
    have HC4 : Hid (Chg [R] w w4) := (HC3.out.mono (by simp)).more hch (by simp)
    have HR4 := Lib.hid hr
    have HI := Lib.hid hi
    have HGE := Lib.hid hg
    clear hch hr hi hg hw2
    go_wp2_with fail
    refine (error_is R 0 w4 hend).mono ?_
    rintro x w5 ⟨rfl, rfl⟩
    go_wp2_with fail
    go_ret
    exact CtPost.yes HGE.out HI.out HR4.out HC4.out
  · rcases h with ⟨e', rest, hg, h, hr, hch⟩ | ⟨a, v, rest, hg, h, _⟩
    · obtain rfl : e' = e := by injection h with h; injection h with h _; injection h with h _; injection h with _ h; injection h with h; have := congrArg Array.toList h; simpa using this.symm
      have hend : ReaderEnd ((w0.setCell ⟨R, 2, none⟩ (.int .i64 e')).drewN n) R e' :=
        ⟨by simpa [World.setCell] using hr.lt, (World.cell?_setCell_other _ _ _ _ (fun h => by simp at h)).trans hr.made, World.cell?_setCell_same _ _ _ hr.err⟩
      have HC4 : Hid (Chg [R] w ((w0.setCell ⟨R, 2, none⟩ (.int .i64 e')).drewN n)) := (((HC3.out.mono (by simp)).more hch (by simp)).setCell _ _ (by simp)).drewN n
      have HE := Lib.hid hend
      have he' := HN.out e' hg
      have hb : (e' != 0) = true := by rw [bne_iff_ne]; exact he'
      have HGE := Lib.hid hg
      obtain ⟨w4, hw4⟩ : ∃ w4, w4 = (w0.setCell ⟨R, 2, none⟩ (.int .i64 e')).drewN n := ⟨_, rfl⟩
      rw [← hw4] at hend HC4 ⊢
      clear hch hr hg hw2 HE hw4 he'
      go_wp2_with fail
      refine (error_is R e' w4 hend).mono ?_
      rintro x w5 ⟨rfl, rfl⟩
      have HE := Lib.hid hend
      clear hend
      go_wp2_with fail
      go_ret
      exact CtPost.no HGE.out HE.out HC4.out
    · cases h
theorem caughtX_shut (p : Option Addr) (e : Int) (fn : Fn) (first caps : Array Value) (w : World) (h : Shut w p e) :
    Calls Try.prog 50 #[.pointer p, .func fn first caps] w fun x w' => x = .returned (.int .i64 0) ∧ Below w.heap.size w w' := by
  have hb2 : Below w.heap.size w ((w.alloc (.cells #[.func fn first caps] 60)).alloc (.cells #[.int .i64 0] 36)) := ((Below.refl _ w).alloc (Nat.le_refl _) _).alloc (by simp) _
  have h2 := h.chg hb2
  have HH := Lib.hid h2
  have HB := Lib.hid hb2
  have hb : (e != 0) = true := by rw [bne_iff_ne]; exact h.ne
  clear h hb2 h2
  have hmf : ∀ (fn : Fn) (first cap : Array Value) (w : World), (Instr.makeFunc fn first cap).run Try.prog w = .ok (.func fn first cap) w := fun _ _ _ _ => rfl
  go_enter Try.func50, Try.ntmps50
  go_wp2_with fail
  refine (guard_shut p e _ _ HH.out).mono ?_
  rintro x w4 ⟨⟨v, rfl⟩, hb4⟩
  have H4 : Hid (Shut w4 p e) := HH.out.chg hb4
  have HB4 : Hid (Below w.heap.size w w4) := HB.out.trans (hb4.mono HB.out.size)
  clear hb4
  go_wp2_with fail
  refine (error_shut p e w4 H4.out).mono ?_
  rintro x w5 ⟨rfl, rfl⟩
  go_wp2_with fail
  go_ret
  exact ⟨rfl, HB4.out⟩

set_option maxHeartbeats 1000000 in
theorem closureB (R F O G : Nat) (first caps : Array Value) (old : Value) {α : Type} (is : World → α → Value → Prop) (g : Got α) (w : World) (hG : ∀ args w, (callFunc G args).run Try.prog w = .ok (.enter G args) w)
    (hRO : R < O) (hOw : O < w.heap.size) (hF : w.cell? ⟨F, 0, none⟩ = some (.func (.func G) first caps)) (hO : w.cell? ⟨O, 0, none⟩ = some old) (hOf : w.frozen? ⟨O, 0, none⟩ = false)
    (hf : Calls Try.prog G (first ++ caps) w (RdPost is R w g)) (hst : ∀ w0 a v u, is w0 a v → is (w0.setCell ⟨O, 0, none⟩ u) a v) (hsh : ∀ w0 a v, is w0 a v → ∃ p n c, v = .slice p n c) :
    Calls Try.prog 76 #[.pointer (some ⟨F, 0, none⟩), .pointer (some ⟨O, 0, none⟩)] w (ClPost is R O w g) := by
  have HF := Lib.hid hf
  have HS := Lib.hid hst
  have HSH := Lib.hid hsh
  clear hf hst hsh
  go_enter Try.func76, Try.ntmps76
  go_wp2_with fail
  refine HF.out.mono ?_
  intro x w1 hq
  rcases hq.part with ⟨e, rest, rfl, rfl, hr, hc⟩ | ⟨a, v, rest, rfl, rfl, hi, hr, hc⟩
  · have HR := Lib.hid hr
    have HC := Lib.hid hc
    clear hq hr hc
    simp only [thrown]
    go_wp2_with fail
    exact ⟨rfl, .inl ⟨e, rest, rfl, rfl, HR.out, HC.out⟩⟩
  · obtain ⟨p, n, c, rfl⟩ := HSH.out _ _ _ hi
    have c1 : w1.cell? ⟨O, 0, none⟩ = some old := (hc.cell O 0 hOw (by simp; omega)).trans hO
    have f1 : w1.frozen? ⟨O, 0, none⟩ = false := (hc.frozen O 0 hOw (by simp; omega)).trans hOf
    have HR := Lib.hid hr
    have HC := Lib.hid hc
    have HI := Lib.hid hi
    clear hq hr hc hi hO hOf
    go_wp2_with fail
    go_end0
    exact .inr ⟨a, _, rest, rfl, rfl, World.cell?_setCell_same _ _ _ c1, HS.out _ _ _ _ HI.out, HR.out.setBox hRO _, (HC.out.mono (by simp)).setCell _ _ (by simp)⟩
set_option maxHeartbeats 1000000 in
theorem caughtB (R G : Nat) (first caps : Array Value) (bs : List (BitVec 8)) {α : Type} (is : World → α → Value → Prop) (g : Got α) (w : World) (hG : ∀ args w, (callFunc G args).run Try.prog w = .ok (.enter G args) w)
    (hR : ReaderIs w R bs 0) (hne : ∀ e, g = .no e → e ≠ 0)
    (hf : ∀ w1, Chg [] w w1 → w1.heap.size = w.heap.size + 3 → Calls Try.prog G (first ++ caps) w1 (RdPost is R w1 g)) (hst : ∀ w0 a v u, is w0 a v → is (w0.setCell ⟨w.heap.size + 1, 0, none⟩ u) a v) (hsh : ∀ w0 a v, is w0 a v → ∃ p n c, v = .slice p n c) :
    Calls Try.prog 52 #[.pointer (some ⟨R, 0, none⟩), .func (.func G) first caps] w (CtPost (.slice none 0 0) is R w g) := by
  have hlt := hR.lt
  obtain ⟨w2, hw2⟩ : ∃ w2, w2 = (w.alloc (.cells #[.func (.func G) first caps] 61)).alloc (.cells #[.slice none 0 0] 24) := ⟨_, rfl⟩
  have ch2 : Chg [] w w2 := by rw [hw2]; exact ((Chg.refl [] w).alloc _).alloc _
  have hs2 : w2.heap.size = w.heap.size + 2 := by rw [hw2]; simp
  have hF : w2.cell? ⟨w.heap.size, 0, none⟩ = some (.func (.func G) first caps) := by rw [hw2]; simp
  have hO : w2.cell? ⟨w.heap.size + 1, 0, none⟩ = some (.slice none 0 0) := by rw [hw2]; simp
  have hOf : w2.frozen? ⟨w.heap.size + 1, 0, none⟩ = false := by rw [hw2]; simp
  have hR2 : ReaderIs w2 R bs 0 := hR.chg ch2 (by simp)
  have ch3 : Chg [] w (w2.alloc (.cells #[.pointer (some ⟨R, 0, none⟩)] 44)) := ch2.alloc _
  have hb3 : (w2.alloc (.cells #[.pointer (some ⟨R, 0, none⟩)] 44)).cell? ⟨w.heap.size + 2, 0, none⟩ = some (.pointer (some ⟨R, 0, none⟩)) := by rw [← hs2]; simp
  have hE := enters_of (P := Try.prog) (f := 76) Try.func76 (by kernel_rfl) rfl
  have hclo := closureB R w.heap.size (w.heap.size + 1) G first caps (.slice none 0 0) is g (w2.alloc (.cells #[.pointer (some ⟨R, 0, none⟩)] 44)) hG (by omega) (by rw [World.size_alloc]; omega)
    (((Chg.refl [] w2).alloc _).cell _ _ (by omega) (by simp) |>.trans hF) (((Chg.refl [] w2).alloc _).cell _ _ (by omega) (by simp) |>.trans hO) (((Chg.refl [] w2).alloc _).frozen _ _ (by omega) (by simp) |>.trans hOf)
    (hf _ ch3 (by rw [World.size_alloc]; omega)) hst hsh
  have hgd := guard_run R 76 #[.pointer (some ⟨w.heap.size, 0, none⟩), .pointer (some ⟨w.heap.size + 1, 0, none⟩)] bs w2 _ hE hR2 hclo (by
    rintro x w' (⟨e, rest, _, rfl, hr, hc⟩ | ⟨a, v, rest, _, rfl, _⟩)
    · exact .inr ⟨e, rfl, ⟨rest, hr⟩, by rw [hs2]; exact (hc.cell _ _ (by rw [World.size_alloc]; omega) (by simp; omega)).trans hb3⟩
    · exact .inl ⟨_, rfl⟩)
  have HG := Lib.hid hgd
  have HN := Lib.hid hne
  have HC3 := Lib.hid ch3
  have HS2 := Lib.hid hs2
  have HSH := Lib.hid hsh
  clear hf hst hsh hclo hgd hne hR hR2 hF hO hOf ch2 ch3 hb3 hE hs2
  go_enter Try.func52, Try.ntmps52
  have hmf : ∀ (fn : Fn) (first cap : Array Value) (w : World), (Instr.makeFunc fn first cap).run Try.prog w = .ok (.func fn first cap) w := fun _ _ _ _ => rfl
  go_wp2_with fail
  rw [← hw2]
  refine HG.out.mono ?_
  rintro x w4 ⟨⟨v0, rfl⟩, ⟨v1, h⟩ | ⟨e, w0, n, h, rfl⟩⟩
  · rcases h with ⟨_, _, _, h, _⟩ | ⟨a, v, rest, hg, -, hc, hi, hr, hch⟩
    · cases h
    obtain ⟨p, n, c, rfl⟩ := HSH.out _ _ _ hi
    have hend : ReaderEnd w4 R 0 := ⟨hr.lt, hr.made, hr.err⟩
    have HC4 : Hid (Chg [R] w w4) := (HC3.out.mono (by simp)).more hch (by simp)
    have HR4 := Lib.hid hr
    have HI := Lib.hid hi
    have HGE := Lib.hid hg
    clear hch hr hi hg hw2
    go_wp2_with fail
    refine (error_is R 0 w4 hend).mono ?_
    rintro x w5 ⟨rfl, rfl⟩
    go_wp2_with fail
    go_ret
    exact CtPost.yes HGE.out HI.out HR4.out HC4.out
  · rcases h with ⟨e', rest, hg, h, hr, hch⟩ | ⟨a, v, rest, hg, h, _⟩
    · obtain rfl : e' = e := by injection h with h; injection h with h _; injection h with h _; injection h with _ h; injection h with h; have := congrArg Array.toList h; simpa using this.symm
      have hend : ReaderEnd ((w0.setCell ⟨R, 2, none⟩ (.int .i64 e')).drewN n) R e' :=
        ⟨by simpa [World.setCell] using hr.lt, (World.cell?_setCell_other _ _ _ _ (fun h => by simp at h)).trans hr.made, World.cell?_setCell_same _ _ _ hr.err⟩
      have HC4 : Hid (Chg [R] w ((w0.setCell ⟨R, 2, none⟩ (.int .i64 e')).drewN n)) := (((HC3.out.mono (by simp)).more hch (by simp)).setCell _ _ (by simp)).drewN n
      have HE := Lib.hid hend
      have he' := HN.out e' hg
      have hb : (e' != 0) = true := by rw [bne_iff_ne]; exact he'
      have HGE := Lib.hid hg
      obtain ⟨w4, hw4⟩ : ∃ w4, w4 = (w0.setCell ⟨R, 2, none⟩ (.int .i64 e')).drewN n := ⟨_, rfl⟩
      rw [← hw4] at hend HC4 ⊢
      clear hch hr hg hw2 HE hw4 he'
      go_wp2_with fail
      refine (error_is R e' w4 hend).mono ?_
      rintro x w5 ⟨rfl, rfl⟩
      have HE := Lib.hid hend
      clear hend
      go_wp2_with fail
      go_ret
      exact CtPost.no HGE.out HE.out HC4.out
    · cases h
theorem caughtB_shut (p : Option Addr) (e : Int) (fn : Fn) (first caps : Array Value) (w : World) (h : Shut w p e) :
    Calls Try.prog 52 #[.pointer p, .func fn first caps] w fun x w' => x = .returned (.slice none 0 0) ∧ Below w.heap.size w w' := by
  have hb2 : Below w.heap.size w ((w.alloc (.cells #[.func fn first caps] 61)).alloc (.cells #[.slice none 0 0] 24)) := ((Below.refl _ w).alloc (Nat.le_refl _) _).alloc (by simp) _
  have h2 := h.chg hb2
  have HH := Lib.hid h2
  have HB := Lib.hid hb2
  have hb : (e != 0) = true := by rw [bne_iff_ne]; exact h.ne
  clear h hb2 h2
  have hmf : ∀ (fn : Fn) (first cap : Array Value) (w : World), (Instr.makeFunc fn first cap).run Try.prog w = .ok (.func fn first cap) w := fun _ _ _ _ => rfl
  go_enter Try.func52, Try.ntmps52
  go_wp2_with fail
  refine (guard_shut p e _ _ HH.out).mono ?_
  rintro x w4 ⟨⟨v, rfl⟩, hb4⟩
  have H4 : Hid (Shut w4 p e) := HH.out.chg hb4
  have HB4 : Hid (Below w.heap.size w w4) := HB.out.trans (hb4.mono HB.out.size)
  clear hb4
  go_wp2_with fail
  refine (error_shut p e w4 H4.out).mono ?_
  rintro x w5 ⟨rfl, rfl⟩
  go_wp2_with fail
  go_ret
  exact ⟨rfl, HB4.out⟩

set_option maxHeartbeats 1000000 in
theorem closureL (R F O G : Nat) (first caps : Array Value) (old : Value) {α : Type} (is : World → α → Value → Prop) (g : Got α) (w : World) (hG : ∀ args w, (callFunc G args).run Try.prog w = .ok (.enter G args) w)
    (hRO : R < O) (hOw : O < w.heap.size) (hF : w.cell? ⟨F, 0, none⟩ = some (.func (.func G) first caps)) (hO : w.cell? ⟨O, 0, none⟩ = some old) (hOf : w.frozen? ⟨O, 0, none⟩ = false)
    (hf : Calls Try.prog G (first ++ caps) w (RdPost is R w g)) (hst : ∀ w0 a v u, is w0 a v → is (w0.setCell ⟨O, 0, none⟩ u) a v) (hsh : ∀ w0 a v, is w0 a v → ∃ p n c, v = .slice p n c) :
    Calls Try.prog 77 #[.pointer (some ⟨F, 0, none⟩), .pointer (some ⟨O, 0, none⟩)] w (ClPost is R O w g) := by
  have HF := Lib.hid hf
  have HS := Lib.hid hst
  have HSH := Lib.hid hsh
  clear hf hst hsh
  go_enter Try.func77, Try.ntmps77
  go_wp2_with fail
  refine HF.out.mono ?_
  intro x w1 hq
  rcases hq.part with ⟨e, rest, rfl, rfl, hr, hc⟩ | ⟨a, v, rest, rfl, rfl, hi, hr, hc⟩
  · have HR := Lib.hid hr
    have HC := Lib.hid hc
    clear hq hr hc
    simp only [thrown]
    go_wp2_with fail
    exact ⟨rfl, .inl ⟨e, rest, rfl, rfl, HR.out, HC.out⟩⟩
  · obtain ⟨p, n, c, rfl⟩ := HSH.out _ _ _ hi
    have c1 : w1.cell? ⟨O, 0, none⟩ = some old := (hc.cell O 0 hOw (by simp; omega)).trans hO
    have f1 : w1.frozen? ⟨O, 0, none⟩ = false := (hc.frozen O 0 hOw (by simp; omega)).trans hOf
    have HR := Lib.hid hr
    have HC := Lib.hid hc
    have HI := Lib.hid hi
    clear hq hr hc hi hO hOf
    go_wp2_with fail
    go_end0
    exact .inr ⟨a, _, rest, rfl, rfl, World.cell?_setCell_same _ _ _ c1, HS.out _ _ _ _ HI.out, HR.out.setBox hRO _, (HC.out.mono (by simp)).setCell _ _ (by simp)⟩
set_option maxHeartbeats 1000000 in
theorem caughtL (R G : Nat) (first caps : Array Value) (bs : List (BitVec 8)) {α : Type} (is : World → α → Value → Prop) (g : Got α) (w : World) (hG : ∀ args w, (callFunc G args).run Try.prog w = .ok (.enter G args) w)
    (hR : ReaderIs w R bs 0) (hne : ∀ e, g = .no e → e ≠ 0)
    (hf : ∀ w1, Chg [] w w1 → w1.heap.size = w.heap.size + 3 → Calls Try.prog G (first ++ caps) w1 (RdPost is R w1 g)) (hst : ∀ w0 a v u, is w0 a v → is (w0.setCell ⟨w.heap.size + 1, 0, none⟩ u) a v) (hsh : ∀ w0 a v, is w0 a v → ∃ p n c, v = .slice p n c) :
    Calls Try.prog 56 #[.pointer (some ⟨R, 0, none⟩), .func (.func G) first caps] w (CtPost (.slice none 0 0) is R w g) := by
  have hlt := hR.lt
  obtain ⟨w2, hw2⟩ : ∃ w2, w2 = (w.alloc (.cells #[.func (.func G) first caps] 62)).alloc (.cells #[.slice none 0 0] 37) := ⟨_, rfl⟩
  have ch2 : Chg [] w w2 := by rw [hw2]; exact ((Chg.refl [] w).alloc _).alloc _
  have hs2 : w2.heap.size = w.heap.size + 2 := by rw [hw2]; simp
  have hF : w2.cell? ⟨w.heap.size, 0, none⟩ = some (.func (.func G) first caps) := by rw [hw2]; simp
  have hO : w2.cell? ⟨w.heap.size + 1, 0, none⟩ = some (.slice none 0 0) := by rw [hw2]; simp
  have hOf : w2.frozen? ⟨w.heap.size + 1, 0, none⟩ = false := by rw [hw2]; simp
  have hR2 : ReaderIs w2 R bs 0 := hR.chg ch2 (by simp)
  have ch3 : Chg [] w (w2.alloc (.cells #[.pointer (some ⟨R, 0, none⟩)] 44)) := ch2.alloc _
  have hb3 : (w2.alloc (.cells #[.pointer (some ⟨R, 0, none⟩)] 44)).cell? ⟨w.heap.size + 2, 0, none⟩ = some (.pointer (some ⟨R, 0, none⟩)) := by rw [← hs2]; simp
  have hE := enters_of (P := Try.prog) (f := 77) Try.func77 (by kernel_rfl) rfl
  have hclo := closureL R w.heap.size (w.heap.size + 1) G first caps (.slice none 0 0) is g (w2.alloc (.cells #[.pointer (some ⟨R, 0, none⟩)] 44)) hG (by omega) (by rw [World.size_alloc]; omega)
    (((Chg.refl [] w2).alloc _).cell _ _ (by omega) (by simp) |>.trans hF) (((Chg.refl [] w2).alloc _).cell _ _ (by omega) (by simp) |>.trans hO) (((Chg.refl [] w2).alloc _).frozen _ _ (by omega) (by simp) |>.trans hOf)
    (hf _ ch3 (by rw [World.size_alloc]; omega)) hst hsh
  have hgd := guard_run R 77 #[.pointer (some ⟨w.heap.size, 0, none⟩), .pointer (some ⟨w.heap.size + 1, 0, none⟩)] bs w2 _ hE hR2 hclo (by
    rintro x w' (⟨e, rest, _, rfl, hr, hc⟩ | ⟨a, v, rest, _, rfl, _⟩)
    · exact .inr ⟨e, rfl, ⟨rest, hr⟩, by rw [hs2]; exact (hc.cell _ _ (by rw [World.size_alloc]; omega) (by simp; omega)).trans hb3⟩
    · exact .inl ⟨_, rfl⟩)
  have HG := Lib.hid hgd
  have HN := Lib.hid hne
  have HC3 := Lib.hid ch3
  have HS2 := Lib.hid hs2
  have HSH := Lib.hid hsh
  clear hf hst hsh hclo hgd hne hR hR2 hF hO hOf ch2 ch3 hb3 hE hs2
  go_enter Try.func56, Try.ntmps56
  have hmf : ∀ (fn : Fn) (first cap : Array Value) (w : World), (Instr.makeFunc fn first cap).run Try.prog w = .ok (.func fn first cap) w := fun _ _ _ _ => rfl
  go_wp2_with fail
  rw [← hw2]
  refine HG.out.mono ?_
  rintro x w4 ⟨⟨v0, rfl⟩, ⟨v1, h⟩ | ⟨e, w0, n, h, rfl⟩⟩
  · rcases h with ⟨_, _, _, h, _⟩ | ⟨a, v, rest, hg, -, hc, hi, hr, hch⟩
    · cases h
    obtain ⟨p, n, c, rfl⟩ := HSH.out _ _ _ hi
    have hend : ReaderEnd w4 R 0 := ⟨hr.lt, hr.made, hr.err⟩
    have HC4 : Hid (Chg [R] w w4) := (HC3.out.mono (by simp)).more hch (by simp)
    have HR4 := Lib.hid hr
    have HI := Lib.hid hi
    have HGE := Lib.hid hg
    clear hch hr hi hg hw2
    go_wp2_with fail
    refine (error_is R 0 w4 hend).mono ?_
    rintro x w5 ⟨rfl, rfl⟩
    go_wp2_with fail
    go_ret
    exact CtPost.yes HGE.out HI.out HR4.out HC4.out
  · rcases h with ⟨e', rest, hg, h, hr, hch⟩ | ⟨a, v, rest, hg, h, _⟩
    · obtain rfl : e' = e := by injection h with h; injection h with h _; injection h with h _; injection h with _ h; injection h with h; have := congrArg Array.toList h; simpa using this.symm
      have hend : ReaderEnd ((w0.setCell ⟨R, 2, none⟩ (.int .i64 e')).drewN n) R e' :=
        ⟨by simpa [World.setCell] using hr.lt, (World.cell?_setCell_other _ _ _ _ (fun h => by simp at h)).trans hr.made, World.cell?_setCell_same _ _ _ hr.err⟩
      have HC4 : Hid (Chg [R] w ((w0.setCell ⟨R, 2, none⟩ (.int .i64 e')).drewN n)) := (((HC3.out.mono (by simp)).more hch (by simp)).setCell _ _ (by simp)).drewN n
      have HE := Lib.hid hend
      have he' := HN.out e' hg
      have hb : (e' != 0) = true := by rw [bne_iff_ne]; exact he'
      have HGE := Lib.hid hg
      obtain ⟨w4, hw4⟩ : ∃ w4, w4 = (w0.setCell ⟨R, 2, none⟩ (.int .i64 e')).drewN n := ⟨_, rfl⟩
      rw [← hw4] at hend HC4 ⊢
      clear hch hr hg hw2 HE hw4 he'
      go_wp2_with fail
      refine (error_is R e' w4 hend).mono ?_
      rintro x w5 ⟨rfl, rfl⟩
      have HE := Lib.hid hend
      clear hend
      go_wp2_with fail
      go_ret
      exact CtPost.no HGE.out HE.out HC4.out
    · cases h
theorem caughtL_shut (p : Option Addr) (e : Int) (fn : Fn) (first caps : Array Value) (w : World) (h : Shut w p e) :
    Calls Try.prog 56 #[.pointer p, .func fn first caps] w fun x w' => x = .returned (.slice none 0 0) ∧ Below w.heap.size w w' := by
  have hb2 : Below w.heap.size w ((w.alloc (.cells #[.func fn first caps] 62)).alloc (.cells #[.slice none 0 0] 37)) := ((Below.refl _ w).alloc (Nat.le_refl _) _).alloc (by simp) _
  have h2 := h.chg hb2
  have HH := Lib.hid h2
  have HB := Lib.hid hb2
  have hb : (e != 0) = true := by rw [bne_iff_ne]; exact h.ne
  clear h hb2 h2
  have hmf : ∀ (fn : Fn) (first cap : Array Value) (w : World), (Instr.makeFunc fn first cap).run Try.prog w = .ok (.func fn first cap) w := fun _ _ _ _ => rfl
  go_enter Try.func56, Try.ntmps56
  go_wp2_with fail
  refine (guard_shut p e _ _ HH.out).mono ?_
  rintro x w4 ⟨⟨v, rfl⟩, hb4⟩
  have H4 : Hid (Shut w4 p e) := HH.out.chg hb4
  have HB4 : Hid (Below w.heap.size w w4) := HB.out.trans (hb4.mono HB.out.size)
  clear hb4
  go_wp2_with fail
  refine (error_shut p e w4 H4.out).mono ?_
  rintro x w5 ⟨rfl, rfl⟩
  go_wp2_with fail
  go_ret
  exact ⟨rfl, HB4.out⟩

set_option maxHeartbeats 1000000 in
theorem closureF (R F O G : Nat) (first caps : Array Value) (old : Value) {α : Type} (is : World → α → Value → Prop) (g : Got α) (w : World) (hG : ∀ args w, (callFunc G args).run Try.prog w = .ok (.enter G args) w)
    (hRO : R < O) (hOw : O < w.heap.size) (hF : w.cell? ⟨F, 0, none⟩ = some (.func (.func G) first caps)) (hO : w.cell? ⟨O, 0, none⟩ = some old) (hOf : w.frozen? ⟨O, 0, none⟩ = false)
    (hf : Calls Try.prog G (first ++ caps) w (RdPost is R w g)) (hst : ∀ w0 a v u, is w0 a v → is (w0.setCell ⟨O, 0, none⟩ u) a v) (hsh : ∀ w0 a v, is w0 a v → ∃ p n c, v = .slice p n c) :
    Calls Try.prog 78 #[.pointer (some ⟨F, 0, none⟩), .pointer (some ⟨O, 0, none⟩)] w (ClPost is R O w g) := by
  have HF := Lib.hid hf
  have HS := Lib.hid hst
  have HSH := Lib.hid hsh
  clear hf hst hsh
  go_enter Try.func78, Try.ntmps78
  go_wp2_with fail
  refine HF.out.mono ?_
  intro x w1 hq
  rcases hq.part with ⟨e, rest, rfl, rfl, hr, hc⟩ | ⟨a, v, rest, rfl, rfl, hi, hr, hc⟩
  · have HR := Lib.hid hr
    have HC := Lib.hid hc
    clear hq hr hc
    simp only [thrown]
    go_wp2_with fail
    exact ⟨rfl, .inl ⟨e, rest, rfl, rfl, HR.out, HC.out⟩⟩
  · obtain ⟨p, n, c, rfl⟩ := HSH.out _ _ _ hi
    have c1 : w1.cell? ⟨O, 0, none⟩ = some old := (hc.cell O 0 hOw (by simp; omega)).trans hO
    have f1 : w1.frozen? ⟨O, 0, none⟩ = false := (hc.frozen O 0 hOw (by simp; omega)).trans hOf
    have HR := Lib.hid hr
    have HC := Lib.hid hc
    have HI := Lib.hid hi
    clear hq hr hc hi hO hOf
    go_wp2_with fail
    go_end0
    exact .inr ⟨a, _, rest, rfl, rfl, World.cell?_setCell_same _ _ _ c1, HS.out _ _ _ _ HI.out, HR.out.setBox hRO _, (HC.out.mono (by simp)).setCell _ _ (by simp)⟩
set_option maxHeartbeats 1000000 in
theorem caughtF (R G : Nat) (first caps : Array Value) (bs : List (BitVec 8)) {α : Type} (is : World → α → Value → Prop) (g : Got α) (w : World) (hG : ∀ args w, (callFunc G args).run Try.prog w = .ok (.enter G args) w)
    (hR : ReaderIs w R bs 0) (hne : ∀ e, g = .no e → e ≠ 0)
    (hf : ∀ w1, Chg [] w w1 → w1.heap.size = w.heap.size + 3 → Calls Try.prog G (first ++ caps) w1 (RdPost is R w1 g)) (hst : ∀ w0 a v u, is w0 a v → is (w0.setCell ⟨w.heap.size + 1, 0, none⟩ u) a v) (hsh : ∀ w0 a v, is w0 a v → ∃ p n c, v = .slice p n c) :
    Calls Try.prog 59 #[.pointer (some ⟨R, 0, none⟩), .func (.func G) first caps] w (CtPost (.slice none 0 0) is R w g) := by
  have hlt := hR.lt
  obtain ⟨w2, hw2⟩ : ∃ w2, w2 = (w.alloc (.cells #[.func (.func G) first caps] 63)).alloc (.cells #[.slice none 0 0] 38) := ⟨_, rfl⟩
  have ch2 : Chg [] w w2 := by rw [hw2]; exact ((Chg.refl [] w).alloc _).alloc _
  have hs2 : w2.heap.size = w.heap.size + 2 := by rw [hw2]; simp
  have hF : w2.cell? ⟨w.heap.size, 0, none⟩ = some (.func (.func G) first caps) := by rw [hw2]; simp
  have hO : w2.cell? ⟨w.heap.size + 1, 0, none⟩ = some (.slice none 0 0) := by rw [hw2]; simp
  have hOf : w2.frozen? ⟨w.heap.size + 1, 0, none⟩ = false := by rw [hw2]; simp
  have hR2 : ReaderIs w2 R bs 0 := hR.chg ch2 (by simp)
  have ch3 : Chg [] w (w2.alloc (.cells #[.pointer (some ⟨R, 0, none⟩)] 44)) := ch2.alloc _
  have hb3 : (w2.alloc (.cells #[.pointer (some ⟨R, 0, none⟩)] 44)).cell? ⟨w.heap.size + 2, 0, none⟩ = some (.pointer (some ⟨R, 0, none⟩)) := by rw [← hs2]; simp
  have hE := enters_of (P := Try.prog) (f := 78) Try.func78 (by kernel_rfl) rfl
  have hclo := closureF R w.heap.size (w.heap.size + 1) G first caps (.slice none 0 0) is g (w2.alloc (.cells #[.pointer (some ⟨R, 0, none⟩)] 44)) hG (by omega) (by rw [World.size_alloc]; omega)
    (((Chg.refl [] w2).alloc _).cell _ _ (by omega) (by simp) |>.trans hF) (((Chg.refl [] w2).alloc _).cell _ _ (by omega) (by simp) |>.trans hO) (((Chg.refl [] w2).alloc _).frozen _ _ (by omega) (by simp) |>.trans hOf)
    (hf _ ch3 (by rw [World.size_alloc]; omega)) hst hsh
  have hgd := guard_run R 78 #[.pointer (some ⟨w.heap.size, 0, none⟩), .pointer (some ⟨w.heap.size + 1, 0, none⟩)] bs w2 _ hE hR2 hclo (by
    rintro x w' (⟨e, rest, _, rfl, hr, hc⟩ | ⟨a, v, rest, _, rfl, _⟩)
    · exact .inr ⟨e, rfl, ⟨rest, hr⟩, by rw [hs2]; exact (hc.cell _ _ (by rw [World.size_alloc]; omega) (by simp; omega)).trans hb3⟩
    · exact .inl ⟨_, rfl⟩)
  have HG := Lib.hid hgd
  have HN := Lib.hid hne
  have HC3 := Lib.hid ch3
  have HS2 := Lib.hid hs2
  have HSH := Lib.hid hsh
  clear hf hst hsh hclo hgd hne hR hR2 hF hO hOf ch2 ch3 hb3 hE hs2
  go_enter Try.func59, Try.ntmps59
  have hmf : ∀ (fn : Fn) (first cap : Array Value) (w : World), (Instr.makeFunc fn first cap).run Try.prog w = .ok (.func fn first cap) w := fun _ _ _ _ => rfl
  go_wp2_with fail
  rw [← hw2]
  refine HG.out.mono ?_
  rintro x w4 ⟨⟨v0, rfl⟩, ⟨v1, h⟩ | ⟨e, w0, n, h, rfl⟩⟩
  · rcases h with ⟨_, _, _, h, _⟩ | ⟨a, v, rest, hg, -, hc, hi, hr, hch⟩
    · cases h
    obtain ⟨p, n, c, rfl⟩ := HSH.out _ _ _ hi
    have hend : ReaderEnd w4 R 0 := ⟨hr.lt, hr.made, hr.err⟩
    have HC4 : Hid (Chg [R] w w4) := (HC3.out.mono (by simp)).more hch (by simp)
    have HR4 := Lib.hid hr
    have HI := Lib.hid hi
    have HGE := Lib.hid hg
    clear hch hr hi hg hw2
    go_wp2_with fail
    refine (error_is R 0 w4 hend).mono ?_
    rintro x w5 ⟨rfl, rfl⟩
    go_wp2_with fail
    go_ret
    exact CtPost.yes HGE.out HI.out HR4.out HC4.out
  · rcases h with ⟨e', rest, hg, h, hr, hch⟩ | ⟨a, v, rest, hg, h, _⟩
    · obtain rfl : e' = e := by injection h with h; injection h with h _; injection h with h _; injection h with _ h; injection h with h; have := congrArg Array.toList h; simpa using this.symm
      have hend : ReaderEnd ((w0.setCell ⟨R, 2, none⟩ (.int .i64 e')).drewN n) R e' :=
        ⟨by simpa [World.setCell] using hr.lt, (World.cell?_setCell_other _ _ _ _ (fun h => by simp at h)).trans hr.made, World.cell?_setCell_same _ _ _ hr.err⟩
      have HC4 : Hid (Chg [R] w ((w0.setCell ⟨R, 2, none⟩ (.int .i64 e')).drewN n)) := (((HC3.out.mono (by simp)).more hch (by simp)).setCell _ _ (by simp)).drewN n
      have HE := Lib.hid hend
      have he' := HN.out e' hg
      have hb : (e' != 0) = true := by rw [bne_iff_ne]; exact he'
      have HGE := Lib.hid hg
      obtain ⟨w4, hw4⟩ : ∃ w4, w4 = (w0.setCell ⟨R, 2, none⟩ (.int .i64 e')).drewN n := ⟨_, rfl⟩
      rw [← hw4] at hend HC4 ⊢
      clear hch hr hg hw2 HE hw4 he'
      go_wp2_with fail
      refine (error_is R e' w4 hend).mono ?_
      rintro x w5 ⟨rfl, rfl⟩
      have HE := Lib.hid hend
      clear hend
      go_wp2_with fail
      go_ret
      exact CtPost.no HGE.out HE.out HC4.out
    · cases h
theorem caughtF_shut (p : Option Addr) (e : Int) (fn : Fn) (first caps : Array Value) (w : World) (h : Shut w p e) :
    Calls Try.prog 59 #[.pointer p, .func fn first caps] w fun x w' => x = .returned (.slice none 0 0) ∧ Below w.heap.size w w' := by
  have hb2 : Below w.heap.size w ((w.alloc (.cells #[.func fn first caps] 63)).alloc (.cells #[.slice none 0 0] 38)) := ((Below.refl _ w).alloc (Nat.le_refl _) _).alloc (by simp) _
  have h2 := h.chg hb2
  have HH := Lib.hid h2
  have HB := Lib.hid hb2
  have hb : (e != 0) = true := by rw [bne_iff_ne]; exact h.ne
  clear h hb2 h2
  have hmf : ∀ (fn : Fn) (first cap : Array Value) (w : World), (Instr.makeFunc fn first cap).run Try.prog w = .ok (.func fn first cap) w := fun _ _ _ _ => rfl
  go_enter Try.func59, Try.ntmps59
  go_wp2_with fail
  refine (guard_shut p e _ _ HH.out).mono ?_
  rintro x w4 ⟨⟨v, rfl⟩, hb4⟩
  have H4 : Hid (Shut w4 p e) := HH.out.chg hb4
  have HB4 : Hid (Below w.heap.size w w4) := HB.out.trans (hb4.mono HB.out.size)
  clear hb4
  go_wp2_with fail
  refine (error_shut p e w4 H4.out).mono ?_
  rintro x w5 ⟨rfl, rfl⟩
  go_wp2_with fail
  go_ret
  exact ⟨rfl, HB4.out⟩
end Go.Proofs.Ytajnhmkkgngbhaa
