/- The statements of chapter 12: a thing read again, from its form, and from less. -/
import Derived.Test.YtajnhmkkgngbhaaLaw12B1
namespace Go.Proofs.Ytajnhmkkgngbhaa
open Go.RowKit
open Pack (Got cnt whole fixed text ints fixes form formI eight formT formL okI okN Bad)

/-- The same end with another thing in it. -/
def fill {α : Type} : Got Unit → α → Got α
  | .no e, _ => .no e
  | .yes _ r, a => .yes a r
theorem rdSt_fill {α : Type} {R : Nat} {s : Got Unit} {a : α} {w : World} (h : RdSt R (fill s a) w) : RdSt R s w := by cases s <;> exact h
theorem rdSt_chg0 {α : Type} {R : Nat} {s : Got α} {w w' : World} (h : RdSt R s w) (hc : Chg [] w w') : RdSt R s w' := h.chg hc (by simp)
/-- What a reading of a thing's kind gives. -/
structure Gets (t : Th) (xs : List (BitVec 8)) (s : Got Unit) : Prop where
  g1 : t.kind = 1 → cnt xs = fill s t.u
  g2 : t.kind = 2 → whole xs = fill s t.n
  g3 : t.kind = 3 → fixed xs = fill s t.x
  g4 : t.kind = 4 → text xs = fill s t.b
  g5 : t.kind = 5 → ints xs = fill s t.l
  g6 : t.kind = 6 → fixes xs = fill s t.f
  g0 : ¬ (1 ≤ t.kind ∧ t.kind ≤ 6) → s = .yes () xs
theorem again_got (R : Nat) (t : Th) (pb pl pf : Option Addr) (nb cb nl cl nf cf : Nat) (xs : List (BitVec 8)) (s : Got Unit) (w0 w : World) (h0 : Below w0.heap.size w0 w) (hlo : w0.heap.size ≤ R)
    (ht : ThIs w0 (.slice pb nb cb) (.slice pl nl cl) (.slice pf nf cf) t) (hf : fewT t = true) (hR : ReaderIs w R xs 0) (hl : xs.length ≤ 2000000) (hg : Gets t xs s) :
    Calls Try.prog 22 #[.agg #[.int .i64 t.kind, .int .u64 t.u, .int .i64 t.n, .int .i64 t.x, .slice pb nb cb, .slice pl nl cl, .slice pf nf cf], .pointer (some ⟨R, 0, none⟩)] w
      fun e w' => (∃ r, e = .returned (.bool r) ∧ ((∃ r', s = .yes () r') → r = true)) ∧ RdSt R s w' ∧ Chg [R] w w' := by
  have hC : ∀ z ∈ [R], z < w.heap.size := by intro z hz; simp at hz; rw [hz]; exact hR.lt
  have hlo' : ∀ z ∈ [R], w0.heap.size ≤ z := by intro z hz; simp at hz; omega
  have hQ : ∀ w1 w2, RdSt R s w1 → Chg [] w1 w2 → RdSt R s w2 := fun _ _ h hc => rdSt_chg0 h hc
  have hfew := few_le hf
  rcases kinds t.kind with hk | hk | hk | hk | hk | hk | hk
  · rw [hk]
    refine (again_1 (some ⟨R, 0, none⟩) [R] (RdSt R s) t.u t.n t.x pb pl pf nb cb nl cl nf cf (fill s t.u).nat w hC fun w1 hc => ?_).mono fun e w' ⟨⟨r, h1, h2⟩, h3⟩ => ⟨⟨r, h1, fun ⟨r', hr⟩ => h2 (by rw [hr]; rfl)⟩, h3⟩
    refine (rd_U R xs w1 (hR.chg hc (by simp))).mono fun e w' hq => ?_
    rw [hg.g1 hk] at hq
    exact ⟨hq.u64.1, rdSt_fill hq.u64.2.1, hq.u64.2.2⟩
  · rw [hk]
    refine (again_2 (some ⟨R, 0, none⟩) [R] (RdSt R s) t.u t.n t.x pb pl pf nb cb nl cl nf cf (fill s t.n).int w hC fun w1 hc => ?_).mono fun e w' ⟨⟨r, h1, h2⟩, h3⟩ => ⟨⟨r, h1, fun ⟨r', hr⟩ => h2 (by rw [hr]; rfl)⟩, h3⟩
    refine (rd_N R xs w1 (hR.chg hc (by simp))).mono fun e w' hq => ?_
    rw [hg.g2 hk] at hq
    exact ⟨hq.i64.1, rdSt_fill hq.i64.2.1, hq.i64.2.2⟩
  · rw [hk]
    refine (again_3 (some ⟨R, 0, none⟩) [R] (RdSt R s) t.u t.n t.x pb pl pf nb cb nl cl nf cf (fill s t.x).int w hC fun w1 hc => ?_).mono fun e w' ⟨⟨r, h1, h2⟩, h3⟩ => ⟨⟨r, h1, fun ⟨r', hr⟩ => h2 (by rw [hr]; rfl)⟩, h3⟩
    refine (rd_X R xs w1 (hR.chg hc (by simp))).mono fun e w' hq => ?_
    rw [hg.g3 hk] at hq
    exact ⟨hq.i64.1, rdSt_fill hq.i64.2.1, hq.i64.2.2⟩
  · rw [hk]
    refine (again_4 (some ⟨R, 0, none⟩) [R] (RdSt R s) t.u t.n t.x pb pl pf nb cb nl cl nf cf (fill s t.b).list t.b w0 w h0 hlo' hC hQ ht.b fun w1 hc => ?_).mono fun e w' ⟨⟨r, h1, h2⟩, h3⟩ => ⟨⟨r, h1, fun ⟨r', hr⟩ => h2 (by rw [hr]; rfl)⟩, h3⟩
    refine (rd_B R xs w1 (hR.chg hc (by simp)) hl).mono fun e w' hq => ?_
    rw [hg.g4 hk] at hq
    obtain ⟨p, n, c, h1, h2, h3, h4⟩ := hq.text
    exact ⟨p, n, c, h1, h2, rdSt_fill h3, h4⟩
  · rw [hk]
    refine (again_5 (some ⟨R, 0, none⟩) [R] (RdSt R s) t.u t.n t.x pb pl pf nb cb nl cl nf cf (fill s t.l).list t.l w0 w h0 hlo' hC hQ ht.li (by omega) (by cases s <;> simp [fill, Got.list]; omega) fun w1 hc => ?_).mono fun e w' ⟨⟨r, h1, h2⟩, h3⟩ => ⟨⟨r, h1, fun ⟨r', hr⟩ => h2 (by rw [hr]; rfl)⟩, h3⟩
    refine (rd_L R xs w1 (hR.chg hc (by simp)) hl).mono fun e w' hq => ?_
    rw [hg.g5 hk] at hq
    obtain ⟨p, n, c, h1, h2, h3, h4⟩ := hq.list
    exact ⟨p, n, c, h1, h2, rdSt_fill h3, h4⟩
  · rw [hk]
    refine (again_6 (some ⟨R, 0, none⟩) [R] (RdSt R s) t.u t.n t.x pb pl pf nb cb nl cl nf cf (fill s t.f).list t.f w0 w h0 hlo' hC hQ ht.fi (by omega) (by cases s <;> simp [fill, Got.list]; omega) fun w1 hc => ?_).mono fun e w' ⟨⟨r, h1, h2⟩, h3⟩ => ⟨⟨r, h1, fun ⟨r', hr⟩ => h2 (by rw [hr]; rfl)⟩, h3⟩
    refine (rd_F R xs w1 (hR.chg hc (by simp)) hl).mono fun e w' hq => ?_
    rw [hg.g6 hk] at hq
    obtain ⟨p, n, c, h1, h2, h3, h4⟩ := hq.list
    exact ⟨p, n, c, h1, h2, rdSt_fill h3, h4⟩
  · refine (again_O t.kind _ t.u t.n t.x pb pl pf nb cb nl cl nf cf w hk).mono fun e w' ⟨h1, h2⟩ => ⟨⟨true, h1, fun _ => rfl⟩, ?_, Chg.of_below h2⟩
    rw [hg.g0 hk]
    exact ReaderIs.chg hR (Chg.of_below h2 : Chg [] w w') (by simp)
/-- Nothing is read any more. -/
theorem again_shut (p : Option Addr) (ee : Int) (t : Th) (pb pl pf : Option Addr) (nb cb nl cl nf cf : Nat) (w : World) (h : Shut w p ee)
    (ht : ThIs w (.slice pb nb cb) (.slice pl nl cl) (.slice pf nf cf) t) (hf : fewT t = true) :
    Calls Try.prog 22 #[.agg #[.int .i64 t.kind, .int .u64 t.u, .int .i64 t.n, .int .i64 t.x, .slice pb nb cb, .slice pl nl cl, .slice pf nf cf], .pointer p] w
      fun e w' => (∃ r, e = .returned (.bool r)) ∧ Below w.heap.size w w' := by
  have hb : ∀ w', Chg [] w w' → Below w.heap.size w w' := fun w' hc => hc.below (Nat.le_refl _) (by simp)
  have hs : ∀ w', Chg [] w w' → Shut w' p ee := fun w' hc => h.chg (hb w' hc)
  have hfew := few_le hf
  rcases kinds t.kind with hk | hk | hk | hk | hk | hk | hk
  · rw [hk]
    exact (again_1 p [] (fun _ => True) t.u t.n t.x pb pl pf nb cb nl cl nf cf 0 w (by simp) fun w1 hc => (rd_U_shut p ee w1 (hs w1 hc)).mono fun e w' ⟨h1, h2⟩ => ⟨h1, trivial, Chg.of_below h2⟩).mono fun e w' ⟨⟨r, h1, _⟩, _, h3⟩ => ⟨⟨r, h1⟩, hb _ h3⟩
  · rw [hk]
    exact (again_2 p [] (fun _ => True) t.u t.n t.x pb pl pf nb cb nl cl nf cf 0 w (by simp) fun w1 hc => (rd_N_shut p ee w1 (hs w1 hc)).mono fun e w' ⟨h1, h2⟩ => ⟨h1, trivial, Chg.of_below h2⟩).mono fun e w' ⟨⟨r, h1, _⟩, _, h3⟩ => ⟨⟨r, h1⟩, hb _ h3⟩
  · rw [hk]
    exact (again_3 p [] (fun _ => True) t.u t.n t.x pb pl pf nb cb nl cl nf cf 0 w (by simp) fun w1 hc => (rd_X_shut p ee w1 (hs w1 hc)).mono fun e w' ⟨h1, h2⟩ => ⟨h1, trivial, Chg.of_below h2⟩).mono fun e w' ⟨⟨r, h1, _⟩, _, h3⟩ => ⟨⟨r, h1⟩, hb _ h3⟩
  · rw [hk]
    exact (again_4 p [] (fun _ => True) t.u t.n t.x pb pl pf nb cb nl cl nf cf [] t.b w w (Below.refl _ _) (by simp) (by simp) (fun _ _ _ _ => trivial) ht.b fun w1 hc => (rd_B_shut p ee w1 (hs w1 hc)).mono fun e w' ⟨h1, h2⟩ => ⟨none, 0, 0, h1, Own.nil_ h2.size, trivial, Chg.of_below h2⟩).mono fun e w' ⟨⟨r, h1, _⟩, _, h3⟩ => ⟨⟨r, h1⟩, hb _ h3⟩
  · rw [hk]
    exact (again_5 p [] (fun _ => True) t.u t.n t.x pb pl pf nb cb nl cl nf cf [] t.l w w (Below.refl _ _) (by simp) (by simp) (fun _ _ _ _ => trivial) ht.li (by omega) (by simp) fun w1 hc => (rd_L_shut p ee w1 (hs w1 hc)).mono fun e w' ⟨h1, h2⟩ => ⟨none, 0, 0, h1, Own.nil_ h2.size, trivial, Chg.of_below h2⟩).mono fun e w' ⟨⟨r, h1, _⟩, _, h3⟩ => ⟨⟨r, h1⟩, hb _ h3⟩
  · rw [hk]
    exact (again_6 p [] (fun _ => True) t.u t.n t.x pb pl pf nb cb nl cl nf cf [] t.f w w (Below.refl _ _) (by simp) (by simp) (fun _ _ _ _ => trivial) ht.fi (by omega) (by simp) fun w1 hc => (rd_F_shut p ee w1 (hs w1 hc)).mono fun e w' ⟨h1, h2⟩ => ⟨none, 0, 0, h1, Own.nil_ h2.size, trivial, Chg.of_below h2⟩).mono fun e w' ⟨⟨r, h1, _⟩, _, h3⟩ => ⟨⟨r, h1⟩, hb _ h3⟩
  · exact (again_O t.kind p t.u t.n t.x pb pl pf nb cb nl cl nf cf w hk).mono fun e w' ⟨h1, h2⟩ => ⟨⟨true, h1⟩, h2⟩
/-- What a thing's fields must be for its form to be read again. -/
structure ThOk (t : Th) : Prop where
  u : okN t.u
  n : okI t.n
  x : okI t.x
  b : t.b.length < 18446744073709551616
  l : t.l.length < 18446744073709551616
  f : t.f.length < 18446744073709551616
  li : ∀ y ∈ t.l, okI y
  fi : ∀ y ∈ t.f, okI y
theorem ThIs.ok {w : World} {vb vl vf : Value} {t : Th} (h : ThIs w vb vl vf t) (hf : fewT t = true) : ThOk t := by
  have := few_le hf
  exact ⟨h.u, h.n, h.x, by omega, by omega, by omega, h.l, h.f⟩
theorem formOf_k {t : Th} : (t.kind = 1 → formOf t = form t.u) ∧ (t.kind = 2 → formOf t = formI t.n) ∧ (t.kind = 3 → formOf t = eight t.x) ∧ (t.kind = 4 → formOf t = formT t.b) ∧ (t.kind = 5 → formOf t = formL formI t.l) ∧ (t.kind = 6 → formOf t = formL eight t.f) ∧ (¬ (1 ≤ t.kind ∧ t.kind ≤ 6) → formOf t = []) := by
  unfold formOf
  refine ⟨fun h => by simp [h], fun h => by simp [h], fun h => by simp [h], fun h => by simp [h], fun h => by simp [h], fun h => by simp [h], fun h => ?_⟩
  rw [if_neg (by omega), if_neg (by omega), if_neg (by omega), if_neg (by omega), if_neg (by omega), if_neg (by omega)]
theorem gets_back {t : Th} (ok : ThOk t) (rest : List (BitVec 8)) : Gets t (formOf t ++ rest) (.yes () rest) := by
  obtain ⟨k1, k2, k3, k4, k5, k6, k0⟩ := formOf_k (t := t)
  refine ⟨fun h => ?_, fun h => ?_, fun h => ?_, fun h => ?_, fun h => ?_, fun h => ?_, fun h => ?_⟩
  · rw [k1 h]; exact Pack.cnt_Back _ _ ok.u
  · rw [k2 h]; exact Pack.whole_Back _ _ ok.n
  · rw [k3 h]; exact Pack.fixed_Back _ _ ok.x
  · rw [k4 h]; exact Pack.text_back _ _ ok.b
  · rw [k5 h]; exact Pack.ints_back _ _ ok.l ok.li
  · rw [k6 h]; exact Pack.fixes_back _ _ ok.f ok.fi
  · rw [k0 h]; rfl
theorem gets_cut {t : Th} (ok : ThOk t) (c : Nat) (hc : c < (formOf t).length) : Gets t ((formOf t).take c) (.no 120) := by
  obtain ⟨k1, k2, k3, k4, k5, k6, k0⟩ := formOf_k (t := t)
  refine ⟨fun h => ?_, fun h => ?_, fun h => ?_, fun h => ?_, fun h => ?_, fun h => ?_, fun h => ?_⟩
  · rw [k1 h] at hc ⊢; exact Pack.cnt_Cut _ _ ok.u hc
  · rw [k2 h] at hc ⊢; exact Pack.whole_Cut _ _ ok.n hc
  · rw [k3 h] at hc ⊢; exact Pack.fixed_Cut _ _ ok.x hc
  · rw [k4 h] at hc ⊢; exact Pack.text_cut _ _ ok.b hc
  · rw [k5 h] at hc ⊢; exact Pack.ints_cut _ _ ok.l ok.li hc
  · rw [k6 h] at hc ⊢; exact Pack.fixes_cut _ _ ok.f ok.fi hc
  · rw [k0 h] at hc; simp at hc
end Go.Proofs.Ytajnhmkkgngbhaa
