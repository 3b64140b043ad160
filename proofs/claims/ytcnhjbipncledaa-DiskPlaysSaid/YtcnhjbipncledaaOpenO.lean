/- From the reading of an argument to the words of the walks: fates, acts. -/
import Derived.Test.YtcnhjbipncledaaOpenI
import Derived.Test.YtcnhjbipncledaaOpsM
namespace Go.Proofs.Ytcnhjbipncledaa
open Go.ChangeShapes Go.WideShapes Go.ChangeAt Go.RowKit
section
variable {H : Type} {enc : TypeId × Value → H} {P : Program} {w : World} {base : Nat} {held : Bool}
theorem addr_add (b off i : Nat) : (⟨b, off, none⟩ : Addr).add i = ⟨b, off + i, none⟩ := by
  unfold Addr.add
  split
  · have h0 : i = 0 := by assumption
    rw [h0]; rfl
  · rfl
/-- A slice of pairs of numbers, off its cells' reading. -/
theorem fates_of_trod {t e : TypeId} {f0 f1 : Field} {fuel : Nat} {a0 : Option Addr} {len0 cap0 : Nat} {x : DataW H × List MemPlace} (ht : P.underlying t = some (.slice e)) (he : P.underlying e = some (.struct #[f0, f1])) (ce : P.cellsOf e = 2)
    (o : f0.offset = 0 ∧ f1.offset = 1) (c : P.cellsOf f0.type = 1 ∧ P.cellsOf f1.type = 1) (t0 : P.underlying f0.type = some (.int .i64)) (t1 : P.underlying f1.type = some (.int .i64))
    (hf : DataW.trod enc P w base (fun _ => true) held fuel t [.slice a0 len0 cap0] = some x) : ∃ fs, IsFates w (.slice a0 len0 cap0) fs := by
  rcases Go.Deep.open_slice ht hf with ⟨hcs, _⟩ | ⟨a, len, cap, m, n, D, Pl, hcs, hb, hl, hm, hmm, _, hx⟩
  · simp at hcs
    obtain ⟨rfl, rfl, rfl⟩ := hcs
    exact ⟨[], none, 0, rfl, Nat.le_refl _, by decide, .inl rfl⟩
  · simp at hcs
    obtain ⟨rfl, rfl, rfl⟩ := hcs
    have hlm : len0 ≤ m := by rw [hmm]; simp; exact hl
    obtain ⟨b, off, spot⟩ := a
    have hsp : len0 = 0 ∨ spot = none := by
      rcases Nat.eq_zero_or_pos len0 with h0 | h0
      · exact .inl h0
      · right
        obtain ⟨cs', h1, _⟩ := hx 0 (by omega)
        rw [ce] at h1
        obtain ⟨_, hlen, hcell⟩ := World.cells?_some h1
        have e0 := hcell 0 (by omega)
        rw [Go.Deep.add_add] at e0
        obtain ⟨u, hu⟩ : ∃ u, cs'[0]? = some u := ⟨cs'[0]'(by omega), List.getElem?_eq_getElem (by omega)⟩
        rw [hu] at e0
        simpa [Addr.add] using World.cell?_spot e0
    rcases hsp with h0 | hspot
    · subst h0
      exact ⟨[], some ⟨b, off, spot⟩, cap0, rfl, hl, by unfold maxLen at hm ⊢; omega, .inl rfl⟩
    subst hspot
    have each : ∀ i, i < len0 → ∃ q : Int × Int, w.cell? ⟨b, off + i * 2, none⟩ = some (.int .i64 q.1) ∧ w.cell? ⟨b, off + i * 2 + 1, none⟩ = some (.int .i64 q.2) := by
      intro i hi
      obtain ⟨cs', h1, h2⟩ := hx i (by omega)
      rw [ce] at h1
      obtain ⟨_, hlen, hcell⟩ := World.cells?_some h1
      obtain ⟨xs, k, hk, hxy, _, hxl, hf⟩ := DataW.trod_struct he h2
      obtain ⟨o0, o1⟩ := o
      obtain ⟨q0, q1⟩ := c
      match xs, hxl, cs', hlen with
      | [y0, y1], _, [v0, v1], _ =>
        have g0 := hf 0 f0 rfl
        have g1 := hf 1 f1 rfl
        simp [o0, o1, q0, q1] at g0 g1
        have hc : ∀ j u, j < 2 → [v0, v1][j]? = some u → w.cell? ⟨b, off + i * 2 + j, none⟩ = some u := by
          intro j u hj hu
          have e := hcell j hj
          rw [hu, Go.Deep.add_add, addr_add, ← Nat.add_assoc] at e
          exact e
        obtain ⟨n0, hn0, _, _⟩ := DataW.trod_int t0 g0
        obtain ⟨n1, hn1, _, _⟩ := DataW.trod_int t1 g1
        simp only [List.cons.injEq, and_true] at hn0 hn1
        subst hn0 hn1
        exact ⟨(n0, n1), hc 0 _ (by omega) rfl, hc 1 _ (by omega) rfl⟩
    have : ∀ i, ∃ q : Int × Int, i < len0 → w.cell? ⟨b, off + i * 2, none⟩ = some (.int .i64 q.1) ∧ w.cell? ⟨b, off + i * 2 + 1, none⟩ = some (.int .i64 q.2) := by
      intro i
      by_cases h : i < len0
      · obtain ⟨th, ht⟩ := each i h; exact ⟨th, fun _ => ht⟩
      · exact ⟨(0, 0), fun h' => absurd h' h⟩
    let q : Nat → Int × Int := fun i => Classical.choose (this i)
    have hq : ∀ i, i < len0 → w.cell? ⟨b, off + i * 2, none⟩ = some (.int .i64 (q i).1) ∧ w.cell? ⟨b, off + i * 2 + 1, none⟩ = some (.int .i64 (q i).2) := fun i => Classical.choose_spec (this i)
    rcases Nat.eq_zero_or_pos len0 with h0 | hp
    · subst h0
      exact ⟨[], _, cap0, rfl, hl, by unfold maxLen at hm ⊢; omega, .inl rfl⟩
    · refine ⟨(List.range len0).map q, _, cap0, by simp, by simpa using hl, by unfold maxLen at hm ⊢; omega, .inr ⟨b, off, rfl, lt_of_cell (hq 0 hp).1, fun i k n hi => ?_⟩⟩
      have hil : i < len0 := by
        have := (List.getElem?_eq_some_iff.1 hi).1
        simpa using this
      rw [List.getElem?_map, List.getElem?_range hil] at hi
      simp only [Option.map_some, Option.some.injEq] at hi
      have := hq i hil
      rw [hi] at this
      exact this
/-- An argument that is a slice of fates. -/
theorem fates_of_arg {t e : TypeId} {f0 f1 : Field} {r : Reach} {b0 : Nat} {v : Value} {d : DataW H} {p : List MemPlace} (ht : P.underlying t = some (.slice e)) (he : P.underlying e = some (.struct #[f0, f1])) (ce : P.cellsOf e = 2)
    (o : f0.offset = 0 ∧ f1.offset = 1) (c : P.cellsOf f0.type = 1 ∧ P.cellsOf f1.type = 1) (t0 : P.underlying f0.type = some (.int .i64)) (t1 : P.underlying f1.type = some (.int .i64))
    (hv : Value.okWide P w r b0 t v) (h : DataW.Trod enc P w base (fun _ => true) held t v d p) : ∃ fs, IsFates w v fs := by
  obtain ⟨a0, len0, cap0, rfl⟩ := okWide_slice ht hv
  obtain ⟨fuel, hf⟩ := h
  exact fates_of_trod ht he ce o c t0 t1 (by simpa [Value.cells] using hf)
/-- An argument that is a slice of acts. -/
theorem ops_of_arg {t e : TypeId} {f0 f1 f2 f3 : Field} {u8 ft : TypeId} {g0 g1 : Field} {r : Reach} {b0 : Nat} {v : Value} {d : DataW H} {p : List MemPlace} (ht : P.underlying t = some (.slice e)) (he : P.underlying e = some (.struct #[f0, f1, f2, f3])) (ce : P.cellsOf e = 4)
    (o : f0.offset = 0 ∧ f1.offset = 1 ∧ f2.offset = 2 ∧ f3.offset = 3) (c : P.cellsOf f0.type = 1 ∧ P.cellsOf f1.type = 1 ∧ P.cellsOf f2.type = 1 ∧ P.cellsOf f3.type = 1)
    (t0 : P.underlying f0.type = some (.int .i64)) (t1 : P.underlying f1.type = some (.int .i64)) (t2 : P.underlying f2.type = some (.slice u8)) (e2 : P.underlying u8 = some (.int .u8)) (c2 : P.cellsOf u8 = 1)
    (t3 : P.underlying f3.type = some (.slice ft)) (e3 : P.underlying ft = some (.struct #[g0, g1])) (c3 : P.cellsOf ft = 2)
    (o3 : g0.offset = 0 ∧ g1.offset = 1) (cc3 : P.cellsOf g0.type = 1 ∧ P.cellsOf g1.type = 1) (u0 : P.underlying g0.type = some (.int .i64)) (u1 : P.underlying g1.type = some (.int .i64))
    (hv : Value.okWide P w r b0 t v) (h : DataW.Trod enc P w base (fun _ => true) held t v d p) : ∃ ts, OpsIs w v ts := by
  obtain ⟨a0, len0, cap0, rfl⟩ := okWide_slice ht hv
  obtain ⟨fuel, hf⟩ := h
  rcases Go.Deep.open_slice ht hf with ⟨hcs, _⟩ | ⟨a, len, cap, m, n, D, Pl, hcs, hb, hl, hm, hmm, _, hx⟩
  · simp [Value.cells] at hcs
    obtain ⟨rfl, rfl, rfl⟩ := hcs
    exact ⟨[], none, 0, 0, rfl, rfl, Nat.le_refl _, by decide, .inl rfl⟩
  · simp [Value.cells] at hcs
    obtain ⟨rfl, rfl, rfl⟩ := hcs
    have hlm : len0 ≤ m := by rw [hmm]; simp; exact hl
    obtain ⟨b, off, spot⟩ := a
    have hsp : len0 = 0 ∨ spot = none := by
      rcases Nat.eq_zero_or_pos len0 with h0 | h0
      · exact .inl h0
      · right
        obtain ⟨cs', h1, _⟩ := hx 0 (by omega)
        rw [ce] at h1
        obtain ⟨_, hlen, hcell⟩ := World.cells?_some h1
        have e0 := hcell 0 (by omega)
        rw [Go.Deep.add_add] at e0
        obtain ⟨u, hu⟩ : ∃ u, cs'[0]? = some u := ⟨cs'[0]'(by omega), List.getElem?_eq_getElem (by omega)⟩
        rw [hu] at e0
        simpa [Addr.add] using World.cell?_spot e0
    rcases hsp with h0 | hspot
    · subst h0
      exact ⟨[], _, _, _, rfl, rfl, hl, by unfold maxLen at hm; omega, .inl rfl⟩
    subst hspot
    have each : ∀ i, i < len0 → ∃ th, OpAt w b (off + i * 4) th := by
      intro i hi
      obtain ⟨cs', h1, h2⟩ := hx i (by omega)
      rw [ce] at h1
      obtain ⟨_, hlen, hcell⟩ := World.cells?_some h1
      obtain ⟨xs, k, hk, hxy, _, hxl, hf⟩ := DataW.trod_struct he h2
      obtain ⟨o0, o1, o2, o3'⟩ := o
      obtain ⟨q0, q1, q2, q3⟩ := c
      match xs, hxl, cs', hlen with
      | [y0, y1, y2, y3], _, [v0, v1, v2, v3], _ =>
        have g0 := hf 0 f0 rfl
        have g1 := hf 1 f1 rfl
        have g2 := hf 2 f2 rfl
        have g3 := hf 3 f3 rfl
        simp [o0, o1, o2, o3', q0, q1, q2, q3] at g0 g1 g2 g3
        have hc : ∀ j u, j < 4 → [v0, v1, v2, v3][j]? = some u → w.cell? ⟨b, off + i * 4 + j, none⟩ = some u := by
          intro j u hj hu
          have e := hcell j hj
          rw [hu, Go.Deep.add_add, addr_add, ← Nat.add_assoc] at e
          exact e
        obtain ⟨n0, hn0, _, w0⟩ := DataW.trod_int t0 g0
        obtain ⟨n1, hn1, _, w1⟩ := DataW.trod_int t1 g1
        obtain ⟨bs, hbs⟩ := bytes_of_trod t2 e2 c2 g2
        obtain ⟨pb, nb, cb, rfl⟩ := slice_of_bytes hbs
        obtain ⟨pf, nf, cf, rfl⟩ : ∃ pf nf cf, v3 = .slice pf nf cf := by
          rcases Go.Deep.open_slice t3 g3 with ⟨hcs, _⟩ | ⟨a, len, cap, m, n, D, Pl, hcs, _⟩
          · simp at hcs; exact ⟨_, _, _, hcs⟩
          · simp at hcs; exact ⟨_, _, _, hcs⟩
        obtain ⟨fs, hfs⟩ := fates_of_trod t3 e3 c3 o3 cc3 u0 u1 g3
        simp only [List.cons.injEq, and_true] at hn0 hn1
        subst hn0 hn1
        exact ⟨⟨n0, n1, bs, fs⟩, pb, pf, nb, cb, nf, cf, hc 0 _ (by omega) rfl, hc 1 _ (by omega) rfl, hc 2 _ (by omega) rfl, hc 3 _ (by omega) rfl, hbs, hfs, i64_bounds w1⟩
    have : ∀ i, ∃ th, i < len0 → OpAt w b (off + i * 4) th := by
      intro i
      by_cases h : i < len0
      · obtain ⟨th, ht⟩ := each i h; exact ⟨th, fun _ => ht⟩
      · exact ⟨⟨0, 0, [], []⟩, fun h' => absurd h' h⟩
    let q : Nat → DOp := fun i => Classical.choose (this i)
    have hq : ∀ i, i < len0 → OpAt w b (off + i * 4) (q i) := fun i => Classical.choose_spec (this i)
    refine ⟨(List.range len0).map q, _, _, _, rfl, by simp, hl, by unfold maxLen at hm; omega, .inr ⟨b, off, rfl, fun i hi => ?_⟩⟩
    simp at hi
    rw [List.getElem_map, List.getElem_range]
    exact hq i hi
end
end Go.Proofs.Ytcnhjbipncledaa
