/- From the reading of an argument to the words of the walks: frames. -/
import Derived.Test.YtfbepdlahaefgaaDoorOpenI
import Derived.Test.YtfbepdlahaefgaaDoorRowsC
namespace Go.Proofs.YtfbepdlahaefgaaDoor
open Go.ChangeShapes Go.WideShapes Go.ChangeAt Go.RowKit
section
variable {H : Type} {enc : TypeId × Value → H} {P : Program} {w : World} {base : Nat} {held : Bool}
theorem addr_add (b off i : Nat) : (⟨b, off, none⟩ : Addr).add i = ⟨b, off + i, none⟩ := by
  unfold Addr.add
  split
  · have h0 : i = 0 := by assumption
    rw [h0]; rfl
  · rfl
/-- An argument that is a slice of frames. -/
theorem frames_of_arg {t e : TypeId} {f0 f1 : Field} {u8 : TypeId} {r : Reach} {b0 : Nat} {v : Value} {d : DataW H} {p : List MemPlace} (ht : P.underlying t = some (.slice e)) (he : P.underlying e = some (.struct #[f0, f1])) (ce : P.cellsOf e = 2)
    (o : f0.offset = 0 ∧ f1.offset = 1) (c : P.cellsOf f0.type = 1 ∧ P.cellsOf f1.type = 1) (t0 : P.underlying f0.type = some (.int .i64)) (t1 : P.underlying f1.type = some (.slice u8)) (e1 : P.underlying u8 = some (.int .u8)) (c1 : P.cellsOf u8 = 1)
    (hv : Value.okWide P w r b0 t v) (h : DataW.Trod enc P w base (fun _ => true) held t v d p) : ∃ fs, FrArg w v fs := by
  obtain ⟨a0, len0, cap0, rfl⟩ := okWide_slice ht hv
  obtain ⟨fuel, hf⟩ := h
  rcases Go.Deep.open_slice ht hf with ⟨hcs, _⟩ | ⟨a, len, cap, m, n, D, Pl, hcs, hb, hl, hm, hmm, _, hx⟩
  · simp [Value.cells] at hcs
    obtain ⟨rfl, rfl, rfl⟩ := hcs
    exact ⟨[], none, 0, rfl, Nat.le_refl _, by decide, .inl rfl⟩
  · simp [Value.cells] at hcs
    obtain ⟨rfl, rfl, rfl⟩ := hcs
    have hlm : len0 ≤ m := by rw [hmm]; simp; exact hl
    obtain ⟨b, off, spot⟩ := a
    have hsp : len0 = 0 ∨ spot = none := by
      rcases Nat.eq_zero_or_pos len0 with h0 | h0
      · exact .inl h0
      · right
        obtain ⟨cs', h1, _⟩ := hx 0 (by omega)
        rw [ce] at h1
        obtain ⟨_, hlen, hcell⟩ := World.cells?_some h1
        have e0 := hcell 0 (by omega)
        rw [Go.Deep.add_add] at e0
        obtain ⟨u, hu⟩ : ∃ u, cs'[0]? = some u := ⟨cs'[0]'(by omega), List.getElem?_eq_getElem (by omega)⟩
        rw [hu] at e0
        simpa [Addr.add] using World.cell?_spot e0
    rcases hsp with h0 | hspot
    · subst h0
      exact ⟨[], some ⟨b, off, spot⟩, cap0, rfl, hl, by unfold maxLen at hm ⊢; omega, .inl rfl⟩
    subst hspot
    have each : ∀ i, i < len0 → ∃ q : Int × List (BitVec 8), ∃ pa pn pc, w.cell? ⟨b, off + i * 2, none⟩ = some (.int .i64 q.1) ∧ w.cell? ⟨b, off + i * 2 + 1, none⟩ = some (.slice pa pn pc) ∧ IsBytes w (.slice pa pn pc) q.2 ∧ -9223372036854775808 ≤ q.1 ∧ q.1 ≤ 9223372036854775807 := by
      intro i hi
      obtain ⟨cs', h1, h2⟩ := hx i (by omega)
      rw [ce] at h1
      obtain ⟨_, hlen, hcell⟩ := World.cells?_some h1
      obtain ⟨xs, k, hk, hxy, _, hxl, hf⟩ := DataW.trod_struct he h2
      obtain ⟨o0, o1⟩ := o
      obtain ⟨q0, q1⟩ := c
      match xs, hxl, cs', hlen with
      | [y0, y1], _, [v0, v1], _ =>
        have g0 := hf 0 f0 rfl
        have g1 := hf 1 f1 rfl
        simp [o0, o1, q0, q1] at g0 g1
        have hc : ∀ j u, j < 2 → [v0, v1][j]? = some u → w.cell? ⟨b, off + i * 2 + j, none⟩ = some u := by
          intro j u hj hu
          have e := hcell j hj
          rw [hu, Go.Deep.add_add, addr_add, ← Nat.add_assoc] at e
          exact e
        obtain ⟨n0, hn0, _, w0⟩ := DataW.trod_int t0 g0
        obtain ⟨bs, hbs⟩ := bytes_of_trod t1 e1 c1 g1
        obtain ⟨pb, nb, cb, rfl⟩ := slice_of_bytes hbs
        simp only [List.cons.injEq, and_true] at hn0
        subst hn0
        exact ⟨(n0, bs), pb, nb, cb, hc 0 _ (by omega) rfl, hc 1 _ (by omega) rfl, hbs, i64_bounds w0⟩
    have : ∀ i, ∃ q : Int × List (BitVec 8), i < len0 → ∃ pa pn pc, w.cell? ⟨b, off + i * 2, none⟩ = some (.int .i64 q.1) ∧ w.cell? ⟨b, off + i * 2 + 1, none⟩ = some (.slice pa pn pc) ∧ IsBytes w (.slice pa pn pc) q.2 ∧ -9223372036854775808 ≤ q.1 ∧ q.1 ≤ 9223372036854775807 := by
      intro i
      by_cases h : i < len0
      · obtain ⟨th, ht⟩ := each i h; exact ⟨th, fun _ => ht⟩
      · exact ⟨(0, []), fun h' => absurd h' h⟩
    let q : Nat → Int × List (BitVec 8) := fun i => Classical.choose (this i)
    have hq : ∀ i, i < len0 → ∃ pa pn pc, w.cell? ⟨b, off + i * 2, none⟩ = some (.int .i64 (q i).1) ∧ w.cell? ⟨b, off + i * 2 + 1, none⟩ = some (.slice pa pn pc) ∧ IsBytes w (.slice pa pn pc) (q i).2 ∧ -9223372036854775808 ≤ (q i).1 ∧ (q i).1 ≤ 9223372036854775807 := fun i => Classical.choose_spec (this i)
    rcases Nat.eq_zero_or_pos len0 with h0 | hp
    · subst h0
      exact ⟨[], _, cap0, rfl, hl, by unfold maxLen at hm ⊢; omega, .inl rfl⟩
    · have hlt : b < w.heap.size := by obtain ⟨_, _, _, h0, _⟩ := hq 0 hp; exact lt_of_cell h0
      refine ⟨(List.range len0).map q, _, cap0, by simp, by simpa using hl, by unfold maxLen at hm ⊢; omega, .inr ⟨b, off, rfl, hlt, fun i k n hi => ?_⟩⟩
      have hil : i < len0 := by
        have := (List.getElem?_eq_some_iff.1 hi).1
        simpa using this
      rw [List.getElem?_map, List.getElem?_range hil] at hi
      simp only [Option.map_some, Option.some.injEq] at hi
      have := hq i hil
      rw [hi] at this
      exact this
end
end Go.Proofs.YtfbepdlahaefgaaDoor
