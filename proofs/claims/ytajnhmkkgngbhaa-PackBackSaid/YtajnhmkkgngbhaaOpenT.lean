/- From the reading of an argument to the words of the walks: things, numbers. -/
import Derived.Test.YtajnhmkkgngbhaaThing
import Derived.Test.YtajnhmkkgngbhaaKit
import Derived.Deep.Slices
namespace Go.Proofs.Ytajnhmkkgngbhaa
open Go.ChangeShapes Go.WideShapes Go.ChangeAt Go.RowKit
section
variable {H : Type} {enc : TypeId × Value → H} {P : Program} {w : World} {base : Nat} {held : Bool}
theorem u64_bounds {n : Int} (h : (Lit.int .u64 n).wf = true) : 0 ≤ n ∧ n < 18446744073709551616 := by
  have hmin : IntKind.u64.min = 0 := rfl
  have hmax : IntKind.u64.max = 18446744073709551615 := rfl
  simp only [Lit.wf, Bool.and_eq_true, decide_eq_true_eq, hmin, hmax] at h
  omega
/-- A slice of whole numbers, off its cells' reading. -/
theorem ints_of_trod {t e : TypeId} {fuel : Nat} {v : Value} {x : DataW H × List MemPlace} (ht : P.underlying t = some (.slice e)) (he : P.underlying e = some (.int .i64)) (hc : P.cellsOf e = 1)
    (h : DataW.trod enc P w base (fun _ => true) held fuel t [v] = some x) : ∃ xs : List Int, Reads w v (xs.map intV) ∧ ∀ x ∈ xs, -9223372036854775808 ≤ x ∧ x ≤ 9223372036854775807 := by
  rcases open_ints ht he hc h with ⟨hcs, _⟩ | ⟨a, len, cap, zs, hcs, _, hl, hm, hz, _, hcell, hwz⟩
  · simp at hcs; subst hcs
    exact ⟨[], ⟨none, 0, 0, rfl, rfl, Nat.le_refl _, Nat.zero_le _, .inl rfl⟩, by simp⟩
  · simp at hcs; subst hcs
    simp at hz
    refine ⟨zs.take len, ⟨some a, len, cap, rfl, by simp; omega, hl, hm, ?_⟩, fun x hx => i64_bounds (hwz x (List.mem_of_mem_take hx))⟩
    by_cases h0 : len = 0
    · left; subst h0; simp
    · right
      have h1 := hcell 0 (by omega)
      obtain ⟨b, off, spot⟩ := a
      have hspot : spot = none := by simpa [Addr.add] using World.cell?_spot h1
      subst hspot
      refine ⟨b, off, rfl, ?_, fun i hi => ?_⟩
      · have := lt_of_cell h1
        simpa [Addr.add] using this
      · simp at hi
        have hc := hcell i (by omega)
        have e : (⟨b, off, none⟩ : Addr).add i = ⟨b, off + i, none⟩ := by unfold Addr.add; split <;> simp_all
        rw [e] at hc
        rw [hc]
        have hiz : i < zs.length := by omega
        rw [List.getElem_map, List.getElem_take, List.getD_eq_getElem?_getD, List.getElem?_eq_getElem hiz]
        rfl
theorem slice_of_reads {v : Value} {xs : List Value} (h : Reads w v xs) : ∃ p n c, v = .slice p n c := by
  obtain ⟨p, n, c, hv, _⟩ := h; exact ⟨p, n, c, hv⟩
theorem slice_of_bytes {v : Value} {bs : List (BitVec 8)} (h : IsBytes w v bs) : ∃ p n c, v = .slice p n c := by
  obtain ⟨p, n, c, hv, _⟩ := h; exact ⟨p, n, c, hv⟩
/-- An argument that is a slice of things. -/
theorem things_of_arg {t e : TypeId} {f0 f1 f2 f3 f4 f5 f6 : Field} {u8 i64 u9 : TypeId} {r : Reach} {b0 : Nat} {v : Value} {d : DataW H} {p : List MemPlace} (ht : P.underlying t = some (.slice e)) (he : P.underlying e = some (.struct #[f0, f1, f2, f3, f4, f5, f6])) (ce : P.cellsOf e = 7)
    (o : f0.offset = 0 ∧ f1.offset = 1 ∧ f2.offset = 2 ∧ f3.offset = 3 ∧ f4.offset = 4 ∧ f5.offset = 5 ∧ f6.offset = 6) (c : P.cellsOf f0.type = 1 ∧ P.cellsOf f1.type = 1 ∧ P.cellsOf f2.type = 1 ∧ P.cellsOf f3.type = 1 ∧ P.cellsOf f4.type = 1 ∧ P.cellsOf f5.type = 1 ∧ P.cellsOf f6.type = 1)
    (t0 : P.underlying f0.type = some (.int .i64)) (t1 : P.underlying f1.type = some (.int .u64)) (t2 : P.underlying f2.type = some (.int .i64)) (t3 : P.underlying f3.type = some (.int .i64))
    (t4 : P.underlying f4.type = some (.slice u8)) (e4 : P.underlying u8 = some (.int .u8)) (c4 : P.cellsOf u8 = 1) (t5 : P.underlying f5.type = some (.slice i64)) (e5 : P.underlying i64 = some (.int .i64)) (c5 : P.cellsOf i64 = 1) (t6 : P.underlying f6.type = some (.slice u9)) (e6 : P.underlying u9 = some (.int .i64)) (c6 : P.cellsOf u9 = 1)
    (hv : Value.okWide P w r b0 t v) (h : DataW.Trod enc P w base (fun _ => true) held t v d p) : ∃ ts, ThsIs w v ts := by
  obtain ⟨a0, len0, cap0, rfl⟩ := okWide_slice ht hv
  obtain ⟨fuel, hf⟩ := h
  rcases Go.Deep.open_slice ht hf with ⟨hcs, _⟩ | ⟨a, len, cap, m, n, D, Pl, hcs, hb, hl, hm, hmm, _, hx⟩
  · simp [Value.cells] at hcs
    obtain ⟨rfl, rfl, rfl⟩ := hcs
    exact ⟨[], none, 0, 0, rfl, rfl, Nat.le_refl _, by decide, .inl rfl⟩
  · simp [Value.cells] at hcs
    obtain ⟨rfl, rfl, rfl⟩ := hcs
    have hlm : len0 ≤ m := by rw [hmm]; simp; exact hl
    obtain ⟨b, off, spot⟩ := a
    have hsp : len0 = 0 ∨ spot = none := by
      rcases Nat.eq_zero_or_pos len0 with h0 | h0
      · exact .inl h0
      · right
        obtain ⟨cs', h1, _⟩ := hx 0 (by omega)
        rw [ce] at h1
        obtain ⟨_, hlen, hcell⟩ := World.cells?_some h1
        have e0 := hcell 0 (by omega)
        rw [Go.Deep.add_add] at e0
        obtain ⟨u, hu⟩ : ∃ u, cs'[0]? = some u := ⟨cs'[0]'(by omega), List.getElem?_eq_getElem (by omega)⟩
        rw [hu] at e0
        simpa [Addr.add] using World.cell?_spot e0
    rcases hsp with h0 | hspot
    · subst h0
      exact ⟨[], _, _, _, rfl, rfl, hl, by unfold maxLen at hm; omega, .inl rfl⟩
    subst hspot
    have each : ∀ i, i < len0 → ∃ th, ThAt w b (off + i * 7) th := by
      intro i hi
      obtain ⟨cs', h1, h2⟩ := hx i (by omega)
      rw [ce] at h1
      obtain ⟨_, hlen, hcell⟩ := World.cells?_some h1
      obtain ⟨xs, k, hk, hxy, _, hxl, hf⟩ := DataW.trod_struct he h2
      obtain ⟨o0, o1, o2, o3, o4, o5, o6⟩ := o
      obtain ⟨q0, q1, q2, q3, q4, q5, q6⟩ := c
      match xs, hxl, cs', hlen with
      | [y0, y1, y2, y3, y4, y5, y6], _, [v0, v1, v2, v3, v4, v5, v6], _ =>
        have g0 := hf 0 f0 rfl
        have g1 := hf 1 f1 rfl
        have g2 := hf 2 f2 rfl
        have g3 := hf 3 f3 rfl
        have g4 := hf 4 f4 rfl
        have g5 := hf 5 f5 rfl
        have g6 := hf 6 f6 rfl
        simp [o0, o1, o2, o3, o4, o5, o6, q0, q1, q2, q3, q4, q5, q6] at g0 g1 g2 g3 g4 g5 g6
        have hc : ∀ j u, j < 7 → [v0, v1, v2, v3, v4, v5, v6][j]? = some u → w.cell? ⟨b, off + i * 7 + j, none⟩ = some u := by
          intro j u hj hu
          have e := hcell j hj
          rw [hu, Go.Deep.add_add] at e
          have ea : (⟨b, off, none⟩ : Addr).add (i * 7 + j) = ⟨b, off + i * 7 + j, none⟩ := by
            unfold Addr.add
            split
            · have h0 : i * 7 + j = 0 := by assumption
              rw [show i * 7 = 0 by omega, show j = 0 by omega]; rfl
            · first | (simp; done) | (simp; omega)
          rw [ea] at e
          exact e
        obtain ⟨n0, hn0, _, _⟩ := DataW.trod_int t0 g0
        obtain ⟨n1, hn1, _, w1⟩ := DataW.trod_int t1 g1
        obtain ⟨n2, hn2, _, w2⟩ := DataW.trod_int t2 g2
        obtain ⟨n3, hn3, _, w3⟩ := DataW.trod_int t3 g3
        obtain ⟨bs, hbs⟩ := bytes_of_trod t4 e4 c4 g4
        obtain ⟨ls, hls, hlb⟩ := ints_of_trod t5 e5 c5 g5
        obtain ⟨fs, hfs, hfb⟩ := ints_of_trod t6 e6 c6 g6
        simp only [List.cons.injEq, and_true] at hn0 hn1 hn2 hn3
        subst hn0 hn1 hn2 hn3
        obtain ⟨p4, m4, k4, rfl⟩ := slice_of_bytes hbs
        obtain ⟨p5, m5, k5, rfl⟩ := slice_of_reads hls
        obtain ⟨p6, m6, k6, rfl⟩ := slice_of_reads hfs
        have b1 := u64_bounds w1
        refine ⟨⟨n0, n1.toNat, n2, n3, bs, ls, fs⟩, p4, p5, p6, m4, k4, m5, k5, m6, k6, hc 0 _ (by omega) rfl, ?_, hc 2 _ (by omega) rfl, hc 3 _ (by omega) rfl, hc 4 _ (by omega) rfl, hc 5 _ (by omega) rfl, hc 6 _ (by omega) rfl, ⟨by simp only; omega, i64_bounds w2, hlb, hbs, hls, hfs, i64_bounds w3, hfb⟩⟩
        rw [show ((n1.toNat : Nat) : Int) = n1 by omega]
        exact hc 1 _ (by omega) rfl
    have : ∀ i, ∃ th, i < len0 → ThAt w b (off + i * 7) th := by
      intro i
      by_cases h : i < len0
      · obtain ⟨th, ht⟩ := each i h; exact ⟨th, fun _ => ht⟩
      · exact ⟨⟨0, 0, 0, 0, [], [], []⟩, fun h' => absurd h' h⟩
    let q : Nat → Th := fun i => Classical.choose (this i)
    have hq : ∀ i, i < len0 → ThAt w b (off + i * 7) (q i) := fun i => Classical.choose_spec (this i)
    refine ⟨(List.range len0).map q, _, _, _, rfl, by simp, hl, by unfold maxLen at hm; omega, .inr ⟨b, off, rfl, fun i hi => ?_⟩⟩
    simp at hi
    rw [List.getElem_map, List.getElem_range]
    exact hq i hi
end
end Go.Proofs.Ytajnhmkkgngbhaa
