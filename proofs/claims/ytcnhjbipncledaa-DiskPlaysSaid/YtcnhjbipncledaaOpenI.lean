/- From the reading of an argument to the words of the walks: numbers. -/
import Derived.Test.YtcnhjbipncledaaApp2
import Derived.Test.YtcnhjbipncledaaKit
import Derived.Deep.Slices
namespace Go.Proofs.Ytcnhjbipncledaa
open Go.ChangeShapes Go.WideShapes Go.ChangeAt Go.RowKit
section
variable {H : Type} {enc : TypeId × Value → H} {P : Program} {w : World} {base : Nat} {held : Bool}
theorem u64_bounds {n : Int} (h : (Lit.int .u64 n).wf = true) : 0 ≤ n ∧ n < 18446744073709551616 := by
  have hmin : IntKind.u64.min = 0 := rfl
  have hmax : IntKind.u64.max = 18446744073709551615 := rfl
  simp only [Lit.wf, Bool.and_eq_true, decide_eq_true_eq, hmin, hmax] at h
  omega
/-- A slice of whole numbers, off its cells' reading. -/
theorem ints_of_trod {t e : TypeId} {fuel : Nat} {v : Value} {x : DataW H × List MemPlace} (ht : P.underlying t = some (.slice e)) (he : P.underlying e = some (.int .i64)) (hc : P.cellsOf e = 1)
    (h : DataW.trod enc P w base (fun _ => true) held fuel t [v] = some x) : ∃ xs : List Int, Reads w v (xs.map intV) ∧ ∀ x ∈ xs, -9223372036854775808 ≤ x ∧ x ≤ 9223372036854775807 := by
  rcases open_ints ht he hc h with ⟨hcs, _⟩ | ⟨a, len, cap, zs, hcs, _, hl, hm, hz, _, hcell, hwz⟩
  · simp at hcs; subst hcs
    exact ⟨[], ⟨none, 0, 0, rfl, rfl, Nat.le_refl _, Nat.zero_le _, .inl rfl⟩, by simp⟩
  · simp at hcs; subst hcs
    simp at hz
    refine ⟨zs.take len, ⟨some a, len, cap, rfl, by simp; omega, hl, hm, ?_⟩, fun x hx => i64_bounds (hwz x (List.mem_of_mem_take hx))⟩
    by_cases h0 : len = 0
    · left; subst h0; simp
    · right
      have h1 := hcell 0 (by omega)
      obtain ⟨b, off, spot⟩ := a
      have hspot : spot = none := by simpa [Addr.add] using World.cell?_spot h1
      subst hspot
      refine ⟨b, off, rfl, ?_, fun i hi => ?_⟩
      · have := lt_of_cell h1
        simpa [Addr.add] using this
      · simp at hi
        have hc := hcell i (by omega)
        have e : (⟨b, off, none⟩ : Addr).add i = ⟨b, off + i, none⟩ := by unfold Addr.add; split <;> simp_all
        rw [e] at hc
        rw [hc]
        have hiz : i < zs.length := by omega
        rw [List.getElem_map, List.getElem_take, List.getD_eq_getElem?_getD, List.getElem?_eq_getElem hiz]
        rfl
theorem slice_of_reads {v : Value} {xs : List Value} (h : Reads w v xs) : ∃ p n c, v = .slice p n c := by
  obtain ⟨p, n, c, hv, _⟩ := h; exact ⟨p, n, c, hv⟩
theorem slice_of_bytes {v : Value} {bs : List (BitVec 8)} (h : IsBytes w v bs) : ∃ p n c, v = .slice p n c := by
  obtain ⟨p, n, c, hv, _⟩ := h; exact ⟨p, n, c, hv⟩
end
end Go.Proofs.Ytcnhjbipncledaa
