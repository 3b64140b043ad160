/- From the reading of an argument to the words of the walks: a slice of bytes, a slice of such, integers. No program. -/
import Derived.Test.YtcnhjbipncledaaApp
import Derived.ProofKit
import Derived.OpenShut
import Derived.Deep.Matrix
import Derived.Deep.DeepHandedRow
import Derived.Lib.LaidTab
import Derived.Lib.SmallJoins
namespace Go.Proofs.Ytcnhjbipncledaa
open Go.ChangeShapes Go.WideShapes Go.ChangeAt Go.RowKit
section
variable {H : Type} {enc : TypeId × Value → H} {P : Program} {w : World} {base : Nat} {held : Bool}

theorem lt_of_cell {a : Addr} {v : Value} (h : w.cell? a = some v) : a.block < w.heap.size := by
  rcases Nat.lt_or_ge a.block w.heap.size with h' | h'
  · exact h'
  · simp [World.cell?, Array.getElem?_eq_none h'] at h
theorem u8_bounds {n : Int} (h : (Lit.int .u8 n).wf = true) : 0 ≤ n ∧ n < 256 := by
  have hmin : IntKind.u8.min = 0 := rfl
  have hmax : IntKind.u8.max = 255 := rfl
  simp only [Lit.wf, Bool.and_eq_true, decide_eq_true_eq, hmin, hmax] at h
  omega
theorem u32_bounds {n : Int} (h : (Lit.int .u32 n).wf = true) : 0 ≤ n ∧ n < 4294967296 := by
  have hmin : IntKind.u32.min = 0 := rfl
  have hmax : IntKind.u32.max = 4294967295 := rfl
  simp only [Lit.wf, Bool.and_eq_true, decide_eq_true_eq, hmin, hmax] at h
  omega
theorem i64_bounds {n : Int} (h : (Lit.int .i64 n).wf = true) : -9223372036854775808 ≤ n ∧ n ≤ 9223372036854775807 := by
  have hmin : IntKind.i64.min = -9223372036854775808 := rfl
  have hmax : IntKind.i64.max = 9223372036854775807 := rfl
  simp only [Lit.wf, Bool.and_eq_true, decide_eq_true_eq, hmin, hmax] at h
  omega
theorem u8_vec {n : Int} (h : (Lit.int .u8 n).wf = true) : ((BitVec.ofInt 8 n).toNat : Int) = n := by
  have := u8_bounds h
  rw [BitVec.toNat_ofInt]; omega
theorem u32_vec {n : Int} (h : (Lit.int .u32 n).wf = true) : ∃ r : BitVec 32, n = (r.toNat : Int) := by
  have := u32_bounds h
  exact ⟨BitVec.ofInt 32 n, by rw [BitVec.toNat_ofInt]; omega⟩
/-- The cells of a row of bytes, as bytes. -/
theorem bytes_of_row {x : Addr} {len cap : Nat} {zs : List Int} (hl : len ≤ cap) (hm : cap ≤ maxLen) (hz : len ≤ zs.length) (hcell : ∀ i, i < len → w.cell? (x.add i) = some (.int .u8 (zs.getD i 0))) (hwz : ∀ n ∈ zs, (Lit.int .u8 n).wf = true) :
    ∃ bs, IsBytes w (.slice (some x) len cap) bs ∧ bs.length = len := by
  refine ⟨(zs.take len).map (BitVec.ofInt 8), ⟨_, _, _, rfl, by simp; omega, hl, hm, ?_⟩, by simp; omega⟩
  by_cases h0 : len = 0
  · left; subst h0; simp
  · right
    have h1 := hcell 0 (by omega)
    obtain ⟨b, off, spot⟩ := x
    have hspot : spot = none := by simpa [Addr.add] using World.cell?_spot h1
    subst hspot
    refine ⟨b, off, rfl, ?_, fun i hi => ?_⟩
    · have := lt_of_cell h1
      simpa [Addr.add] using this
    · simp at hi
      have hc := hcell i (by omega)
      have e : (⟨b, off, none⟩ : Addr).add i = ⟨b, off + i, none⟩ := by unfold Addr.add; split <;> simp_all
      rw [e] at hc
      rw [hc]
      have hiz : i < zs.length := by omega
      have hv : zs.getD i 0 = zs[i] := by rw [List.getD_eq_getElem?_getD, List.getElem?_eq_getElem hiz]; rfl
      rw [List.getElem_map, List.getElem_take, hv, u8_vec (hwz _ (List.getElem_mem hiz))]
theorem nil_bytes {c : Nat} (hc : c ≤ maxLen) (a : Option Addr) : IsBytes w (.slice a 0 c) [] := ⟨a, 0, c, rfl, rfl, Nat.zero_le _, hc, .inl rfl⟩
/-- An argument that is a slice of bytes, off its cells' reading. -/
theorem bytes_of_trod {t e : TypeId} {fuel : Nat} {v : Value} {x : DataW H × List MemPlace} (ht : P.underlying t = some (.slice e)) (he : P.underlying e = some (.int .u8)) (hc : P.cellsOf e = 1)
    (h : DataW.trod enc P w base (fun _ => true) held fuel t [v] = some x) : ∃ bs, IsBytes w v bs := by
  rcases open_ints ht he hc h with ⟨hcs, _⟩ | ⟨a, len, cap, zs, hcs, _, hl, hm, hz, _, hcell, hwz⟩
  · simp at hcs; subst hcs
    exact ⟨[], nil_bytes (Nat.zero_le _) none⟩
  · simp at hcs; subst hcs
    simp at hz
    obtain ⟨bs, hb, _⟩ := bytes_of_row hl hm (by omega) (fun i hi => hcell i (by omega)) hwz
    exact ⟨bs, hb⟩
theorem bytes_of_arg {t e : TypeId} {r : Reach} {b0 : Nat} {v : Value} {d : DataW H} {p : List MemPlace} (ht : P.underlying t = some (.slice e)) (he : P.underlying e = some (.int .u8)) (hc : P.cellsOf e = 1)
    (hv : Value.okWide P w r b0 t v) (h : DataW.Trod enc P w base (fun _ => true) held t v d p) : ∃ bs, IsBytes w v bs := by
  obtain ⟨a0, len0, cap0, rfl⟩ := okWide_slice ht hv
  obtain ⟨fuel, hf⟩ := h
  exact bytes_of_trod ht he hc (v := .slice a0 len0 cap0) (by simpa [Value.cells] using hf)
/-- An argument that is a slice of slices of bytes. -/
theorem parts_of_arg {t q e : TypeId} {r : Reach} {b0 : Nat} {v : Value} {d : DataW H} {p : List MemPlace} (ht : P.underlying t = some (.slice q)) (hq : P.underlying q = some (.slice e)) (he : P.underlying e = some (.int .u8)) (cq : P.cellsOf q = 1) (ce : P.cellsOf e = 1)
    (hv : Value.okWide P w r b0 t v) (h : DataW.Trod enc P w base (fun _ => true) held t v d p) : ∃ ps, IsParts w v ps := by
  obtain ⟨a0, len0, cap0, rfl⟩ := okWide_slice ht hv
  obtain ⟨fuel, hf⟩ := h
  rcases Go.Deep.open_int_rows ht hq he cq ce hf with ⟨hcs, _⟩ | ⟨a, len, cap, A, L, C, Z, hcs, _, hl, hm, _, hrow⟩
  · simp [Value.cells] at hcs
    obtain ⟨rfl, rfl, rfl⟩ := hcs
    exact ⟨[], ⟨_, _, _, rfl, rfl, Nat.le_refl _, by decide, .inl rfl⟩⟩
  · simp [Value.cells] at hcs
    obtain ⟨rfl, rfl, rfl⟩ := hcs
    have each : ∀ i, i < cap0 → ∃ bs, IsBytes w (.slice (A i) (L i) (C i)) bs := by
      intro i hi
      obtain ⟨_, hLC, hC, hZ, hwz, hn, hcell⟩ := hrow i hi
      cases hA : A i with
      | none =>
        have := hn hA
        obtain ⟨h1, h2⟩ : L i = 0 ∧ C i = 0 := by omega
        rw [h1, h2]; exact ⟨[], nil_bytes (Nat.zero_le _) none⟩
      | some a' =>
        obtain ⟨bs, hb, _⟩ := bytes_of_row hLC hC (by omega) (fun j hj => (hcell a' hA).2 j (by omega)) hwz
        exact ⟨bs, hb⟩
    have hch : ∃ F : Nat → List (BitVec 8), ∀ i, i < cap0 → IsBytes w (.slice (A i) (L i) (C i)) (F i) := by
      refine ⟨fun i => if h : i < cap0 then Classical.choose (each i h) else [], fun i hi => ?_⟩
      simp only [hi, dif_pos]
      exact Classical.choose_spec (each i hi)
    obtain ⟨F, hF⟩ := hch
    refine ⟨(List.range len0).map F, ⟨_, _, _, rfl, by simp, hl, hm, ?_⟩⟩
    by_cases h0 : len0 = 0
    · left; subst h0; simp
    · right
      have h1 := (hrow 0 (by omega)).1
      obtain ⟨b, off, spot⟩ := a
      have hspot : spot = none := by simpa [Addr.add] using World.cell?_spot h1
      subst hspot
      refine ⟨b, off, (List.range len0).map (fun i => Value.slice (A i) (L i) (C i)), rfl, ?_, by simp, fun i hi => ?_, fun i hi hi' => ?_⟩
      · have := lt_of_cell h1
        simpa [Addr.add] using this
      · simp at hi
        have hc := (hrow i (by omega)).1
        have e : (⟨b, off, none⟩ : Addr).add i = ⟨b, off + i, none⟩ := by unfold Addr.add; split <;> simp_all
        rw [e] at hc
        rw [hc]; simp
      · simp at hi
        simpa using hF i (by omega)
end
end Go.Proofs.Ytcnhjbipncledaa
