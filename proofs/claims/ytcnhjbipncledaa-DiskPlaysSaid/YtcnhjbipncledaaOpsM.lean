/- The acts of the plays of chapters 15 to 17 in memory: a kind, a number, bytes, fates. -/
import Derived.Test.YtcnhjbipncledaaDk8
namespace Go.Proofs.Ytcnhjbipncledaa
open Go.RowKit

structure DOp where
  kind : Int
  i : Int
  b : List B8
  fs : List (Int × Int)
/-- An act at a place. -/
def OpAt (w : World) (b o : Nat) (t : DOp) : Prop :=
  ∃ (pb pf : Option Addr) (nb cb nf cf : Nat), w.cell? ⟨b, o, none⟩ = some (.int .i64 t.kind) ∧ w.cell? ⟨b, o + 1, none⟩ = some (.int .i64 t.i) ∧ w.cell? ⟨b, o + 2, none⟩ = some (.slice pb nb cb) ∧ w.cell? ⟨b, o + 3, none⟩ = some (.slice pf nf cf) ∧
    IsBytes w (.slice pb nb cb) t.b ∧ IsFates w (.slice pf nf cf) t.fs ∧ -9223372036854775808 ≤ t.i ∧ t.i ≤ 9223372036854775807
theorem IsFates.below {w w' : World} {v : Value} {fs : List (Int × Int)} (h : IsFates w v fs) (hb : Below w.heap.size w w') : IsFates w' v fs := h.keep hb.size fun _ _ _ _ hlt _ => hb.block _ hlt
theorem OpAt.below {w w' : World} {b o : Nat} {t : DOp} (h : OpAt w b o t) (hb : Below w.heap.size w w') : OpAt w' b o t := by
  obtain ⟨pb, pf, nb, cb, nf, cf, h0, h1, h2, h3, h4, h5, h6⟩ := h
  have hlt := cell_lt h0
  have k : ∀ o, w'.cell? ⟨b, o, none⟩ = w.cell? ⟨b, o, none⟩ := fun o => hb.cell (p := ⟨b, o, none⟩) hlt
  exact ⟨pb, pf, nb, cb, nf, cf, (k _).trans h0, (k _).trans h1, (k _).trans h2, (k _).trans h3, h4.below hb, h5.below hb, h6⟩
/-- The value is a slice of acts that reads as these. -/
def OpsIs (w : World) (v : Value) (ts : List DOp) : Prop :=
  ∃ a len cap, v = .slice a len cap ∧ len = ts.length ∧ len ≤ cap ∧ cap ≤ 9223372036854775807 ∧ (ts = [] ∨ ∃ b off, a = some ⟨b, off, none⟩ ∧ ∀ i (h : i < ts.length), OpAt w b (off + i * 4) ts[i])
theorem OpsIs.below {w w' : World} {v : Value} {ts : List DOp} (h : OpsIs w v ts) (hb : Below w.heap.size w w') : OpsIs w' v ts := by
  obtain ⟨a, len, cap, hv, hl, hc, hm, h⟩ := h
  refine ⟨a, len, cap, hv, hl, hc, hm, ?_⟩
  rcases h with h | ⟨b, off, ha, h⟩
  · exact .inl h
  · exact .inr ⟨b, off, ha, fun i hi => (h i hi).below hb⟩
/-- The k-th act, the slice's address known. -/
theorem OpsIs.at_ {w : World} {a : Option Addr} {len cap : Nat} {ts : List DOp} (h : OpsIs w (.slice a len cap) ts) (k : Nat) (hk : k < len) : ∃ b off t, a = some ⟨b, off, none⟩ ∧ ts[k]? = some t ∧ OpAt w b (off + k * 4) t := by
  obtain ⟨a', len', cap', hv, hl, hc, hm, h⟩ := h
  injection hv with e1 e2 e3
  subst e1 e2 e3
  rcases h with h | ⟨b, off, ha, h⟩
  · rw [h] at hl; simp at hl; omega
  · exact ⟨b, off, ts[k]'(by omega), ha, List.getElem?_eq_getElem (by omega), h k (by omega)⟩
theorem op_snoc? {α : Type} {l : List α} {k : Nat} {x : α} (h : l[k]? = some x) : l.take (k + 1) = l.take k ++ [x] := by
  rw [List.take_add_one, h]; rfl
/-- No act too long. -/
def fewO (nb nf : Nat) (t : DOp) : Bool := decide (t.b.length ≤ nb) && decide (t.fs.length ≤ nf)
def fewD (n nb nf : Nat) (ts : List DOp) : Bool := decide (ts.length ≤ n) && ts.all (fewO nb nf)
theorem op_lens {w : World} {pb pf : Option Addr} {nb cb nf cf : Nat} {t : DOp} (h4 : IsBytes w (.slice pb nb cb) t.b) (h5 : IsFates w (.slice pf nf cf) t.fs) : nb = t.b.length ∧ nf = t.fs.length := by
  obtain ⟨_, _, _, e1, l1, _⟩ := h4
  obtain ⟨_, _, e2, _⟩ := h5
  injection e1 with _ e1
  injection e2 with _ e2
  omega
theorem fewO_no {n m : Nat} {t : DOp} (h : n < t.b.length ∨ m < t.fs.length) : fewO n m t = false := by
  unfold fewO
  rcases h with h | h
  · rw [decide_eq_false (by omega : ¬ t.b.length ≤ n)]; rfl
  · rw [decide_eq_false (by omega : ¬ t.fs.length ≤ m)]; simp
theorem fewO_yes {n m : Nat} {t : DOp} (h : t.b.length ≤ n ∧ t.fs.length ≤ m) : fewO n m t = true := by
  unfold fewO; simp [h]
theorem fewO_is {n m : Nat} {t : DOp} (h : fewO n m t = true) : t.b.length ≤ n ∧ t.fs.length ≤ m := by
  unfold fewO at h; simpa using h
theorem fewD_no {l n m : Nat} {ts : List DOp} {k : Nat} {t : DOp} (h : ts[k]? = some t) (ht : fewO n m t = false) : fewD l n m ts = false := by
  unfold fewD
  have : ts.all (fewO n m) = false := by
    rw [List.all_eq_false]
    exact ⟨t, List.mem_of_getElem? h, by rw [ht]; simp⟩
  rw [this, Bool.and_false]
theorem fewD_is {l n m : Nat} {ts : List DOp} (h : fewD l n m ts = true) : ts.length ≤ l ∧ ∀ t ∈ ts, t.b.length ≤ n ∧ t.fs.length ≤ m := by
  unfold fewD at h
  rw [Bool.and_eq_true, decide_eq_true_eq, List.all_eq_true] at h
  exact ⟨h.1, fun t ht => fewO_is (h.2 t ht)⟩
end Go.Proofs.Ytcnhjbipncledaa
