/- The things of chapter 12's statements in memory; few. -/
import Derived.Test.YtajnhmkkgngbhaaRef12W
namespace Go.Proofs.Ytajnhmkkgngbhaa
open Go.RowKit
open Pack (form zig leB un eight formI formT formL room)

/-- A thing. -/
structure Th where
  kind : Int
  u : Nat
  n : Int
  x : Int
  b : List (BitVec 8)
  l : List Int
  f : List Int
/-- Seven cells hold a thing. -/
structure ThIs (w : World) (vb vl vf : Value) (t : Th) : Prop where
  u : t.u < 18446744073709551616
  n : -9223372036854775808 ≤ t.n ∧ t.n ≤ 9223372036854775807
  l : ∀ x ∈ t.l, -9223372036854775808 ≤ x ∧ x ≤ 9223372036854775807
  b : IsBytes w vb t.b
  li : Reads w vl (t.l.map intV)
  fi : Reads w vf (t.f.map intV)
  x : -9223372036854775808 ≤ t.x ∧ t.x ≤ 9223372036854775807
  f : ∀ x ∈ t.f, -9223372036854775808 ≤ x ∧ x ≤ 9223372036854775807
theorem ThIs.below {w w' : World} {vb vl vf : Value} {t : Th} (h : ThIs w vb vl vf t) (hb : Below w.heap.size w w') : ThIs w' vb vl vf t :=
  ⟨h.u, h.n, h.l, h.b.below hb, h.li.below hb, h.fi.below hb, h.x, h.f⟩
/-- A thing at a place. -/
def ThAt (w : World) (b o : Nat) (t : Th) : Prop :=
  ∃ (pb pl pf : Option Addr) (nb cb nl cl nf cf : Nat), w.cell? ⟨b, o, none⟩ = some (.int .i64 t.kind) ∧ w.cell? ⟨b, o + 1, none⟩ = some (.int .u64 t.u) ∧ w.cell? ⟨b, o + 2, none⟩ = some (.int .i64 t.n) ∧ w.cell? ⟨b, o + 3, none⟩ = some (.int .i64 t.x) ∧
      w.cell? ⟨b, o + 4, none⟩ = some (.slice pb nb cb) ∧ w.cell? ⟨b, o + 5, none⟩ = some (.slice pl nl cl) ∧ w.cell? ⟨b, o + 6, none⟩ = some (.slice pf nf cf) ∧ ThIs w (.slice pb nb cb) (.slice pl nl cl) (.slice pf nf cf) t
theorem ThAt.below {w w' : World} {b o : Nat} {t : Th} (h : ThAt w b o t) (hb : Below w.heap.size w w') : ThAt w' b o t := by
  obtain ⟨pb, pl, pf, nb, cb, nl, cl, nf, cf, h0, h1, h2, h3, h4, h5, h6, ht⟩ := h
  have hlt := cell_lt h0
  have k : ∀ o, w'.cell? ⟨b, o, none⟩ = w.cell? ⟨b, o, none⟩ := fun o => hb.cell (p := ⟨b, o, none⟩) hlt
  exact ⟨pb, pl, pf, nb, cb, nl, cl, nf, cf, (k _).trans h0, (k _).trans h1, (k _).trans h2, (k _).trans h3, (k _).trans h4, (k _).trans h5, (k _).trans h6, ht.below hb⟩
/-- The value is a slice of things that reads as these. -/
def ThsIs (w : World) (v : Value) (ts : List Th) : Prop :=
  ∃ a len cap, v = .slice a len cap ∧ len = ts.length ∧ len ≤ cap ∧ cap ≤ 9223372036854775807 ∧ (ts = [] ∨ ∃ b off, a = some ⟨b, off, none⟩ ∧ ∀ i (h : i < ts.length), ThAt w b (off + i * 7) ts[i])
theorem ThsIs.below {w w' : World} {v : Value} {ts : List Th} (h : ThsIs w v ts) (hb : Below w.heap.size w w') : ThsIs w' v ts := by
  obtain ⟨a, len, cap, hv, hl, hc, hm, h⟩ := h
  refine ⟨a, len, cap, hv, hl, hc, hm, ?_⟩
  rcases h with h | ⟨b, off, ha, h⟩
  · exact .inl h
  · exact .inr ⟨b, off, ha, fun i hi => (h i hi).below hb⟩
/-- The k-th thing, the slice's address known. -/
theorem ThsIs.at_ {w : World} {a : Option Addr} {len cap : Nat} {ts : List Th} (h : ThsIs w (.slice a len cap) ts) (k : Nat) (hk : k < len) : ∃ b off t, a = some ⟨b, off, none⟩ ∧ ts[k]? = some t ∧ ThAt w b (off + k * 7) t := by
  obtain ⟨a', len', cap', hv, hl, hc, hm, h⟩ := h
  injection hv with e1 e2 e3
  subst e1 e2 e3
  rcases h with h | ⟨b, off, ha, h⟩
  · rw [h] at hl; simp at hl; omega
  · exact ⟨b, off, ts[k]'(by omega), ha, List.getElem?_eq_getElem (by omega), h k (by omega)⟩
theorem take_snoc? {α : Type} {l : List α} {k : Nat} {x : α} (h : l[k]? = some x) : l.take (k + 1) = l.take k ++ [x] := by
  rw [List.take_add_one, h]; rfl
def fewB (ts : List Th) : Bool := decide (ts.length ≤ 40) && ts.all fun t => decide (t.b.length ≤ 300) && decide (t.l.length ≤ 100) && decide (t.f.length ≤ 100)
def fewT (t : Th) : Bool := decide (t.b.length ≤ 300) && decide (t.l.length ≤ 100) && decide (t.f.length ≤ 100)
theorem fewB_eq (ts : List Th) : fewB ts = (decide (ts.length ≤ 40) && ts.all fewT) := rfl
theorem ThIs.lens {w : World} {pb pl pf : Option Addr} {nb cb nl cl nf cf : Nat} {t : Th} (h : ThIs w (.slice pb nb cb) (.slice pl nl cl) (.slice pf nf cf) t) : nb = t.b.length ∧ nl = t.l.length ∧ nf = t.f.length := by
  obtain ⟨_, _, _, h1, h2, h3, _, _⟩ := h
  obtain ⟨_, _, _, e1, l1, _⟩ := h1
  obtain ⟨_, _, _, e2, l2, _⟩ := h2
  obtain ⟨_, _, _, e3, l3, _⟩ := h3
  injection e1 with _ e1
  injection e2 with _ e2
  injection e3 with _ e3
  rw [List.length_map] at l2 l3
  omega
theorem fewT_no {t : Th} (h : 300 < t.b.length ∨ 100 < t.l.length ∨ 100 < t.f.length) : fewT t = false := by
  unfold fewT
  rcases h with h | h | h
  · rw [decide_eq_false (by omega : ¬ t.b.length ≤ 300)]; rfl
  · rw [decide_eq_false (by omega : ¬ t.l.length ≤ 100)]; simp
  · rw [decide_eq_false (by omega : ¬ t.f.length ≤ 100)]; simp
theorem fewT_yes {t : Th} (h : t.b.length ≤ 300 ∧ t.l.length ≤ 100 ∧ t.f.length ≤ 100) : fewT t = true := by
  unfold fewT; simp [h]
theorem few_no {ts : List Th} {k : Nat} {t : Th} (h : ts[k]? = some t) (ht : fewT t = false) : fewB ts = false := by
  rw [fewB_eq]
  have : ts.all fewT = false := by
    rw [List.all_eq_false]
    exact ⟨t, List.mem_of_getElem? h, by rw [ht]; simp⟩
  rw [this, Bool.and_false]
set_option maxHeartbeats 1000000 in
theorem few_any (v : Value) (ts : List Th) (w : World) (hv : ThsIs w v ts) :
    Calls Try.prog 13 #[v] w fun e w' => e = .returned (.bool (fewB ts)) ∧ Below w.heap.size w w' := by
  have H := Lib.hid hv
  obtain ⟨a, len, cap, rfl, hl, hc, hm, _⟩ := hv
  have HL := Lib.hid hl
  clear hl
  by_cases h40 : 40 < len
  · have hf : fewB ts = false := by rw [fewB_eq, decide_eq_false (by have := HL.out; omega)]; rfl
    have HF := Lib.hid hf
    clear hf
    go_enter Try.func13, Try.ntmps13
    go_wp2
    go_ret
    exact ⟨by rw [HF.out]; rfl, Below.refl _ _⟩
  · go_enter Try.func13, Try.ntmps13
    go_wp2
    go_loopw [4, 10] (fun _ i wr => ∃ k : Nat, i = .int .i64 k ∧ k ≤ len ∧ Hid ((ts.take k).all fewT = true) ∧ Hid (Below w.heap.size w wr)) (fun _ i _ => len - (intOf i).toNat)
    case atStart => exact ⟨0, rfl, Nat.zero_le _, rfl, Below.refl _ _⟩
    case round =>
      obtain ⟨k, rfl, hk, hall, hb⟩ := hrel
      by_cases hlt : k < len
      · obtain ⟨b, off, t, rfl, htk, hat⟩ := H.out.at_ k hlt
        have hat' := hat.below hb.out
        obtain ⟨pb, pl, pf, nb, cb, nl, cl, nf, cf, h0, h1, h2, h3, h4, h5, h6, ht⟩ := hat'
        have HT := Lib.hid ht
        have HTK := Lib.hid htk
        clear ht hat htk
        go_wp2
        all_goals
          have HLN := HT.out.lens
          first
            | (go_ret
               refine ⟨?_, hb.out.alloc hb.out.size _⟩
               rw [few_no HTK.out (fewT_no (by omega))]
               rfl)
            | exact ⟨⟨k + 1, by go_num, by omega, by unfold Hid; rw [take_snoc? HTK.out, List.all_append, hall.out, List.all_cons, fewT_yes (by omega)]; rfl, hb.out.alloc hb.out.size _⟩, by simp [intOf]; omega⟩
      · have hkl : k = ts.length := by have := HL.out; omega
        have hf : fewB ts = true := by
          have := hall.out
          rw [hkl, List.take_length] at this
          rw [fewB_eq, this, decide_eq_true (by omega)]; rfl
        have HF := Lib.hid hf
        clear hkl hf
        go_wp2
        go_ret
        exact ⟨by rw [HF.out]; rfl, hb.out⟩
end Go.Proofs.Ytajnhmkkgngbhaa
