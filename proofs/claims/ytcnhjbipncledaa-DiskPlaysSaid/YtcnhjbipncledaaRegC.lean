/- A region that draws its order, whose operations that turn the world stand in a chain: the worlds are known beforehand, one for each link. No program. (Printed by regc.py.) -/
import Derived.Test.YtcnhjbipncledaaRegV
namespace Go.Proofs.Ytcnhjbipncledaa
open Go.RowKit

section
variable {P : Program} {ops : Array Oper} {Q : Exit → Act → World → Prop}
/-- Each link waits for the one before it; no link twice; all lie in the region. -/
def chainOk (ops : Array Oper) (ps : List Nat) : Bool :=
  (ps.all fun p => decide (p < ops.size)) && (List.range ps.length).all fun k => (List.range ps.length).all fun l =>
    (decide (k = l) || ps[k]? != ps[l]?) && (decide (l ≠ k + 1) || waitsOn ops (ps.getD l 0) (ps.getD k 0))
theorem chainOk_in {ps : List Nat} (h : chainOk ops ps = true) (p : Nat) (hp : p ∈ ps) : p < ops.size := by
  unfold chainOk at h
  rw [Bool.and_eq_true, List.all_eq_true] at h
  simpa using h.1 p hp
theorem chainOk_spec {ps : List Nat} (h : chainOk ops ps = true) : (∀ (k l : Nat) p, ps[k]? = some p → ps[l]? = some p → k = l) ∧ ∀ (k : Nat) p q, ps[k]? = some p → ps[k + 1]? = some q → waitsOn ops q p = true := by
  unfold chainOk at h
  rw [Bool.and_eq_true, List.all_eq_true] at h
  have h2 := h.2
  rw [List.all_eq_true] at h2
  have key : ∀ k l, k < ps.length → l < ps.length → (k = l ∨ ps[k]? ≠ ps[l]?) ∧ (l ≠ k + 1 ∨ waitsOn ops (ps.getD l 0) (ps.getD k 0) = true) := by
    intro k l hk hl
    have h3 := h2 k (List.mem_range.2 hk)
    rw [List.all_eq_true] at h3
    have h4 := h3 l (List.mem_range.2 hl)
    simpa using h4
  refine ⟨fun k l p hk hl => ?_, fun k p q hp hq => ?_⟩
  · rcases (key k l (List.getElem?_eq_some_iff.1 hk).1 (List.getElem?_eq_some_iff.1 hl).1).1 with h | h
    · exact h
    · exact absurd (hk.trans hl.symm) h
  · rcases (key k (k + 1) (List.getElem?_eq_some_iff.1 hp).1 (List.getElem?_eq_some_iff.1 hq).1).2 with h | h
    · exact absurd rfl h
    · rw [List.getD_eq_getElem?_getD, List.getD_eq_getElem?_getD, hp, hq] at h
      simpa using h
/-- May operation i come up when c links are done? -/
def lowOk (ops : Array Oper) (ps : List Nat) (i c : Nat) : Bool :=
  (List.range ps.length).all fun k => match ps[k]? with
    | some p => (!waitsOn ops i p || decide (k < c)) && (!waitsOn ops p i || decide (c ≤ k)) && (p != i || decide (c ≤ k))
    | none => true
/-- What is known while the region runs. -/
structure Linked (ops : Array Oper) (A : Act) (ps : List Nat) (Ws : Nat → World) (a0 : Act) (listed : Array Bool) (a : Act) (w : World) : Prop where
  size : listed.size = ops.size
  world : ∃ c, c ≤ ps.length ∧ w = Ws c ∧ ∀ k p, ps[k]? = some p → (listed.getD p false = true ↔ k < c)
  defers : a.defers = a0.defers
  tmps : a.tmps.size = a0.tmps.size
  base : ∀ t, (∀ j, dstOf ops j = some t → listed.getD j false = false) → a.tmps[t]? = a0.tmps[t]?
  facts : ∀ j t, dstOf ops j = some t → listed.getD j false = true → a.tmps[t]? = A.tmps[t]?
  closed : ∀ j o, ops[j]? = some o → listed.getD j false = true → ∀ e ∈ o.after, Region.binds .any e = true → listed.getD e.on false = true
/-- THE LAW, whatever a step is. -/
theorem anyG_chain {S : Nat → (Act → World → Prop) → Act → World → Prop} (hS : ∀ i K K' a w, (∀ a w, K a w → K' a w) → S i K a w → S i K' a w) {a0 A : Act} (hokB : regionOkV a0.tmps.size ops = true) (ps : List Nat) (Ws : Nat → World) (hps : chainOk ops ps = true)
    (hsz : A.tmps.size = a0.tmps.size) (hdf : A.defers = a0.defers) (hbase : ∀ t, (∀ j, dstOf ops j ≠ some t) → A.tmps[t]? = a0.tmps[t]?)
    (hop : ∀ i o a c, ops[i]? = some o → c ≤ ps.length → lowOk ops ps i c = true → (∀ cs b, o.op ≠ .select cs b) → (∀ c, o.op ≠ .defer c) → (∀ t ∈ o.looksAt ops, a.tmps[t]? = A.tmps[t]?) →
      S i (fun a' w' => ∃ v, a' = a.put o.dst v ∧ w' = (if ps[c]? = some i then Ws (c + 1) else Ws c) ∧ ∀ t, o.dst = some t → A.tmps.getD t undef = v) a (Ws c))
    (hend : Q .normal A (Ws ps.length)) :
    anyG S .any ops Q ops.size (Array.replicate ops.size false) a0 (Ws 0) := by
  have hok1 : regionOk a0.tmps.size ops = true := by unfold regionOkV at hokB; rw [Bool.and_eq_true] at hokB; exact hokB.1
  have hok := regionOk_spec hok1
  refine anyG_inv hS (Linked ops A ps Ws a0) (fun _ _ _ h => h.size) ?_ ?_ ops.size _ _ _ ?_ ?_
  · intro listed a w i hI hi
    obtain ⟨h1, h2⟩ := List.mem_filter.1 hi
    have hi' := List.mem_range.1 h1
    have ho : ops[i]? = some ops[i] := Array.getElem?_eq_getElem hi'
    have hil : i < listed.size := by rw [hI.size]; exact hi'
    have hf : listed.getD i false = false := by
      simp [hil] at h2
      simp [hil, h2.1]
    have hpre : ∀ e ∈ (ops[i]).after, Region.binds .any e = true → listed.getD e.on false = true := by
      intro e he hbe
      rw [ho] at h2
      simp only [Option.map_some, Option.getD_some, Bool.and_eq_true] at h2
      have := (Array.all_eq_true_iff_forall_mem.1 h2.2) e he
      rw [hbe] at this
      simpa using this
    have hget : ∀ j, (listed.setIfInBounds i true).getD j false = if j = i then true else listed.getD j false := by
      intro j
      by_cases h : j = i
      · subst h; simp [hil]
      · rw [if_neg h]; simp [Ne.symm h]
    obtain ⟨hs1, hs2, hs3⟩ := regionOkV_spec hokB ho
    have hlook : ∀ t ∈ (ops[i]).looksAt ops, a.tmps[t]? = A.tmps[t]? := by
      intro t ht
      by_cases hw : ∃ j, dstOf ops j = some t
      · obtain ⟨j, hj⟩ := hw
        obtain ⟨o', ho', e, he, hbe, hon⟩ := waitsOn_spec (hs3 t ht j hj)
        have : o' = ops[i] := Option.some.inj (ho'.symm.trans ho)
        subst this
        have := hpre e he hbe
        rw [hon] at this
        exact hI.facts j t hj this
      · have hno : ∀ j, dstOf ops j ≠ some t := fun j hj => hw ⟨j, hj⟩
        rw [hbase t hno]
        exact hI.base t (fun j hj => absurd hj (hno j))
    obtain ⟨c, hc, rfl, hpre2⟩ := hI.world
    have hlow : lowOk ops ps i c = true := by
      unfold lowOk
      rw [List.all_eq_true]
      intro k hk
      have hkl := List.mem_range.1 hk
      obtain ⟨p, hp⟩ : ∃ p, ps[k]? = some p := ⟨_, List.getElem?_eq_getElem hkl⟩
      rw [hp]
      have h := hpre2 k p hp
      simp only [Bool.and_eq_true, Bool.or_eq_true, Bool.not_eq_true', decide_eq_true_iff, bne_iff_ne]
      refine ⟨⟨?_, ?_⟩, ?_⟩
      · by_cases hw : waitsOn ops i p = true
        · refine .inr (h.1 ?_)
          obtain ⟨o', ho', e, he, hbe, hon⟩ := waitsOn_spec hw
          have : o' = ops[i] := Option.some.inj (ho'.symm.trans ho)
          subst this
          rw [← hon]; exact hpre e he hbe
        · exact .inl (by simpa using hw)
      · by_cases hw : waitsOn ops p i = true
        · refine .inr (Nat.le_of_not_lt fun hlt => ?_)
          obtain ⟨o', ho', e, he, hbe, hon⟩ := waitsOn_spec hw
          have := hI.closed p o' ho' (h.2 hlt) e he hbe
          rw [hon, hf] at this; cases this
        · exact .inl (by simpa using hw)
      · by_cases hpi : p = i
        · refine .inr (Nat.le_of_not_lt fun hlt => ?_)
          have := h.2 hlt
          rw [hpi, hf] at this; cases this
        · exact .inl hpi
    refine hS i _ _ a _ (fun a' w' hx => ?_) (hop i ops[i] a c ho hc hlow hs1 hs2 hlook)
    obtain ⟨v, ha', hW, hΦ⟩ := hx
    subst ha'
    have hput : ∀ t, (ops[i]).dst ≠ some t → (a.put (ops[i]).dst v).tmps[t]? = a.tmps[t]? := by
      intro t hne
      unfold Act.put
      cases hd : (ops[i]).dst with
      | none => rfl
      | some d =>
        have : d ≠ t := fun e => hne (by rw [hd, e])
        simp [Array.getElem?_setIfInBounds_ne this]
    have hdi : dstOf ops i = (ops[i]).dst := by unfold dstOf; rw [ho]; rfl
    refine ⟨by simp [hI.size], ?_, ?_, ?_, fun t ht => ?_, fun j t hd hl => ?_, fun j o hj hl e he hbe => ?_⟩
    · obtain ⟨hnd, hch⟩ := chainOk_spec hps
      by_cases hin : ps[c]? = some i
      · rw [if_pos hin] at hW
        have hcl := (List.getElem?_eq_some_iff.1 hin).1
        refine ⟨c + 1, hcl, hW, fun k p hp => ?_⟩
        rw [hget]
        by_cases hpi : p = i
        · rw [if_pos hpi]
          have : k = c := hnd k c p hp (by rw [hpi]; exact hin)
          exact ⟨fun _ => by omega, fun _ => rfl⟩
        · rw [if_neg hpi, hpre2 k p hp]
          have : k ≠ c := fun e => hpi (by rw [e, hin] at hp; injection hp with hp; exact hp.symm)
          omega
      · rw [if_neg hin] at hW
        refine ⟨c, hc, hW, fun k p hp => ?_⟩
        rw [hget]
        by_cases hpi : p = i
        · exfalso
          subst hpi
          have h1 : ¬ k < c := fun hlt => by have := (hpre2 k p hp).2 hlt; rw [hf] at this; cases this
          have h2 : k ≤ c := by
            cases k with
            | zero => exact Nat.zero_le _
            | succ k =>
              obtain ⟨q, hq⟩ : ∃ q, ps[k]? = some q := ⟨_, List.getElem?_eq_getElem (by have := (List.getElem?_eq_some_iff.1 hp).1; omega)⟩
              have hw := hch k q p hq hp
              obtain ⟨o', ho', e, he, hbe, hon⟩ := waitsOn_spec hw
              have : o' = ops[p] := Option.some.inj (ho'.symm.trans ho)
              subst this
              have := (hpre2 k q hq).1 (by rw [← hon]; exact hpre e he hbe)
              omega
          have : k = c := by omega
          subst this
          exact hin hp
        · rw [if_neg hpi]; exact hpre2 k p hp
    · rw [← hI.defers]; cases hd : (ops[i]).dst <;> simp [Act.put]
    · rw [← hI.tmps]; cases hd : (ops[i]).dst <;> simp [Act.put]
    · rw [hput t (fun e => by
        have := ht i (by rw [hdi]; exact e)
        rw [hget, if_pos rfl] at this; cases this)]
      refine hI.base t (fun j hj => ?_)
      have := ht j hj
      rw [hget] at this
      by_cases e : j = i
      · rw [if_pos e] at this; cases this
      · rw [if_neg e] at this; exact this
    · by_cases e : j = i
      · subst e
        have hd' : (ops[j]).dst = some t := by rw [← hdi]; exact hd
        have hlt : t < a.tmps.size := by rw [hI.tmps]; exact hok.low j t hd
        have hltA : t < A.tmps.size := by rw [hsz]; exact hok.low j t hd
        have hv := hΦ t hd'
        rw [hd']
        rw [Array.getD_eq_getD_getElem?, Array.getElem?_eq_getElem hltA] at hv
        simp at hv
        simp [Act.put, hlt, hltA, hv]
      · rw [hget, if_neg e] at hl
        have hne : (ops[i]).dst ≠ some t := fun e' => e (hok.one j i t hd (by rw [hdi]; exact e'))
        rw [hput t hne]
        exact hI.facts j t hd hl
    · by_cases ej : j = i
      · subst ej
        have : o = ops[j] := Option.some.inj (hj.symm.trans ho)
        subst this
        rw [hget]
        by_cases e2 : e.on = j
        · rw [if_pos e2]
        · rw [if_neg e2]; exact hpre e he hbe
      · rw [hget, if_neg ej] at hl
        rw [hget]
        by_cases e2 : e.on = i
        · rw [if_pos e2]
        · rw [if_neg e2]; exact hI.closed j o hj hl e he hbe
  · intro listed a w hI hr
    have hall := all_listed hok hI.size hr
    have : a = A := by
      obtain ⟨t, d⟩ := a
      obtain ⟨t', d'⟩ := A
      have hd := hI.defers
      simp only at hd hdf
      rw [hdf, hd]
      congr 1
      apply Array.ext_getElem?
      intro k
      by_cases hw : ∃ j, dstOf ops j = some k
      · obtain ⟨j, hj⟩ := hw
        exact hI.facts j k hj (hall j (dst_lt hj))
      · have hno : ∀ j, dstOf ops j ≠ some k := fun j hj => hw ⟨j, hj⟩
        exact (hI.base k (fun j hj => absurd hj (hno j))).trans (hbase k hno).symm
    rw [this]
    obtain ⟨c, hc, rfl, hpre2⟩ := hI.world
    have : c = ps.length := by
      rcases Nat.lt_or_ge c ps.length with hlt | hge
      · have hp := hpre2 c ps[c] (List.getElem?_eq_getElem hlt)
        obtain ⟨_, hch⟩ := chainOk_spec hps
        have hin : ps[c] < ops.size := chainOk_in hps _ (List.getElem_mem hlt)
        have := hp.1 (hall _ hin)
        omega
      · omega
    rw [this]
    exact hend
  · unfold undone
    exact Nat.le_trans List.countP_le_length (by simp)
  · refine ⟨by simp, ⟨0, Nat.zero_le _, rfl, fun k p hp => ?_⟩, rfl, rfl, fun _ _ => rfl, fun j t hd hl => ?_, fun j o hj hl => ?_⟩
    · by_cases hj : p < ops.size
      · simp [hj]
      · simp [hj]
    · have hj := dst_lt hd
      simp [hj] at hl
    · have hj' := (Array.getElem?_eq_some_iff.1 hj).1
      simp [hj'] at hl
/-- What each operation does, in each world in which it may come up. -/
def OpsDoC (P : Program) (ops : Array Oper) (A : Act) (ps : List Nat) (Ws : Nat → World) (i : Nat) (o : Oper) : List Nat → Prop
  | [] => True
  | c :: cs => (lowOk ops ps i c = true → OpDo P ops A (fun _ b => b = (if ps[c]? = some i then Ws (c + 1) else Ws c)) o (Ws c)) ∧ OpsDoC P ops A ps Ws i o cs
theorem OpsDoC.at_ {A : Act} {ps : List Nat} {Ws : Nat → World} {i : Nat} {o : Oper} {l : List Nat} (h : OpsDoC P ops A ps Ws i o l) (c : Nat) (hc : c ∈ l) (hl : lowOk ops ps i c = true) : OpDo P ops A (fun _ b => b = (if ps[c]? = some i then Ws (c + 1) else Ws c)) o (Ws c) := by
  induction l with
  | nil => cases hc
  | cons x l ih =>
    obtain ⟨h1, h2⟩ := h
    rcases List.mem_cons.1 hc with e | e
    · subst e; exact h1 hl
    · exact ih h2 e
/-- THE LAW. -/
theorem wp_region_chain {id : Nat} {a0 A : Act} {w0 : World} (hm : P.follows .mixedOrders = true) (hokB : regionOkV a0.tmps.size ops = true) (ps : List Nat) (hps : chainOk ops ps = true) (Ws : Nat → World) (h0 : Ws 0 = w0.drew) (vs : List Value) (hA : putAll ops.toList vs a0 = A)
    (hop : ∀ i o, ops[i]? = some o → OpsDoC P ops A ps Ws i o (List.range (ps.length + 1)))
    (hend : Q .normal A (Ws ps.length)) : (Code.region id ops true).wp P Q a0 w0 := by
  obtain ⟨h1, h2, h3⟩ := putAll_base hA
  refine wp_region_any hm (any_of_G _ _ _ w0.drew ?_)
  rw [← h0]
  refine anyG_chain (S := wpOp P ops Q) (fun _ _ _ _ _ h hh => wpOp_mono h hh) hokB ps Ws hps h1 h2 h3 ?_ hend
  intro i o a c ho hc hlow hns _ hlook
  have hdo := (hop i o ho).at_ c (List.mem_range.2 (by omega)) hlow
  unfold OpDo at hdo
  rw [← wanted_congr o hlook, ← exec_congr o hns hlook] at hdo
  unfold wpOp
  rw [ho]
  simp only []
  by_cases hw : Region.wanted o (yielded ops a.tmps) = true
  · rw [if_pos hw] at hdo ⊢
    refine .inl ?_
    unfold Oper.wp
    generalize (execOp a.eval o).run P (Ws c) = r at *
    cases r with
    | ok x w' =>
      cases x with
      | value v => exact ⟨v, rfl, hdo⟩
      | skip => exact ⟨undef, rfl, hdo⟩
      | enter f args =>
        refine Calls.mono hdo ?_
        rintro e w'' ⟨v, rfl, h⟩
        exact ⟨v, rfl, h⟩
      | _ => exact hdo.elim
    | halt x w' => exact hdo.elim
  · rw [if_neg hw] at hdo ⊢
    exact ⟨undef, rfl, hdo⟩
end
end Go.Proofs.Ytcnhjbipncledaa
