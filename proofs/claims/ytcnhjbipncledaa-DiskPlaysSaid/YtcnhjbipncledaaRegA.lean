/- The law of Reg2 once more, with marks that may look at the activation's slots. No program. (Printed by rega.py.) -/
import Derived.Test.YtcnhjbipncledaaReg2
namespace Go.Proofs.Ytcnhjbipncledaa
open Go.RowKit

section
variable {P : Program} {ops : Array Oper} {Q : Exit → Act → World → Prop}
/-- What is known while the region runs. -/
structure MarkedA (ops : Array Oper) (Φ : Nat → Value → World → Prop) (Ψ : Nat → Act → World → Prop) (R : World → World → Prop) (a0 : Act) (w0 : World) (listed : Array Bool) (a : Act) (w : World) : Prop where
  size : listed.size = ops.size
  world : R w0 w
  defers : a.defers = a0.defers
  tmps : a.tmps.size = a0.tmps.size
  base : ∀ t, (∀ j, dstOf ops j = some t → listed.getD j false = false) → a.tmps[t]? = a0.tmps[t]?
  facts : ∀ j t, dstOf ops j = some t → listed.getD j false = true → Φ t (a.tmps.getD t undef) w
  marks : ∀ j, listed.getD j false = true → Ψ j a w
  closed : ∀ j o, ops[j]? = some o → listed.getD j false = true → ∀ e ∈ o.after, Region.binds .any e = true → listed.getD e.on false = true

/-- THE LAW. -/
theorem wp_region_marksA {id : Nat} {a0 : Act} {w0 : World} (hm : P.follows .mixedOrders = true) (hokB : regionOkm a0.tmps.size ops = true) (Φ : Nat → Value → World → Prop) (Ψ : Nat → Act → World → Prop) (R : World → World → Prop)
    (htr : ∀ {w w'}, R w0 w → R w w' → R w0 w') (h0 : R w0 w0.drew) (hkeep : ∀ t v w w', R w0 w → Φ t v w → R w w' → Φ t v w') (hkept : ∀ j a w w', R w0 w → Ψ j a w → R w w' → Ψ j a w') (hstay : ∀ i j o v a w, ops[i]? = some o → j < ops.size → i ≠ j → waitsOn ops j i = false → Ψ j a w → Ψ j (a.put o.dst v) w)
    (hop : ∀ i o a w, ops[i]? = some o → R w0 w → a.defers = a0.defers → a.tmps.size = a0.tmps.size →
      (∀ t, (∀ j, dstOf ops j = some t → i ≤ j) → t ∈ o.looksAt ops → a.tmps.getD t undef = a0.tmps.getD t undef) →
      (∀ j t, dstOf ops j = some t → waitsOn ops i j = true → Φ t (a.tmps.getD t undef) w) →
      wpOp P ops Q i (fun a' w' => ∃ v, a' = a.put o.dst v ∧ R w w' ∧ (∀ t, o.dst = some t → Φ t v w') ∧ Ψ i a' w') a w)
    (hend : ∀ a w, R w0 w → a.defers = a0.defers → a.tmps.size = a0.tmps.size → (∀ t, (∀ j, dstOf ops j ≠ some t) → a.tmps.getD t undef = a0.tmps.getD t undef) →
      (∀ j t, dstOf ops j = some t → Φ t (a.tmps.getD t undef) w) → (∀ j, j < ops.size → Ψ j a w) → Q .normal a w) :
    (Code.region id ops true).wp P Q a0 w0 := by
  have hok := regionOkm_spec hokB
  refine wp_region_any hm (wpAny_inv (MarkedA ops Φ Ψ R a0 w0) (fun _ _ _ h => h.size) ?_ ?_ ops.size _ _ _ ?_ ?_)
  · intro listed a w i hI hi
    obtain ⟨h1, h2⟩ := List.mem_filter.1 hi
    have hi' := List.mem_range.1 h1
    have ho : ops[i]? = some ops[i] := Array.getElem?_eq_getElem hi'
    have hil : i < listed.size := by rw [hI.size]; exact hi'
    have hf : listed.getD i false = false := by
      simp [hil] at h2
      simp [hil, h2.1]
    have hpre : ∀ e ∈ (ops[i]).after, Region.binds .any e = true → listed.getD e.on false = true := by
      intro e he hbe
      rw [ho] at h2
      simp only [Option.map_some, Option.getD_some, Bool.and_eq_true] at h2
      have := (Array.all_eq_true_iff_forall_mem.1 h2.2) e he
      rw [hbe] at this
      simpa using this
    have hget : ∀ j, (listed.setIfInBounds i true).getD j false = if j = i then true else listed.getD j false := by
      intro j
      by_cases h : j = i
      · subst h; simp [hil]
      · rw [if_neg h]; simp [Ne.symm h]
    have hbase : ∀ t, (∀ j, dstOf ops j = some t → i ≤ j) → t ∈ (ops[i]).looksAt ops → a.tmps.getD t undef = a0.tmps.getD t undef := by
      intro t ht hl
      have := hI.base t (fun j hj => by
        have hij := ht j hj
        rcases Nat.lt_or_ge i j with hlt | hge
        · have hw := hok.late j i _ t hlt hj ho hl
          obtain ⟨o', ho', e, he, hbe, hon⟩ := waitsOn_spec hw
          cases hc : listed.getD j false with
          | false => rfl
          | true =>
            have := hI.closed j o' ho' hc e he hbe
            rw [hon, hf] at this; cases this
        · have : j = i := by omega
          subst this; exact hf)
      rw [Array.getD_eq_getD_getElem?, Array.getD_eq_getD_getElem?, this]
    have hfact : ∀ j t, dstOf ops j = some t → waitsOn ops i j = true → Φ t (a.tmps.getD t undef) w := by
      intro j t hd hw
      obtain ⟨o', ho', e, he, hbe, hon⟩ := waitsOn_spec hw
      have : o' = ops[i] := Option.some.inj (ho'.symm.trans ho)
      subst this
      have := hpre e he hbe
      rw [hon] at this
      exact hI.facts j t hd this
    refine wpOp_mono (fun a' w' hx => ?_) (hop i ops[i] a w ho hI.world hI.defers hI.tmps hbase hfact)
    obtain ⟨v, ha', hR, hΦ, hΨ⟩ := hx
    · subst ha'
      have hput : ∀ t, (ops[i]).dst ≠ some t → (a.put (ops[i]).dst v).tmps[t]? = a.tmps[t]? := by
        intro t hne
        unfold Act.put
        cases hd : (ops[i]).dst with
        | none => rfl
        | some d =>
          have : d ≠ t := fun e => hne (by rw [hd, e])
          simp [Array.getElem?_setIfInBounds_ne this]
      have hdi : dstOf ops i = (ops[i]).dst := by unfold dstOf; rw [ho]; rfl
      refine ⟨by simp [hI.size], htr hI.world hR, ?_, ?_, fun t ht => ?_, fun j t hd hl => ?_, fun j hl => ?_, fun j o hj hl e he hbe => ?_⟩
      · rw [← hI.defers]; cases hd : (ops[i]).dst <;> simp [Act.put]
      · rw [← hI.tmps]; cases hd : (ops[i]).dst <;> simp [Act.put]
      · rw [hput t (fun e => by
          have := ht i (by rw [hdi]; exact e)
          rw [hget, if_pos rfl] at this; cases this)]
        refine hI.base t (fun j hj => ?_)
        have := ht j hj
        rw [hget] at this
        by_cases e : j = i
        · rw [if_pos e] at this; cases this
        · rw [if_neg e] at this; exact this
      · by_cases e : j = i
        · subst e
          have hd' : (ops[j]).dst = some t := by rw [← hdi]; exact hd
          have hv : (a.put (ops[j]).dst v).tmps.getD t undef = v := by
            have hlt : t < a.tmps.size := by rw [hI.tmps]; exact hok.low j t hd
            rw [hd']
            simp [Act.put, hlt]
          rw [hv]
          exact hΦ t hd'
        · rw [hget, if_neg e] at hl
          have hne : (ops[i]).dst ≠ some t := fun e' => e (hok.one j i t hd (by rw [hdi]; exact e'))
          have hv : (a.put (ops[i]).dst v).tmps.getD t undef = a.tmps.getD t undef := by
            rw [Array.getD_eq_getD_getElem?, Array.getD_eq_getD_getElem?, hput t hne]
          rw [hv]
          exact hkeep t _ w w' hI.world (hI.facts j t hd hl) hR
      · by_cases e : j = i
        · subst e; exact hΨ
        · rw [hget, if_neg e] at hl
          have hjs : j < ops.size := by
            rcases Nat.lt_or_ge j ops.size with h | h
            · exact h
            · have hsz := hI.size
              rw [Array.getD_eq_getD_getElem?, Array.getElem?_eq_none (by omega)] at hl
              cases hl
          refine hstay i j _ v _ _ ho hjs (Ne.symm e) ?_ (hkept j _ w w' hI.world (hI.marks j hl) hR)
          cases hw : waitsOn ops j i with
          | false => rfl
          | true =>
            obtain ⟨o', ho', e', he', hbe', hon'⟩ := waitsOn_spec hw
            have := hI.closed j o' ho' hl e' he' hbe'
            rw [hon', hf] at this; cases this
      · by_cases ej : j = i
        · subst ej
          have : o = ops[j] := Option.some.inj (hj.symm.trans ho)
          subst this
          rw [hget]
          by_cases e2 : e.on = j
          · rw [if_pos e2]
          · rw [if_neg e2]; exact hpre e he hbe
        · rw [hget, if_neg ej] at hl
          rw [hget]
          by_cases e2 : e.on = i
          · rw [if_pos e2]
          · rw [if_neg e2]; exact hI.closed j o hj hl e he hbe
  · intro listed a w hI hr
    have hall := all_listed_m hok hI.size hr
    refine hend a w hI.world hI.defers hI.tmps (fun t ht => ?_) (fun j t hd => hI.facts j t hd (hall j (dst_lt hd))) (fun j hj => hI.marks j (hall j hj))
    have := hI.base t (fun j hj => absurd hj (ht j))
    rw [Array.getD_eq_getD_getElem?, Array.getD_eq_getD_getElem?, this]
  · unfold undone
    exact Nat.le_trans List.countP_le_length (by simp)
  · refine ⟨by simp, h0, rfl, rfl, fun _ _ => rfl, fun j t hd hl => ?_, fun j hl => ?_, fun j o hj hl => ?_⟩
    · have hj := dst_lt hd
      simp [hj] at hl
    · by_cases hj : j < ops.size
      · simp [hj] at hl
      · simp [hj] at hl
    · have hj' := (Array.getElem?_eq_some_iff.1 hj).1
      simp [hj'] at hl
/-- Operations, ready for use. -/
theorem op_value_a {i : Nat} {o : Oper} {a : Act} {w w' : World} {v : Value} {R : World → World → Prop} {Φ : Nat → Value → World → Prop} {Ψ : Nat → Act → World → Prop} (ho : ops[i]? = some o) (hg : o.guard = none)
    (hrun : (execOp a.eval o).run P w = .ok (.value v) w') (hR : R w w') (hΦ : ∀ t, o.dst = some t → Φ t v w') (hΨ : Ψ i (a.put o.dst v) w') :
    wpOp P ops Q i (fun a' w' => ∃ v, a' = a.put o.dst v ∧ R w w' ∧ (∀ t, o.dst = some t → Φ t v w') ∧ Ψ i a' w') a w := by
  unfold wpOp
  rw [ho]
  simp only []
  rw [if_pos (by simp [Region.wanted, hg])]
  refine .inl ?_
  unfold Oper.wp
  rw [hrun]
  exact ⟨v, rfl, hR, hΦ, hΨ⟩
theorem op_skip_a {i : Nat} {o : Oper} {a : Act} {w w' : World} {R : World → World → Prop} {Φ : Nat → Value → World → Prop} {Ψ : Nat → Act → World → Prop} (ho : ops[i]? = some o) (hg : o.guard = none)
    (hrun : (execOp a.eval o).run P w = .ok .skip w') (hR : R w w') (hd : o.dst = none) (hΨ : Ψ i (a.put o.dst undef) w') :
    wpOp P ops Q i (fun a' w' => ∃ v, a' = a.put o.dst v ∧ R w w' ∧ (∀ t, o.dst = some t → Φ t v w') ∧ Ψ i a' w') a w := by
  unfold wpOp
  rw [ho]
  simp only []
  rw [if_pos (by simp [Region.wanted, hg])]
  refine .inl ?_
  unfold Oper.wp
  rw [hrun]
  exact ⟨undef, rfl, hR, fun t ht => (by rw [hd] at ht; cases ht), hΨ⟩
theorem op_call_a {i : Nat} {o : Oper} {a : Act} {w w1 : World} {f : FuncId} {args : Array Value} {R : World → World → Prop} {Φ : Nat → Value → World → Prop} {Ψ : Nat → Act → World → Prop} (ho : ops[i]? = some o) (hg : o.guard = none)
    (hrun : (execOp a.eval o).run P w = .ok (.enter f args) w1) (hc : Calls P f args w1 fun e w' => ∃ v, e = .returned v ∧ R w w' ∧ (∀ t, o.dst = some t → Φ t v w') ∧ Ψ i (a.put o.dst v) w') :
    wpOp P ops Q i (fun a' w' => ∃ v, a' = a.put o.dst v ∧ R w w' ∧ (∀ t, o.dst = some t → Φ t v w') ∧ Ψ i a' w') a w := by
  unfold wpOp
  rw [ho]
  simp only []
  rw [if_pos (by simp [Region.wanted, hg])]
  refine .inl ?_
  unfold Oper.wp
  rw [hrun]
  refine Calls.mono hc ?_
  rintro e w' ⟨v, rfl, hR, hΦ⟩
  exact ⟨v, rfl, hR, hΦ⟩
end
end Go.Proofs.Ytcnhjbipncledaa
