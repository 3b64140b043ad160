/- A region that draws its order, by facts on its slots: what an operation leaves in its slot is said once, under what those that it waits for have left, whatever else has been done; so that no order is ever branched over. No program. -/
import Derived.Test.YtcnhjbipncledaaBase
import Derived.Orders
namespace Go.Proofs.Ytcnhjbipncledaa
open Go.RowKit

section
variable {P : Program} {ops : Array Oper} {Q : Exit → Act → World → Prop}

/-- How many operations are not done. -/
def undone (ops : Array Oper) (listed : Array Bool) : Nat := (List.range ops.size).countP fun i => !listed.getD i false
theorem undone_set {listed : Array Bool} {i : Nat} (hs : listed.size = ops.size) (hi : i < ops.size) (hf : listed.getD i false = false) : undone ops (listed.setIfInBounds i true) + 1 = undone ops listed := by
  unfold undone
  have hget : ∀ j, (listed.setIfInBounds i true).getD j false = if j = i then true else listed.getD j false := by
    intro j
    by_cases h : j = i
    · subst h; simp [hs, hi]
    · rw [if_neg h]; simp [Ne.symm h]
  simp only [hget]
  have key : ∀ l : List Nat, l.Nodup → i ∈ l → (l.countP fun j => !(if j = i then true else listed.getD j false)) + 1 = l.countP fun j => !listed.getD j false := by
    intro l
    induction l with
    | nil => intro _ h; cases h
    | cons x l ih =>
      intro hnd hm
      obtain ⟨hx, hnd'⟩ := List.nodup_cons.1 hnd
      rw [List.countP_cons, List.countP_cons]
      by_cases hxi : x = i
      · subst hxi
        have hout : (l.countP fun j => !(if j = x then true else listed.getD j false)) = l.countP fun j => !listed.getD j false := by
          apply List.countP_congr
          intro j hj
          have : ¬ j = x := fun e => hx (e ▸ hj)
          simp [this]
        rw [hout]
        rw [hf]
        simp
      · have hm' : i ∈ l := by
          rcases List.mem_cons.1 hm with e | e
          · exact absurd e.symm hxi
          · exact e
        rw [if_neg hxi, ← ih hnd' hm']
        omega
  exact key _ List.nodup_range (List.mem_range.2 hi)
theorem wpAny_inv {md : Region.Mode} (I : Array Bool → Act → World → Prop) (hsize : ∀ listed a w, I listed a w → listed.size = ops.size)
    (hstep : ∀ listed a w i, I listed a w → i ∈ Region.ready md ops listed → wpOp P ops Q i (I (listed.setIfInBounds i true)) a w)
    (hend : ∀ listed a w, I listed a w → Region.ready md ops listed = [] → Q .normal a w) :
    ∀ (fuel : Nat) (listed : Array Bool) (a : Act) (w : World), undone ops listed ≤ fuel → I listed a w → wpAny P md ops Q fuel listed a w := by
  intro fuel
  induction fuel with
  | zero =>
    intro listed a w hu hI
    have hr : Region.ready md ops listed = [] := by
      unfold Region.ready
      rw [List.filter_eq_nil_iff]
      intro i hi hcon
      have h0 : undone ops listed = 0 := by omega
      unfold undone at h0
      rw [List.countP_eq_zero] at h0
      have := h0 i hi
      simp at hcon this
      have hs := hsize _ _ _ hI
      have hi' : i < listed.size := by rw [hs]; exact List.mem_range.1 hi
      simp [hi'] at hcon this
      rw [this] at hcon
      simp at hcon
    exact ⟨hr, hend _ _ _ hI hr⟩
  | succ fuel ih =>
    intro listed a w hu hI
    refine ⟨fun hr => hend _ _ _ hI hr, fun i hi => wpOp_mono (fun a' w' h => ih _ a' w' ?_ h) (hstep _ _ _ _ hI hi)⟩
    have hs := hsize _ _ _ hI
    obtain ⟨h1, h2⟩ := List.mem_filter.1 hi
    have hi' := List.mem_range.1 h1
    have hf : listed.getD i false = false := by
      have hil : i < listed.size := by rw [hs]; exact hi'
      simp [hil] at h2
      simp [hil, h2.1]
    have := undone_set (ops := ops) hs hi' hf
    omega

/-- The slot that operation i writes. -/
def dstOf (ops : Array Oper) (i : Nat) : Option Tmp := (ops[i]?).bind (·.dst)
/-- Operation j waits for operation i. -/
def waitsOn (ops : Array Oper) (j i : Nat) : Bool := ((ops[j]?).map fun o => o.after.any fun e => Region.binds .any e && e.on == i).getD false
/-- Every edge leads to an elder operation; no two operations write one slot; who writes a slot that an elder one looks at waits for it; the slots lie in the frame. -/
def regionOk (n : Nat) (ops : Array Oper) : Bool :=
  (List.range ops.size).all fun i => (((ops[i]?).map fun o => o.after.all fun e => decide (e.on < i)).getD true) &&
    (((dstOf ops i).map fun t => decide (t < n)).getD true) &&
    (List.range i).all fun j => (dstOf ops i).isNone || (dstOf ops i != dstOf ops j &&
      (waitsOn ops i j || !(((ops[j]?).map fun o => ((dstOf ops i).map fun t => (o.looksAt ops).contains t).getD false).getD false)))
structure RegionOk (n : Nat) (ops : Array Oper) : Prop where
  back : ∀ i (o : Oper), ops[i]? = some o → ∀ e ∈ o.after, e.on < i
  low : ∀ i t, dstOf ops i = some t → t < n
  one : ∀ i j d, dstOf ops i = some d → dstOf ops j = some d → i = j
  late : ∀ i j (o : Oper) t, j < i → dstOf ops i = some t → ops[j]? = some o → t ∈ o.looksAt ops → waitsOn ops i j = true
theorem dst_lt {i : Nat} {d : Tmp} (hd : dstOf ops i = some d) : i < ops.size := by
  unfold dstOf at hd
  rcases Nat.lt_or_ge i ops.size with h1 | h1
  · exact h1
  · rw [Array.getElem?_eq_none h1] at hd; cases hd
theorem regionOk_spec {n : Nat} (h : regionOk n ops = true) : RegionOk n ops := by
  unfold regionOk at h
  rw [List.all_eq_true] at h
  have lt : ∀ {i : Nat} {o : Oper}, ops[i]? = some o → i < ops.size := fun {i o} ho => (Array.getElem?_eq_some_iff.1 ho).1
  have half : ∀ i j d, j < i → dstOf ops i = some d → dstOf ops j = some d → False := by
    intro i j d hji hi hj
    have := h i (List.mem_range.2 (dst_lt hi))
    rw [Bool.and_eq_true, List.all_eq_true] at this
    have h2 := this.2 j (List.mem_range.2 hji)
    rw [hi, hj] at h2
    simp at h2
  refine ⟨fun i o ho e he => ?_, fun i t hd => ?_, fun i j d hi hj => ?_, fun i j o t hji hi ho ht => ?_⟩
  · have := h i (List.mem_range.2 (lt ho))
    rw [Bool.and_eq_true, Bool.and_eq_true] at this
    have h1 := this.1.1
    rw [ho] at h1
    simp only [Option.map_some, Option.getD_some] at h1
    have := (Array.all_eq_true_iff_forall_mem.1 h1) e he
    simpa using this
  · have := h i (List.mem_range.2 (dst_lt hd))
    rw [Bool.and_eq_true, Bool.and_eq_true] at this
    have h1 := this.1.2
    rw [hd] at h1
    simpa using h1
  · rcases Nat.lt_trichotomy i j with h1 | h1 | h1
    · exact (half j i d h1 hj hi).elim
    · exact h1
    · exact (half i j d h1 hi hj).elim
  · have := h i (List.mem_range.2 (dst_lt hi))
    rw [Bool.and_eq_true, List.all_eq_true] at this
    have h2 := this.2 j (List.mem_range.2 hji)
    rw [hi, ho] at h2
    simp only [Option.isNone_some, Bool.false_or, Bool.and_eq_true, Option.map_some, Option.getD_some, Bool.or_eq_true, Bool.not_eq_true'] at h2
    rcases h2.2 with h3 | h3
    · exact h3
    · rw [List.contains_eq_mem] at h3
      simp [ht] at h3
theorem waitsOn_spec {j i : Nat} (h : waitsOn ops j i = true) : ∃ o, ops[j]? = some o ∧ ∃ e ∈ o.after, Region.binds .any e = true ∧ e.on = i := by
  unfold waitsOn at h
  cases ho : ops[j]? with
  | none => rw [ho] at h; cases h
  | some o =>
    rw [ho] at h
    simp only [Option.map_some, Option.getD_some] at h
    rw [Array.any_eq_true] at h
    obtain ⟨k, hk, hb⟩ := h
    rw [Bool.and_eq_true] at hb
    exact ⟨o, rfl, o.after[k], Array.getElem_mem hk, hb.1, by simpa using hb.2⟩
theorem all_listed {n : Nat} (hok : RegionOk n ops) {listed : Array Bool} (hs : listed.size = ops.size) (hr : Region.ready .any ops listed = []) : ∀ i, i < ops.size → listed.getD i false = true := by
  intro i
  induction i using Nat.strongRecOn with
  | ind i ih =>
    intro hi
    have hil : i < listed.size := by omega
    cases hc : listed.getD i false with
    | true => rfl
    | false =>
      exfalso
      have hmem : i ∈ Region.ready .any ops listed := by
        unfold Region.ready
        refine List.mem_filter.2 ⟨List.mem_range.2 hi, ?_⟩
        have ho : ops[i]? = some ops[i] := Array.getElem?_eq_getElem hi
        rw [ho]
        simp only [Option.map_some, Option.getD_some, Bool.and_eq_true]
        refine ⟨?_, ?_⟩
        · simp [hil] at hc; simp [hil, hc]
        · rw [Array.all_eq_true_iff_forall_mem]
          intro e he
          have hlt := hok.back i _ ho e he
          rw [ih e.on hlt (by omega)]
          simp
      rw [hr] at hmem
      cases hmem

/-- What is known while the region runs. -/
structure Known (ops : Array Oper) (Φ : Nat → Value → World → Prop) (R : World → World → Prop) (a0 : Act) (w0 : World) (listed : Array Bool) (a : Act) (w : World) : Prop where
  size : listed.size = ops.size
  world : R w0 w
  defers : a.defers = a0.defers
  tmps : a.tmps.size = a0.tmps.size
  base : ∀ t, (∀ j, dstOf ops j = some t → listed.getD j false = false) → a.tmps[t]? = a0.tmps[t]?
  facts : ∀ j t, dstOf ops j = some t → listed.getD j false = true → Φ t (a.tmps.getD t undef) w
  closed : ∀ j o, ops[j]? = some o → listed.getD j false = true → ∀ e ∈ o.after, Region.binds .any e = true → listed.getD e.on false = true

/-- THE LAW. -/
theorem wp_region_facts {id : Nat} {a0 : Act} {w0 : World} (hm : P.follows .mixedOrders = true) (hokB : regionOk a0.tmps.size ops = true) (Φ : Nat → Value → World → Prop) (R : World → World → Prop)
    (htr : ∀ {w w'}, R w0 w → R w w' → R w0 w') (h0 : R w0 w0.drew) (hkeep : ∀ t v w w', R w0 w → Φ t v w → R w w' → Φ t v w')
    (hop : ∀ i o a w, ops[i]? = some o → R w0 w → a.defers = a0.defers → a.tmps.size = a0.tmps.size →
      (∀ t, (∀ j, dstOf ops j = some t → i ≤ j) → t ∈ o.looksAt ops → a.tmps.getD t undef = a0.tmps.getD t undef) →
      (∀ j t, dstOf ops j = some t → waitsOn ops i j = true → Φ t (a.tmps.getD t undef) w) →
      wpOp P ops Q i (fun a' w' => ∃ v, a' = a.put o.dst v ∧ R w w' ∧ ∀ t, o.dst = some t → Φ t v w') a w)
    (hend : ∀ a w, R w0 w → a.defers = a0.defers → a.tmps.size = a0.tmps.size → (∀ t, (∀ j, dstOf ops j ≠ some t) → a.tmps.getD t undef = a0.tmps.getD t undef) →
      (∀ j t, dstOf ops j = some t → Φ t (a.tmps.getD t undef) w) → Q .normal a w) :
    (Code.region id ops true).wp P Q a0 w0 := by
  have hok := regionOk_spec hokB
  refine wp_region_any hm (wpAny_inv (Known ops Φ R a0 w0) (fun _ _ _ h => h.size) ?_ ?_ ops.size _ _ _ ?_ ?_)
  · intro listed a w i hI hi
    obtain ⟨h1, h2⟩ := List.mem_filter.1 hi
    have hi' := List.mem_range.1 h1
    have ho : ops[i]? = some ops[i] := Array.getElem?_eq_getElem hi'
    have hil : i < listed.size := by rw [hI.size]; exact hi'
    have hf : listed.getD i false = false := by
      simp [hil] at h2
      simp [hil, h2.1]
    have hpre : ∀ e ∈ (ops[i]).after, Region.binds .any e = true → listed.getD e.on false = true := by
      intro e he hbe
      rw [ho] at h2
      simp only [Option.map_some, Option.getD_some, Bool.and_eq_true] at h2
      have := (Array.all_eq_true_iff_forall_mem.1 h2.2) e he
      rw [hbe] at this
      simpa using this
    have hget : ∀ j, (listed.setIfInBounds i true).getD j false = if j = i then true else listed.getD j false := by
      intro j
      by_cases h : j = i
      · subst h; simp [hil]
      · rw [if_neg h]; simp [Ne.symm h]
    have hbase : ∀ t, (∀ j, dstOf ops j = some t → i ≤ j) → t ∈ (ops[i]).looksAt ops → a.tmps.getD t undef = a0.tmps.getD t undef := by
      intro t ht hl
      have := hI.base t (fun j hj => by
        have hij := ht j hj
        rcases Nat.lt_or_ge i j with hlt | hge
        · have hw := hok.late j i _ t hlt hj ho hl
          obtain ⟨o', ho', e, he, hbe, hon⟩ := waitsOn_spec hw
          cases hc : listed.getD j false with
          | false => rfl
          | true =>
            have := hI.closed j o' ho' hc e he hbe
            rw [hon, hf] at this; cases this
        · have : j = i := by omega
          subst this; exact hf)
      rw [Array.getD_eq_getD_getElem?, Array.getD_eq_getD_getElem?, this]
    have hfact : ∀ j t, dstOf ops j = some t → waitsOn ops i j = true → Φ t (a.tmps.getD t undef) w := by
      intro j t hd hw
      obtain ⟨o', ho', e, he, hbe, hon⟩ := waitsOn_spec hw
      have : o' = ops[i] := Option.some.inj (ho'.symm.trans ho)
      subst this
      have := hpre e he hbe
      rw [hon] at this
      exact hI.facts j t hd this
    refine wpOp_mono (fun a' w' hx => ?_) (hop i ops[i] a w ho hI.world hI.defers hI.tmps hbase hfact)
    obtain ⟨v, ha', hR, hΦ⟩ := hx
    · subst ha'
      have hput : ∀ t, (ops[i]).dst ≠ some t → (a.put (ops[i]).dst v).tmps[t]? = a.tmps[t]? := by
        intro t hne
        unfold Act.put
        cases hd : (ops[i]).dst with
        | none => rfl
        | some d =>
          have : d ≠ t := fun e => hne (by rw [hd, e])
          simp [Array.getElem?_setIfInBounds_ne this]
      have hdi : dstOf ops i = (ops[i]).dst := by unfold dstOf; rw [ho]; rfl
      refine ⟨by simp [hI.size], htr hI.world hR, ?_, ?_, fun t ht => ?_, fun j t hd hl => ?_, fun j o hj hl e he hbe => ?_⟩
      · rw [← hI.defers]; cases hd : (ops[i]).dst <;> simp [Act.put]
      · rw [← hI.tmps]; cases hd : (ops[i]).dst <;> simp [Act.put]
      · rw [hput t (fun e => by
          have := ht i (by rw [hdi]; exact e)
          rw [hget, if_pos rfl] at this; cases this)]
        refine hI.base t (fun j hj => ?_)
        have := ht j hj
        rw [hget] at this
        by_cases e : j = i
        · rw [if_pos e] at this; cases this
        · rw [if_neg e] at this; exact this
      · by_cases e : j = i
        · subst e
          have hd' : (ops[j]).dst = some t := by rw [← hdi]; exact hd
          have hv : (a.put (ops[j]).dst v).tmps.getD t undef = v := by
            have hlt : t < a.tmps.size := by rw [hI.tmps]; exact hok.low j t hd
            rw [hd']
            simp [Act.put, hlt]
          rw [hv]
          exact hΦ t hd'
        · rw [hget, if_neg e] at hl
          have hne : (ops[i]).dst ≠ some t := fun e' => e (hok.one j i t hd (by rw [hdi]; exact e'))
          have hv : (a.put (ops[i]).dst v).tmps.getD t undef = a.tmps.getD t undef := by
            rw [Array.getD_eq_getD_getElem?, Array.getD_eq_getD_getElem?, hput t hne]
          rw [hv]
          exact hkeep t _ w w' hI.world (hI.facts j t hd hl) hR
      · by_cases ej : j = i
        · subst ej
          have : o = ops[j] := Option.some.inj (hj.symm.trans ho)
          subst this
          rw [hget]
          by_cases e2 : e.on = j
          · rw [if_pos e2]
          · rw [if_neg e2]; exact hpre e he hbe
        · rw [hget, if_neg ej] at hl
          rw [hget]
          by_cases e2 : e.on = i
          · rw [if_pos e2]
          · rw [if_neg e2]; exact hI.closed j o hj hl e he hbe
  · intro listed a w hI hr
    have hall := all_listed hok hI.size hr
    refine hend a w hI.world hI.defers hI.tmps (fun t ht => ?_) (fun j t hd => hI.facts j t hd (hall j (dst_lt hd)))
    have := hI.base t (fun j hj => absurd hj (ht j))
    rw [Array.getD_eq_getD_getElem?, Array.getD_eq_getD_getElem?, this]
  · unfold undone
    exact Nat.le_trans List.countP_le_length (by simp)
  · refine ⟨by simp, h0, rfl, rfl, fun _ _ => rfl, fun j t hd hl => ?_, fun j o hj hl => ?_⟩
    · have hj := dst_lt hd
      simp [hj] at hl
    · have hj' := (Array.getElem?_eq_some_iff.1 hj).1
      simp [hj'] at hl
/-- An operation that hands a value on. -/
theorem op_done {i : Nat} {o : Oper} {a : Act} {w w' : World} {v : Value} {R : World → World → Prop} {Φ : Nat → Value → World → Prop} (ho : ops[i]? = some o) (hg : o.guard = none)
    (hrun : (execOp a.eval o).run P w = .ok (.value v) w') (hR : R w w') (hΦ : ∀ t, o.dst = some t → Φ t v w') :
    wpOp P ops Q i (fun a' w' => ∃ v, a' = a.put o.dst v ∧ R w w' ∧ ∀ t, o.dst = some t → Φ t v w') a w := by
  unfold wpOp
  rw [ho]
  simp only []
  rw [if_pos (by simp [Region.wanted, hg])]
  refine .inl ?_
  unfold Oper.wp
  rw [hrun]
  exact ⟨v, rfl, hR, hΦ⟩
/-- An operation that calls a Go function. -/
theorem op_call {i : Nat} {o : Oper} {a : Act} {w w1 : World} {f : FuncId} {args : Array Value} {R : World → World → Prop} {Φ : Nat → Value → World → Prop} (ho : ops[i]? = some o) (hg : o.guard = none)
    (hrun : (execOp a.eval o).run P w = .ok (.enter f args) w1) (hc : Calls P f args w1 fun e w' => ∃ v, e = .returned v ∧ R w w' ∧ ∀ t, o.dst = some t → Φ t v w') :
    wpOp P ops Q i (fun a' w' => ∃ v, a' = a.put o.dst v ∧ R w w' ∧ ∀ t, o.dst = some t → Φ t v w') a w := by
  unfold wpOp
  rw [ho]
  simp only []
  rw [if_pos (by simp [Region.wanted, hg])]
  refine .inl ?_
  unfold Oper.wp
  rw [hrun]
  refine Calls.mono hc ?_
  rintro e w' ⟨v, rfl, hR, hΦ⟩
  exact ⟨v, rfl, hR, hΦ⟩
/-- No operation writes the slot. -/
def noDst (ops : Array Oper) (t : Tmp) : Bool := (List.range ops.size).all fun j => dstOf ops j != some t
theorem noDst_spec {t : Tmp} (h : noDst ops t = true) : ∀ j, dstOf ops j ≠ some t := by
  intro j hj
  unfold noDst at h
  rw [List.all_eq_true] at h
  have := h j (List.mem_range.2 (dst_lt hj))
  rw [hj] at this
  simp at this
theorem base_of {t : Tmp} {i : Nat} (h : noDst ops t = true) : ∀ j, dstOf ops j = some t → i ≤ j := fun j hj => absurd hj (noDst_spec h j)
theorem slot_of {a : Act} {t : Nat} {v : Value} (h : a.tmps.getD t undef = v) : a.tmps[t]?.getD undef = v := by
  rw [← h, Array.getD_eq_getD_getElem?]
theorem eval_tmp (a : Act) (t : Nat) : a.eval (.tmp t) = a.tmps.getD t undef := rfl
end
end Go.Proofs.Ytcnhjbipncledaa
