/- A region that draws its order, by one invariant over what has been done, the activation and the world. No program. -/
import Derived.Test.YtajnhmkkgngbhaaReg2
import Derived.Test.YtajnhmkkgngbhaaApp2
namespace Go.Proofs.Ytajnhmkkgngbhaa
open Go.RowKit

section
variable {P : Program} {ops : Array Oper} {Q : Exit → Act → World → Prop}

/-- One operation more has been done. -/
def upd (f : Nat → Bool) (i : Nat) : Nat → Bool := fun j => if j = i then true else f j
theorem upd_same (f : Nat → Bool) (i : Nat) : upd f i i = true := by simp [upd]
theorem upd_other (f : Nat → Bool) {i j : Nat} (h : j ≠ i) : upd f i j = f j := by simp [upd, h]
/-- THE LAW. -/
theorem wp_region_inv {id : Nat} {a0 : Act} {w0 : World} (hm : P.follows .mixedOrders = true) (hokB : regionOkm 100000 ops = true) (S : (Nat → Bool) → Act → World → Prop)
    (h0 : S (fun _ => false) a0 w0.drew)
    (hop : ∀ f i o a w, ops[i]? = some o → S f a w → f i = false → (∀ j, waitsOn ops i j = true → f j = true) → wpOp P ops Q i (S (upd f i)) a w)
    (hend : ∀ f a w, S f a w → (∀ i, i < ops.size → f i = true) → Q .normal a w) :
    (Code.region id ops true).wp P Q a0 w0 := by
  have hok := regionOkm_spec hokB
  refine wp_region_any hm (wpAny_inv (fun listed a w => listed.size = ops.size ∧ S (fun j => listed.getD j false) a w) (fun _ _ _ h => h.1) ?_ ?_ ops.size _ _ _ ?_ ?_)
  · intro listed a w i hI hi
    obtain ⟨h1, h2⟩ := List.mem_filter.1 hi
    have hi' := List.mem_range.1 h1
    have ho : ops[i]? = some ops[i] := Array.getElem?_eq_getElem hi'
    have hil : i < listed.size := by rw [hI.1]; exact hi'
    have hf : listed.getD i false = false := by
      simp [hil] at h2
      simp [hil, h2.1]
    have hpre : ∀ j, waitsOn ops i j = true → listed.getD j false = true := by
      intro j hj
      obtain ⟨o', ho', e, he, hbe, hon⟩ := waitsOn_spec hj
      have : o' = ops[i] := Option.some.inj (ho'.symm.trans ho)
      subst this
      rw [ho] at h2
      simp only [Option.map_some, Option.getD_some, Bool.and_eq_true] at h2
      have := (Array.all_eq_true_iff_forall_mem.1 h2.2) e he
      rw [hbe] at this
      rw [← hon]
      simpa using this
    refine wpOp_mono (fun a' w' hx => ⟨by simp [hI.1], ?_⟩) (hop (fun j => listed.getD j false) i ops[i] a w ho hI.2 hf hpre)
    have e : (fun j => (listed.setIfInBounds i true).getD j false) = upd (fun j => listed.getD j false) i := by
      funext j
      unfold upd
      by_cases h : j = i
      · subst h; simp [hil]
      · rw [if_neg h]; simp [Ne.symm h]
    rw [e]
    exact hx
  · intro listed a w hI hr
    exact hend _ a w hI.2 (all_listed_m hok hI.1 hr)
  · unfold undone
    exact Nat.le_trans List.countP_le_length (by simp)
  · refine ⟨by simp, ?_⟩
    have e : (fun j => (Array.replicate ops.size false).getD j false) = fun _ => false := by
      funext j
      by_cases h : j < ops.size <;> simp [h]
    rw [e]
    exact h0
theorem put_same {a : Act} {d : Tmp} (v : Value) (h : d < a.tmps.size) : (a.put (some d) v).tmps.getD d undef = v := by simp [Act.put, h]
theorem put_other (a : Act) {d t : Tmp} (v : Value) (h : t ≠ d) : (a.put (some d) v).tmps.getD t undef = a.tmps.getD t undef := by
  simp only [Act.put, Array.getD_eq_getD_getElem?]
  rw [Array.getElem?_setIfInBounds_ne (Ne.symm h)]
theorem put_no (a : Act) (v : Value) : a.put none v = a := rfl
theorem put_size (a : Act) (d : Option Tmp) (v : Value) : (a.put d v).tmps.size = a.tmps.size := by cases d <;> simp [Act.put]
theorem put_defers (a : Act) (d : Option Tmp) (v : Value) : (a.put d v).defers = a.defers := by cases d <;> rfl
/-- The law with the slots' facts apart from the phases. -/
theorem wp_region_phase {id : Nat} {a0 : Act} {w0 : World} (hm : P.follows .mixedOrders = true) (hokB : regionOkm a0.tmps.size ops = true) (hlow : regionOkm 100000 ops = true) (Φ : Nat → Value → Prop) (Ph : (Nat → Bool) → Act → World → Prop)
    (h0 : Ph (fun _ => false) a0 w0.drew)
    (hop : ∀ f i o a w, ops[i]? = some o → a.defers = a0.defers → a.tmps.size = a0.tmps.size → (∀ t, (∀ j, dstOf ops j ≠ some t) → a.tmps.getD t undef = a0.tmps.getD t undef) →
      (∀ j t, dstOf ops j = some t → waitsOn ops i j = true → Φ t (a.tmps.getD t undef)) → Ph f a w → f i = false → (∀ j, waitsOn ops i j = true → f j = true) →
      wpOp P ops Q i (fun a' w' => ∃ v, a' = a.put o.dst v ∧ (∀ t, o.dst = some t → Φ t v) ∧ Ph (upd f i) a' w') a w)
    (hend : ∀ f a w, a.defers = a0.defers → a.tmps.size = a0.tmps.size → (∀ t, (∀ j, dstOf ops j ≠ some t) → a.tmps.getD t undef = a0.tmps.getD t undef) →
      (∀ j t, dstOf ops j = some t → Φ t (a.tmps.getD t undef)) → Ph f a w → (∀ i, i < ops.size → f i = true) → Q .normal a w) :
    (Code.region id ops true).wp P Q a0 w0 := by
  have hok := regionOkm_spec hokB
  refine wp_region_inv hm hlow (fun f a w => a.defers = a0.defers ∧ a.tmps.size = a0.tmps.size ∧ (∀ t, (∀ j, dstOf ops j ≠ some t) → a.tmps.getD t undef = a0.tmps.getD t undef) ∧ (∀ j t, dstOf ops j = some t → f j = true → Φ t (a.tmps.getD t undef)) ∧ Ph f a w) ?_ ?_ ?_
  · exact ⟨rfl, rfl, fun _ _ => rfl, fun _ _ _ h => by simp at h, h0⟩
  · rintro f i o a w ho ⟨hd, hs, hb, hf, hp⟩ hfi hpre
    refine wpOp_mono (fun a' w' hx => ?_) (hop f i o a w ho hd hs hb (fun j t hj hw => hf j t hj (hpre j hw)) hp hfi hpre)
    obtain ⟨v, rfl, hΦ, hp'⟩ := hx
    have hdi : dstOf ops i = o.dst := by unfold dstOf; rw [ho]; rfl
    refine ⟨by rw [put_defers]; exact hd, by rw [put_size]; exact hs, fun t ht => ?_, fun j t hj hfj => ?_, hp'⟩
    · rw [← hb t ht]
      cases hod : o.dst with
      | none => rfl
      | some d => exact put_other a v (fun e => ht i (by rw [hdi, hod, e]))
    · by_cases e : j = i
      · subst e
        have hod : o.dst = some t := by rw [← hdi]; exact hj
        rw [hod, put_same v (by rw [hs]; exact hok.low j t hj)]
        exact hΦ t hod
      · have hfj' : f j = true := by rw [upd_other f e] at hfj; exact hfj
        cases hod : o.dst with
        | none => exact hf j t hj hfj'
        | some d =>
          have hne : t ≠ d := fun e' => e (hok.one j i t hj (by rw [hdi, hod, e']))
          rw [put_other a v hne]
          exact hf j t hj hfj'
  · rintro f a w ⟨hd, hs, hb, hf, hp⟩ hall
    exact hend f a w hd hs hb (fun j t hj => hf j t hj (hall j (dst_lt hj))) hp hall
/-- An operation that hands a value on. -/
theorem inv_done {K : Act → World → Prop} {i : Nat} {o : Oper} {a : Act} {w w' : World} {v : Value} (ho : ops[i]? = some o) (hg : o.guard = none)
    (hrun : (execOp a.eval o).run P w = .ok (.value v) w') (hK : K (a.put o.dst v) w') : wpOp P ops Q i K a w := by
  unfold wpOp
  rw [ho]
  simp only []
  rw [if_pos (by simp [Region.wanted, hg])]
  refine .inl ?_
  unfold Oper.wp
  rw [hrun]
  exact hK
/-- An operation that hands nothing on (a store). -/
theorem inv_skip {K : Act → World → Prop} {i : Nat} {o : Oper} {a : Act} {w w' : World} (ho : ops[i]? = some o) (hg : o.guard = none)
    (hrun : (execOp a.eval o).run P w = .ok .skip w') (hK : K (a.put o.dst undef) w') : wpOp P ops Q i K a w := by
  unfold wpOp
  rw [ho]
  simp only []
  rw [if_pos (by simp [Region.wanted, hg])]
  refine .inl ?_
  unfold Oper.wp
  rw [hrun]
  exact hK
/-- An operation that calls a Go function. -/
theorem inv_call {K : Act → World → Prop} {i : Nat} {o : Oper} {a : Act} {w w1 : World} {f : FuncId} {args : Array Value} (ho : ops[i]? = some o) (hg : o.guard = none)
    (hrun : (execOp a.eval o).run P w = .ok (.enter f args) w1) (hc : Calls P f args w1 fun e w' => (∃ v, e = .returned v ∧ K (a.put o.dst v) w') ∨ (∃ ch, e = .panicked ch ∧ Q (.panic ch) a w')) : wpOp P ops Q i K a w := by
  unfold wpOp
  rw [ho]
  simp only []
  rw [if_pos (by simp [Region.wanted, hg])]
  refine .inl ?_
  unfold Oper.wp
  rw [hrun]
  refine Calls.mono hc ?_
  rintro e w' (⟨v, rfl, h⟩ | ⟨ch, rfl, h⟩) <;> exact h
/-- The append of a row of one's own, at an operation of such a region. -/
theorem inv_append {K : Act → World → Prop} {i : Nat} {o : Oper} {a : Act} {w : World} (ho' : ops[i]? = some o) (hg : o.guard = none) (s x : Operand) (t : TypeId)
    (ho : o.op = .call { callee := .builtin .append, args := #[s, x], argTypes := #[t, t] }) {base : Nat} {e : TypeId} {bytes : Nat} (E : Elem P t e bytes)
    {v : Value} {xs : List Value} (hs : a.eval s = v) (hown : Own w base e v xs) {xv : Value} {news : List Value} (hx : a.eval x = xv) (hr : Reads w xv news) (h1 : ∀ u ∈ news, u.oneCell' = true)
    (hb1 : (xs.length + news.length) * bytes ≤ 140737488355328) (hb2 : xs.length + news.length ≤ maxLen)
    (h : ∀ v' w', Own w' base e v' (xs ++ news) → w.grownBy w' v.ownBlock → (v'.ownBlock = v.ownBlock ∨ v'.ownBlock = some w.heap.size) → K (a.put o.dst v') w') : wpOp P ops Q i K a w := by
  unfold wpOp
  rw [ho']
  simp only []
  rw [if_pos (by simp [Region.wanted, hg])]
  exact .inl (wp_append s x t ho E hs hown hx hr h1 hb1 hb2 h)
end
end Go.Proofs.Ytajnhmkkgngbhaa
