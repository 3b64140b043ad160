/- A region that draws its order, each of whose operations leaves a value that is known beforehand: no order is branched over; outside and inside a fence. No program. -/
import Derived.Test.YtcnhjbipncledaaReg
import Derived.OrdersIn
import Derived.TacticsIn
namespace Go.Proofs.Ytcnhjbipncledaa
open Go.RowKit

section
variable {P : Program} {ops : Array Oper} {Q : Exit → Act → World → Prop}
/-- The values, laid into the slots one behind the other. -/
def putAll : List Oper → List Value → Act → Act
  | o :: os, v :: vs, a => putAll os vs (a.put o.dst v)
  | _, _, a => a
/-- What an operation does in a world, in an activation in which all slots are filled already. -/
def Leaves (dst : Option Tmp) (A : Act) (v : Value) : Prop := ∀ t, dst = some t → A.tmps.getD t undef = v
def Does (P : Program) (dst : Option Tmp) (A : Act) (R : World → World → Prop) (w : World) : Result Next → Prop
  | .ok (.value v) w' => R w w' ∧ Leaves dst A v
  | .ok .skip w' => R w w' ∧ Leaves dst A undef
  | .ok (.enter f args) w' => Calls P f args w' fun e w'' => ∃ v, e = .returned v ∧ R w w'' ∧ Leaves dst A v
  | _ => False
def OpDo (P : Program) (ops : Array Oper) (A : Act) (R : World → World → Prop) (o : Oper) (w : World) : Prop :=
  if Region.wanted o (yielded ops A.tmps) = true then Does P o.dst A R w ((execOp A.eval o).run P w) else R w w ∧ Leaves o.dst A undef
def OpsDo (P : Program) (ops : Array Oper) (A : Act) (R : World → World → Prop) (w : World) : List Oper → Prop
  | [] => True
  | o :: os => OpDo P ops A R o w ∧ OpsDo P ops A R w os
theorem OpsDo.at_ {A : Act} {R : World → World → Prop} {w : World} {l : List Oper} (h : OpsDo P ops A R w l) (o : Oper) (ho : o ∈ l) : OpDo P ops A R o w := by
  induction l with
  | nil => cases ho
  | cons x l ih =>
    obtain ⟨h1, h2⟩ := h
    rcases List.mem_cons.1 ho with e | e
    · rw [e]; exact h1
    · exact ih h2 e
/-- Every slot that an operation looks at, and that the region writes, is written by one that it waits for; no select, no defer. -/
def regionOkV (n : Nat) (ops : Array Oper) : Bool :=
  regionOk n ops && (List.range ops.size).all fun i => ((ops[i]?).map fun o =>
    ((match o.op with | .select _ _ => false | .defer _ => false | _ => true) &&
    (o.looksAt ops).all fun t => (List.range ops.size).all fun j => dstOf ops j != some t || waitsOn ops i j)).getD true
theorem regionOkV_spec {n : Nat} (h : regionOkV n ops = true) {i : Nat} {o : Oper} (ho : ops[i]? = some o) :
    (∀ cs b, o.op ≠ .select cs b) ∧ (∀ c, o.op ≠ .defer c) ∧ ∀ t ∈ o.looksAt ops, ∀ j, dstOf ops j = some t → waitsOn ops i j = true := by
  unfold regionOkV at h
  rw [Bool.and_eq_true, List.all_eq_true] at h
  have h1 := h.2 i (List.mem_range.2 (Array.getElem?_eq_some_iff.1 ho).1)
  rw [ho] at h1
  simp only [Option.map_some, Option.getD_some, Bool.and_eq_true, List.all_eq_true] at h1
  obtain ⟨h2, h3⟩ := h1
  refine ⟨fun cs b e => (by rw [e] at h2; cases h2), fun c e => (by rw [e] at h2; cases h2), fun t ht j hj => ?_⟩
  have := h3 t ht j (List.mem_range.2 (dst_lt hj))
  rw [hj] at this
  simpa using this
/-- The walk over all orders, whatever a step is. -/
def anyG (S : Nat → (Act → World → Prop) → Act → World → Prop) (md : Region.Mode) (ops : Array Oper) (Q : Exit → Act → World → Prop) : Nat → Array Bool → Act → World → Prop
  | 0, listed, a, w => Region.ready md ops listed = [] ∧ Q .normal a w
  | fuel + 1, listed, a, w => (Region.ready md ops listed = [] → Q .normal a w) ∧ ∀ i ∈ Region.ready md ops listed, S i (anyG S md ops Q fuel (listed.setIfInBounds i true)) a w
theorem any_of_G {md : Region.Mode} : ∀ (fuel : Nat) (listed : Array Bool) (a : Act) (w : World), anyG (wpOp P ops Q) md ops Q fuel listed a w → wpAny P md ops Q fuel listed a w
  | 0, _, _, _, h => h
  | _ + 1, _, _, _, h => ⟨h.1, fun i hi => wpOp_mono (fun _ _ hk => any_of_G _ _ _ _ hk) (h.2 i hi)⟩
theorem anyIn_of_G {F : Fence} {n : Nat} {md : Region.Mode} : ∀ (fuel : Nat) (listed : Array Bool) (a : Act) (w : World), anyG (wpOpIn F n P ops Q) md ops Q fuel listed a w → wpAnyIn F n P md ops Q fuel listed a w
  | 0, _, _, _, h => h
  | _ + 1, _, _, _, h => ⟨h.1, fun i hi => wpOpIn_mono (fun _ _ hk => anyIn_of_G _ _ _ _ hk) (h.2 i hi)⟩
theorem anyG_inv {S : Nat → (Act → World → Prop) → Act → World → Prop} (hS : ∀ i K K' a w, (∀ a w, K a w → K' a w) → S i K a w → S i K' a w) {md : Region.Mode} (I : Array Bool → Act → World → Prop) (hsize : ∀ listed a w, I listed a w → listed.size = ops.size)
    (hstep : ∀ listed a w i, I listed a w → i ∈ Region.ready md ops listed → S i (I (listed.setIfInBounds i true)) a w)
    (hend : ∀ listed a w, I listed a w → Region.ready md ops listed = [] → Q .normal a w) :
    ∀ (fuel : Nat) (listed : Array Bool) (a : Act) (w : World), undone ops listed ≤ fuel → I listed a w → anyG S md ops Q fuel listed a w := by
  intro fuel
  induction fuel with
  | zero =>
    intro listed a w hu hI
    have hr : Region.ready md ops listed = [] := by
      unfold Region.ready
      rw [List.filter_eq_nil_iff]
      intro i hi hcon
      have h0 : undone ops listed = 0 := by omega
      unfold undone at h0
      rw [List.countP_eq_zero] at h0
      have := h0 i hi
      simp at hcon this
      have hs := hsize _ _ _ hI
      have hi' : i < listed.size := by rw [hs]; exact List.mem_range.1 hi
      simp [hi'] at hcon this
      rw [this] at hcon
      simp at hcon
    exact ⟨hr, hend _ _ _ hI hr⟩
  | succ fuel ih =>
    intro listed a w hu hI
    refine ⟨fun hr => hend _ _ _ hI hr, fun i hi => hS i _ _ a w (fun a' w' h => ih _ a' w' ?_ h) (hstep _ _ _ _ hI hi)⟩
    have hs := hsize _ _ _ hI
    obtain ⟨h1, h2⟩ := List.mem_filter.1 hi
    have hi' := List.mem_range.1 h1
    have hf : listed.getD i false = false := by
      have hil : i < listed.size := by rw [hs]; exact hi'
      simp [hil] at h2
      simp [hil, h2.1]
    have := undone_set (ops := ops) hs hi' hf
    omega
/-- What is known while the region runs. -/
structure Filled (ops : Array Oper) (A : Act) (Ψ : Nat → World → Prop) (R : World → World → Prop) (a0 : Act) (w0 : World) (listed : Array Bool) (a : Act) (w : World) : Prop where
  size : listed.size = ops.size
  world : R w0 w
  defers : a.defers = a0.defers
  tmps : a.tmps.size = a0.tmps.size
  base : ∀ t, (∀ j, dstOf ops j = some t → listed.getD j false = false) → a.tmps[t]? = a0.tmps[t]?
  facts : ∀ j t, dstOf ops j = some t → listed.getD j false = true → a.tmps[t]? = A.tmps[t]?
  marks : ∀ j, listed.getD j false = true → Ψ j w
  closed : ∀ j o, ops[j]? = some o → listed.getD j false = true → ∀ e ∈ o.after, Region.binds .any e = true → listed.getD e.on false = true
theorem wanted_congr {a a' : Act} (o : Oper) (h : ∀ t ∈ o.looksAt ops, a.tmps[t]? = a'.tmps[t]?) : Region.wanted o (yielded ops a.tmps) = Region.wanted o (yielded ops a'.tmps) := by
  unfold Region.wanted
  cases hg : o.guard with
  | none => rfl
  | some gw =>
    obtain ⟨g, want⟩ := gw
    have hy : yielded ops a.tmps g = yielded ops a'.tmps g := by
      unfold yielded
      cases ht : (ops[g]?).bind (·.dst) with
      | none => rfl
      | some t =>
        have := h t (by simp [Oper.looksAt, hg, ht])
        simp [this]
    simp only [hy]
theorem exec_congr {a a' : Act} (o : Oper) (hs : ∀ cs b, o.op ≠ .select cs b) (h : ∀ t ∈ o.looksAt ops, a.tmps[t]? = a'.tmps[t]?) : execOp a.eval o = execOp a'.eval o :=
  execOp_congr o hs fun x hx => by
    cases x with
    | tmp t =>
      have := h t (List.mem_append_left _ (List.mem_filterMap.2 ⟨.tmp t, by simpa using hx, rfl⟩))
      rw [eval_tmp, eval_tmp, Array.getD_eq_getD_getElem?, Array.getD_eq_getD_getElem?, this]
    | _ => rfl
/-- THE LAW, whatever a step is. -/
theorem anyG_vals {S : Nat → (Act → World → Prop) → Act → World → Prop} (hS : ∀ i K K' a w, (∀ a w, K a w → K' a w) → S i K a w → S i K' a w) {a0 A : Act} {w0 : World} (hokB : regionOkV a0.tmps.size ops = true) (Ψ : Nat → World → Prop) (R : World → World → Prop)
    (hsz : A.tmps.size = a0.tmps.size) (hdf : A.defers = a0.defers) (hbase : ∀ t, (∀ j, dstOf ops j ≠ some t) → A.tmps[t]? = a0.tmps[t]?)
    (htr : ∀ {w w'}, R w0 w → R w w' → R w0 w') (h0 : R w0 w0.drew) (hkept : ∀ j w w', R w0 w → Ψ j w → R w w' → Ψ j w')
    (hop : ∀ i o a w, ops[i]? = some o → R w0 w → (∀ cs b, o.op ≠ .select cs b) → (∀ c, o.op ≠ .defer c) → (∀ t ∈ o.looksAt ops, a.tmps[t]? = A.tmps[t]?) →
      S i (fun a' w' => ∃ v, a' = a.put o.dst v ∧ (R w w' ∧ Ψ i w') ∧ ∀ t, o.dst = some t → A.tmps.getD t undef = v) a w)
    (hend : ∀ w, R w0 w → (∀ j, j < ops.size → Ψ j w) → Q .normal A w) :
    anyG S .any ops Q ops.size (Array.replicate ops.size false) a0 w0.drew := by
  have hok1 : regionOk a0.tmps.size ops = true := by unfold regionOkV at hokB; rw [Bool.and_eq_true] at hokB; exact hokB.1
  have hok := regionOk_spec hok1
  refine anyG_inv hS (Filled ops A Ψ R a0 w0) (fun _ _ _ h => h.size) ?_ ?_ ops.size _ _ _ ?_ ?_
  · intro listed a w i hI hi
    obtain ⟨h1, h2⟩ := List.mem_filter.1 hi
    have hi' := List.mem_range.1 h1
    have ho : ops[i]? = some ops[i] := Array.getElem?_eq_getElem hi'
    have hil : i < listed.size := by rw [hI.size]; exact hi'
    have hf : listed.getD i false = false := by
      simp [hil] at h2
      simp [hil, h2.1]
    have hpre : ∀ e ∈ (ops[i]).after, Region.binds .any e = true → listed.getD e.on false = true := by
      intro e he hbe
      rw [ho] at h2
      simp only [Option.map_some, Option.getD_some, Bool.and_eq_true] at h2
      have := (Array.all_eq_true_iff_forall_mem.1 h2.2) e he
      rw [hbe] at this
      simpa using this
    have hget : ∀ j, (listed.setIfInBounds i true).getD j false = if j = i then true else listed.getD j false := by
      intro j
      by_cases h : j = i
      · subst h; simp [hil]
      · rw [if_neg h]; simp [Ne.symm h]
    obtain ⟨hs1, hs2, hs3⟩ := regionOkV_spec hokB ho
    have hlook : ∀ t ∈ (ops[i]).looksAt ops, a.tmps[t]? = A.tmps[t]? := by
      intro t ht
      by_cases hw : ∃ j, dstOf ops j = some t
      · obtain ⟨j, hj⟩ := hw
        obtain ⟨o', ho', e, he, hbe, hon⟩ := waitsOn_spec (hs3 t ht j hj)
        have : o' = ops[i] := Option.some.inj (ho'.symm.trans ho)
        subst this
        have := hpre e he hbe
        rw [hon] at this
        exact hI.facts j t hj this
      · have hno : ∀ j, dstOf ops j ≠ some t := fun j hj => hw ⟨j, hj⟩
        rw [hbase t hno]
        exact hI.base t (fun j hj => absurd hj (hno j))
    refine hS i _ _ a w (fun a' w' hx => ?_) (hop i ops[i] a w ho hI.world hs1 hs2 hlook)
    obtain ⟨v, ha', ⟨hR, hΨ⟩, hΦ⟩ := hx
    subst ha'
    have hput : ∀ t, (ops[i]).dst ≠ some t → (a.put (ops[i]).dst v).tmps[t]? = a.tmps[t]? := by
      intro t hne
      unfold Act.put
      cases hd : (ops[i]).dst with
      | none => rfl
      | some d =>
        have : d ≠ t := fun e => hne (by rw [hd, e])
        simp [Array.getElem?_setIfInBounds_ne this]
    have hdi : dstOf ops i = (ops[i]).dst := by unfold dstOf; rw [ho]; rfl
    refine ⟨by simp [hI.size], htr hI.world hR, ?_, ?_, fun t ht => ?_, fun j t hd hl => ?_, fun j hl => ?_, fun j o hj hl e he hbe => ?_⟩
    · rw [← hI.defers]; cases hd : (ops[i]).dst <;> simp [Act.put]
    · rw [← hI.tmps]; cases hd : (ops[i]).dst <;> simp [Act.put]
    · rw [hput t (fun e => by
        have := ht i (by rw [hdi]; exact e)
        rw [hget, if_pos rfl] at this; cases this)]
      refine hI.base t (fun j hj => ?_)
      have := ht j hj
      rw [hget] at this
      by_cases e : j = i
      · rw [if_pos e] at this; cases this
      · rw [if_neg e] at this; exact this
    · by_cases e : j = i
      · subst e
        have hd' : (ops[j]).dst = some t := by rw [← hdi]; exact hd
        have hlt : t < a.tmps.size := by rw [hI.tmps]; exact hok.low j t hd
        have hltA : t < A.tmps.size := by rw [hsz]; exact hok.low j t hd
        have hv := hΦ t hd'
        rw [hd']
        rw [Array.getD_eq_getD_getElem?, Array.getElem?_eq_getElem hltA] at hv
        simp at hv
        simp [Act.put, hlt, hltA, hv]
      · rw [hget, if_neg e] at hl
        have hne : (ops[i]).dst ≠ some t := fun e' => e (hok.one j i t hd (by rw [hdi]; exact e'))
        rw [hput t hne]
        exact hI.facts j t hd hl
    · by_cases e : j = i
      · subst e; exact hΨ
      · rw [hget, if_neg e] at hl
        exact hkept j w w' hI.world (hI.marks j hl) hR
    · by_cases ej : j = i
      · subst ej
        have : o = ops[j] := Option.some.inj (hj.symm.trans ho)
        subst this
        rw [hget]
        by_cases e2 : e.on = j
        · rw [if_pos e2]
        · rw [if_neg e2]; exact hpre e he hbe
      · rw [hget, if_neg ej] at hl
        rw [hget]
        by_cases e2 : e.on = i
        · rw [if_pos e2]
        · rw [if_neg e2]; exact hI.closed j o hj hl e he hbe
  · intro listed a w hI hr
    have hall := all_listed hok hI.size hr
    have : a = A := by
      obtain ⟨t, d⟩ := a
      obtain ⟨t', d'⟩ := A
      have hd := hI.defers
      simp only at hd hdf
      rw [hdf, hd]
      congr 1
      apply Array.ext_getElem?
      intro k
      by_cases hw : ∃ j, dstOf ops j = some k
      · obtain ⟨j, hj⟩ := hw
        exact hI.facts j k hj (hall j (dst_lt hj))
      · have hno : ∀ j, dstOf ops j ≠ some k := fun j hj => hw ⟨j, hj⟩
        exact (hI.base k (fun j hj => absurd hj (hno j))).trans (hbase k hno).symm
    rw [this]
    exact hend w hI.world (fun j hj => hI.marks j (hall j hj))
  · unfold undone
    exact Nat.le_trans List.countP_le_length (by simp)
  · refine ⟨by simp, h0, rfl, rfl, fun _ _ => rfl, fun j t hd hl => ?_, fun j hl => ?_, fun j o hj hl => ?_⟩
    · have hj := dst_lt hd
      simp [hj] at hl
    · by_cases hj : j < ops.size
      · simp [hj] at hl
      · simp [hj] at hl
    · have hj' := (Array.getElem?_eq_some_iff.1 hj).1
      simp [hj'] at hl
/-- What lies outside the region's slots. -/
def sameElse (ops : Array Oper) (n : Nat) : List Nat := (List.range n).filter fun t => noDst ops t
def SameAt (A a0 : Act) : List Nat → Prop
  | [] => True
  | t :: l => A.tmps.getD t undef = a0.tmps.getD t undef ∧ SameAt A a0 l
theorem SameAt.at_ {A a0 : Act} {l : List Nat} (h : SameAt A a0 l) (t : Nat) (ht : t ∈ l) : A.tmps.getD t undef = a0.tmps.getD t undef := by
  induction l with
  | nil => cases ht
  | cons x l ih =>
    obtain ⟨h1, h2⟩ := h
    rcases List.mem_cons.1 ht with e | e
    · rw [e]; exact h1
    · exact ih h2 e
theorem sameAt_of {A a0 : Act} (l : List Nat) (h : ∀ t ∈ l, A.tmps.getD t undef = a0.tmps.getD t undef) : SameAt A a0 l := by
  induction l with
  | nil => trivial
  | cons x l ih => exact ⟨h x (List.mem_cons_self ..), ih fun t ht => h t (List.mem_cons_of_mem _ ht)⟩
theorem base_else {a0 A : Act} (hsz : A.tmps.size = a0.tmps.size) (h : ∀ t ∈ sameElse ops a0.tmps.size, A.tmps.getD t undef = a0.tmps.getD t undef) (t : Nat) (hno : ∀ j, dstOf ops j ≠ some t) : A.tmps[t]? = a0.tmps[t]? := by
  by_cases ht : t < a0.tmps.size
  · have := h t (List.mem_filter.2 ⟨List.mem_range.2 ht, by
      unfold noDst
      rw [List.all_eq_true]
      intro j _
      simp [hno j]⟩)
    have htA : t < A.tmps.size := by omega
    rw [Array.getD_eq_getD_getElem?, Array.getD_eq_getD_getElem?, Array.getElem?_eq_getElem ht, Array.getElem?_eq_getElem htA] at this
    rw [Array.getElem?_eq_getElem ht, Array.getElem?_eq_getElem htA]
    simpa using this
  · rw [Array.getElem?_eq_none (by omega), Array.getElem?_eq_none (by omega)]
/-- What each operation does, in order. -/
def OpsDoM (P : Program) (ops : Array Oper) (A : Act) (R : World → World → Prop) (Ψ : Nat → World → Prop) (w : World) : Nat → List Oper → Prop
  | _, [] => True
  | i, o :: os => OpDo P ops A (fun a b => R a b ∧ Ψ i b) o w ∧ OpsDoM P ops A R Ψ w (i + 1) os
theorem OpsDoM.at_ {A : Act} {R : World → World → Prop} {Ψ : Nat → World → Prop} {w : World} {l : List Oper} {i : Nat} (h : OpsDoM P ops A R Ψ w i l) (j : Nat) (o : Oper) (ho : l[j]? = some o) : OpDo P ops A (fun a b => R a b ∧ Ψ (i + j) b) o w := by
  induction l generalizing i j with
  | nil => simp at ho
  | cons x l ih =>
    obtain ⟨h1, h2⟩ := h
    cases j with
    | zero => simp at ho; subst ho; exact h1
    | succ j => simp at ho; have := ih h2 j ho; rw [show i + 1 + j = i + (j + 1) by omega] at this; exact this
theorem OpsDo.marked {A : Act} {R : World → World → Prop} {w : World} {l : List Oper} (h : OpsDo P ops A R w l) (i : Nat) : OpsDoM P ops A R (fun _ _ => True) w i l := by
  induction l generalizing i with
  | nil => trivial
  | cons x l ih =>
    obtain ⟨h1, h2⟩ := h
    refine ⟨?_, ih h2 (i + 1)⟩
    have : (fun a b => R a b ∧ True) = R := by funext a b; simp
    rw [this]; exact h1
/-- THE LAW, outside a fence, with marks: what an operation leaves in the world besides. -/
theorem wp_region_valsM {id : Nat} {a0 A : Act} {w0 : World} (hm : P.follows .mixedOrders = true) (hokB : regionOkV a0.tmps.size ops = true) (R : World → World → Prop) (Ψ : Nat → World → Prop)
    (hsz : A.tmps.size = a0.tmps.size) (hdf : A.defers = a0.defers) (hbase : ∀ t, (∀ j, dstOf ops j ≠ some t) → A.tmps[t]? = a0.tmps[t]?)
    (htr : ∀ {w w'}, R w0 w → R w w' → R w0 w') (h0 : R w0 w0.drew) (hkept : ∀ j w w', R w0 w → Ψ j w → R w w' → Ψ j w')
    (hop : ∀ w, R w0 w → OpsDoM P ops A R Ψ w 0 ops.toList)
    (hend : ∀ w, R w0 w → (∀ j, j < ops.size → Ψ j w) → Q .normal A w) : (Code.region id ops true).wp P Q a0 w0 := by
  refine wp_region_any hm (any_of_G _ _ _ w0.drew (anyG_vals (S := wpOp P ops Q) (fun _ _ _ _ _ h hh => wpOp_mono h hh) hokB Ψ R hsz hdf hbase htr h0 hkept ?_ hend))
  intro i o a w ho hR hns _ hlook
  have hdo := (hop w hR).at_ i o (by rw [Array.getElem?_toList]; exact ho)
  rw [Nat.zero_add] at hdo
  unfold OpDo at hdo
  rw [← wanted_congr o hlook, ← exec_congr o hns hlook] at hdo
  unfold wpOp
  rw [ho]
  simp only []
  by_cases hw : Region.wanted o (yielded ops a.tmps) = true
  · rw [if_pos hw] at hdo ⊢
    refine .inl ?_
    unfold Oper.wp
    generalize (execOp a.eval o).run P w = r at *
    cases r with
    | ok x w' =>
      cases x with
      | value v => exact ⟨v, rfl, hdo⟩
      | skip => exact ⟨undef, rfl, hdo⟩
      | enter f args =>
        refine Calls.mono hdo ?_
        rintro e w'' ⟨v, rfl, h⟩
        exact ⟨v, rfl, h⟩
      | _ => exact hdo.elim
    | halt x w' => exact hdo.elim
  · rw [if_neg hw] at hdo ⊢
    exact ⟨undef, rfl, hdo⟩
/-- THE LAW, inside a fence as wide as can be, in a round or outside, with marks. -/
theorem wpIn_region_valsM {r : Option Nat} {n : Nat} {id : Nat} {a0 A : Act} {w0 : World} (hm : P.follows .mixedOrders = true) (hokB : regionOkV a0.tmps.size ops = true) (R : World → World → Prop) (Ψ : Nat → World → Prop)
    (hsz : A.tmps.size = a0.tmps.size) (hdf : A.defers = a0.defers) (hbase : ∀ t, (∀ j, dstOf ops j ≠ some t) → A.tmps[t]? = a0.tmps[t]?)
    (htr : ∀ {w w'}, R w0 w → R w w' → R w0 w') (h0 : R w0 w0.drew) (hkept : ∀ j w w', R w0 w → Ψ j w → R w w' → Ψ j w')
    (hop : ∀ w, R w0 w → OpsDoM P ops A R Ψ w 0 ops.toList)
    (hend : ∀ w, R w0 w → (∀ j, j < ops.size → Ψ j w) → Q .normal A w) : (Code.region id ops true).wpIn { Fence.wide with round := r } n P Q a0 w0 := by
  refine wpIn_region_any hm (anyIn_of_G _ _ _ w0.drew (anyG_vals (S := wpOpIn { Fence.wide with round := r } n P ops Q) (fun _ _ _ _ _ h hh => wpOpIn_mono h hh) hokB Ψ R hsz hdf hbase htr h0 hkept ?_ hend))
  intro i o a w ho hR hns hnd hlook
  have hdo := (hop w hR).at_ i o (by rw [Array.getElem?_toList]; exact ho)
  rw [Nat.zero_add] at hdo
  unfold OpDo at hdo
  rw [← wanted_congr o hlook, ← exec_congr o hns hlook] at hdo
  unfold wpOpIn
  rw [ho]
  simp only []
  by_cases hw : Region.wanted o (yielded ops a.tmps) = true
  · rw [if_pos hw] at hdo ⊢
    refine ⟨fun _ _ => trivial, ?_⟩
    have hsem : Oper.semAt r a.eval o = execOp a.eval o := by
      cases r with
      | none => exact Oper.semAt_none _ _
      | some l => exact Oper.semAt_some l _ o hnd
    show o.uponIn { Fence.wide with round := r } n P a _ Q ((Oper.semAt r a.eval o).run P w)
    rw [hsem]
    generalize (execOp a.eval o).run P w = x at *
    cases x with
    | ok x w' =>
      cases x with
      | value v => exact ⟨v, rfl, hdo⟩
      | skip => exact ⟨undef, rfl, hdo⟩
      | enter f args =>
        refine ⟨fun h => (by cases h), ?_⟩
        have hc : CallsIn Fence.wide (n - 1) P f args w' _ := callsIn_wide.2 hdo
        refine CallsIn.mono (show CallsIn { Fence.wide with round := r } (n - 1) P f args w' _ from hc) ?_
        rintro e w'' ⟨v, rfl, h⟩
        exact ⟨v, rfl, h⟩
      | _ => exact hdo.elim
    | halt x w' => exact hdo.elim
  · rw [if_neg hw] at hdo ⊢
    exact ⟨fun _ _ => trivial, undef, rfl, hdo⟩
/-- THE LAW, without marks. -/
theorem wp_region_vals {id : Nat} {a0 A : Act} {w0 : World} (hm : P.follows .mixedOrders = true) (hokB : regionOkV a0.tmps.size ops = true) (R : World → World → Prop)
    (hsz : A.tmps.size = a0.tmps.size) (hdf : A.defers = a0.defers) (L : List Nat) (hL : sameElse ops a0.tmps.size = L) (hbase : SameAt A a0 L)
    (htr : ∀ {w w'}, R w0 w → R w w' → R w0 w') (h0 : R w0 w0.drew)
    (hop : ∀ w, R w0 w → OpsDo P ops A R w ops.toList)
    (hend : ∀ w, R w0 w → Q .normal A w) : (Code.region id ops true).wp P Q a0 w0 :=
  wp_region_valsM hm hokB R (fun _ _ => True) hsz hdf (fun t ht => base_else hsz (fun t ht => hbase.at_ t (hL ▸ ht)) t ht) htr h0 (fun _ _ _ _ _ _ => trivial) (fun w h => (hop w h).marked 0) (fun w h _ => hend w h)
theorem wpIn_region_vals {r : Option Nat} {n : Nat} {id : Nat} {a0 A : Act} {w0 : World} (hm : P.follows .mixedOrders = true) (hokB : regionOkV a0.tmps.size ops = true) (R : World → World → Prop)
    (hsz : A.tmps.size = a0.tmps.size) (hdf : A.defers = a0.defers) (L : List Nat) (hL : sameElse ops a0.tmps.size = L) (hbase : SameAt A a0 L)
    (htr : ∀ {w w'}, R w0 w → R w w' → R w0 w') (h0 : R w0 w0.drew)
    (hop : ∀ w, R w0 w → OpsDo P ops A R w ops.toList)
    (hend : ∀ w, R w0 w → Q .normal A w) : (Code.region id ops true).wpIn { Fence.wide with round := r } n P Q a0 w0 :=
  wpIn_region_valsM hm hokB R (fun _ _ => True) hsz hdf (fun t ht => base_else hsz (fun t ht => hbase.at_ t (hL ▸ ht)) t ht) htr h0 (fun _ _ _ _ _ _ => trivial) (fun w h => (hop w h).marked 0) (fun w h _ => hend w h)
theorem putAll_size : ∀ (os : List Oper) (vs : List Value) (a : Act), (putAll os vs a).tmps.size = a.tmps.size ∧ (putAll os vs a).defers = a.defers
  | [], _, _ => ⟨rfl, rfl⟩
  | _ :: _, [], _ => ⟨rfl, rfl⟩
  | o :: os, v :: vs, a => by
    have h := putAll_size os vs (a.put o.dst v)
    have h1 : (a.put o.dst v).tmps.size = a.tmps.size ∧ (a.put o.dst v).defers = a.defers := by cases o.dst <;> simp [Act.put]
    exact ⟨h.1.trans h1.1, h.2.trans h1.2⟩
theorem putAll_else (t : Nat) : ∀ (os : List Oper) (vs : List Value) (a : Act), (∀ o ∈ os, o.dst ≠ some t) → (putAll os vs a).tmps[t]? = a.tmps[t]?
  | [], _, _, _ => rfl
  | _ :: _, [], _, _ => rfl
  | o :: os, v :: vs, a, h => by
    have h1 := putAll_else t os vs (a.put o.dst v) (fun o ho => h o (List.mem_cons_of_mem _ ho))
    refine h1.trans ?_
    have h2 := h o (List.mem_cons_self ..)
    unfold Act.put
    cases hd : o.dst with
    | none => rfl
    | some d =>
      have : d ≠ t := fun e => h2 (by rw [hd, e])
      simp [Array.getElem?_setIfInBounds_ne this]
theorem putAll_base {a0 A : Act} {vs : List Value} (hA : putAll ops.toList vs a0 = A) : A.tmps.size = a0.tmps.size ∧ A.defers = a0.defers ∧ ∀ t, (∀ j, dstOf ops j ≠ some t) → A.tmps[t]? = a0.tmps[t]? := by
  subst hA
  refine ⟨(putAll_size _ _ _).1, (putAll_size _ _ _).2, fun t ht => putAll_else t _ _ _ fun o ho => ?_⟩
  obtain ⟨j, hj⟩ := Array.mem_iff_getElem?.1 (Array.mem_toList_iff.1 ho)
  intro hd
  exact ht j (by unfold dstOf; rw [hj]; exact hd)
/-- The same two laws, the filled activation made from the values, one for each operation. -/
theorem wp_region_list {id : Nat} {a0 A : Act} {w0 : World} (hm : P.follows .mixedOrders = true) (hokB : regionOkV a0.tmps.size ops = true) (vs : List Value) (hA : putAll ops.toList vs a0 = A) (R : World → World → Prop)
    (htr : ∀ {w w'}, R w0 w → R w w' → R w0 w') (h0 : R w0 w0.drew)
    (hop : ∀ w, R w0 w → OpsDo P ops A R w ops.toList)
    (hend : ∀ w, R w0 w → Q .normal A w) : (Code.region id ops true).wp P Q a0 w0 := by
  obtain ⟨h1, h2, h3⟩ := putAll_base hA
  refine wp_region_vals hm hokB R h1 h2 (sameElse ops a0.tmps.size) rfl ?_ htr h0 hop hend
  exact sameAt_of _ fun t ht => by
    rw [Array.getD_eq_getD_getElem?, Array.getD_eq_getD_getElem?, h3 t (noDst_spec (List.mem_filter.1 ht).2)]
theorem wpIn_region_list {r : Option Nat} {n : Nat} {id : Nat} {a0 A : Act} {w0 : World} (hm : P.follows .mixedOrders = true) (hokB : regionOkV a0.tmps.size ops = true) (vs : List Value) (hA : putAll ops.toList vs a0 = A) (R : World → World → Prop)
    (htr : ∀ {w w'}, R w0 w → R w w' → R w0 w') (h0 : R w0 w0.drew)
    (hop : ∀ w, R w0 w → OpsDo P ops A R w ops.toList)
    (hend : ∀ w, R w0 w → Q .normal A w) : (Code.region id ops true).wpIn { Fence.wide with round := r } n P Q a0 w0 := by
  obtain ⟨h1, h2, h3⟩ := putAll_base hA
  refine wpIn_region_vals hm hokB R h1 h2 (sameElse ops a0.tmps.size) rfl ?_ htr h0 hop hend
  exact sameAt_of _ fun t ht => by
    rw [Array.getD_eq_getD_getElem?, Array.getD_eq_getD_getElem?, h3 t (noDst_spec (List.mem_filter.1 ht).2)]
theorem wp_region_listM {id : Nat} {a0 A : Act} {w0 : World} (hm : P.follows .mixedOrders = true) (hokB : regionOkV a0.tmps.size ops = true) (vs : List Value) (hA : putAll ops.toList vs a0 = A) (R : World → World → Prop) (Ψ : Nat → World → Prop)
    (htr : ∀ {w w'}, R w0 w → R w w' → R w0 w') (h0 : R w0 w0.drew) (hkept : ∀ j w w', R w0 w → Ψ j w → R w w' → Ψ j w')
    (hop : ∀ w, R w0 w → OpsDoM P ops A R Ψ w 0 ops.toList)
    (hend : ∀ w, R w0 w → (∀ j, j < ops.size → Ψ j w) → Q .normal A w) : (Code.region id ops true).wp P Q a0 w0 := by
  obtain ⟨h1, h2, h3⟩ := putAll_base hA
  exact wp_region_valsM hm hokB R Ψ h1 h2 h3 htr h0 hkept hop hend
/-- The single operation, ready for use. -/
theorem opDo_value {A : Act} {R : World → World → Prop} {o : Oper} {w w' : World} {t : Tmp} (hd : o.dst = some t) (hw : Region.wanted o (yielded ops A.tmps) = true) (hrun : (execOp A.eval o).run P w = .ok (.value (A.tmps.getD t undef)) w') (hR : R w w') : OpDo P ops A R o w := by
  unfold OpDo
  rw [if_pos hw, hrun]
  exact ⟨hR, fun s hs => by rw [hd] at hs; injection hs with hs; rw [hs]⟩
theorem opDo_skip {A : Act} {R : World → World → Prop} {o : Oper} {w w' : World} (hd : o.dst = none) (hw : Region.wanted o (yielded ops A.tmps) = true) (hrun : (execOp A.eval o).run P w = .ok .skip w') (hR : R w w') : OpDo P ops A R o w := by
  unfold OpDo
  rw [if_pos hw, hrun]
  exact ⟨hR, fun s hs => by rw [hd] at hs; cases hs⟩
theorem opDo_pass {A : Act} {R : World → World → Prop} {o : Oper} {w : World} {t : Tmp} (hd : o.dst = some t) (hw : Region.wanted o (yielded ops A.tmps) = false) (hv : A.tmps.getD t undef = undef) (hR : R w w) : OpDo P ops A R o w := by
  unfold OpDo
  rw [if_neg (by rw [hw]; simp)]
  exact ⟨hR, fun s hs => by rw [hd] at hs; injection hs with hs; rw [← hs]; exact hv⟩
theorem opDo_call {A : Act} {R : World → World → Prop} {o : Oper} {w w' : World} {t : Tmp} {f : FuncId} {args : Array Value} (hd : o.dst = some t) (hw : Region.wanted o (yielded ops A.tmps) = true) (hrun : (execOp A.eval o).run P w = .ok (.enter f args) w') (hc : Calls P f args w' fun e w'' => e = .returned (A.tmps.getD t undef) ∧ R w w'') : OpDo P ops A R o w := by
  unfold OpDo
  rw [if_pos hw, hrun]
  refine Calls.mono hc ?_
  rintro e w'' ⟨rfl, h⟩
  exact ⟨_, rfl, h, fun s hs => by rw [hd] at hs; injection hs with hs; rw [hs]⟩
end
end Go.Proofs.Ytcnhjbipncledaa
