/- A region that draws its order, walked once: what is quiet as soon as it may come up, everything else in the one order that its edges leave; outside and inside a fence. No program. -/
import Derived.Test.YtcnhjbipncledaaRegV
namespace Go.Proofs.Ytcnhjbipncledaa
open Go.RowKit

section
variable {P : Program} {ops : Array Oper} {G : Nat → World → World → Prop} {C : World → Prop}
/-- What an operation leads to: the world that it leaves is good for it. -/
def uponE (P : Program) (g : World → Prop) (o : Oper) (a : Act) (K : Act → World → Prop) : Result Next → Prop
  | .ok (.value v) w' => g w' ∧ K (a.put o.dst v) w'
  | .ok .skip w' => g w' ∧ K (a.put o.dst undef) w'
  | .ok (.enter f args) w' => Calls P f args w' fun e w'' => ∃ v, e = .returned v ∧ g w'' ∧ K (a.put o.dst v) w''
  | _ => False
def stepE (P : Program) (ops : Array Oper) (G : Nat → World → World → Prop) (i : Nat) (K : Act → World → Prop) (a : Act) (w : World) : Prop :=
  ∃ o, ops[i]? = some o ∧ if Region.wanted o (yielded ops a.tmps) = true then uponE P (G i w) o a K ((execOp a.eval o).run P w) else G i w w ∧ K (a.put o.dst undef) w
theorem uponE_mono {g : World → Prop} {o : Oper} {a : Act} {K K' : Act → World → Prop} {r : Result Next} (h : ∀ a w, K a w → K' a w) (hh : uponE P g o a K r) : uponE P g o a K' r := by
  cases r with
  | ok x w' =>
    cases x <;> simp only [uponE] at hh ⊢
    case value => exact ⟨hh.1, h _ _ hh.2⟩
    case skip => exact ⟨hh.1, h _ _ hh.2⟩
    case enter => exact Calls.mono hh fun e w'' ⟨v, h1, h2, h3⟩ => ⟨v, h1, h2, h _ _ h3⟩
  | halt x w' => exact hh
theorem stepE_mono {i : Nat} {K K' : Act → World → Prop} {a : Act} {w : World} (h : ∀ a w, K a w → K' a w) (hh : stepE P ops G i K a w) : stepE P ops G i K' a w := by
  obtain ⟨o, ho, hh⟩ := hh
  refine ⟨o, ho, ?_⟩
  split
  · rename_i hw; rw [if_pos hw] at hh; exact uponE_mono h hh
  · rename_i hw; rw [if_neg hw] at hh; exact ⟨hh.1, h _ _ hh.2⟩
theorem wpOp_of_E {Q : Exit → Act → World → Prop} {i : Nat} {K : Act → World → Prop} {a : Act} {w : World} (hh : stepE P ops G i K a w) : wpOp P ops Q i K a w := by
  obtain ⟨o, ho, hh⟩ := hh
  unfold wpOp
  rw [ho]
  simp only []
  by_cases hw : Region.wanted o (yielded ops a.tmps) = true
  · rw [if_pos hw] at hh ⊢
    refine .inl ?_
    unfold Oper.wp
    generalize (execOp a.eval o).run P w = r at *
    cases r with
    | ok x w' =>
      cases x <;> simp only [uponE] at hh
      case value => exact hh.2
      case skip => exact hh.2
      case enter =>
        refine Calls.mono hh ?_
        rintro e w'' ⟨v, rfl, _, h⟩
        exact h
    | halt x w' => exact hh.elim
  · rw [if_neg hw] at hh ⊢
    exact hh.2
theorem any_of_E {Q : Exit → Act → World → Prop} : ∀ (fuel : Nat) (listed : Array Bool) (a : Act) (w : World), anyG (stepE P ops G) .any ops Q fuel listed a w → wpAny P .any ops Q fuel listed a w
  | 0, _, _, _, h => h
  | _ + 1, _, _, _, h => ⟨h.1, fun i hi => wpOp_mono (fun _ _ hk => any_of_E _ _ _ _ hk) (wpOp_of_E (h.2 i hi))⟩
/-- It is quiet: in whatever world (of C, where it reads) it hands on v, and leaves that world. -/
def YieldsE (P : Program) (ops : Array Oper) (C : World → Prop) (r : Bool) (o : Oper) (v : Value) (a : Act) : Prop :=
  (Region.wanted o (yielded ops a.tmps) = true ∧ ∀ w, (r = true → C w) → (execOp a.eval o).run P w = .ok (.value v) w) ∨ (¬ Region.wanted o (yielded ops a.tmps) = true ∧ v = undef)
theorem YieldsE.same {r : Bool} {o : Oper} {v : Value} {a a' : Act} (h : YieldsE P ops C r o v a) (he : execOp a'.eval o = execOp a.eval o) (hw : Region.wanted o (yielded ops a'.tmps) = Region.wanted o (yielded ops a.tmps)) : YieldsE P ops C r o v a' := by
  unfold YieldsE at *
  rw [he, hw]; exact h
theorem YieldsE.step {r : Bool} {i : Nat} {o : Oper} {v : Value} {a : Act} {K : Act → World → Prop} {w : World} (ho : ops[i]? = some o) (h : YieldsE P ops C r o v a) (hC : r = true → C w) (hG : G i w w) (hK : K (a.put o.dst v) w) : stepE P ops G i K a w := by
  refine ⟨o, ho, ?_⟩
  rcases h with ⟨hw, hr⟩ | ⟨hw, rfl⟩
  · rw [if_pos hw, hr w hC]; exact ⟨hG, hK⟩
  · rw [if_neg hw]; exact ⟨hG, hK⟩
/-- Two operations apart may change places, the one being quiet. -/
theorem stepE_swap {r : Bool} {j : Nat} {oi oj : Oper} {v : Value} (hj : ops[j]? = some oj) (hap : oi.apart ops oj = true) (hsi : ∀ cs b, oi.op ≠ .select cs b) (hsj : ∀ cs b, oj.op ≠ .select cs b) {K : Act → World → Prop} {a : Act} {w : World}
    (hy : YieldsE P ops C r oi v a) (h : stepE P ops G j K (a.put oi.dst v) w) : stepE P ops G j (fun a' w' => YieldsE P ops C r oi v a' ∧ G j w w' ∧ K (a'.put oi.dst v) w') a w := by
  obtain ⟨h1, h2, h3⟩ := Oper.apart_spec hap
  have keep : ∀ u, YieldsE P ops C r oi v (a.put oj.dst u) := fun u => hy.same (execOp_put oi hsi a oj.dst u h3) (wanted_put oi a oj.dst u h3)
  obtain ⟨o, ho, h⟩ := h
  obtain rfl : o = oj := Option.some.inj (ho.symm.trans hj)
  refine ⟨o, ho, ?_⟩
  rw [wanted_put o a oi.dst v h1] at h
  split
  · rename_i hw
    rw [if_pos hw, execOp_put o hsj a oi.dst v h1] at h
    generalize (execOp a.eval o).run P w = x at *
    cases x with
    | ok x w' =>
      cases x <;> simp only [uponE] at h ⊢
      case value u => exact ⟨h.1, keep u, h.1, by rw [← Act.put_comm a v u h2]; exact h.2⟩
      case skip => exact ⟨h.1, keep _, h.1, by rw [← Act.put_comm a v undef h2]; exact h.2⟩
      case enter f args =>
        refine Calls.mono h ?_
        rintro e w'' ⟨u, he, hg, hk⟩
        exact ⟨u, he, hg, keep u, hg, by rw [← Act.put_comm a v u h2]; exact hk⟩
    | halt x w' => exact h.elim
  · rename_i hw
    rw [if_neg hw] at h
    exact ⟨h.1, keep _, h.1, by rw [← Act.put_comm a v undef h2]; exact h.2⟩
/-- Operation j waits for r, if only through others. -/
def behind (ops : Array Oper) : Nat → Nat → Nat → Bool
  | 0, _, _ => false
  | n + 1, j, r => waitsOn ops j r || (List.range ops.size).any fun k => waitsOn ops j k && behind ops n k r
def ClosedE (ops : Array Oper) (listed : Array Bool) : Prop := ∀ j k, listed.getD j false = true → waitsOn ops j k = true → listed.getD k false = true
theorem waits_listed {listed : Array Bool} {j k : Nat} (hj : j ∈ Region.ready .any ops listed) (hw : waitsOn ops j k = true) : listed.getD k false = true := by
  obtain ⟨_, o, ho, hall⟩ := mem_ready.1 hj
  obtain ⟨o', ho', e, he, hb, hon⟩ := waitsOn_spec hw
  obtain rfl : o' = o := Option.some.inj (ho'.symm.trans ho)
  rw [← hon]; exact hall e he hb
theorem behind_listed {listed : Array Bool} (hc : ClosedE ops listed) {r : Nat} : ∀ (n j : Nat), listed.getD j false = true → behind ops n j r = true → listed.getD r false = true := by
  intro n
  induction n with
  | zero => intro j _ h; cases h
  | succ n ih =>
    intro j hj h
    unfold behind at h
    rw [Bool.or_eq_true, List.any_eq_true] at h
    rcases h with h | ⟨k, _, h⟩
    · exact hc j r hj h
    · rw [Bool.and_eq_true] at h
      exact ih k (hc j k hj h.1) h.2
theorem behind_ready {listed : Array Bool} (hc : ClosedE ops listed) {r j : Nat} (hj : j ∈ Region.ready .any ops listed) : ∀ (n : Nat), behind ops n j r = true → listed.getD r false = true := by
  intro n h
  cases n with
  | zero => cases h
  | succ n =>
    unfold behind at h
    rw [Bool.or_eq_true, List.any_eq_true] at h
    rcases h with h | ⟨k, _, h⟩
    · exact waits_listed hj h
    · rw [Bool.and_eq_true] at h
      exact behind_listed hc n k (waits_listed hj h.1) h.2
theorem unlisted_of_ready {listed : Array Bool} {j : Nat} (hj : j ∈ Region.ready .any ops listed) : listed.getD j false = false := by
  have h0 := (mem_ready.1 hj).1
  rcases Nat.lt_or_ge j listed.size with h' | h'
  · simp [h'] at h0 ⊢; exact h0
  · simp [Array.getElem?_eq_none h']
theorem ClosedE.set {listed : Array Bool} (hc : ClosedE ops listed) {i : Nat} (hi : i ∈ Region.ready .any ops listed) : ClosedE ops (listed.setIfInBounds i true) := by
  intro j k hj hw
  by_cases hij : i = j
  · subst hij
    exact getD_set_true (waits_listed hi hw)
  · rw [getD_set_ne false hij] at hj
    exact getD_set_true (hc j k hj hw)
/-- What is quiet and may come up may come up first. -/
theorem anyG_first {Q : Exit → Act → World → Prop} {r : Bool} {i : Nat} {oi : Oper} {v : Value} (hi : ops[i]? = some oi) (hsel : ∀ (j : Nat) (o : Oper) cs b, ops[j]? = some o → o.op ≠ .select cs b) (hGi : ∀ w, G i w w)
    (hG : r = true → ∀ j listed w w', ClosedE ops listed → j ∈ Region.ready .any ops listed → i ∈ Region.ready .any ops listed → j ≠ i → listed.getD i false = false → C w → G j w w' → C w') :
    ∀ (fuel : Nat) (listed : Array Bool) (a : Act) (w : World), ClosedE ops listed →
      (∀ j oj, ops[j]? = some oj → j ≠ i → listed.getD j true = false → (∀ e ∈ oj.after, Region.binds .any e = true → e.on ≠ i) → oi.apart ops oj = true) →
      i ∈ Region.ready .any ops listed → (r = true → C w) → YieldsE P ops C r oi v a →
      anyG (stepE P ops G) .any ops Q fuel (listed.setIfInBounds i true) (a.put oi.dst v) w → anyG (stepE P ops G) .any ops Q (fuel + 1) listed a w := by
  intro fuel
  induction fuel with
  | zero =>
    intro listed a w _ _ hr hC hy H
    refine ⟨fun h => (by rw [h] at hr; cases hr), fun j hj => ?_⟩
    by_cases hji : j = i
    · subst hji; exact hy.step hi hC (hGi w) H
    · have := ready_mono hj hji
      rw [H.1] at this
      cases this
  | succ fuel ih =>
    intro listed a w hc hfree hr hC hy H
    refine ⟨fun h => (by rw [h] at hr; cases hr), fun j hj => ?_⟩
    by_cases hji : j = i
    · subst hji; exact hy.step hi hC (hGi w) H
    · have h1 := H.2 j (ready_mono hj hji)
      obtain ⟨hjun, oj, hoj, hall⟩ := mem_ready.1 hj
      have hiun : listed.getD i false = false := by
        have h0 := (mem_ready.1 hr).1
        rcases Nat.lt_or_ge i listed.size with h' | h'
        · simp [h'] at h0 ⊢; exact h0
        · simp [Array.getElem?_eq_none h']
      have hnot : ∀ e ∈ oj.after, Region.binds .any e = true → e.on ≠ i := fun e he hb heq => by
        have h1 := hall e he hb
        rw [heq, hiun] at h1; cases h1
      have h2 := stepE_swap hoj (hfree j oj hoj hji hjun hnot) (fun cs b => hsel i oi cs b hi) (fun cs b => hsel j oj cs b hoj) hy h1
      have hfree' : ∀ k ok, ops[k]? = some ok → k ≠ i → (listed.setIfInBounds j true).getD k true = false →
          (∀ e ∈ ok.after, Region.binds .any e = true → e.on ≠ i) → oi.apart ops ok = true := fun k ok hk hki hun hno => by
        refine hfree k ok hk hki ?_ hno
        by_cases hjk : j = k
        · subst hjk; exact hjun
        · rw [getD_set_ne true hjk] at hun; exact hun
      refine stepE_mono (fun a' w' h3 => ih (listed.setIfInBounds j true) a' w' (hc.set hj) hfree' (ready_mono hr (Ne.symm hji)) (fun e => hG e j listed w w' hc hj hr hji hiun (hC e) h3.2.1) h3.1 ?_) h2
      rw [Array.setIfInBounds_comm _ _ hji]
      exact h3.2.2
/-- Whatever is quiet leaves its world; whatever must leaves one of C. -/
def goodE (C : World → Prop) (qs must : List Nat) (i : Nat) (w w' : World) : Prop := (qs.contains i = true → w' = w) ∧ (must.contains i = true → C w')
/-- The walk, in one order: qs: the quiet ones; st: those of them that read and meet nothing that is loud; rd: those that read beside what is loud. -/
def wpE (P : Program) (ops : Array Oper) (C : World → Prop) (qs st rd must : List Nat) (K : Act → World → Prop) : List Nat → Act → World → Prop
  | [], a, w => K a w
  | i :: rest, a, w => if qs.contains i = true then ∃ o v, ops[i]? = some o ∧ (if st.contains i = true then YieldsE P ops (fun w' => w' = w) true o v a else (rd.contains i = true → C w) ∧ YieldsE P ops C (rd.contains i) o v a) ∧ wpE P ops C qs st rd must K rest (a.put o.dst v) w
    else ∃ o, ops[i]? = some o ∧ if Region.wanted o (yielded ops a.tmps) = true then uponE P (fun w' => must.contains i = true → C w') o a (wpE P ops C qs st rd must K rest) ((execOp a.eval o).run P w) else (must.contains i = true → C w) ∧ wpE P ops C qs st rd must K rest (a.put o.dst undef) w
def chkE (ops : Array Oper) (qs : List Nat) : List Nat → Array Bool → Bool
  | [], listed => (Region.ready .any ops listed).isEmpty
  | i :: rest, listed => (Region.ready .any ops listed).contains i && (if qs.contains i then Region.free .any ops listed i else decide (Region.ready .any ops listed = [i])) && chkE ops qs rest (listed.setIfInBounds i true)
def regionE (ops : Array Oper) (qs st rd must order : List Nat) : Bool :=
  Region.noSelect ops && decide (order.length = ops.size) && qs.all (fun i => !must.contains i) && st.all (fun r => (List.range ops.size).all fun j => qs.contains j || behind ops ops.size j r || behind ops ops.size r j) && rd.all (fun r => (List.range ops.size).all fun j => qs.contains j || must.contains j || behind ops ops.size j r || behind ops ops.size r j) && chkE ops qs order (Array.replicate ops.size false)
theorem anyG_of_E {Q : Exit → Act → World → Prop} {qs st rd must : List Nat} (hsel : Region.noSelect ops = true) (hq : qs.all (fun i => !must.contains i) = true) (hst : st.all (fun r => (List.range ops.size).all fun j => qs.contains j || behind ops ops.size j r || behind ops ops.size r j) = true) (hrd : rd.all (fun r => (List.range ops.size).all fun j => qs.contains j || must.contains j || behind ops ops.size j r || behind ops ops.size r j) = true) :
    ∀ (order : List Nat) (listed : Array Bool) (a : Act) (w : World), ClosedE ops listed → chkE ops qs order listed = true → wpE P ops C qs st rd must (Q .normal) order a w → anyG (stepE P ops (goodE C qs must)) .any ops Q order.length listed a w
  | [], listed, a, w, _, hk, h => ⟨by simpa [chkE] using hk, h⟩
  | i :: rest, listed, a, w, hc, hk, h => by
    unfold chkE at hk
    rw [Bool.and_eq_true, Bool.and_eq_true] at hk
    obtain ⟨⟨hr, hf⟩, hk⟩ := hk
    have hr' : i ∈ Region.ready .any ops listed := by simpa using hr
    unfold wpE at h
    by_cases hqi : qs.contains i = true
    · rw [if_pos hqi] at hf h
      obtain ⟨o, v, ho, hy, h⟩ := h
      have hm : must.contains i = false := by
        have := (List.all_eq_true.1 hq) i (by simpa using hqi)
        simpa using this
      have hgi : ∀ w, goodE C qs must i w w := fun w => ⟨fun _ => rfl, fun e => (by rw [hm] at e; cases e)⟩
      have hend := anyG_of_E hsel hq hst hrd rest _ _ _ (hc.set hr') hk h
      by_cases hsi : st.contains i = true
      · rw [if_pos hsi] at hy
        refine anyG_first (C := fun w' => w' = w) ho (Region.noSelect_spec hsel) hgi (fun _ j listed' w1 w' hc' hj hi' _ hun hCw hg => ?_) rest.length listed a w hc (Region.free_spec ho hf) hr' (fun _ => rfl) hy hend
        have hjl : j < ops.size := by
          obtain ⟨_, o', ho', _⟩ := mem_ready.1 hj
          exact (Array.getElem?_eq_some_iff.1 ho').1
        have h1 := (List.all_eq_true.1 ((List.all_eq_true.1 hst) i (by simpa using hsi))) j (List.mem_range.2 hjl)
        rw [Bool.or_eq_true, Bool.or_eq_true] at h1
        rcases h1 with (h1 | h1) | h1
        · rw [hg.1 h1]; exact hCw
        · have := behind_ready hc' hj _ h1
          rw [hun] at this; cases this
        · have := behind_ready hc' hi' _ h1
          have h0 := unlisted_of_ready hj
          rw [h0] at this; cases this
      · rw [if_neg hsi] at hy
        refine anyG_first ho (Region.noSelect_spec hsel) hgi (fun hri j listed' w1 w' hc' hj hi' _ hun hCw hg => ?_) rest.length listed a w hc (Region.free_spec ho hf) hr' hy.1 hy.2 hend
        have hjl : j < ops.size := by
          obtain ⟨_, o', ho', _⟩ := mem_ready.1 hj
          exact (Array.getElem?_eq_some_iff.1 ho').1
        have h1 := (List.all_eq_true.1 ((List.all_eq_true.1 hrd) i (by simpa using hri))) j (List.mem_range.2 hjl)
        rw [Bool.or_eq_true, Bool.or_eq_true, Bool.or_eq_true] at h1
        rcases h1 with ((h1 | h1) | h1) | h1
        · rw [hg.1 h1]; exact hCw
        · exact hg.2 h1
        · have := behind_ready hc' hj _ h1
          rw [hun] at this; cases this
        · have := behind_ready hc' hi' _ h1
          have h0 := unlisted_of_ready hj
          rw [h0] at this; cases this
    · rw [if_neg hqi] at hf h
      have hf' : Region.ready .any ops listed = [i] := of_decide_eq_true hf
      obtain ⟨o, ho, h⟩ := h
      refine ⟨fun e => (by rw [hf'] at e; cases e), fun j hj => ?_⟩
      rw [hf'] at hj
      obtain rfl : j = i := by simpa using hj
      have ih := fun a w => anyG_of_E (Q := Q) hsel hq hst hrd rest (listed.setIfInBounds j true) a w (hc.set hr') hk
      refine ⟨o, ho, ?_⟩
      split
      · rename_i hw
        rw [if_pos hw] at h
        generalize (execOp a.eval o).run P w = x at *
        cases x with
        | ok x w' =>
          cases x <;> simp only [uponE] at h ⊢
          case value => exact ⟨⟨fun e => absurd e hqi, h.1⟩, ih _ _ h.2⟩
          case skip => exact ⟨⟨fun e => absurd e hqi, h.1⟩, ih _ _ h.2⟩
          case enter =>
            refine Calls.mono h ?_
            rintro e w'' ⟨u, he, hg, hk'⟩
            exact ⟨u, he, ⟨fun e => absurd e hqi, hg⟩, ih _ _ hk'⟩
        | halt x w' => exact h.elim
      · rename_i hw
        rw [if_neg hw] at h
        exact ⟨⟨fun e => absurd e hqi, h.1⟩, ih _ _ h.2⟩
/-- THE LAW. -/
theorem wp_region_E {Q : Exit → Act → World → Prop} {id : Nat} {a0 : Act} {w0 : World} (hm : P.follows .mixedOrders = true) (qs st rd must order : List Nat) (hB : regionE ops qs st rd must order = true) (C : World → Prop)
    (h : wpE P ops C qs st rd must (Q .normal) order a0 w0.drew) : (Code.region id ops true).wp P Q a0 w0 := by
  unfold regionE at hB
  simp only [Bool.and_eq_true, decide_eq_true_eq] at hB
  obtain ⟨⟨⟨⟨⟨hsel, hl⟩, hq⟩, hst⟩, hrd⟩, hk⟩ := hB
  have := anyG_of_E (C := C) hsel hq hst hrd order _ a0 w0.drew (fun j k hj => by
    rcases Nat.lt_or_ge j ops.size with h' | h'
    · simp [h'] at hj
    · simp [h'] at hj) hk h
  rw [hl] at this
  exact wp_region_any hm (any_of_E _ _ _ _ this)
/-- No operation defers. -/
def noDefer (ops : Array Oper) : Bool := ops.all fun o => match o.op with | .defer _ => false | _ => true
theorem noDefer_spec (h : noDefer ops = true) {i : Nat} {o : Oper} (ho : ops[i]? = some o) : ∀ c, o.op ≠ .defer c := by
  intro c e
  unfold noDefer at h
  have := (Array.all_eq_true_iff_forall_mem.1 h) o (Array.mem_of_getElem? ho)
  rw [e] at this; cases this
theorem wpOpIn_of_E {Q : Exit → Act → World → Prop} {r : Option Nat} {n : Nat} (hd : noDefer ops = true) {i : Nat} {K : Act → World → Prop} {a : Act} {w : World} (hh : stepE P ops G i K a w) : wpOpIn { Fence.wide with round := r } n P ops Q i K a w := by
  obtain ⟨o, ho, hh⟩ := hh
  unfold wpOpIn
  rw [ho]
  simp only []
  by_cases hw : Region.wanted o (yielded ops a.tmps) = true
  · rw [if_pos hw] at hh ⊢
    refine ⟨fun _ _ => trivial, ?_⟩
    have hsem : Oper.semAt r a.eval o = execOp a.eval o := by
      cases r with
      | none => exact Oper.semAt_none _ _
      | some l => exact Oper.semAt_some l _ o (noDefer_spec hd ho)
    show o.uponIn { Fence.wide with round := r } n P a _ Q ((Oper.semAt r a.eval o).run P w)
    rw [hsem]
    generalize (execOp a.eval o).run P w = x at *
    cases x with
    | ok x w' =>
      cases x <;> simp only [uponE] at hh
      case value => exact hh.2
      case skip => exact hh.2
      case enter f args =>
        refine ⟨fun h => (by cases h), ?_⟩
        have hc : CallsIn Fence.wide (n - 1) P f args w' _ := callsIn_wide.2 hh
        refine CallsIn.mono (show CallsIn { Fence.wide with round := r } (n - 1) P f args w' _ from hc) ?_
        rintro e w'' ⟨v, rfl, _, h⟩
        exact h
    | halt x w' => exact hh.elim
  · rw [if_neg hw] at hh ⊢
    exact ⟨fun _ _ => trivial, hh.2⟩
theorem anyIn_of_E {Q : Exit → Act → World → Prop} {r : Option Nat} {n : Nat} (hd : noDefer ops = true) : ∀ (fuel : Nat) (listed : Array Bool) (a : Act) (w : World), anyG (stepE P ops G) .any ops Q fuel listed a w → wpAnyIn { Fence.wide with round := r } n P .any ops Q fuel listed a w
  | 0, _, _, _, h => h
  | _ + 1, _, _, _, h => ⟨h.1, fun i hi => wpOpIn_mono (fun _ _ hk => anyIn_of_E hd _ _ _ _ hk) (wpOpIn_of_E hd (h.2 i hi))⟩
/-- THE LAW, inside a fence as wide as can be, in a round or outside. -/
theorem wpIn_region_E {Q : Exit → Act → World → Prop} {r : Option Nat} {n : Nat} {id : Nat} {a0 : Act} {w0 : World} (hm : P.follows .mixedOrders = true) (hd : noDefer ops = true) (qs st rd must order : List Nat) (hB : regionE ops qs st rd must order = true) (C : World → Prop)
    (h : wpE P ops C qs st rd must (Q .normal) order a0 w0.drew) : (Code.region id ops true).wpIn { Fence.wide with round := r } n P Q a0 w0 := by
  unfold regionE at hB
  simp only [Bool.and_eq_true, decide_eq_true_eq] at hB
  obtain ⟨⟨⟨⟨⟨hsel, hl⟩, hq⟩, hst⟩, hrd⟩, hk⟩ := hB
  have := anyG_of_E (C := C) hsel hq hst hrd order _ a0 w0.drew (fun j k hj => by
    rcases Nat.lt_or_ge j ops.size with h' | h'
    · simp [h'] at hj
    · simp [h'] at hj) hk h
  rw [hl] at this
  exact wpIn_region_any hm (anyIn_of_E hd _ _ _ _ this)
/-! ### The steps -/
variable {qs st rd must : List Nat} {K : Act → World → Prop} {i : Nat} {rest : List Nat} {o : Oper} {a : Act} {w : World}
theorem wpE_nil (h : K a w) : wpE P ops C qs st rd must K [] a w := h
/-- A quiet one that does not read, one at a time. -/
theorem wpE_pure (ho : ops[i]? = some o) (hq : qs.contains i = true) (hs : st.contains i = false) (hr : rd.contains i = false)
    (h : ∀ J : Act → Prop, (∀ a, wpE P ops C qs st rd must K rest a w → J a) → if Region.wanted o (yielded ops a.tmps) = true then ∃ v, (∀ w', (execOp a.eval o).run P w' = .ok (.value v) w') ∧ J (a.put o.dst v) else J (a.put o.dst undef)) : wpE P ops C qs st rd must K (i :: rest) a w := by
  unfold wpE
  rw [if_pos hq]
  have h := h _ (fun _ h => h)
  by_cases hw : Region.wanted o (yielded ops a.tmps) = true
  · rw [if_pos hw] at h
    obtain ⟨v, h1, h2⟩ := h
    exact ⟨o, v, ho, by rw [if_neg (by rw [hs]; simp)]; exact ⟨fun e => (by rw [hr] at e; cases e), .inl ⟨hw, fun w _ => h1 w⟩⟩, h2⟩
  · rw [if_neg hw] at h
    exact ⟨o, undef, ho, by rw [if_neg (by rw [hs]; simp)]; exact ⟨fun e => (by rw [hr] at e; cases e), .inr ⟨hw, rfl⟩⟩, h⟩
/-- A quiet one that reads and meets nothing loud. -/
theorem wpE_still (ho : ops[i]? = some o) (hq : qs.contains i = true) (hs : st.contains i = true)
    (h : ∀ J : Act → Prop, (∀ a, wpE P ops C qs st rd must K rest a w → J a) → if Region.wanted o (yielded ops a.tmps) = true then ∃ v, (execOp a.eval o).run P w = .ok (.value v) w ∧ J (a.put o.dst v) else J (a.put o.dst undef)) : wpE P ops C qs st rd must K (i :: rest) a w := by
  unfold wpE
  rw [if_pos hq]
  have h := h _ (fun _ h => h)
  by_cases hw : Region.wanted o (yielded ops a.tmps) = true
  · rw [if_pos hw] at h
    obtain ⟨v, h1, h2⟩ := h
    exact ⟨o, v, ho, by rw [if_pos hs]; exact .inl ⟨hw, fun w' e => by rw [e rfl]; exact h1⟩, h2⟩
  · rw [if_neg hw] at h
    exact ⟨o, undef, ho, by rw [if_pos hs]; exact .inr ⟨hw, rfl⟩, h⟩
/-- A quiet one that reads beside what is loud. -/
theorem wpE_read (ho : ops[i]? = some o) (hq : qs.contains i = true) (hs : st.contains i = false) (v : Value) (hw : Region.wanted o (yielded ops a.tmps) = true) (hC : C w) (hrun : ∀ w', C w' → (execOp a.eval o).run P w' = .ok (.value v) w')
    (hr : rd.contains i = true) (h : wpE P ops C qs st rd must K rest (a.put o.dst v) w) : wpE P ops C qs st rd must K (i :: rest) a w := by
  unfold wpE
  rw [if_pos hq]
  exact ⟨o, v, ho, by rw [if_neg (by rw [hs]; simp)]; exact ⟨fun _ => hC, .inl ⟨hw, fun w' h => hrun w' (h hr)⟩⟩, h⟩
/-- Any other, one at a time. -/
theorem wpE_loud (ho : ops[i]? = some o) (hq : qs.contains i = false)
    (h : ∀ J : Act → World → Prop, (∀ a w, wpE P ops C qs st rd must K rest a w → J a w) → if Region.wanted o (yielded ops a.tmps) = true then uponE P (fun w' => must.contains i = true → C w') o a J ((execOp a.eval o).run P w) else (must.contains i = true → C w) ∧ J (a.put o.dst undef) w) : wpE P ops C qs st rd must K (i :: rest) a w := by
  unfold wpE
  rw [if_neg (by rw [hq]; simp)]
  exact ⟨o, ho, h _ (fun _ _ h => h)⟩
theorem wpE_value (ho : ops[i]? = some o) (hq : qs.contains i = false) (hw : Region.wanted o (yielded ops a.tmps) = true) {v : Value} {w' : World} (hrun : (execOp a.eval o).run P w = .ok (.value v) w') (hm : must.contains i = true → C w')
    (h : wpE P ops C qs st rd must K rest (a.put o.dst v) w') : wpE P ops C qs st rd must K (i :: rest) a w :=
  wpE_loud ho hq fun J hJ => by rw [if_pos hw, hrun]; exact ⟨hm, hJ _ _ h⟩
theorem wpE_store (ho : ops[i]? = some o) (hq : qs.contains i = false) (hw : Region.wanted o (yielded ops a.tmps) = true) {w' : World} (hrun : (execOp a.eval o).run P w = .ok .skip w') (hm : must.contains i = true → C w')
    (h : wpE P ops C qs st rd must K rest (a.put o.dst undef) w') : wpE P ops C qs st rd must K (i :: rest) a w :=
  wpE_loud ho hq fun J hJ => by rw [if_pos hw, hrun]; exact ⟨hm, hJ _ _ h⟩
theorem wpE_call (ho : ops[i]? = some o) (hq : qs.contains i = false) (hw : Region.wanted o (yielded ops a.tmps) = true) {w' : World} (f : FuncId) (args : Array Value) (hrun : (execOp a.eval o).run P w = .ok (.enter f args) w')
    (hc : Calls P f args w' fun e w'' => ∃ v, e = .returned v ∧ (must.contains i = true → C w'') ∧ wpE P ops C qs st rd must K rest (a.put o.dst v) w'') : wpE P ops C qs st rd must K (i :: rest) a w :=
  wpE_loud ho hq fun J hJ => by rw [if_pos hw, hrun]; exact Calls.mono hc fun e w'' ⟨v, h1, h2, h3⟩ => ⟨v, h1, h2, hJ _ _ h3⟩
end
end Go.Proofs.Ytcnhjbipncledaa
