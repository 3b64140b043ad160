/- A range over a function: own law, by what may turn: the caller's boxes, the iterator's boxes, the loop's record. No program. -/
import Derived.Test.YtfbepdlahaefgaaDoorChg
import Derived.RangeFuncNested
import Derived.RangeFuncBound
import Derived.RangeFuncCalls
import Derived.RangeFuncLeaves
namespace Go.Proofs.YtfbepdlahaefgaaDoor
open Go.RowKit

section
variable {F : Fence} {n : Nat} {P : Program} {w : World} {α : Type}
theorem chg_putObj (S : List Nat) (W : World) (l : Nat) (o : Obj) (h : l ∈ S) : Chg S W (W.putObj l o) :=
  ⟨rfl, rfl, rfl, by simp, fun k _ hn => World.putObj_heap_other (fun e => hn (by rw [e]; exact h))⟩
/-- THE ITERATOR's WORD: rounds are asked for one behind the other; a round may turn Cs and the record l, the iterator Bs. -/
def StopsX (F : Fence) (n : Nat) (P : Program) (g : Nat) (lb : Array Value) (encs : α → Array Value) (Bs Cs : List Nat) (Ok : Nat → α → World → Prop) (Sd Sp : Nat → Prop) (w : World) : Prop :=
  ∀ (l : Nat) (J Jx : Nat → World → Prop) (W : World), Chg [] w W → w.heap.size ≤ l → l < W.heap.size →
    (∀ k W1 W2, J k W1 → W.heap.size ≤ W1.heap.size → Chg Bs W1 W2 → J k W2) → (∀ k W1 W2, Jx k W1 → W.heap.size ≤ W1.heap.size → Chg Bs W1 W2 → Jx k W2) →
    (∀ k x W1, J k W1 → W.heap.size ≤ W1.heap.size → (∀ W', Chg (l :: Cs) W1 W' → Ok k x W') → YieldAt F (n - 1) P l (encs x) W1 fun e W' =>
      (e = .returned (.bool true) ∧ J (k + 1) W' ∧ Chg (l :: Cs) W1 W') ∨ (e = .returned (.bool false) ∧ Jx (k + 1) W' ∧ Chg (l :: Cs) W1 W')) →
    J 0 W →
    CallsIn F n P g (#[.func (.yield l) #[] #[]] ++ lb) W fun e W' => (∃ v, e = .returned v) ∧ ((∃ k, Sd k ∧ J k W') ∨ (∃ k, Sp k ∧ Jx k W'))
/-- How the body of a round may be left. -/
def postX (I : Nat → World → Prop) (Ix : Code → Nat → World → Prop) (Cs : List Nat) (k : Nat) (W : World) : Exit → Act → World → Prop
  | .normal, _, W' => Chg Cs W W' ∧ I k W'
  | .ret, _, W' => Chg Cs W W' ∧ Ix .ret k W'
  | .exit id, _, W' => Chg Cs W W' ∧ Ix (.exit id) k W'
  | .goto t, _, W' => Chg Cs W W' ∧ Ix (.goto t) k W'
  | _, _, _ => False
theorem wpIn_rangeX {g : Operand} {ps : Array Tmp} {assign body : Code} {Q : Exit → Act → World → Prop} {a : Act}
    (hro : F.round = none) (h1 : 1 ≤ n) {gf : Nat} {lb : Array Value} (hg : a.eval g = .func (.func gf) #[] lb) (hFg : F.fn gf) (eg : ∀ args w, (callFunc gf args).run P w = .ok (.enter gf args) w)
    {encs : α → Array Value} {Bs Cs : List Nat} {Ok : Nat → α → World → Prop} {Sd Sp : Nat → Prop} (hseq : StopsX F (n - 1) P gf lb encs Bs Cs Ok Sd Sp w)
    (hBs : ∀ c ∈ Bs, c < w.heap.size) (hCs : ∀ c ∈ Cs, c < w.heap.size) (hps : ∀ x, (encs x).size = ps.size)
    (I : Nat → World → Prop) (Ix : Code → Nat → World → Prop)
    (hI : ∀ k W W' E, I k W → w.heap.size ≤ W.heap.size → Chg E W W' → (∀ e ∈ E, w.heap.size ≤ e ∨ e ∈ Bs) → I k W') (hIx : ∀ c k W W' E, Ix c k W → w.heap.size ≤ W.heap.size → Chg E W W' → (∀ e ∈ E, w.heap.size ≤ e ∨ e ∈ Bs) → Ix c k W') (h0 : I 0 w)
    (Ax : Nat → α → Act → World → Prop)
    (hassign : ∀ (l k : Nat) (x : α) (W : World) (K : Act → World → Prop), w.heap.size ≤ l → l < W.heap.size → I k W → (∀ W', Chg (l :: Cs) W W' → Ok k x W') → (∀ a' W', Chg [] W W' → (∀ W'', Chg [l] W' W'' → Ax k x a' W'') → K a' W') →
      assign.wpIn (F.inRound l) (n - 1 - 1) P (Exit.then K (fun _ _ _ => False)) { tmps := (ps.zip (encs x)).foldl (fun t (p, v) => t.setIfInBounds p v) a.tmps, defers := [] } W)
    (hbody : ∀ (l k : Nat) (x : α) (a' : Act) (W : World), w.heap.size ≤ l → l < W.heap.size → I k W → Ok k x W → Ax k x a' W → body.wpIn (F.inRound l) (n - 1 - 1) P (postX I Ix Cs (k + 1) W) a' W)
    (hdone : ∀ (k : Nat) (W : World), Sd k → I k W → W.heap[w.heap.size]? = some (.deferred (some [])) → Q .normal { a with defers := { target := .collected w.heap.size, args := #[] } :: a.defers } W)
    (hstop : ∀ (c : Code) (k : Nat) (W : World), Sp k → Ix c k W → W.heap[w.heap.size]? = some (.deferred (some [])) → c.wpIn F n P Q { a with defers := { target := .collected w.heap.size, args := #[] } :: a.defers } W) :
    (Code.rangeFunc g ps assign body).wpIn F n P Q a w := by
  refine wpIn_rangeFunc ?_
  intro fn hfn
  rw [hro]
  obtain ⟨rec, hrec⟩ : ∃ rec : LoopState → Option Code → Loop, rec = fun st pe => { state := st, pending := pe, fn, tmps := a.tmps, params := ps, assign, body, defers := w.heap.size } := ⟨_, rfl⟩
  obtain ⟨W1, hW1⟩ : ∃ W1, (w.alloc (.deferred (some []))).alloc (.loop (rec .ready none)) = W1 := ⟨_, rfl⟩
  have hL1 : W1.heap[w.heap.size + 1]? = some (.loop (rec .ready none)) := by
    rw [← hW1]; have := World.alloc_heap_new (w.alloc (.deferred (some []))) (.loop (rec .ready none)); rwa [World.size_alloc] at this
  have hK1 : W1.heap[w.heap.size]? = some (.deferred (some [])) := by
    rw [← hW1]; exact (Below.heap_alloc _ _ _ (by simp)).trans (World.alloc_heap_new w _)
  have hc1 : Chg [] w W1 := by rw [← hW1]; exact ((Chg.refl _ _).alloc _).alloc _
  have hs1 : W1.heap.size = w.heap.size + 2 := by rw [← hW1]; simp
  refine ⟨w.heap.size + 1, [{ target := .collected w.heap.size, args := #[] }], W1, { target := .fn (.func gf) lb, args := #[.func (.yield (w.heap.size + 1)) #[] #[]] }, W1, gf,
    #[.func (.yield (w.heap.size + 1)) #[] #[]] ++ lb, W1, ?_, ?_, ?_, ?_, fun _ => h1, ?_⟩
  · rw [← hW1, hrec]; exact run_enterLoop_outer _ _ _ _ _
  · simp only [resolve, hg]
    simp [go_sem]
  · intro f' hf'; simp [Target.leads] at hf'; subst hf'; exact hFg
  · simp [invoke, go_sem, eg]
  · have nl : ∀ (E : List Nat), (∀ e ∈ E, e < w.heap.size) → w.heap.size + 1 ∉ E ∧ w.heap.size ∉ E := fun E h => ⟨fun hx => by have := h _ hx; omega, fun hx => by have := h _ hx; omega⟩
    have keep : ∀ (E : List Nat) (A B : World) (i : Nat) (o : Obj), Chg E A B → i ∉ E → A.heap[i]? = some o → B.heap[i]? = some o := fun E A B i o hc hn h => (hc.block i (Array.getElem?_eq_some_iff.1 h).1 hn).trans h
    have one : ∀ e ∈ [w.heap.size + 1], w.heap.size ≤ e ∨ e ∈ Bs := by intro e he; simp at he; omega
    refine (hseq (w.heap.size + 1)
      (fun k W => I k W ∧ w.heap.size ≤ W.heap.size ∧ W.heap[w.heap.size + 1]? = some (.loop (rec .ready none)) ∧ W.heap[w.heap.size]? = some (.deferred (some [])))
      (fun k W => ∃ c, Ix c k W ∧ w.heap.size ≤ W.heap.size ∧ W.heap[w.heap.size + 1]? = some (.loop (rec .done (some c))) ∧ W.heap[w.heap.size]? = some (.deferred (some [])))
      W1 hc1 (by omega) (by omega)
      (fun k A B hs _ hc => ⟨hI k A B Bs hs.1 hs.2.1 hc (fun e he => .inr he), Nat.le_trans hs.2.1 hc.size, keep _ _ _ _ _ hc (nl Bs hBs).1 hs.2.2.1, keep _ _ _ _ _ hc (nl Bs hBs).2 hs.2.2.2⟩)
      (fun k A B hs _ hc => by
        obtain ⟨c, hx, hz, hl, hk⟩ := hs
        exact ⟨c, hIx c k A B Bs hx hz hc (fun e he => .inr he), Nat.le_trans hz hc.size, keep _ _ _ _ _ hc (nl Bs hBs).1 hl, keep _ _ _ _ _ hc (nl Bs hBs).2 hk⟩)
      ?_ ⟨hI 0 w W1 [] h0 (Nat.le_refl _) hc1 (by simp), hc1.size, hL1, hK1⟩).mono ?_
    · rintro k x W ⟨hi, hz, hl, hk⟩ _ hok
      have hlt : w.heap.size + 1 < W.heap.size := (Array.getElem?_eq_some_iff.1 hl).1
      have hy := run_yield (P := P) (args := encs x) hl (by rw [hrec]; exact hps x)
      rw [hrec] at hy
      refine ⟨fn, _, assign, body, hy, roundIn_of_wpIn hfn (hassign _ k x W _ (by omega) hlt hi hok ?_)⟩
      clear hy
      intro a' Wa hca hax
      have hla := keep _ _ _ _ _ hca (by simp) hl
      have hka := keep _ _ _ _ _ hca (by simp) hk
      have hlta : w.heap.size + 1 < Wa.heap.size := (Array.getElem?_eq_some_iff.1 hla).1
      refine ⟨_, run_beginRound hla (by rw [hrec]), ?_⟩
      obtain ⟨W2, hW2⟩ : ∃ W2, W2 = Wa.putObj (w.heap.size + 1) (.loop { rec .ready none with state := .busy }) := ⟨_, rfl⟩
      have hl2 : W2.heap[w.heap.size + 1]? = some (.loop { rec .ready none with state := .busy }) := by rw [hW2]; exact World.putObj_heap_same hlta
      have hk2 : W2.heap[w.heap.size]? = some (.deferred (some [])) := by rw [hW2]; exact (World.putObj_heap_other (by omega)).trans hka
      have hc2 : Chg [w.heap.size + 1] Wa W2 := by rw [hW2]; exact chg_putObj _ _ _ _ (by simp)
      have hcw2 : Chg [w.heap.size + 1] W W2 := (hca.mono (by simp)).trans hc2
      rw [← hW2]
      have hz2 : w.heap.size ≤ W2.heap.size := Nat.le_trans hz hcw2.size
      refine wpIn_mono (hbody _ k x a' W2 (by omega) (Array.getElem?_eq_some_iff.1 hl2).1 (hI k W W2 _ hi hz hcw2 one) (hok _ (hcw2.mono (by simp))) (hax _ hc2)) ?_
      have fin : ∀ (jump : Option Code) (W3 : World), Chg Cs W2 W3 →
          (Instr.endRound (w.heap.size + 1) jump).run P W3 = .ok (.bool jump.isNone) (W3.putObj (w.heap.size + 1) (.loop (rec (if jump.isNone then .ready else .done) jump))) ∧
          (W3.putObj (w.heap.size + 1) (.loop (rec (if jump.isNone then .ready else .done) jump))).heap[w.heap.size + 1]? = some (.loop (rec (if jump.isNone then .ready else .done) jump)) ∧
          (W3.putObj (w.heap.size + 1) (.loop (rec (if jump.isNone then .ready else .done) jump))).heap[w.heap.size]? = some (.deferred (some [])) ∧
          Chg [w.heap.size + 1] W3 (W3.putObj (w.heap.size + 1) (.loop (rec (if jump.isNone then .ready else .done) jump))) ∧ w.heap.size ≤ W3.heap.size ∧ Chg ((w.heap.size + 1) :: Cs) W (W3.putObj (w.heap.size + 1) (.loop (rec (if jump.isNone then .ready else .done) jump))) := fun jump W3 hc3 => by
        have hl3 := keep _ _ _ _ _ hc3 (nl Cs hCs).1 hl2
        have hk3 := keep _ _ _ _ _ hc3 (nl Cs hCs).2 hk2
        have := run_endRound (P := P) jump hl3
        rw [hrec] at this ⊢
        exact ⟨this, World.putObj_heap_same (Array.getElem?_eq_some_iff.1 hl3).1, (World.putObj_heap_other (by omega)).trans hk3, chg_putObj _ _ _ _ (by simp), Nat.le_trans hz2 hc3.size, ((hcw2.mono (by simp)).trans (hc3.mono (by simp +contextual))).trans (chg_putObj _ _ _ _ (by simp))⟩
      rintro e a3 W3 hp
      cases e with
      | normal =>
        obtain ⟨hc3, hi3⟩ := hp
        obtain ⟨hr, hl4, hk4, hc4, hz3, hall⟩ := fin none W3 hc3
        exact ⟨_, _, hr, .inl ⟨rfl, ⟨hI _ _ _ _ hi3 hz3 hc4 one, Nat.le_trans hz3 hc4.size, hl4, hk4⟩, hall⟩⟩
      | ret =>
        obtain ⟨hc3, hi3⟩ := hp
        obtain ⟨hr, hl4, hk4, hc4, hz3, hall⟩ := fin (some .ret) W3 hc3
        exact ⟨_, _, hr, .inr ⟨rfl, ⟨.ret, hIx _ _ _ _ _ hi3 hz3 hc4 one, Nat.le_trans hz3 hc4.size, hl4, hk4⟩, hall⟩⟩
      | exit id =>
        obtain ⟨hc3, hi3⟩ := hp
        obtain ⟨hr, hl4, hk4, hc4, hz3, hall⟩ := fin (some (.exit id)) W3 hc3
        exact ⟨_, _, hr, .inr ⟨rfl, ⟨.exit id, hIx _ _ _ _ _ hi3 hz3 hc4 one, Nat.le_trans hz3 hc4.size, hl4, hk4⟩, hall⟩⟩
      | goto t =>
        obtain ⟨hc3, hi3⟩ := hp
        obtain ⟨hr, hl4, hk4, hc4, hz3, hall⟩ := fin (some (.goto t)) W3 hc3
        exact ⟨_, _, hr, .inr ⟨rfl, ⟨.goto t, hIx _ _ _ _ _ hi3 hz3 hc4 one, Nat.le_trans hz3 hc4.size, hl4, hk4⟩, hall⟩⟩
      | panic ch => exact hp.elim
      | outgrown => exact hp.elim
    · rintro e W2 ⟨⟨v, rfl⟩, (⟨k, hS, hi, hz, hl, hk⟩ | ⟨k, hSp, c, hi, hz, hl, hk⟩)⟩
      · exact ⟨none, _, by have := run_endLoop (P := P) hl (by rw [hrec]; simp); rw [hrec] at this; exact this, hdone k _ hS (hI _ _ _ _ hi hz (chg_putObj _ _ _ _ (by simp)) one) ((World.putObj_heap_other (by omega)).trans hk)⟩
      · exact ⟨some c, _, by have := run_endLoop (P := P) hl (by rw [hrec]; simp); rw [hrec] at this; exact this, hstop c k _ hSp (hIx _ _ _ _ _ hi hz (chg_putObj _ _ _ _ (by simp)) one) ((World.putObj_heap_other (by omega)).trans hk)⟩
end
end Go.Proofs.YtfbepdlahaefgaaDoor
