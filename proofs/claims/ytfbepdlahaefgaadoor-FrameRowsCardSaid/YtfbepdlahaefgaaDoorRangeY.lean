/- A range over a function whose rounds make a row of their own: they may turn whatever was made behind the loop's beginning; the iterator turns its boxes. No program. -/
import Derived.Test.YtfbepdlahaefgaaDoorRangeX
import Derived.RangeFuncNested
import Derived.RangeFuncBound
import Derived.RangeFuncCalls
import Derived.RangeFuncLeaves
namespace Go.Proofs.YtfbepdlahaefgaaDoor
open Go.RowKit

section
variable {F : Fence} {n : Nat} {P : Program} {w : World} {α : Type}
/-- Of the blocks below B those of S alone may have turned. -/
structure ChgB (B : Nat) (S : List Nat) (w w' : World) : Prop where
  os : w'.os = w.os
  tape : w'.tape = w.tape
  output : w'.output = w.output
  size : w.heap.size ≤ w'.heap.size
  block : ∀ k, k < B → k < w.heap.size → k ∉ S → w'.heap[k]? = w.heap[k]?
theorem ChgB.of_chg {B : Nat} {S T : List Nat} {a b : World} (h : Chg T a b) (hs : ∀ x ∈ T, x ∈ S ∨ B ≤ x) : ChgB B S a b :=
  ⟨h.os, h.tape, h.output, h.size, fun k hk hk2 hn => h.block k hk2 (fun hx => by rcases hs k hx with h | h; exact hn h; omega)⟩
theorem ChgB.trans {B : Nat} {S : List Nat} {a b c : World} (h : ChgB B S a b) (k : ChgB B S b c) : ChgB B S a c :=
  ⟨k.os.trans h.os, k.tape.trans h.tape, k.output.trans h.output, Nat.le_trans h.size k.size, fun i hi hi2 hs => (k.block i hi (Nat.lt_of_lt_of_le hi2 h.size) hs).trans (h.block i hi hi2 hs)⟩
theorem ChgB.mono {B C : Nat} {S T : List Nat} {a b : World} (h : ChgB B S a b) (hB : C ≤ B) (hs : ∀ x, x ∈ S → x ∈ T) : ChgB C T a b :=
  ⟨h.os, h.tape, h.output, h.size, fun i hi hi2 ht => h.block i (Nat.lt_of_lt_of_le hi hB) hi2 (fun x => ht (hs i x))⟩
theorem ChgB.chg {B : Nat} {S : List Nat} {a b : World} (h : ChgB B S a b) (hB : a.heap.size ≤ B) : Chg S a b :=
  ⟨h.os, h.tape, h.output, h.size, fun i hi hn => h.block i (Nat.lt_of_lt_of_le hi hB) hi hn⟩
theorem ChgB.cell {B : Nat} {S : List Nat} {a b : World} (h : ChgB B S a b) (k o : Nat) (hB : k < B) (hk : k < a.heap.size) (hs : k ∉ S) : b.cell? ⟨k, o, none⟩ = a.cell? ⟨k, o, none⟩ :=
  World.cell?_of_block (a := ⟨k, o, none⟩) (h.block k hB hk hs)
theorem ChgB.frozen {B : Nat} {S : List Nat} {a b : World} (h : ChgB B S a b) (k o : Nat) (hB : k < B) (hk : k < a.heap.size) (hs : k ∉ S) : b.frozen? ⟨k, o, none⟩ = a.frozen? ⟨k, o, none⟩ :=
  World.frozen?_of_block (a := ⟨k, o, none⟩) (h.block k hB hk hs)
/-- THE ITERATOR's WORD: rounds are asked for one behind the other; a round may turn Cs and the record l, the iterator Bs. -/
def StopsY (F : Fence) (n : Nat) (P : Program) (g : Nat) (lb : Array Value) (encs : α → Array Value) (Bs Cs : List Nat) (Ok : Nat → α → World → World → Prop) (Sd Sp : Nat → Prop) (w : World) : Prop :=
  ∀ (l : Nat) (J Jx : Nat → World → Prop) (W : World), Chg [] w W → w.heap.size ≤ l → l < W.heap.size →
    (∀ k W1 W2, J k W1 → W.heap.size ≤ W1.heap.size → Chg Bs W1 W2 → J k W2) → (∀ k W1 W2, Jx k W1 → W.heap.size ≤ W1.heap.size → Chg Bs W1 W2 → Jx k W2) →
    (∀ k x W0 W1, J k W0 → W.heap.size ≤ W0.heap.size → Chg Bs W0 W1 → (∀ W', Chg [l] W1 W' → Ok k x W0 W') → YieldAt F (n - 1) P l (encs x) W1 fun e W' =>
      (e = .returned (.bool true) ∧ J (k + 1) W' ∧ ChgB W.heap.size (l :: Cs) W1 W') ∨ (e = .returned (.bool false) ∧ Jx (k + 1) W' ∧ ChgB W.heap.size (l :: Cs) W1 W')) →
    J 0 W →
    CallsIn F n P g (#[.func (.yield l) #[] #[]] ++ lb) W fun e W' => (∃ v, e = .returned v) ∧ ((∃ k, Sd k ∧ J k W') ∨ (∃ k, Sp k ∧ Jx k W'))
/-- How the body of a round may be left. -/
def postY (I : Nat → World → Prop) (Ix : Code → Nat → World → Prop) (B : Nat) (Cs : List Nat) (k : Nat) (W : World) : Exit → Act → World → Prop
  | .normal, _, W' => ChgB B Cs W W' ∧ I k W'
  | .ret, _, W' => ChgB B Cs W W' ∧ Ix .ret k W'
  | .exit id, _, W' => ChgB B Cs W W' ∧ Ix (.exit id) k W'
  | .goto t, _, W' => ChgB B Cs W W' ∧ Ix (.goto t) k W'
  | _, _, _ => False
theorem wpIn_rangeY {g : Operand} {ps : Array Tmp} {assign body : Code} {Q : Exit → Act → World → Prop} {a : Act}
    (hro : F.round = none) (h1 : 1 ≤ n) {gf : Nat} {lb : Array Value} (hg : a.eval g = .func (.func gf) #[] lb) (hFg : F.fn gf) (eg : ∀ args w, (callFunc gf args).run P w = .ok (.enter gf args) w)
    {encs : α → Array Value} {Bs Cs : List Nat} {Ok : Nat → α → World → World → Prop} {Sd Sp : Nat → Prop} (hseq : StopsY F (n - 1) P gf lb encs Bs Cs Ok Sd Sp w)
    (hBs : ∀ c ∈ Bs, c < w.heap.size) (hCs : ∀ c ∈ Cs, c < w.heap.size) (hps : ∀ x, (encs x).size = ps.size)
    (I : Nat → World → Prop) (Ix : Code → Nat → World → Prop)
    (hI : ∀ k W W' E, I k W → w.heap.size ≤ W.heap.size → Chg E W W' → (∀ e ∈ E, e = w.heap.size ∨ e = w.heap.size + 1 ∨ e ∈ Bs) → I k W') (hIx : ∀ c k W W' E, Ix c k W → w.heap.size ≤ W.heap.size → Chg E W W' → (∀ e ∈ E, e = w.heap.size ∨ e = w.heap.size + 1 ∨ e ∈ Bs) → Ix c k W') (h0 : I 0 w)
    (Ax : Nat → α → Act → World → Prop)
    (hassign : ∀ (l k : Nat) (x : α) (W : World) (K : Act → World → Prop), w.heap.size ≤ l → l < W.heap.size → I k W → (∀ a' W', Chg [] W W' → (∀ W'', Chg [l] W' W'' → Ax k x a' W'') → K a' W') →
      assign.wpIn (F.inRound l) (n - 1 - 1) P (Exit.then K (fun _ _ _ => False)) { tmps := (ps.zip (encs x)).foldl (fun t (p, v) => t.setIfInBounds p v) a.tmps, defers := [] } W)
    (hbody : ∀ (l k : Nat) (x : α) (a' : Act) (W0 W : World), l = w.heap.size + 1 → l < W.heap.size → I k W0 → w.heap.size + 2 ≤ W0.heap.size → Chg (l :: Bs) W0 W → I k W → Ok k x W0 W → Ax k x a' W → body.wpIn (F.inRound l) (n - 1 - 1) P (postY I Ix (w.heap.size + 2) Cs (k + 1) W) a' W)
    (hdone : ∀ (k : Nat) (W : World), Sd k → I k W → W.heap[w.heap.size]? = some (.deferred (some [])) → Q .normal { a with defers := { target := .collected w.heap.size, args := #[] } :: a.defers } W)
    (hstop : ∀ (c : Code) (k : Nat) (W : World), Sp k → Ix c k W → W.heap[w.heap.size]? = some (.deferred (some [])) → c.wpIn F n P Q { a with defers := { target := .collected w.heap.size, args := #[] } :: a.defers } W) :
    (Code.rangeFunc g ps assign body).wpIn F n P Q a w := by
  refine wpIn_rangeFunc ?_
  intro fn hfn
  rw [hro]
  obtain ⟨rec, hrec⟩ : ∃ rec : LoopState → Option Code → Loop, rec = fun st pe => { state := st, pending := pe, fn, tmps := a.tmps, params := ps, assign, body, defers := w.heap.size } := ⟨_, rfl⟩
  obtain ⟨W1, hW1⟩ : ∃ W1, (w.alloc (.deferred (some []))).alloc (.loop (rec .ready none)) = W1 := ⟨_, rfl⟩
  have hL1 : W1.heap[w.heap.size + 1]? = some (.loop (rec .ready none)) := by
    rw [← hW1]; have := World.alloc_heap_new (w.alloc (.deferred (some []))) (.loop (rec .ready none)); rwa [World.size_alloc] at this
  have hK1 : W1.heap[w.heap.size]? = some (.deferred (some [])) := by
    rw [← hW1]; exact (Below.heap_alloc _ _ _ (by simp)).trans (World.alloc_heap_new w _)
  have hc1 : Chg [] w W1 := by rw [← hW1]; exact ((Chg.refl _ _).alloc _).alloc _
  have hs1 : W1.heap.size = w.heap.size + 2 := by rw [← hW1]; simp
  refine ⟨w.heap.size + 1, [{ target := .collected w.heap.size, args := #[] }], W1, { target := .fn (.func gf) lb, args := #[.func (.yield (w.heap.size + 1)) #[] #[]] }, W1, gf,
    #[.func (.yield (w.heap.size + 1)) #[] #[]] ++ lb, W1, ?_, ?_, ?_, ?_, fun _ => h1, ?_⟩
  · rw [← hW1, hrec]; exact run_enterLoop_outer _ _ _ _ _
  · simp only [resolve, hg]
    simp [go_sem]
  · intro f' hf'; simp [Target.leads] at hf'; subst hf'; exact hFg
  · simp [invoke, go_sem, eg]
  · have nl : ∀ (E : List Nat), (∀ e ∈ E, e < w.heap.size) → w.heap.size + 1 ∉ E ∧ w.heap.size ∉ E := fun E h => ⟨fun hx => by have := h _ hx; omega, fun hx => by have := h _ hx; omega⟩
    have keep : ∀ (E : List Nat) (A B : World) (i : Nat) (o : Obj), Chg E A B → i ∉ E → A.heap[i]? = some o → B.heap[i]? = some o := fun E A B i o hc hn h => (hc.block i (Array.getElem?_eq_some_iff.1 h).1 hn).trans h
    have one : ∀ e ∈ [w.heap.size + 1], e = w.heap.size ∨ e = w.heap.size + 1 ∨ e ∈ Bs := by intro e he; simp at he; exact .inr (.inl he)
    refine (hseq (w.heap.size + 1)
      (fun k W => I k W ∧ w.heap.size ≤ W.heap.size ∧ W.heap[w.heap.size + 1]? = some (.loop (rec .ready none)) ∧ W.heap[w.heap.size]? = some (.deferred (some [])))
      (fun k W => ∃ c, Ix c k W ∧ w.heap.size ≤ W.heap.size ∧ W.heap[w.heap.size + 1]? = some (.loop (rec .done (some c))) ∧ W.heap[w.heap.size]? = some (.deferred (some [])))
      W1 hc1 (by omega) (by omega)
      (fun k A B hs _ hc => ⟨hI k A B Bs hs.1 hs.2.1 hc (fun e he => .inr (.inr he)), Nat.le_trans hs.2.1 hc.size, keep _ _ _ _ _ hc (nl Bs hBs).1 hs.2.2.1, keep _ _ _ _ _ hc (nl Bs hBs).2 hs.2.2.2⟩)
      (fun k A B hs _ hc => by
        obtain ⟨c, hx, hz, hl, hk⟩ := hs
        exact ⟨c, hIx c k A B Bs hx hz hc (fun e he => .inr (.inr he)), Nat.le_trans hz hc.size, keep _ _ _ _ _ hc (nl Bs hBs).1 hl, keep _ _ _ _ _ hc (nl Bs hBs).2 hk⟩)
      ?_ ⟨hI 0 w W1 [] h0 (Nat.le_refl _) hc1 (by simp), hc1.size, hL1, hK1⟩).mono ?_
    · rintro k x W0 W ⟨hi0, hz0, hl0, hk0⟩ hzW0 hcW0 hok
      have hi := hI k W0 W Bs hi0 hz0 hcW0 (fun e he => .inr (.inr he))
      have hz := Nat.le_trans hz0 hcW0.size
      have hl := keep _ _ _ _ _ hcW0 (nl Bs hBs).1 hl0
      have hk := keep _ _ _ _ _ hcW0 (nl Bs hBs).2 hk0
      have hlt : w.heap.size + 1 < W.heap.size := (Array.getElem?_eq_some_iff.1 hl).1
      have hy := run_yield (P := P) (args := encs x) hl (by rw [hrec]; exact hps x)
      rw [hrec] at hy
      refine ⟨fn, _, assign, body, hy, roundIn_of_wpIn hfn (hassign _ k x W _ (by omega) hlt hi ?_)⟩
      clear hy
      intro a' Wa hca hax
      have hla := keep _ _ _ _ _ hca (by simp) hl
      have hka := keep _ _ _ _ _ hca (by simp) hk
      have hlta : w.heap.size + 1 < Wa.heap.size := (Array.getElem?_eq_some_iff.1 hla).1
      refine ⟨_, run_beginRound hla (by rw [hrec]), ?_⟩
      obtain ⟨W2, hW2⟩ : ∃ W2, W2 = Wa.putObj (w.heap.size + 1) (.loop { rec .ready none with state := .busy }) := ⟨_, rfl⟩
      have hl2 : W2.heap[w.heap.size + 1]? = some (.loop { rec .ready none with state := .busy }) := by rw [hW2]; exact World.putObj_heap_same hlta
      have hk2 : W2.heap[w.heap.size]? = some (.deferred (some [])) := by rw [hW2]; exact (World.putObj_heap_other (by omega)).trans hka
      have hc2 : Chg [w.heap.size + 1] Wa W2 := by rw [hW2]; exact chg_putObj _ _ _ _ (by simp)
      have hcw2 : Chg [w.heap.size + 1] W W2 := (hca.mono (by simp)).trans hc2
      rw [← hW2]
      have hz2 : w.heap.size ≤ W2.heap.size := Nat.le_trans hz hcw2.size
      refine wpIn_mono (hbody _ k x a' W0 W2 rfl (Array.getElem?_eq_some_iff.1 hl2).1 hi0 (by omega) ((hcW0.mono (by simp +contextual)).trans (hcw2.mono (by simp +contextual))) (hI k W W2 _ hi hz hcw2 one) (hok _ hcw2) (hax _ hc2)) ?_
      have fin : ∀ (jump : Option Code) (W3 : World), ChgB (w.heap.size + 2) Cs W2 W3 →
          (Instr.endRound (w.heap.size + 1) jump).run P W3 = .ok (.bool jump.isNone) (W3.putObj (w.heap.size + 1) (.loop (rec (if jump.isNone then .ready else .done) jump))) ∧
          (W3.putObj (w.heap.size + 1) (.loop (rec (if jump.isNone then .ready else .done) jump))).heap[w.heap.size + 1]? = some (.loop (rec (if jump.isNone then .ready else .done) jump)) ∧
          (W3.putObj (w.heap.size + 1) (.loop (rec (if jump.isNone then .ready else .done) jump))).heap[w.heap.size]? = some (.deferred (some [])) ∧
          Chg [w.heap.size + 1] W3 (W3.putObj (w.heap.size + 1) (.loop (rec (if jump.isNone then .ready else .done) jump))) ∧ w.heap.size ≤ W3.heap.size ∧ ChgB W1.heap.size ((w.heap.size + 1) :: Cs) W (W3.putObj (w.heap.size + 1) (.loop (rec (if jump.isNone then .ready else .done) jump))) := fun jump W3 hc3 => by
        have hl3 := (hc3.block (w.heap.size + 1) (by omega) (Array.getElem?_eq_some_iff.1 hl2).1 (nl Cs hCs).1).trans hl2
        have hk3 := (hc3.block w.heap.size (by omega) (Array.getElem?_eq_some_iff.1 hk2).1 (nl Cs hCs).2).trans hk2
        have := run_endRound (P := P) jump hl3
        rw [hrec] at this ⊢
        exact ⟨this, World.putObj_heap_same (Array.getElem?_eq_some_iff.1 hl3).1, (World.putObj_heap_other (by omega)).trans hk3, chg_putObj _ _ _ _ (by simp), Nat.le_trans hz2 hc3.size, ((ChgB.of_chg (T := [w.heap.size + 1]) hcw2 (by simp)).trans (hc3.mono (by omega) (by simp +contextual))).trans (ChgB.of_chg (T := [w.heap.size + 1]) (chg_putObj _ _ _ _ (by simp)) (by simp))⟩
      rintro e a3 W3 hp
      cases e with
      | normal =>
        obtain ⟨hc3, hi3⟩ := hp
        obtain ⟨hr, hl4, hk4, hc4, hz3, hall⟩ := fin none W3 hc3
        exact ⟨_, _, hr, .inl ⟨rfl, ⟨hI _ _ _ _ hi3 hz3 hc4 one, Nat.le_trans hz3 hc4.size, hl4, hk4⟩, hall⟩⟩
      | ret =>
        obtain ⟨hc3, hi3⟩ := hp
        obtain ⟨hr, hl4, hk4, hc4, hz3, hall⟩ := fin (some .ret) W3 hc3
        exact ⟨_, _, hr, .inr ⟨rfl, ⟨.ret, hIx _ _ _ _ _ hi3 hz3 hc4 one, Nat.le_trans hz3 hc4.size, hl4, hk4⟩, hall⟩⟩
      | exit id =>
        obtain ⟨hc3, hi3⟩ := hp
        obtain ⟨hr, hl4, hk4, hc4, hz3, hall⟩ := fin (some (.exit id)) W3 hc3
        exact ⟨_, _, hr, .inr ⟨rfl, ⟨.exit id, hIx _ _ _ _ _ hi3 hz3 hc4 one, Nat.le_trans hz3 hc4.size, hl4, hk4⟩, hall⟩⟩
      | goto t =>
        obtain ⟨hc3, hi3⟩ := hp
        obtain ⟨hr, hl4, hk4, hc4, hz3, hall⟩ := fin (some (.goto t)) W3 hc3
        exact ⟨_, _, hr, .inr ⟨rfl, ⟨.goto t, hIx _ _ _ _ _ hi3 hz3 hc4 one, Nat.le_trans hz3 hc4.size, hl4, hk4⟩, hall⟩⟩
      | panic ch => exact hp.elim
      | outgrown => exact hp.elim
    · rintro e W2 ⟨⟨v, rfl⟩, (⟨k, hS, hi, hz, hl, hk⟩ | ⟨k, hSp, c, hi, hz, hl, hk⟩)⟩
      · exact ⟨none, _, by have := run_endLoop (P := P) hl (by rw [hrec]; simp); rw [hrec] at this; exact this, hdone k _ hS (hI _ _ _ _ hi hz (chg_putObj _ _ _ _ (by simp)) one) ((World.putObj_heap_other (by omega)).trans hk)⟩
      · exact ⟨some c, _, by have := run_endLoop (P := P) hl (by rw [hrec]; simp); rw [hrec] at this; exact this, hstop c k _ hSp (hIx _ _ _ _ _ hi hz (chg_putObj _ _ _ _ (by simp)) one) ((World.putObj_heap_other (by omega)).trans hk)⟩
end
end Go.Proofs.YtfbepdlahaefgaaDoor
