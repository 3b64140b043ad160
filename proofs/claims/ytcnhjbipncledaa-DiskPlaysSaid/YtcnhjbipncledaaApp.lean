/- What it is to read a slice of one-cell elements, to own a row of them, and to append one to the other: one law for a nil, an empty and a full source. No program. -/
import Derived.Test.YtcnhjbipncledaaBase
namespace Go.Proofs.Ytcnhjbipncledaa
open Go.RowKit

/-- The value is a slice, nil or not, that reads as these one-cell elements. -/
def Reads (w : World) (v : Value) (xs : List Value) : Prop :=
  ∃ a len cap, v = .slice a len cap ∧ len = xs.length ∧ len ≤ cap ∧ cap ≤ maxLen ∧
    (xs = [] ∨ ∃ (b off : Nat), a = some ⟨b, off, none⟩ ∧ b < w.heap.size ∧ ∀ i (h : i < xs.length), w.cell? ⟨b, off + i, none⟩ = some xs[i])
def byteV (c : BitVec 8) : Value := .int .u8 (c.toNat : Int)
theorem IsBytes.reads {w : World} {v : Value} {bs : List (BitVec 8)} (h : IsBytes w v bs) : Reads w v (bs.map byteV) := by
  obtain ⟨a, len, cap, hv, hl, hc, hm, hb⟩ := h
  refine ⟨a, len, cap, hv, by simpa using hl, hc, hm, ?_⟩
  rcases hb with rfl | ⟨b, off, ha, hlt, hb⟩
  · exact .inl rfl
  · refine .inr ⟨b, off, ha, hlt, fun i h => ?_⟩
    rw [List.getElem_map]
    exact hb i (by simpa using h)
theorem Reads.bytes {w : World} {v : Value} {bs : List (BitVec 8)} (h : Reads w v (bs.map byteV)) : IsBytes w v bs := by
  obtain ⟨a, len, cap, hv, hl, hc, hm, hb⟩ := h
  refine ⟨a, len, cap, hv, by simpa using hl, hc, hm, ?_⟩
  rcases hb with hb | ⟨b, off, ha, hlt, hb⟩
  · exact .inl (by simpa using hb)
  · refine .inr ⟨b, off, ha, hlt, fun i h => ?_⟩
    have := hb i (by simpa using h)
    rw [List.getElem_map] at this
    exact this
theorem Reads.keep {w w' : World} {v : Value} {xs : List Value} (h : Reads w v xs) (hs : w.heap.size ≤ w'.heap.size) (hk : ∀ b, b < w.heap.size → w'.heap[b]? = w.heap[b]?) : Reads w' v xs := by
  obtain ⟨a, len, cap, hv, hl, hc, hm, hb⟩ := h
  refine ⟨a, len, cap, hv, hl, hc, hm, ?_⟩
  rcases hb with hb | ⟨b, off, ha, hlt, hb⟩
  · exact .inl hb
  · exact .inr ⟨b, off, ha, by omega, fun i h => (World.cell?_of_block (a := ⟨b, off + i, none⟩) (hk b hlt)).trans (hb i h)⟩
theorem Reads.below {w w' : World} {v : Value} {xs : List Value} (h : Reads w v xs) (hb : Below w.heap.size w w') : Reads w' v xs := h.keep hb.size hb.block
theorem Reads.one (w : World) (x : Value) (t : TypeId) : Reads (w.alloc (.cells #[x] t)) (.slice (some ⟨w.heap.size, 0, none⟩) 1 1) [x] := by
  refine ⟨_, _, _, rfl, rfl, Nat.le_refl _, by decide, .inr ⟨_, _, rfl, by simp, fun i h => ?_⟩⟩
  simp at h
  subst h
  simp

/-- A slice that the call itself has made (or nil), whose elements are xs. -/
def Own (w : World) (base : Nat) (e : TypeId) (v : Value) (xs : List Value) : Prop := w.ownsRow base e 1 v xs.length xs ∧ base ≤ w.heap.size
theorem Own.nil_ {w : World} {base : Nat} {e : TypeId} (h : base ≤ w.heap.size) : Own w base e (.slice none 0 0) [] := ⟨⟨rfl, .inl ⟨rfl, rfl⟩⟩, h⟩
theorem Own.reads {w : World} {base : Nat} {e : TypeId} {v : Value} {xs : List Value} (h : Own w base e v xs) : Reads w v xs := by
  obtain ⟨⟨_, h⟩, hb⟩ := h
  rcases h with ⟨hv, h0⟩ | ⟨g, cap, cur, hv, hg, hh, hc, hm, hs, ht⟩
  · exact ⟨none, 0, 0, hv, h0.symm, Nat.le_refl _, Nat.zero_le _, .inl (List.eq_nil_of_length_eq_zero h0)⟩
  · refine ⟨_, _, _, hv, rfl, hc, hm, .inr ⟨g, 0, rfl, ?_, fun i h => ?_⟩⟩
    · rcases Nat.lt_or_ge g w.heap.size with hlt | hge
      · exact hlt
      · rw [Array.getElem?_eq_none hge] at hh; cases hh
    · rw [Nat.zero_add, cell_of_row w g i cur e (0, 0) hh]
      rw [Nat.mul_one] at ht
      have := congrArg (fun l => l[i]?) ht
      simp only [List.getElem?_take] at this
      rw [if_pos h] at this
      rw [← List.getElem?_eq_getElem h, ← this]
      simp
theorem Own.block_ge {w : World} {base : Nat} {e : TypeId} {v : Value} {xs : List Value} (h : Own w base e v xs) : ∀ k, v.ownBlock = some k → base ≤ k ∧ k < w.heap.size := by
  intro k hk
  obtain ⟨⟨_, h⟩, _⟩ := h
  rcases h with ⟨rfl, _⟩ | ⟨g, cap, cur, rfl, hg, hh, _⟩
  · cases hk
  · have : g = k := by simpa [Value.ownBlock] using hk
    subst this
    refine ⟨hg, ?_⟩
    rcases Nat.lt_or_ge g w.heap.size with hlt | hge
    · exact hlt
    · rw [Array.getElem?_eq_none hge] at hh; cases hh
/-- What is owned stays owned where its own block stays as it is. -/
theorem Own.keep {w w' : World} {base : Nat} {e : TypeId} {v : Value} {xs : List Value} (h : Own w base e v xs) (hs : w.heap.size ≤ w'.heap.size) (hk : ∀ k, v.ownBlock = some k → w'.heap[k]? = w.heap[k]?) : Own w' base e v xs := by
  obtain ⟨⟨h1, h⟩, hb⟩ := h
  refine ⟨⟨h1, ?_⟩, by omega⟩
  rcases h with h | ⟨g, cap, cur, rfl, hg, hh, r⟩
  · exact .inl h
  · exact .inr ⟨g, cap, cur, rfl, hg, (hk g rfl).trans hh, r⟩
theorem Own.below {w w' : World} {base : Nat} {e : TypeId} {v : Value} {xs : List Value} (h : Own w base e v xs) (hb : Below w.heap.size w w') : Own w' base e v xs :=
  h.keep hb.size fun k hk => hb.block k (h.block_ge k hk).2
theorem Own.alloc {w : World} {base : Nat} {e : TypeId} {v : Value} {xs : List Value} (h : Own w base e v xs) (o : Obj) : Own (w.alloc o) base e v xs :=
  h.below ((Below.refl _ _).alloc (Nat.le_refl _) o)
theorem Own.grown {w w' : World} {base : Nat} {e : TypeId} {v u : Value} {xs : List Value} (h : Own w base e v xs) (hg : w.grownBy w' u.ownBlock) (hne : ∀ k, v.ownBlock = some k → u.ownBlock ≠ some k) : Own w' base e v xs :=
  h.keep hg.size fun k hk => hg.block k (h.block_ge k hk).2 (fun e => hne k hk e.symm)
theorem Own.len {w : World} {base : Nat} {e : TypeId} {v : Value} {xs : List Value} (h : Own w base e v xs) : ∃ a cap, v = .slice a xs.length cap ∧ xs.length ≤ cap ∧ cap ≤ maxLen := by
  obtain ⟨a, len, cap, hv, hl, hc, hm, _⟩ := h.reads
  subst hl
  exact ⟨a, cap, hv, hc, hm⟩

/-- What is owned, its address known. -/
def OwnAt (w : World) (base : Nat) (e : TypeId) (g cap : Nat) (xs : List Value) : Prop := Own w base e (.slice (some ⟨g, 0, none⟩) xs.length cap) xs ∧ ∃ cur : Array Value, w.heap[g]? = some (.cells cur e (0, 0)) ∧ cur.size = cap ∧ cur.toList.take xs.length = xs ∧ xs.length ≤ cap ∧ cap ≤ maxLen ∧ base ≤ g
theorem Own.at_ {w : World} {base : Nat} {e : TypeId} {v : Value} {xs : List Value} (h : Own w base e v xs) (hp : 0 < xs.length) : ∃ g cap, v = .slice (some ⟨g, 0, none⟩) xs.length cap ∧ OwnAt w base e g cap xs := by
  have h' := h
  obtain ⟨⟨_, h⟩, hb⟩ := h
  rcases h with ⟨_, h0⟩ | ⟨g, cap, cur, rfl, hg, hh, hc, hm, hs, ht⟩
  · omega
  · exact ⟨g, cap, rfl, h', cur, hh, by omega, by simpa using ht, hc, hm, hg⟩
theorem OwnAt.lt {w : World} {base : Nat} {e : TypeId} {g cap : Nat} {xs : List Value} (h : OwnAt w base e g cap xs) : base ≤ g ∧ g < w.heap.size ∧ xs.length ≤ cap ∧ cap ≤ 9223372036854775807 := by
  obtain ⟨_, cur, hh, _, _, hc, hm, hg⟩ := h
  refine ⟨hg, ?_, hc, by unfold maxLen at hm; omega⟩
  rcases Nat.lt_or_ge g w.heap.size with hlt | hge
  · exact hlt
  · rw [Array.getElem?_eq_none hge] at hh; cases hh
theorem OwnAt.cell {w : World} {base : Nat} {e : TypeId} {g cap : Nat} {xs : List Value} (h : OwnAt w base e g cap xs) (i : Nat) (hi : i < xs.length) : w.cell? ⟨g, i, none⟩ = some xs[i] := by
  obtain ⟨_, cur, hh, hs, ht, hc, hm⟩ := h
  rw [cell_of_row w g i cur e (0, 0) hh]
  have := congrArg (fun l => l[i]?) ht
  simp only [List.getElem?_take] at this
  rw [if_pos hi] at this
  rw [← List.getElem?_eq_getElem hi, ← this]
  simp
theorem OwnAt.frozen {w : World} {base : Nat} {e : TypeId} {g cap : Nat} {xs : List Value} (h : OwnAt w base e g cap xs) (i : Nat) : w.frozen? ⟨g, i, none⟩ = false := by
  obtain ⟨_, cur, hh, _⟩ := h
  simp [World.frozen?, hh]
theorem OwnAt.set_ {w : World} {base : Nat} {e : TypeId} {g cap : Nat} {xs : List Value} (h : OwnAt w base e g cap xs) (i : Nat) (u : Value) : OwnAt (w.setCell ⟨g, i, none⟩ u) base e g cap (xs.set i u) := by
  have hlt := h.lt
  obtain ⟨⟨_, hb⟩, cur, hh, hs, ht, hc, hm, hg⟩ := h
  have hh' : (w.setCell ⟨g, i, none⟩ u).heap[g]? = some (.cells (cur.setIfInBounds i u) e (0, 0)) := by
    simp [World.setCell, Array.getElem?_modify, hh]
  have ht' : (cur.setIfInBounds i u).toList.take (xs.set i u).length = xs.set i u := by
    rw [Array.toList_setIfInBounds, List.length_set, List.take_set, ht]
  have hsz : (w.setCell ⟨g, i, none⟩ u).heap.size = w.heap.size := by simp [World.setCell]
  refine ⟨⟨⟨by simp, .inr ⟨g, cap, cur.setIfInBounds i u, rfl, hg, hh', by simpa using hc, hm, by simp [hs], by simpa using ht'⟩⟩, by omega⟩, cur.setIfInBounds i u, hh', by simpa using hs, ht', by simpa using hc, hm, hg⟩
theorem OwnAt.keep {w w' : World} {base : Nat} {e : TypeId} {g cap : Nat} {xs : List Value} (h : OwnAt w base e g cap xs) (hs : w.heap.size ≤ w'.heap.size) (hk : w'.heap[g]? = w.heap[g]?) : OwnAt w' base e g cap xs := by
  obtain ⟨ho, cur, hh, r⟩ := h
  refine ⟨ho.keep hs (fun k hk' => ?_), cur, hk.trans hh, r⟩
  have : g = k := by simpa [Value.ownBlock] using hk'
  subst this; exact hk
theorem grown_set {w w' : World} {g : Nat} (h : w.grownBy w' (some g)) (i : Nat) (u : Value) : w.grownBy (w'.setCell ⟨g, i, none⟩ u) (some g) :=
  ⟨h.os, h.tape, h.output, by simpa [World.setCell] using h.size, fun k hk hne => (Below.heap_setCell w' ⟨g, i, none⟩ u k (fun e => hne (by rw [e]))).trans (h.block k hk hne)⟩
/-- The facts on a type of slices of one-cell elements. -/
structure Elem (P : Program) (t e : TypeId) (bytes : Nat) : Prop where
  ht : P.underlying t = some (.slice e)
  info : ∃ i z, P.info? e = some i ∧ i.zero = some z ∧ i.size = 1 ∧ i.bytes = bytes ∧ z.cells.size = 1
theorem Elem.mk_ {P : Program} {t e : TypeId} {bytes : Nat} (ht : P.underlying t = some (.slice e)) {z : Value} (h : (P.info? e).map (fun i => (i.zero, i.size, i.bytes)) = some (some z, 1, bytes)) (hz : z.cells.size = 1) : Elem P t e bytes := by
  obtain ⟨i, hi, h1, h2, h3⟩ := info_parts h
  exact ⟨ht, i, z, hi, h1, h2, h3, hz⟩

section
variable {P : Program} {w : World}
theorem run_append_of_none {base : Nat} {t ty e : TypeId} {bytes : Nat} (E : Elem P t e bytes) {v : Value} {xs : List Value} (hown : Own w base e v xs) (c : Nat) :
    (Builtin.append_ #[t, t] ty #[v, .slice none 0 c]).run P w = .ok v w := by
  obtain ⟨ht, i, z, hi, _⟩ := E
  rcases hown.1.2 with ⟨rfl, _⟩ | ⟨g, cap, cur, rfl, _, _, hnc, _⟩
  · simp [Builtin.append_, run_underlying ht, sizeOf, typeInfo, hi, Builtin.lenOf, Builtin.firstCells]
  · simp [Builtin.append_, run_underlying ht, sizeOf, typeInfo, hi, Builtin.lenOf, Builtin.firstCells, hnc, storeCells]
theorem run_append {base : Nat} {t ty e : TypeId} {bytes : Nat} (E : Elem P t e bytes) {v : Value} {xs : List Value} (hown : Own w base e v xs) {xv : Value} {news : List Value} (hr : Reads w xv news)
    (h1 : ∀ u ∈ news, u.oneCell' = true) (hb1 : (xs.length + news.length) * bytes ≤ 140737488355328) (hb2 : xs.length + news.length ≤ maxLen) :
    ∃ v' w', (Builtin.append_ #[t, t] ty #[v, xv]).run P w = .ok v' w' ∧ Own w' base e v' (xs ++ news) ∧ w.grownBy w' v.ownBlock ∧ (v'.ownBlock = v.ownBlock ∨ v'.ownBlock = some w.heap.size) := by
  obtain ⟨a, len, cap, rfl, rfl, _, _, hb⟩ := hr
  cases a with
  | none =>
    have : news = [] := by
      rcases hb with h | ⟨b, off, h, _⟩
      · exact h
      · cases h
    subst this
    exact ⟨v, w, run_append_of_none E hown cap, by simpa using hown, World.grownBy.refl w _, .inl rfl⟩
  | some ad =>
    obtain ⟨ht, i, z, hi, hz, hs, hby, hzs⟩ := E
    have hcells : ∀ j u, news[j]? = some u → w.cell? (ad.add j) = some u := by
      intro j u hu
      rcases hb with h | ⟨b, off, h, _, hc⟩
      · subst h; simp at hu
      · injection h with h
        subst h
        obtain ⟨hj, rfl⟩ := List.getElem?_eq_some_iff.1 hu
        have := hc j hj
        have e : (⟨b, off, none⟩ : Addr).add j = ⟨b, off + j, none⟩ := by
          unfold Addr.add; split <;> simp_all
        rw [e]; exact this
    obtain ⟨v', w', hrun, h2, h3, _, h5⟩ := run_append_own_at (P := P) w base t ty e i z 1 bytes ht hi hz hs hby hzs (by omega) v xs.length xs hown.1 ad news.length cap news (by omega) hcells h1 hb2 hb1 hown.2
    refine ⟨v', w', hrun, ⟨by rw [List.length_append]; exact h2, Nat.le_trans hown.2 h3.size⟩, h3, h5⟩
/-- 'append' at the head of a plain region's list. -/
theorem wpl_append {ops : Array Oper} {rest : List Oper} {o : Oper} {a : Act} {Q : Exit → Act → World → Prop} (hgd : o.guard = none) (s x : Operand) (t : TypeId)
    (ho : o.op = .call { callee := .builtin .append, args := #[s, x], argTypes := #[t, t] }) {base : Nat} {e : TypeId} {bytes : Nat} (E : Elem P t e bytes)
    {v : Value} {xs : List Value} (hs : a.eval s = v) (hown : Own w base e v xs) {xv : Value} {news : List Value} (hx : a.eval x = xv) (hr : Reads w xv news) (h1 : ∀ u ∈ news, u.oneCell' = true)
    (hb1 : (xs.length + news.length) * bytes ≤ 140737488355328) (hb2 : xs.length + news.length ≤ maxLen)
    (h : ∀ v' w', Own w' base e v' (xs ++ news) → w.grownBy w' v.ownBlock → (v'.ownBlock = v.ownBlock ∨ v'.ownBlock = some w.heap.size) → wpList P ops Q rest (a.put o.dst v') w') : wpList P ops Q (o :: rest) a w := by
  refine wpList_plain hgd fun K hK => ?_
  obtain ⟨v', w', hrun, h2, h3, h4⟩ := run_append (P := P) (ty := o.type) E hown hr h1 hb1 hb2
  unfold Oper.wp execOp
  simp only [ho, resolve, invoke, builtin, Sem.run_bind, Sem.run_pure, Result.andThen_ok, List.map_toArray, List.map_cons, List.map_nil, hs, hx, hrun]
  exact hK _ _ (h v' w' h2 h3 h4)
theorem wp_append {o : Oper} {a : Act} {K : Act → World → Prop} {Q : Exit → Act → World → Prop} (s x : Operand) (t : TypeId)
    (ho : o.op = .call { callee := .builtin .append, args := #[s, x], argTypes := #[t, t] }) {base : Nat} {e : TypeId} {bytes : Nat} (E : Elem P t e bytes)
    {v : Value} {xs : List Value} (hs : a.eval s = v) (hown : Own w base e v xs) {xv : Value} {news : List Value} (hx : a.eval x = xv) (hr : Reads w xv news) (h1 : ∀ u ∈ news, u.oneCell' = true)
    (hb1 : (xs.length + news.length) * bytes ≤ 140737488355328) (hb2 : xs.length + news.length ≤ maxLen)
    (h : ∀ v' w', Own w' base e v' (xs ++ news) → w.grownBy w' v.ownBlock → (v'.ownBlock = v.ownBlock ∨ v'.ownBlock = some w.heap.size) → K (a.put o.dst v') w') : o.wp P a w K Q := by
  obtain ⟨v', w', hrun, h2, h3, h4⟩ := run_append (P := P) (ty := o.type) E hown hr h1 hb1 hb2
  unfold Oper.wp execOp
  simp only [ho, resolve, invoke, builtin, Sem.run_bind, Sem.run_pure, Result.andThen_ok, List.map_toArray, List.map_cons, List.map_nil, hs, hx, hrun]
  exact h v' w' h2 h3 h4
/-- 'append' at a step of a region that draws its order. -/
theorem step_append {ops : Array Oper} {o : Oper} {a : Act} {K : Act → World → Prop} {Q : Exit → Act → World → Prop} {R : Prop} (hgd : o.guard = none) (s x : Operand) (t : TypeId)
    (ho : o.op = .call { callee := .builtin .append, args := #[s, x], argTypes := #[t, t] }) {base : Nat} {e : TypeId} {bytes : Nat} (E : Elem P t e bytes)
    {v : Value} {xs : List Value} (hs : a.eval s = v) (hown : Own w base e v xs) {xv : Value} {news : List Value} (hx : a.eval x = xv) (hr : Reads w xv news) (h1 : ∀ u ∈ news, u.oneCell' = true)
    (hb1 : (xs.length + news.length) * bytes ≤ 140737488355328) (hb2 : xs.length + news.length ≤ maxLen)
    (h : ∀ v' w', Own w' base e v' (xs ++ news) → w.grownBy w' v.ownBlock → (v'.ownBlock = v.ownBlock ∨ v'.ownBlock = some w.heap.size) → K (a.put o.dst v') w') :
    if Region.wanted o (yielded ops a.tmps) = true then Oper.wp P o a w K Q else R := by
  have hw : Region.wanted o (yielded ops a.tmps) = true := by simp [Region.wanted, hgd]
  rw [if_pos hw]
  exact wp_append s x t ho E hs hown hx hr h1 hb1 hb2 h
end
/-- A growth of a row of one's own turns nothing below the base. -/
theorem below_grown {B : Nat} {a w w' : World} {base : Nat} {e : TypeId} {v : Value} {xs : List Value} (h : Below B a w) (hown : Own w base e v xs) (hg : w.grownBy w' v.ownBlock) (hB : B ≤ base) : Below B a w' :=
  h.grown hg (Nat.le_trans hB hown.2) (fun k hk => Nat.le_trans hB (hown.block_ge k hk).1)
theorem one_byteV {bs : List (BitVec 8)} : ∀ u ∈ bs.map byteV, u.oneCell' = true := by
  intro u hu
  obtain ⟨c, _, rfl⟩ := List.mem_map.1 hu
  rfl
theorem one_int {k : IntKind} {n : Int} : ∀ u ∈ [Value.int k n], u.oneCell' = true := by
  intro u hu
  obtain rfl := List.mem_singleton.1 hu
  rfl
def intV (n : Int) : Value := .int .i64 n
theorem one_intV {l : List Int} : ∀ u ∈ l.map intV, u.oneCell' = true := by
  intro u hu
  obtain ⟨c, _, rfl⟩ := List.mem_map.1 hu
  rfl
end Go.Proofs.Ytcnhjbipncledaa
