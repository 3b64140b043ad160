/- A row of frames: elements of two cells, a number and a slice of bytes that lies elsewhere. No program. -/
import Derived.Test.YtcnhjbipncledaaApp2
import Derived.Test.YtcnhjbipncledaaChg
namespace Go.Proofs.Ytcnhjbipncledaa
open Go.RowKit

/-- A payload that lies in none of the blocks Y. -/
def Pay (w : World) (base : Nat) (Y : List Nat) (a : Option Addr) (m c : Nat) (p : List (BitVec 8)) : Prop :=
  m = p.length ∧ m ≤ c ∧ c ≤ maxLen ∧ (p = [] ∨ ∃ b off, a = some ⟨b, off, none⟩ ∧ base ≤ b ∧ b < w.heap.size ∧ b ∉ Y ∧ BytesAt w b off p)
/-- The row reads as these frames; neither it nor a payload lies in a block of X. -/
def Frs (w : World) (base : Nat) (e : TypeId) (v : Value) (fs : List (Int × List (BitVec 8))) (X : List Nat) : Prop :=
  base ≤ w.heap.size ∧ (∀ j, v.ownBlock = some j → j ∉ X) ∧ ∃ xs : List Value, w.ownsRow base e 2 v fs.length xs ∧ ∀ (i : Nat) (k : Int) (p : List (BitVec 8)), fs[i]? = some (k, p) → ∃ a m c, xs[i * 2]? = some (.int .i64 k) ∧ xs[i * 2 + 1]? = some (.slice a m c) ∧ Pay w base (v.ownBlock.toList ++ X) a m c p
theorem Pay.bytes {w : World} {base : Nat} {Y : List Nat} {a : Option Addr} {m c : Nat} {p : List (BitVec 8)} (h : Pay w base Y a m c p) : IsBytes w (.slice a m c) p := by
  obtain ⟨h1, h2, h3, h4⟩ := h
  refine ⟨a, m, c, rfl, h1, h2, h3, ?_⟩
  rcases h4 with h | ⟨b, off, ha, _, hb, _, hat⟩
  · exact .inl h
  · exact .inr ⟨b, off, ha, hb, hat⟩
theorem Pay.keep {w w' : World} {base : Nat} {Y Y' : List Nat} {a : Option Addr} {m c : Nat} {p : List (BitVec 8)} (h : Pay w base Y a m c p) (hs : w.heap.size ≤ w'.heap.size)
    (hk : ∀ k, base ≤ k → k < w.heap.size → k ∉ Y → w'.heap[k]? = w.heap[k]?) (ho : ∀ y ∈ Y', y ∈ Y ∨ w.heap.size ≤ y) : Pay w' base Y' a m c p := by
  obtain ⟨h1, h2, h3, h4⟩ := h
  refine ⟨h1, h2, h3, ?_⟩
  rcases h4 with h | ⟨b, off, ha, hlo, hb, hne, hat⟩
  · exact .inl h
  · refine .inr ⟨b, off, ha, hlo, Nat.lt_of_lt_of_le hb hs, fun hy => ?_, hat.keep (hk b hlo hb hne)⟩
    rcases ho b hy with h | h
    · exact hne h
    · omega
theorem Frs.nil_ {w : World} {base : Nat} {e : TypeId} {X : List Nat} (h : base ≤ w.heap.size) : Frs w base e (.slice none 0 0) [] X :=
  ⟨h, (by intro j hj; cases hj), [], ⟨rfl, .inl ⟨rfl, rfl⟩⟩, by intro i k p hi; simp at hi⟩
theorem row_lt {w : World} {base size n : Nat} {e : TypeId} {v : Value} {xs : List Value} (h : w.ownsRow base e size v n xs) : ∀ j, v.ownBlock = some j → base ≤ j ∧ j < w.heap.size := by
  obtain ⟨_, h⟩ := h
  intro j hj
  rcases h with ⟨rfl, _⟩ | ⟨g, cap, cur, rfl, hg, hh, _⟩
  · cases hj
  · injection hj with hj; subst hj; exact ⟨hg, (Array.getElem?_eq_some_iff.1 hh).1⟩
theorem row_keep {w w' : World} {base size n : Nat} {e : TypeId} {v : Value} {xs : List Value} (h : w.ownsRow base e size v n xs) (hk : ∀ k, v.ownBlock = some k → w'.heap[k]? = w.heap[k]?) : w'.ownsRow base e size v n xs := by
  obtain ⟨h1, h⟩ := h
  refine ⟨h1, ?_⟩
  rcases h with h | ⟨g, cap, cur, rfl, hg, hh, r⟩
  · exact .inl h
  · exact .inr ⟨g, cap, cur, rfl, hg, (hk g rfl).trans hh, r⟩
/-- Blocks of X alone have turned; they may be others from now on. -/
theorem Frs.keep {w w' : World} {base : Nat} {e : TypeId} {v : Value} {fs : List (Int × List (BitVec 8))} {X X' : List Nat} (h : Frs w base e v fs X) (hs : w.heap.size ≤ w'.heap.size) (hk : ∀ k, base ≤ k → k < w.heap.size → k ∉ X → w'.heap[k]? = w.heap[k]?)
    (hX : ∀ y ∈ X', y ∈ X ∨ w.heap.size ≤ y) : Frs w' base e v fs X' := by
  obtain ⟨hb, hn, xs, hr, hf⟩ := h
  have hlt := row_lt hr
  refine ⟨Nat.le_trans hb hs, fun j hj hx => ?_, xs, row_keep hr (fun k hk' => hk k (hlt k hk').1 (hlt k hk').2 (hn k hk')), fun i k p hi => ?_⟩
  · rcases hX j hx with h | h
    · exact hn j hj h
    · have := (hlt j hj).2; omega
  · obtain ⟨a, m, c, h1, h2, h3⟩ := hf i k p hi
    exact ⟨a, m, c, h1, h2, h3.keep hs (fun j hj hj2 hj3 => hk j hj hj2 (fun hx => hj3 (List.mem_append.2 (.inr hx)))) (fun y hy => by
      rcases List.mem_append.1 hy with h | h
      · exact .inl (List.mem_append.2 (.inl h))
      · rcases hX y h with h | h
        · exact .inl (List.mem_append.2 (.inr h))
        · exact .inr h)⟩
theorem Frs.chg {w w' : World} {base : Nat} {e : TypeId} {v : Value} {fs : List (Int × List (BitVec 8))} {X E : List Nat} (h : Frs w base e v fs X) (hc : Chg E w w') (hE : ∀ x ∈ E, x < base ∨ w.heap.size ≤ x) : Frs w' base e v fs X :=
  h.keep hc.size (fun k hk hk2 _ => hc.block k hk2 (fun hx => by rcases hE k hx with h | h <;> omega)) (fun _ hy => .inl hy)
theorem Frs.block {w : World} {base : Nat} {e : TypeId} {v : Value} {fs : List (Int × List (BitVec 8))} {X : List Nat} (h : Frs w base e v fs X) : ∀ j, v.ownBlock = some j → base ≤ j ∧ j < w.heap.size := by
  obtain ⟨_, _, xs, hr, _⟩ := h; exact row_lt hr
theorem Frs.form_ {w : World} {base : Nat} {e : TypeId} {v : Value} {fs : List (Int × List (BitVec 8))} {X : List Nat} (h : Frs w base e v fs X) : ∃ a c, v = .slice a fs.length c ∧ fs.length ≤ c ∧ c ≤ maxLen := by
  obtain ⟨_, _, xs, ⟨_, h⟩, _⟩ := h
  rcases h with ⟨rfl, h0⟩ | ⟨g, cap, cur, rfl, _, _, h1, h2, _⟩
  · exact ⟨none, 0, by rw [h0], by omega, Nat.zero_le _⟩
  · exact ⟨_, _, rfl, h1, h2⟩
/-- The i-th frame's cells. -/
theorem Frs.at_ {w : World} {base : Nat} {e : TypeId} {v : Value} {fs : List (Int × List (BitVec 8))} {X : List Nat} (h : Frs w base e v fs X) (i : Nat) (k : Int) (p : List (BitVec 8)) (hi : fs[i]? = some (k, p)) :
    ∃ g cap a m c, v = .slice (some ⟨g, 0, none⟩) fs.length cap ∧ w.cell? ⟨g, i * 2, none⟩ = some (.int .i64 k) ∧ w.cell? ⟨g, i * 2 + 1, none⟩ = some (.slice a m c) ∧ IsBytes w (.slice a m c) p := by
  obtain ⟨_, _, xs, ⟨hx, h⟩, hf⟩ := h
  obtain ⟨a, m, c, h1, h2, h3⟩ := hf i k p hi
  have hil := (List.getElem?_eq_some_iff.1 hi).1
  rcases h with ⟨rfl, h0⟩ | ⟨g, cap, cur, rfl, hg, hh, hn, hm, hs, ht⟩
  · omega
  · refine ⟨g, cap, a, m, c, rfl, ?_, ?_, h3.bytes⟩
    · rw [cell_of_row w g _ cur e (0, 0) hh, ← h1, ← ht, List.getElem?_take, if_pos (by omega)]
      simp
    · rw [cell_of_row w g _ cur e (0, 0) hh, ← h2, ← ht, List.getElem?_take, if_pos (by omega)]
      simp
section
variable {P : Program} {w : World}
/-- One frame more. -/
theorem wpl_push {ops : Array Oper} {rest : List Oper} {o : Oper} {a : Act} {Q : Exit → Act → World → Prop} (hgd : o.guard = none) (s x : Operand) (t : TypeId)
    (ho : o.op = .call { callee := .builtin .append, args := #[s, x], argTypes := #[t, t] }) {base : Nat} {e : TypeId} {i : TypeInfo} {z : Value} {bytes : Nat} (ht : P.underlying t = some (.slice e)) (hi : P.info? e = some i) (hz : i.zero = some z)
    (hsize : i.size = 2) (hby : i.bytes = bytes) (hzs : z.cells.size = 2) {v : Value} {fs : List (Int × List (BitVec 8))} {X : List Nat} (hs : a.eval s = v) (hown : Frs w base e v fs X) (hX : ∀ x ∈ X, x < w.heap.size)
    (ad : Addr) (k : Int) (pa : Option Addr) (pm pc c : Nat) (p : List (BitVec 8)) (hx : a.eval x = .slice (some ad) 1 c) (h0 : w.cell? (ad.add 0) = some (.int .i64 k)) (h1 : w.cell? (ad.add 1) = some (.slice pa pm pc)) (hp : Pay w base (v.ownBlock.toList ++ X) pa pm pc p)
    (hb1 : (fs.length + 1) * bytes ≤ 140737488355328) (hb2 : fs.length + 1 ≤ maxLen)
    (h : ∀ v' w', Frs w' base e v' (fs ++ [(k, p)]) X → w.grownBy w' v.ownBlock → wpList P ops Q rest (a.put o.dst v') w') : wpList P ops Q (o :: rest) a w := by
  obtain ⟨hbs, hnx, xs, hr, hf⟩ := hown
  have hcells : ∀ j u, [Value.int .i64 k, .slice pa pm pc][j]? = some u → w.cell? (ad.add j) = some u := by
    intro j u hu
    match j, hu with
    | 0, hu => injection hu with hu; subst hu; exact h0
    | 1, hu => injection hu with hu; subst hu; exact h1
    | n + 2, hu => simp at hu
  refine wpList_plain hgd fun K hK => ?_
  obtain ⟨v', w', hrun, h2, h3, _, h5⟩ := run_append_own_at (P := P) w base t o.type e i z 2 bytes ht hi hz hsize hby hzs (by omega) v fs.length xs hr ad 1 c [.int .i64 k, .slice pa pm pc] rfl hcells (by intro u hu; simp at hu; rcases hu with rfl | rfl <;> rfl) hb2 hb1 hbs
  unfold Oper.wp execOp
  simp only [ho, resolve, invoke, builtin, Sem.run_bind, Sem.run_pure, Result.andThen_ok, List.map_toArray, List.map_cons, List.map_nil, hs, hx, hrun]
  have kp : ∀ j, base ≤ j → j < w.heap.size → j ∉ v.ownBlock.toList ++ X → w'.heap[j]? = w.heap[j]? := fun j _ hj hn => h3.block j hj (fun e => hn (List.mem_append.2 (.inl (by rw [← e]; simp))))
  have own' : ∀ y ∈ v'.ownBlock.toList ++ X, y ∈ v.ownBlock.toList ++ X ∨ w.heap.size ≤ y := by
    intro y hy
    rcases List.mem_append.1 hy with hy | hy
    · rcases h5 with h | h
      · rw [h] at hy; exact .inl (List.mem_append.2 (.inl hy))
      · rw [h] at hy; simp at hy; exact .inr (Nat.le_of_eq hy.symm)
    · exact .inl (List.mem_append.2 (.inr hy))
  refine hK _ _ (h v' w' ⟨Nat.le_trans hbs h3.size, fun j hj hx => ?_, _, by rw [List.length_append]; exact h2, fun i' k' p' hi' => ?_⟩ h3)
  · rcases h5 with h | h
    · exact hnx j (h ▸ hj) hx
    · rw [h] at hj; injection hj with hj; have := hX j hx; omega
  rcases Nat.lt_or_ge i' fs.length with hlt | hge'
  · rw [List.getElem?_append_left hlt] at hi'
    obtain ⟨a1, m1, c1, e1, e2, e3⟩ := hf i' k' p' hi'
    have hxl := hr.1
    exact ⟨a1, m1, c1, by rw [List.getElem?_append_left (by omega)]; exact e1, by rw [List.getElem?_append_left (by omega)]; exact e2, e3.keep h3.size kp own'⟩
  · have hi0 : i' = fs.length := by
      have := (List.getElem?_eq_some_iff.1 hi').1
      rw [List.length_append, List.length_singleton] at this
      omega
    subst hi0
    rw [List.getElem?_append_right (Nat.le_refl _), Nat.sub_self] at hi'
    injection hi' with hi'
    injection hi' with q1 q2
    subst q1 q2
    have hxl := hr.1
    exact ⟨pa, pm, pc, by rw [List.getElem?_append_right (by omega), hxl, Nat.sub_self]; rfl, by rw [List.getElem?_append_right (by omega), hxl, Nat.add_sub_cancel_left]; rfl, hp.keep h3.size kp own'⟩
end
end Go.Proofs.Ytcnhjbipncledaa
