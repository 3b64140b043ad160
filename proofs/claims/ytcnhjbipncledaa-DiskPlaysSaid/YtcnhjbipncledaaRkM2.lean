/- The document's disk: its row of writes taken for another one; its row of blocks with one turned; an append, run. -/
import Derived.Test.YtcnhjbipncledaaRkW
namespace Go.Proofs.Ytcnhjbipncledaa
open Go.RowKit

/-- The row of writes has become another one. -/
theorem RkAt.swapU {w w' : World} {B : Nat} {F : List Nat} {R : Nat} {vb vu v' : Value} {s s' : Dk} (h : RkAt w B F R vb vu s) (hs : w.heap.size ≤ w'.heap.size) (hk : ∀ k, B ≤ k → k < w.heap.size → k ≠ R → vu.ownBlock ≠ some k → k ∉ F → w'.heap[k]? = w.heap[k]?)
    (c0 : w'.cell? ⟨R, 0, none⟩ = w.cell? ⟨R, 0, none⟩) (c1 : w'.cell? ⟨R, 1, none⟩ = some v') (c2 : w'.cell? ⟨R, 2, none⟩ = some (.bool s'.armed)) (c3 : ∃ l : Int, w'.cell? ⟨R, 3, none⟩ = some (.int .i64 l) ∧ (s'.armed = true → l = s'.left) ∧ -9223372036854775808 ≤ l ∧ l ≤ 9223372036854775807) (c4 : w'.cell? ⟨R, 4, none⟩ = some (.bool s'.down))
    (fz : ∀ k, k < 5 → w'.frozen? ⟨R, k, none⟩ = false) (hf : Frs w' B 105 v' s'.under (rkX F R vb)) (hv : ∀ k, v'.ownBlock = some k → vu.ownBlock = some k ∨ w.heap.size ≤ k) (hb : s'.blocks = s.blocks ∧ s'.blk = s.blk) (hi : ∀ x ∈ s'.under, 0 ≤ x.1 ∧ x.1 < s.blocks) (ho : s'.Ok) : RkAt w' B F R vb v' s' := by
  obtain ⟨bs, hown, hbl, hbs⟩ := h.blks
  obtain ⟨h1, h2⟩ := hb
  refine ⟨h.lo, c0.trans h.c0, c1, c2, c3, c4, fz, ⟨bs, hown.keep hs (fun k hk' => hk k (hown.block_ge k hk').1 (hown.block_ge k hk').2 (h.out k hk').1 (fun e => (h.unR k e).2.2 hk') (h.out k hk').2), by rw [h1]; exact hbl, fun i u hu => ?_⟩, hf, h.out, by rw [h1]; exact hi, ho⟩
  obtain ⟨a, m, c, e, hp⟩ := hbs i u hu
  rw [h2]
  refine ⟨a, m, c, e, hp.keep hs (fun k h1 h2 h3 => ?_) (fun y hy => ?_)⟩
  · rw [List.mem_append, not_or] at h3
    obtain ⟨h3, h4⟩ := h3
    unfold rkX at h4
    simp at h3 h4
    exact hk k h1 h2 h4.1 h3 h4.2.2
  · rcases List.mem_append.1 hy with hy | hy
    · simp at hy
      rcases hv y hy with h | h
      · exact .inl (List.mem_append.2 (.inl (by simp [h])))
      · exact .inr h
    · exact .inl (List.mem_append.2 (.inr hy))
/-- One block more for a number: the row of blocks, one turned. -/
theorem RkAt.setB {w : World} {B : Nat} {F : List Nat} {R : Nat} {vb vu : Value} {s : Dk} (h : RkAt w B F R vb vu s) (i : Int) (h0 : 0 ≤ i) (h1 : i < s.blocks) (b : List B8) (hb : b.length = 128) (a : Option Addr) (m c : Nat) (hp : Pay w B (vu.ownBlock.toList ++ rkX F R vb) a m c b) :
    ∃ g n cc, vb = .slice (some ⟨g, 0, none⟩) n cc ∧ B ≤ g ∧ g ∉ F ∧ (n : Int) = s.blocks ∧ (∃ x, w.cell? ⟨g, i.toNat, none⟩ = some x) ∧ w.frozen? ⟨g, i.toNat, none⟩ = false ∧ RkAt (w.setCell ⟨g, i.toNat, none⟩ (.slice a m c)) B F R vb vu (s.put i b) := by
  obtain ⟨bs, hown, hbl, hbs⟩ := h.blks
  have hi : i.toNat < bs.length := by omega
  obtain ⟨g, cap, rfl, hat⟩ := hown.at_ (by omega)
  have hg := hat.lt
  have hgo := h.out g rfl
  refine ⟨g, _, cap, rfl, hg.1, hgo.2, hbl, ⟨_, hat.cell i.toNat hi⟩, hat.frozen _, ?_⟩
  have hc : Chg [g] w (w.setCell ⟨g, i.toNat, none⟩ (.slice a m c)) := (Chg.refl _ _).setCell _ _ (.inl (by simp))
  have hlt := h.lt.1
  have k := fun k => hc.cell R k hlt (by simpa using Ne.symm hgo.1)
  have f := fun k => hc.frozen R k hlt (by simpa using Ne.symm hgo.1)
  obtain ⟨l, c3, hl⟩ := h.c3
  have hgX : g ∈ rkX F R (.slice (some ⟨g, 0, none⟩) bs.length cap) := by unfold rkX; simp [Value.ownBlock]
  have hkX : ∀ k, B ≤ k → k < w.heap.size → k ∉ rkX F R (.slice (some ⟨g, 0, none⟩) bs.length cap) → (w.setCell ⟨g, i.toNat, none⟩ (.slice a m c)).heap[k]? = w.heap[k]? := fun k _ h2 h3 => hc.block k h2 (fun hx => by simp at hx; subst hx; exact h3 hgX)
  have keep : ∀ {a' m' c' p}, Pay w B (vu.ownBlock.toList ++ rkX F R (.slice (some ⟨g, 0, none⟩) bs.length cap)) a' m' c' p → Pay (w.setCell ⟨g, i.toNat, none⟩ (.slice a m c)) B (vu.ownBlock.toList ++ rkX F R (.slice (some ⟨g, 0, none⟩) bs.length cap)) a' m' c' p := fun hp => hp.keep hc.size (fun k h1 h2 h3 => hkX k h1 h2 (fun hx => h3 (List.mem_append.2 (.inr hx)))) (fun _ hy => .inl hy)
  have hset := hat.set_ i.toNat (.slice a m c)
  refine ⟨h.lo, (k 0).trans h.c0, (k 1).trans h.c1, (k 2).trans h.c2, ⟨l, (k 3).trans c3, hl⟩, (k 4).trans h.c4, fun j hj => (f j).trans (h.fz j hj), ⟨bs.set i.toNat (.slice a m c), ?_, by rw [List.length_set]; exact hbl, fun j u hu => ?_⟩, h.und.keep hc.size hkX (fun _ hy => .inl hy), h.out, h.ins, ⟨h.ok.pos, fun j => ?_, h.ok.under, h.ok.left⟩⟩
  · have := hset.1
    rw [List.length_set] at this
    exact this
  · rw [List.getElem?_set] at hu
    by_cases hj : i.toNat = j
    · rw [if_pos hj, if_pos hi] at hu
      injection hu with hu
      subst hj
      have e : (s.put i b).blk (i.toNat : Int) = b := by show (if ((i.toNat : Nat) : Int) = i then b else _) = b; rw [if_pos (by omega)]
      rw [e]
      exact ⟨a, m, c, hu.symm, keep hp⟩
    · rw [if_neg hj] at hu
      obtain ⟨a', m', c', e, hp'⟩ := hbs j u hu
      have e2 : (s.put i b).blk (j : Int) = s.blk j := by show (if (j : Int) = i then b else s.blk j) = _; rw [if_neg (by omega)]
      rw [e2]
      exact ⟨a', m', c', e, keep hp'⟩
  · show (if j = i then b else s.blk j).length = 128
    split
    · exact hb
    · exact h.ok.blk j
section
variable {P : Program} {w : World}
/-- One write more behind a row of them, run. -/
theorem run_push {base : Nat} {t ty e : TypeId} {i : TypeInfo} {z : Value} {bytes : Nat} (ht : P.underlying t = some (.slice e)) (hi : P.info? e = some i) (hz : i.zero = some z)
    (hsize : i.size = 2) (hby : i.bytes = bytes) (hzs : z.cells.size = 2) {v : Value} {fs : List (Int × List (BitVec 8))} {X : List Nat} (hown : Frs w base e v fs X) (hX : ∀ x ∈ X, x < w.heap.size)
    (ad : Addr) (k : Int) (pa : Option Addr) (pm pc c : Nat) (p : List (BitVec 8)) (h0 : w.cell? (ad.add 0) = some (.int .i64 k)) (h1 : w.cell? (ad.add 1) = some (.slice pa pm pc)) (hp : Pay w base (v.ownBlock.toList ++ X) pa pm pc p)
    (hb1 : (fs.length + 1) * bytes ≤ 140737488355328) (hb2 : fs.length + 1 ≤ maxLen) :
    ∃ v' w', (Builtin.append_ #[t, t] ty #[v, .slice (some ad) 1 c]).run P w = .ok v' w' ∧ Frs w' base e v' (fs ++ [(k, p)]) X ∧ w.grownBy w' v.ownBlock ∧ (v'.ownBlock = v.ownBlock ∨ v'.ownBlock = some w.heap.size) := by
  obtain ⟨hbs, hnx, xs, hr, hf⟩ := hown
  have hcells : ∀ j u, [Value.int .i64 k, .slice pa pm pc][j]? = some u → w.cell? (ad.add j) = some u := by
    intro j u hu
    match j, hu with
    | 0, hu => injection hu with hu; subst hu; exact h0
    | 1, hu => injection hu with hu; subst hu; exact h1
    | n + 2, hu => simp at hu
  obtain ⟨v', w', hrun, h2, h3, _, h5⟩ := run_append_own_at (P := P) w base t ty e i z 2 bytes ht hi hz hsize hby hzs (by omega) v fs.length xs hr ad 1 c [.int .i64 k, .slice pa pm pc] rfl hcells (by intro u hu; simp at hu; rcases hu with rfl | rfl <;> rfl) hb2 hb1 hbs
  have kp : ∀ j, base ≤ j → j < w.heap.size → j ∉ v.ownBlock.toList ++ X → w'.heap[j]? = w.heap[j]? := fun j _ hj hn => h3.block j hj (fun e => hn (List.mem_append.2 (.inl (by rw [← e]; simp))))
  have own' : ∀ y ∈ v'.ownBlock.toList ++ X, y ∈ v.ownBlock.toList ++ X ∨ w.heap.size ≤ y := by
    intro y hy
    rcases List.mem_append.1 hy with hy | hy
    · rcases h5 with h | h
      · rw [h] at hy; exact .inl (List.mem_append.2 (.inl hy))
      · rw [h] at hy; simp at hy; exact .inr (Nat.le_of_eq hy.symm)
    · exact .inl (List.mem_append.2 (.inr hy))
  refine ⟨v', w', hrun, ⟨Nat.le_trans hbs h3.size, fun j hj hx => ?_, _, by rw [List.length_append]; exact h2, fun i' k' p' hi' => ?_⟩, h3, h5⟩
  · rcases h5 with h | h
    · exact hnx j (h ▸ hj) hx
    · rw [h] at hj; injection hj with hj; have := hX j hx; omega
  rcases Nat.lt_or_ge i' fs.length with hlt | hge'
  · rw [List.getElem?_append_left hlt] at hi'
    obtain ⟨a1, m1, c1, e1, e2, e3⟩ := hf i' k' p' hi'
    have hxl := hr.1
    exact ⟨a1, m1, c1, by rw [List.getElem?_append_left (by omega)]; exact e1, by rw [List.getElem?_append_left (by omega)]; exact e2, e3.keep h3.size kp own'⟩
  · have hi0 : i' = fs.length := by
      have := (List.getElem?_eq_some_iff.1 hi').1
      rw [List.length_append, List.length_singleton] at this
      omega
    subst hi0
    rw [List.getElem?_append_right (Nat.le_refl _), Nat.sub_self] at hi'
    injection hi' with hi'
    injection hi' with q1 q2
    subst q1 q2
    have hxl := hr.1
    exact ⟨pa, pm, pc, by rw [List.getElem?_append_right (by omega), hxl, Nat.sub_self]; rfl, by rw [List.getElem?_append_right (by omega), hxl, Nat.add_sub_cancel_left]; rfl, hp.keep h3.size kp own'⟩
end
end Go.Proofs.Ytcnhjbipncledaa
