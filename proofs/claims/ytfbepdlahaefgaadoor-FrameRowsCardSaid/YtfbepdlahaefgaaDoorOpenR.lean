/- Words for frame.Open's last regions: an append onto an empty new row; steps of the world that leave all but one block. No program. -/
import Derived.Test.YtfbepdlahaefgaaDoorReg2
import Derived.Test.YtfbepdlahaefgaaDoorApp2
import Derived.ArgAppend
namespace Go.Proofs.YtfbepdlahaefgaaDoor
open Go.RowKit

/-- Bytes that do not lie in block B. -/
def Bit (B : Nat) (w : World) (v : Value) (bs : List (BitVec 8)) : Prop :=
  ∃ a len cap, v = .slice a len cap ∧ len = bs.length ∧ len ≤ cap ∧ cap ≤ maxLen ∧ (bs = [] ∨ ∃ b off, a = some ⟨b, off, none⟩ ∧ B < b ∧ b < w.heap.size ∧ BytesAt w b off bs)
theorem Bit.bytes {B : Nat} {w : World} {v : Value} {bs : List (BitVec 8)} (h : Bit B w v bs) : IsBytes w v bs := by
  obtain ⟨a, len, cap, hv, hl, hc, hm, hb⟩ := h
  refine ⟨a, len, cap, hv, hl, hc, hm, ?_⟩
  rcases hb with hb | ⟨b, off, ha, _, hlt, hb⟩
  · exact .inl hb
  · exact .inr ⟨b, off, ha, hlt, hb⟩
theorem Bit.keep {B : Nat} {w w' : World} {v : Value} {bs : List (BitVec 8)} (h : Bit B w v bs) (hs : w.heap.size ≤ w'.heap.size) (hk : ∀ b, b < w.heap.size → b ≠ B → w'.heap[b]? = w.heap[b]?) : Bit B w' v bs := by
  obtain ⟨a, len, cap, hv, hl, hc, hm, hb⟩ := h
  refine ⟨a, len, cap, hv, hl, hc, hm, ?_⟩
  rcases hb with hb | ⟨b, off, ha, hne, hlt, hb⟩
  · exact .inl hb
  · exact .inr ⟨b, off, ha, hne, by omega, hb.keep (hk b hlt (by omega))⟩
theorem own_bit {B : Nat} {w : World} {e : TypeId} {v : Value} {bs : List (BitVec 8)} (h : Own w (B + 1) e v (bs.map byteV)) : Bit B w v bs := by
  by_cases h0 : bs = []
  · obtain ⟨a, cap, rfl, h1, h2⟩ := h.len
    exact ⟨_, _, _, rfl, by simp, h1, h2, .inl h0⟩
  · obtain ⟨g, cap, rfl, hat⟩ := h.at_ (by rw [List.length_map]; exact List.length_pos_iff.2 h0)
    have hlt := hat.lt
    refine ⟨_, _, _, rfl, by simp, hlt.2.2.1, by unfold maxLen; exact hlt.2.2.2, .inr ⟨g, 0, rfl, by omega, hlt.2.1, fun k hk => ?_⟩⟩
    have := hat.cell k (by simpa using hk)
    rw [Nat.zero_add, this]
    simp [byteV]
def Ready (B : Nat) (w : World) : Prop := B < w.heap.size ∧ (∃ u, w.cell? ⟨B, 0, none⟩ = some u) ∧ (∃ u, w.cell? ⟨B, 1, none⟩ = some u) ∧ w.frozen? ⟨B, 0, none⟩ = false ∧ w.frozen? ⟨B, 1, none⟩ = false
def Stored (B : Nat) (k : Value) (bs : List (BitVec 8)) (w : World) : Prop := ∃ a m c, w.cell? ⟨B, 0, none⟩ = some k ∧ w.cell? ⟨B, 1, none⟩ = some (.slice a m c) ∧ Bit B w (.slice a m c) bs
structure Step (B : Nat) (k : Value) (bs : List (BitVec 8)) (w w' : World) : Prop where
  below : Below B w w'
  other : ∀ b, b < w.heap.size → b ≠ B → w'.heap[b]? = w.heap[b]?
  ready : Ready B w → Ready B w'
  stored : Stored B k bs w → Stored B k bs w'
theorem Step.trans {B : Nat} {k : Value} {bs : List (BitVec 8)} {w w' w'' : World} (h : Step B k bs w w') (h' : Step B k bs w' w'') : Step B k bs w w'' :=
  ⟨h.below.trans h'.below, fun b hb hne => (h'.other b (Nat.lt_of_lt_of_le hb h.below.size) hne).trans (h.other b hb hne), fun r => h'.ready (h.ready r), fun s => h'.stored (h.stored s)⟩
theorem Step.of_below {B : Nat} {k : Value} {bs : List (BitVec 8)} {w w' : World} (hB : B < w.heap.size) (h : Below w.heap.size w w') : Step B k bs w w' := by
  have c : ∀ i, w'.cell? ⟨B, i, none⟩ = w.cell? ⟨B, i, none⟩ := fun i => World.cell?_of_block (a := ⟨B, i, none⟩) (h.block B hB)
  have f : ∀ i, w'.frozen? ⟨B, i, none⟩ = w.frozen? ⟨B, i, none⟩ := fun i => by simp only [World.frozen?, h.block B hB]
  refine ⟨h.mono (Nat.le_of_lt hB), fun b hb _ => h.block b hb, fun ⟨r1, r2, r3, r4, r5⟩ => ⟨Nat.lt_of_lt_of_le r1 h.size, ?_, ?_, ?_, ?_⟩, fun ⟨a, m, cc, s1, s2, s3⟩ => ⟨a, m, cc, ?_, ?_, s3.keep h.size fun b hb _ => h.block b hb⟩⟩
  · rw [c]; exact r2
  · rw [c]; exact r3
  · rw [f]; exact r4
  · rw [f]; exact r5
  · rw [c]; exact s1
  · rw [c]; exact s2
theorem Step.refl {B : Nat} {k : Value} {bs : List (BitVec 8)} {w : World} (hB : B < w.heap.size) : Step B k bs w w := .of_below hB (Below.refl _ _)
/-- Two cells of block B are written. -/
theorem Step.store {B : Nat} {k : Value} {bs : List (BitVec 8)} {w : World} {a : Option Addr} {m c : Nat} (hr : Ready B w) (hb : Bit B w (.slice a m c) bs) :
    Step B k bs w ((w.setCell ⟨B, 0, none⟩ k).setCell ⟨B, 1, none⟩ (.slice a m c)) ∧ Stored B k bs ((w.setCell ⟨B, 0, none⟩ k).setCell ⟨B, 1, none⟩ (.slice a m c)) := by
  obtain ⟨r1, ⟨u, r2⟩, ⟨u', r3⟩, r4, r5⟩ := hr
  have hother : ∀ b, b ≠ B → ((w.setCell ⟨B, 0, none⟩ k).setCell ⟨B, 1, none⟩ (.slice a m c)).heap[b]? = w.heap[b]? := fun b hne =>
    (Below.heap_setCell _ ⟨B, 1, none⟩ _ b hne).trans (Below.heap_setCell _ ⟨B, 0, none⟩ _ b hne)
  have hsz : ((w.setCell ⟨B, 0, none⟩ k).setCell ⟨B, 1, none⟩ (.slice a m c)).heap.size = w.heap.size := by simp [World.setCell]
  have c1' : (w.setCell ⟨B, 0, none⟩ k).cell? ⟨B, 1, none⟩ = some u' := (World.cell?_setCell_other _ _ _ _ (fun e => by simp at e)).trans r3
  have c0 : ((w.setCell ⟨B, 0, none⟩ k).setCell ⟨B, 1, none⟩ (.slice a m c)).cell? ⟨B, 0, none⟩ = some k := 
    (World.cell?_setCell_other _ _ _ _ (fun e => by simp at e)).trans (World.cell?_setCell_same _ _ _ r2)
  have c1 : ((w.setCell ⟨B, 0, none⟩ k).setCell ⟨B, 1, none⟩ (.slice a m c)).cell? ⟨B, 1, none⟩ = some (.slice a m c) := World.cell?_setCell_same _ _ _ c1'
  have hst : Stored B k bs ((w.setCell ⟨B, 0, none⟩ k).setCell ⟨B, 1, none⟩ (.slice a m c)) := ⟨a, m, c, c0, c1, hb.keep (by rw [hsz]; exact Nat.le_refl _) fun b _ hne => hother b hne⟩
  refine ⟨⟨((Below.refl B w).setCell (p := ⟨B, 0, none⟩) (Nat.le_refl B) _).setCell (p := ⟨B, 1, none⟩) (Nat.le_refl B) _, fun b _ hne => hother b hne, fun _ => ⟨by rw [hsz]; exact r1, ⟨_, c0⟩, ⟨_, c1⟩, ?_, ?_⟩, fun _ => hst⟩, hst⟩
  · simpa using r4
  · simpa using r5
/-- An append onto a new row that holds nothing and has no room. -/
theorem run_append_empty {P : Program} {w : World} {t ty e : TypeId} {bytes : Nat} (E : Elem P t e bytes) (g : Addr) {xv : Value} {bs : List (BitVec 8)} (hr : Reads w xv (bs.map byteV)) (ha : ∃ ad m c, xv = .slice (some ad) m c) (B : Nat) (hB : B < w.heap.size)
    (hb1 : bs.length * bytes ≤ 140737488355328) (hb2 : bs.length ≤ maxLen) :
    ∃ a m c w', (Builtin.append_ #[t, t] ty #[.slice (some g) 0 0, xv]).run P w = .ok (.slice a m c) w' ∧ Bit B w' (.slice a m c) bs ∧ Below w.heap.size w w' := by
  obtain ⟨ad, m, c, rfl⟩ := ha
  obtain ⟨a, len, cap, he, hl, hc, hm, hb⟩ := hr
  injection he with h1 h2 h3
  subst h1 h2 h3
  rw [List.length_map] at hl
  subst hl
  obtain ⟨ht, i, z, hi, hz, hs, hby, hzs⟩ := E
  by_cases h0 : bs = []
  · subst h0
    refine ⟨some g, 0, 0, w, ?_, ⟨_, _, _, rfl, rfl, Nat.le_refl _, by decide, .inl rfl⟩, Below.refl _ _⟩
    have := run_firstCells_some (P := P) w i.size 0 ad 0 c [] (by simp) (by simp)
    simp [Builtin.append_, run_underlying ht, sizeOf, typeInfo, hi, Builtin.lenOf, this, storeCells]
  · have hp : 0 < bs.length := List.length_pos_iff.2 h0
    have hcells : ∀ j u, (bs.map byteV)[j]? = some u → w.cell? (ad.add j) = some u := by
      intro j u hu
      rcases hb with h | ⟨b, off, h, _, hc⟩
      · rw [List.map_eq_nil_iff] at h; exact absurd h h0
      · injection h with h
        subst h
        obtain ⟨hj, rfl⟩ := List.getElem?_eq_some_iff.1 hu
        have := hc j hj
        have e : (⟨b, off, none⟩ : Addr).add j = ⟨b, off + j, none⟩ := by
          unfold Addr.add; split <;> simp_all
        rw [e]; exact this
    obtain ⟨v', w', hrun, how, hg⟩ := run_append_arg_grows (P := P) w t ty e i z 1 bytes ht hi hz hs hby hzs (by omega) g 0 0 [] rfl (by simp) ad bs.length c (bs.map byteV) (by simp) hcells (by omega) (by omega) (by rw [Nat.zero_add]; exact hb1)
    have hbel : Below w.heap.size w w' := (Below.refl _ _).grown hg (Nat.le_refl _) (by intro k hk; cases hk)
    have hown : Own w' w.heap.size e v' (bs.map byteV) := ⟨by simpa using how, hbel.size⟩
    obtain ⟨g', cap', rfl, hat⟩ := hown.at_ (by simpa using hp)
    have hlt := hat.lt
    refine ⟨_, _, _, w', hrun, ⟨_, _, _, rfl, by simp, hlt.2.2.1, by unfold maxLen; exact hlt.2.2.2, .inr ⟨g', 0, rfl, by omega, hlt.2.1, fun k hk => ?_⟩⟩, hbel⟩
    have := hat.cell k (by simpa using hk)
    rw [Nat.zero_add, this]
    simp [byteV]
/-- The operations that write the slot stand at i or behind it. -/
def fromOn (ops : Array Oper) (t : Tmp) (i : Nat) : Bool := (List.range ops.size).all fun j => dstOf ops j != some t || decide (i ≤ j)
theorem base_from {ops : Array Oper} {t : Tmp} {i : Nat} (h : fromOn ops t i = true) : ∀ j, dstOf ops j = some t → i ≤ j := by
  intro j hj
  unfold fromOn at h
  rw [List.all_eq_true] at h
  have := h j (List.mem_range.2 (dst_lt hj))
  rw [hj] at this
  simpa using this
/-- An activation, slot by slot. -/
theorem act_of {ac : Act} {tm : Array Value} (hd : ac.defers = []) (hs : ac.tmps.size = tm.size) (h : ∀ i, i < tm.size → ac.tmps.getD i undef = tm.getD i undef) : ac = ⟨tm, []⟩ := by
  obtain ⟨t, d⟩ := ac
  simp only at hd hs h
  subst hd
  have : t = tm := by
    apply Array.ext hs
    intro i h1 h2
    have := h i h2
    simpa [Array.getD_eq_getD_getElem?, h1, h2] using this
  rw [this]
section
variable {P : Program} {ops : Array Oper} {Q : Exit → Act → World → Prop}
/-- An operation that hands no value on. -/
theorem op_skip_m {i : Nat} {o : Oper} {a : Act} {w w' : World} {R : World → World → Prop} {Φ : Nat → Value → World → Prop} {Ψ : Nat → World → Prop} (ho : ops[i]? = some o) (hg : o.guard = none)
    (hrun : (execOp a.eval o).run P w = .ok .skip w') (hR : R w w') (hd : o.dst = none) (hΨ : Ψ i w') :
    wpOp P ops Q i (fun a' w' => ∃ v, a' = a.put o.dst v ∧ R w w' ∧ (∀ t, o.dst = some t → Φ t v w') ∧ Ψ i w') a w := by
  unfold wpOp
  rw [ho]
  simp only []
  rw [if_pos (by simp [Region.wanted, hg])]
  refine .inl ?_
  unfold Oper.wp
  rw [hrun]
  exact ⟨undef, rfl, hR, fun t ht => (by rw [hd] at ht; cases ht), hΨ⟩
theorem exec_append {o : Oper} {a : Act} {w w' : World} (s x : Operand) (t : TypeId) (ho : o.op = .call { callee := .builtin .append, args := #[s, x], argTypes := #[t, t] }) {sv xv v' : Value} (hs : a.eval s = sv) (hx : a.eval x = xv)
    (hrun : (Builtin.append_ #[t, t] o.type #[sv, xv]).run P w = .ok v' w') : (execOp a.eval o).run P w = .ok (.value v') w' := by
  unfold execOp
  simp only [ho, resolve, invoke, builtin, Sem.run_bind, Sem.run_pure, Result.andThen_ok, List.map_toArray, List.map_cons, List.map_nil, hs, hx, hrun]
end
def NoMark (_ : Nat) (_ : World) : Prop := True
def OpenMark (B : Nat) (k : Value) (bs : List (BitVec 8)) (j : Nat) (w : World) : Prop := j = 12 → Stored B k bs w
end Go.Proofs.YtfbepdlahaefgaaDoor
