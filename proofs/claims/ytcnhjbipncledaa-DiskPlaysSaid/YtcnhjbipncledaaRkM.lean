/- The document's disk as it lies in memory, beside a program's disk whose blocks are F. -/
import Derived.Test.YtcnhjbipncledaaDkP
import Derived.Test.YtcnhjbipncledaaFrs
import Derived.Test.YtcnhjbipncledaaRegE
namespace Go.Proofs.Ytcnhjbipncledaa
open Go.RowKit

/-- Where nothing of it but itself may lie. -/
def rkX (F : List Nat) (R : Nat) (vb : Value) : List Nat := R :: (vb.ownBlock.toList ++ F)
structure RkAt (w : World) (B : Nat) (F : List Nat) (R : Nat) (vb vu : Value) (s : Dk) : Prop where
  lo : B ≤ R ∧ R ∉ F
  c0 : w.cell? ⟨R, 0, none⟩ = some vb
  c1 : w.cell? ⟨R, 1, none⟩ = some vu
  c2 : w.cell? ⟨R, 2, none⟩ = some (.bool s.armed)
  c3 : ∃ l : Int, w.cell? ⟨R, 3, none⟩ = some (.int .i64 l) ∧ (s.armed = true → l = s.left) ∧ -9223372036854775808 ≤ l ∧ l ≤ 9223372036854775807
  c4 : w.cell? ⟨R, 4, none⟩ = some (.bool s.down)
  fz : ∀ k, k < 5 → w.frozen? ⟨R, k, none⟩ = false
  blks : ∃ bs : List Value, Own w B 30 vb bs ∧ (bs.length : Int) = s.blocks ∧ ∀ (i : Nat) (u : Value), bs[i]? = some u → ∃ a m c, u = .slice a m c ∧ Pay w B (vu.ownBlock.toList ++ rkX F R vb) a m c (s.blk i)
  und : Frs w B 105 vu s.under (rkX F R vb)
  out : ∀ k, vb.ownBlock = some k → k ≠ R ∧ k ∉ F
  ins : ∀ x ∈ s.under, 0 ≤ x.1 ∧ x.1 < s.blocks
  ok : s.Ok
theorem RkAt.lt {w : World} {B : Nat} {F : List Nat} {R : Nat} {vb vu : Value} {s : Dk} (h : RkAt w B F R vb vu s) : R < w.heap.size ∧ B ≤ w.heap.size := ⟨cell_lt h.c0, h.und.1⟩
theorem RkAt.unR {w : World} {B : Nat} {F : List Nat} {R : Nat} {vb vu : Value} {s : Dk} (h : RkAt w B F R vb vu s) : ∀ k, vu.ownBlock = some k → k ≠ R ∧ k ∉ F ∧ vb.ownBlock ≠ some k := fun k hk => by
  have := h.und.2.1 k hk
  unfold rkX at this
  simp at this
  exact ⟨this.1, this.2.2, this.2.1⟩
/-- Blocks of F alone have turned, and new ones have come; F may have become another list. -/
theorem RkAt.turn {w w' : World} {B : Nat} {F F' : List Nat} {R : Nat} {vb vu : Value} {s : Dk} (h : RkAt w B F R vb vu s) (hs : w.heap.size ≤ w'.heap.size) (hk : ∀ k, B ≤ k → k < w.heap.size → k ∉ F → w'.heap[k]? = w.heap[k]?) (hF : ∀ y ∈ F', y ∈ F ∨ w.heap.size ≤ y) : RkAt w' B F' R vb vu s := by
  have hR := h.lt
  have kR : w'.heap[R]? = w.heap[R]? := hk R h.lo.1 hR.1 h.lo.2
  have c := fun k => World.cell?_of_block (a := ⟨R, k, none⟩) kR
  have f := fun k => World.frozen?_of_block (a := ⟨R, k, none⟩) kR
  obtain ⟨l, c3, hl⟩ := h.c3
  obtain ⟨bs, ho, hbl, hb⟩ := h.blks
  have hX : ∀ y ∈ rkX F' R vb, y ∈ rkX F R vb ∨ w.heap.size ≤ y := fun y hy => by
    unfold rkX at *
    simp at hy ⊢
    rcases hy with h | h | h
    · exact .inl (.inl h)
    · exact .inl (.inr (.inl h))
    · rcases hF y h with h | h
      · exact .inl (.inr (.inr h))
      · exact .inr h
  have hkX : ∀ k, B ≤ k → k < w.heap.size → k ∉ rkX F R vb → w'.heap[k]? = w.heap[k]? := fun k h1 h2 h3 => hk k h1 h2 (fun hx => h3 (by unfold rkX; simp [hx]))
  refine ⟨⟨h.lo.1, fun hx => by rcases hF R hx with h' | h'; exact h.lo.2 h'; omega⟩, (c 0).trans h.c0, (c 1).trans h.c1, (c 2).trans h.c2, ⟨l, (c 3).trans c3, hl⟩, (c 4).trans h.c4, fun k hk' => (f k).trans (h.fz k hk'), ⟨bs, ho.keep hs (fun k hk' => hk k (ho.block_ge k hk').1 (ho.block_ge k hk').2 (h.out k hk').2), hbl, fun i u hu => ?_⟩, h.und.keep hs hkX hX, fun k hk' => ⟨(h.out k hk').1, fun hx => ?_⟩, h.ins, h.ok⟩
  · obtain ⟨a, m, c', e, hp⟩ := hb i u hu
    refine ⟨a, m, c', e, hp.keep hs (fun k h1 h2 h3 => hkX k h1 h2 (fun hx => h3 (List.mem_append.2 (.inr hx)))) (fun y hy => ?_)⟩
    rcases List.mem_append.1 hy with hy | hy
    · exact .inl (List.mem_append.2 (.inl hy))
    · rcases hX y hy with h | h
      · exact .inl (List.mem_append.2 (.inr h))
      · exact .inr h
  · rcases hF k hx with h' | h'
    · exact (h.out k hk').2 h'
    · have := (ho.block_ge k hk').2; omega
theorem RkAt.below {w w' : World} {B : Nat} {F : List Nat} {R : Nat} {vb vu : Value} {s : Dk} (h : RkAt w B F R vb vu s) (hb : Below w.heap.size w w') : RkAt w' B F R vb vu s := h.turn hb.size (fun k _ hk _ => hb.block k hk) (fun _ hy => .inl hy)
/-- Stores into its own block alone, behind the two slices. -/
theorem RkAt.own {w w' : World} {B : Nat} {F : List Nat} {R : Nat} {vb vu : Value} {s s' : Dk} (h : RkAt w B F R vb vu s) (hc : Chg [R] w w') (hs : s'.blocks = s.blocks ∧ s'.blk = s.blk ∧ s'.under = s.under) (ho : s'.Ok)
    (c0 : w'.cell? ⟨R, 0, none⟩ = some vb) (c1 : w'.cell? ⟨R, 1, none⟩ = some vu) (c2 : w'.cell? ⟨R, 2, none⟩ = some (.bool s'.armed)) (c3 : ∃ l : Int, w'.cell? ⟨R, 3, none⟩ = some (.int .i64 l) ∧ (s'.armed = true → l = s'.left) ∧ -9223372036854775808 ≤ l ∧ l ≤ 9223372036854775807) (c4 : w'.cell? ⟨R, 4, none⟩ = some (.bool s'.down))
    (fz : ∀ k, k < 5 → w'.frozen? ⟨R, k, none⟩ = false) : RkAt w' B F R vb vu s' := by
  obtain ⟨h1, h2, h3⟩ := hs
  obtain ⟨bs, hown, hbl, hb⟩ := h.blks
  have hk : ∀ k, k < w.heap.size → k ≠ R → w'.heap[k]? = w.heap[k]? := fun k hk hn => hc.block k hk (by simpa using hn)
  have hkX : ∀ k, B ≤ k → k < w.heap.size → k ∉ rkX F R vb → w'.heap[k]? = w.heap[k]? := fun k _ h2 h3 => hk k h2 (fun e => h3 (by unfold rkX; simp [e]))
  refine ⟨h.lo, c0, c1, c2, c3, c4, fz, ⟨bs, hown.keep hc.size (fun k hk' => hk k (hown.block_ge k hk').2 (h.out k hk').1), by rw [h1]; exact hbl, fun i u hu => ?_⟩, by rw [h3]; exact h.und.keep hc.size hkX (fun _ hy => .inl hy), h.out, by rw [h1, h3]; exact h.ins, ho⟩
  obtain ⟨a, m, c', e, hp⟩ := hb i u hu
  rw [h2]
  exact ⟨a, m, c', e, hp.keep hc.size (fun k h1 h2 h3 => hkX k h1 h2 (fun hx => h3 (List.mem_append.2 (.inr hx)))) (fun _ hy => .inl hy)⟩
/-- What its calls may turn: nothing below B, nothing of F. -/
structure Off (B : Nat) (F : List Nat) (w w' : World) : Prop where
  os : w'.os = w.os
  tape : w'.tape = w.tape
  output : w'.output = w.output
  size : w.heap.size ≤ w'.heap.size
  block : ∀ k, k < w.heap.size → k < B ∨ k ∈ F → w'.heap[k]? = w.heap[k]?
theorem Off.trans {B : Nat} {F : List Nat} {a b c : World} (h : Off B F a b) (k : Off B F b c) : Off B F a c :=
  ⟨k.os.trans h.os, k.tape.trans h.tape, k.output.trans h.output, Nat.le_trans h.size k.size, fun i hi hn => (k.block i (Nat.lt_of_lt_of_le hi h.size) hn).trans (h.block i hi hn)⟩
theorem Off.of_chg {B : Nat} {F S : List Nat} {a b : World} (h : Chg S a b) (hS : ∀ x ∈ S, B ≤ x ∧ x ∉ F) : Off B F a b :=
  ⟨h.os, h.tape, h.output, h.size, fun k hk hn => h.block k hk (fun hx => by have := hS k hx; rcases hn with hn | hn; omega; exact this.2 hn)⟩
theorem Off.of_below {B : Nat} {F : List Nat} {a b : World} (h : Below a.heap.size a b) : Off B F a b := ⟨h.os, h.tape, h.output, h.size, fun k hk _ => h.block k hk⟩
theorem Off.below {B : Nat} {F : List Nat} {a b : World} (h : Off B F a b) (hB : B ≤ a.heap.size) : Below B a b := ⟨h.os, h.tape, h.output, h.size, fun k hk => h.block k (Nat.lt_of_lt_of_le hk hB) (.inl hk)⟩
theorem DiskF.off {w w' : World} {D B : Nat} {F : List Nat} {s : Dk} (h : DiskF w D F s) (ho : Off B F w w') : DiskF w' D F s := by
  have hl := h.lt
  obtain ⟨M, u, rfl, h⟩ := h
  exact ⟨M, u, rfl, h.keep fun y hy => ho.block y (hl y hy) (.inr hy)⟩
def RkIs (w : World) (B : Nat) (F : List Nat) (R : Nat) (s : Dk) : Prop := ∃ vb vu, RkAt w B F R vb vu s
theorem RkIs.turn {w w' : World} {B : Nat} {F F' : List Nat} {R : Nat} {s : Dk} (h : RkIs w B F R s) (hc : Chg F w w') (hF : Grow w F F') : RkIs w' B F' R s := by
  obtain ⟨vb, vu, h⟩ := h
  exact ⟨vb, vu, h.turn hc.size (fun k _ h1 h2 => hc.block k h1 h2) hF⟩
theorem RkIs.below {w w' : World} {B : Nat} {F : List Nat} {R : Nat} {s : Dk} (h : RkIs w B F R s) (hb : Below w.heap.size w w') : RkIs w' B F R s := by
  obtain ⟨vb, vu, h⟩ := h
  exact ⟨vb, vu, h.below hb⟩
theorem RkAt.blk_at {w : World} {B : Nat} {F : List Nat} {R : Nat} {vb vu : Value} {s : Dk} (h : RkAt w B F R vb vu s) (i : Int) (h0 : 0 ≤ i) (h1 : i < s.blocks) :
    ∃ g n c a m cc, vb = .slice (some ⟨g, 0, none⟩) n c ∧ (n : Int) = s.blocks ∧ w.cell? ⟨g, i.toNat, none⟩ = some (.slice a m cc) ∧ IsBytes w (.slice a m cc) (s.blk i) := by
  obtain ⟨bs, ho, hl, hb⟩ := h.blks
  have hi : i.toNat < bs.length := by omega
  obtain ⟨g, cap, e, hat⟩ := ho.at_ (by omega)
  obtain ⟨a, m, c, hu, hp⟩ := hb i.toNat bs[i.toNat] (List.getElem?_eq_getElem hi)
  refine ⟨g, _, cap, a, m, c, e, hl, by rw [hat.cell i.toNat hi, hu], ?_⟩
  rw [show i = ((i.toNat : Nat) : Int) by omega]
  exact hp.bytes
theorem RkAt.forms {w : World} {B : Nat} {F : List Nat} {R : Nat} {vb vu : Value} {s : Dk} (h : RkAt w B F R vb vu s) : (∃ a n c, vb = .slice a n c ∧ (n : Int) = s.blocks) ∧ ∃ a c, vu = .slice a s.under.length c ∧ s.under.length ≤ c ∧ c ≤ maxLen := by
  obtain ⟨bs, ho, hl, _⟩ := h.blks
  obtain ⟨a, c, e, _⟩ := ho.len
  exact ⟨⟨a, _, c, e, hl⟩, h.und.form_⟩
end Go.Proofs.Ytcnhjbipncledaa
