/- The frame of a call that may turn some named old blocks and lay new ones. No program. -/
import Derived.Test.YtcnhjbipncledaaApp2
namespace Go.Proofs.Ytcnhjbipncledaa
open Go.RowKit
/-- Of the old blocks those of S alone may have turned; new ones may have been laid. -/
structure Chg (S : List Nat) (w w' : World) : Prop where
  os : w'.os = w.os
  tape : w'.tape = w.tape
  output : w'.output = w.output
  size : w.heap.size ≤ w'.heap.size
  block : ∀ k, k < w.heap.size → k ∉ S → w'.heap[k]? = w.heap[k]?
theorem Chg.refl (S : List Nat) (w : World) : Chg S w w := ⟨rfl, rfl, rfl, Nat.le_refl _, fun _ _ _ => rfl⟩
theorem Chg.trans {S : List Nat} {a b c : World} (h : Chg S a b) (k : Chg S b c) : Chg S a c :=
  ⟨k.os.trans h.os, k.tape.trans h.tape, k.output.trans h.output, Nat.le_trans h.size k.size, fun i hi hs => (k.block i (Nat.lt_of_lt_of_le hi h.size) hs).trans (h.block i hi hs)⟩
theorem Chg.mono {S T : List Nat} {a b : World} (h : Chg S a b) (hs : ∀ x, x ∈ S → x ∈ T) : Chg T a b :=
  ⟨h.os, h.tape, h.output, h.size, fun i hi ht => h.block i hi (fun x => ht (hs i x))⟩
/-- New blocks may turn further. -/
theorem Chg.more {S T : List Nat} {a b c : World} (h : Chg S a b) (k : Chg T b c) (hs : ∀ x, x ∈ T → x ∈ S ∨ a.heap.size ≤ x) : Chg S a c :=
  ⟨k.os.trans h.os, k.tape.trans h.tape, k.output.trans h.output, Nat.le_trans h.size k.size, fun i hi hn => (k.block i (Nat.lt_of_lt_of_le hi h.size) (fun x => by rcases hs i x with h | h; exact hn h; omega)).trans (h.block i hi hn)⟩
theorem Chg.alloc {S : List Nat} {a b : World} (h : Chg S a b) (o : Obj) : Chg S a (b.alloc o) :=
  h.trans ⟨rfl, rfl, rfl, by simp, fun k hk _ => Below.heap_alloc b o k hk⟩
theorem Chg.setCell {S : List Nat} {a b : World} (h : Chg S a b) (p : Addr) (v : Value) (hp : p.block ∈ S ∨ a.heap.size ≤ p.block) : Chg S a (b.setCell p v) :=
  h.more (T := [p.block]) ⟨rfl, rfl, rfl, by simp [World.setCell], fun k _ hn => Below.heap_setCell b p v k (fun e => hn (by simp [e]))⟩ (fun x hx => by simp at hx; subst hx; exact hp)
theorem Chg.drewN {S : List Nat} {a b : World} (h : Chg S a b) (n : Nat) : Chg S a (b.drewN n) := ⟨h.os, h.tape, h.output, h.size, h.block⟩
theorem Chg.of_below {S : List Nat} {a b : World} (h : Below a.heap.size a b) : Chg S a b := ⟨h.os, h.tape, h.output, h.size, fun k hk _ => h.block k hk⟩
theorem Chg.of_grown {a b : World} {r : Option Nat} (h : a.grownBy b r) : Chg r.toList a b := ⟨h.os, h.tape, h.output, h.size, fun k hk hn => h.block k hk (fun e => hn (by rw [← e]; simp))⟩
theorem Chg.below {S : List Nat} {a b : World} {B : Nat} (h : Chg S a b) (hB : B ≤ a.heap.size) (hs : ∀ x, x ∈ S → B ≤ x) : Below B a b :=
  ⟨h.os, h.tape, h.output, h.size, fun k hk => h.block k (Nat.lt_of_lt_of_le hk hB) (fun x => by have := hs k x; omega)⟩
theorem Chg.cell {S : List Nat} {a b : World} (h : Chg S a b) (k o : Nat) (hk : k < a.heap.size) (hs : k ∉ S) : b.cell? ⟨k, o, none⟩ = a.cell? ⟨k, o, none⟩ :=
  World.cell?_of_block (a := ⟨k, o, none⟩) (h.block k hk hs)
theorem Chg.frozen {S : List Nat} {a b : World} (h : Chg S a b) (k o : Nat) (hk : k < a.heap.size) (hs : k ∉ S) : b.frozen? ⟨k, o, none⟩ = a.frozen? ⟨k, o, none⟩ :=
  World.frozen?_of_block (a := ⟨k, o, none⟩) (h.block k hk hs)
theorem BytesAt.chg {S : List Nat} {w w' : World} {b off : Nat} {bs : List (BitVec 8)} (h : BytesAt w b off bs) (hc : Chg S w w') (hb : b < w.heap.size) (hs : b ∉ S) : BytesAt w' b off bs := h.keep (hc.block b hb hs)
theorem cell_lt {w : World} {b o : Nat} {v : Value} (h : w.cell? ⟨b, o, none⟩ = some v) : b < w.heap.size := by
  rcases Nat.lt_or_ge b w.heap.size with hlt | hge
  · exact hlt
  · simp [World.cell?, Array.getElem?_eq_none hge] at h
theorem Own.chg {S : List Nat} {w w' : World} {base : Nat} {e : TypeId} {v : Value} {xs : List Value} (h : Own w base e v xs) (hc : Chg S w w') (hs : ∀ x ∈ S, x < base) : Own w' base e v xs :=
  h.keep hc.size fun k hk => hc.block k (h.block_ge k hk).2 (fun hx => by have := hs k hx; have := (h.block_ge k hk).1; omega)
theorem IsBytes.chg {S : List Nat} {w w' : World} {v : Value} {bs : List (BitVec 8)} (h : IsBytes w v bs) (hc : Chg S w w') (hs : ∀ p n c, v = .slice (some p) n c → p.block ∉ S) : IsBytes w' v bs := by
  obtain ⟨a, len, cap, hv, hl, hlc, hm, hb⟩ := h
  refine ⟨a, len, cap, hv, hl, hlc, hm, ?_⟩
  rcases hb with hb | ⟨b, off, rfl, hlt, hb⟩
  · exact .inl hb
  · exact .inr ⟨b, off, rfl, Nat.lt_of_lt_of_le hlt hc.size, hb.chg hc hlt (hs _ _ _ hv)⟩
theorem IsBytes.block_lt {w : World} {v : Value} {bs : List (BitVec 8)} (h : IsBytes w v bs) (hp : 0 < bs.length) {p : Addr} {n c : Nat} (he : v = .slice (some p) n c) : p.block < w.heap.size := by
  obtain ⟨a, len, cap, hv, _, _, _, hb⟩ := h
  rcases hb with rfl | ⟨b, off, rfl, hlt, _⟩
  · simp at hp
  · rw [hv] at he
    injection he with he
    injection he with he
    subst he
    exact hlt
end Go.Proofs.Ytcnhjbipncledaa
