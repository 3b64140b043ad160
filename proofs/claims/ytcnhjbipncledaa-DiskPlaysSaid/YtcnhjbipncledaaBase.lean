/- Words that all texts of this seat share: what it is to read a slice of bytes in a world, small laws on the model's bit operations at numbers of fixed width, and the frame 'Below'. No program. -/
import Derived.WalkKit
import Derived.WalkSpells
import Derived.WalkLawsBesides
import Derived.WalkSmall
import Derived.Lib.Hide
import Derived.Maps.AppendAt
import Derived.Deep.AppendLies
import Derived.Deep.QuietTactic
import Derived.BigQuiet
import Derived.Lib.SlBytesConst
import Derived.Lib.SmallJoins
namespace Go.Proofs.Ytcnhjbipncledaa
open Go.RowKit

/-! ### Operations at numbers of fixed width, under names that simp does not open -/
def x32 (a b : BitVec 32) : BitVec 32 := a ^^^ b
def x832 (a : BitVec 32) (b : BitVec 8) : BitVec 32 := a ^^^ b.setWidth 32
def n32 (a : BitVec 32) : BitVec 32 := ~~~ a
def sh4 (a : BitVec 32) : BitVec 32 := a >>> 4
def sh1 (a : BitVec 32) : BitVec 32 := a >>> 1

theorem ofInt32 (a : BitVec 32) : BitVec.ofInt 32 (a.toNat : Int) = a := by
  rw [BitVec.ofInt_natCast]; apply BitVec.eq_of_toNat_eq; rw [BitVec.toNat_ofNat, Nat.mod_eq_of_lt a.isLt]
theorem ofInt832 (a : BitVec 8) : BitVec.ofInt 32 (a.toNat : Int) = a.setWidth 32 := by
  rw [BitVec.ofInt_natCast, BitVec.ofNat_toNat]
theorem back32 (r : BitVec 32) : IntKind.wrap .u32 (r.toNat : Int) = (r.toNat : Int) := by
  rw [IntKind.wrap_u32']
  have := r.isLt
  omega
theorem bits_x32 (a b : BitVec 32) : bits .xor .u32 (a.toNat : Int) (b.toNat : Int) = ((x32 a b).toNat : Int) := by
  show IntKind.wrap .u32 (((BitVec.ofInt 32 (a.toNat : Int)) ^^^ (BitVec.ofInt 32 (b.toNat : Int))).toNat : Int) = _
  rw [ofInt32, ofInt32]; exact back32 _
theorem bits_x832 (a : BitVec 32) (b : BitVec 8) : bits .xor .u32 (a.toNat : Int) (b.toNat : Int) = ((x832 a b).toNat : Int) := by
  show IntKind.wrap .u32 (((BitVec.ofInt 32 (a.toNat : Int)) ^^^ (BitVec.ofInt 32 (b.toNat : Int))).toNat : Int) = _
  rw [ofInt32, ofInt832]; exact back32 _
theorem bits_n32 (a : BitVec 32) : bits .xor .u32 (IntKind.max .u32) (a.toNat : Int) = ((n32 a).toNat : Int) := by
  show IntKind.wrap .u32 (((BitVec.ofInt 32 (IntKind.max .u32)) ^^^ (BitVec.ofInt 32 (a.toNat : Int))).toNat : Int) = _
  rw [ofInt32, show BitVec.ofInt 32 (IntKind.max .u32) = BitVec.allOnes 32 from by decide, BitVec.allOnes_xor]; exact back32 _
theorem signed_u32 : IntKind.u32.signed = false := rfl
theorem bits_and32 (a : BitVec 32) (n : Nat) : bits .and .u32 (a.toNat : Int) (n : Int) = ((a &&& BitVec.ofNat 32 n).toNat : Int) := by
  show IntKind.wrap .u32 (((BitVec.ofInt 32 (a.toNat : Int)) &&& (BitVec.ofInt 32 (n : Int))).toNat : Int) = _
  rw [ofInt32, BitVec.ofInt_natCast]; exact back32 _
theorem int_sh4 (a : BitVec 32) : (a.toNat : Int) / 16 = ((sh4 a).toNat : Int) := by
  unfold sh4
  rw [BitVec.toNat_ushiftRight, Nat.shiftRight_eq_div_pow]; omega
theorem int_sh1 (a : BitVec 32) : (a.toNat : Int) / 2 = ((sh1 a).toNat : Int) := by
  unfold sh1
  rw [BitVec.toNat_ushiftRight, Nat.shiftRight_eq_div_pow]; omega
theorem eq_toNat32 (a b : BitVec 32) : ((a.toNat : Int) == (b.toNat : Int)) = decide (a = b) := by
  by_cases h : a = b
  · subst h; simp
  · have : ¬ a.toNat = b.toNat := fun e => h (BitVec.eq_of_toNat_eq e)
    simp [h]; omega

/-! ### A slice of bytes as it reads in a world -/
/-- The cells at (b, off), (b, off + 1), .. hold these bytes. -/
def BytesAt (w : World) (b off : Nat) (bs : List (BitVec 8)) : Prop := ∀ i (h : i < bs.length), w.cell? ⟨b, off + i, none⟩ = some (.int .u8 (bs[i].toNat : Int))
/-- The value is a slice, nil or not, that reads as these bytes. -/
def IsBytes (w : World) (v : Value) (bs : List (BitVec 8)) : Prop :=
  ∃ a len cap, v = .slice a len cap ∧ len = bs.length ∧ len ≤ cap ∧ cap ≤ maxLen ∧ (bs = [] ∨ ∃ b off, a = some ⟨b, off, none⟩ ∧ b < w.heap.size ∧ BytesAt w b off bs)

theorem BytesAt.keep {w w' : World} {b off : Nat} {bs : List (BitVec 8)} (h : BytesAt w b off bs) (hk : w'.heap[b]? = w.heap[b]?) : BytesAt w' b off bs :=
  fun i hi => (World.cell?_of_block (a := ⟨b, off + i, none⟩) hk).trans (h i hi)
theorem IsBytes.keep {w w' : World} {v : Value} {bs : List (BitVec 8)} (h : IsBytes w v bs) (hs : w.heap.size ≤ w'.heap.size) (hk : ∀ b, b < w.heap.size → w'.heap[b]? = w.heap[b]?) : IsBytes w' v bs := by
  obtain ⟨a, len, cap, hv, hl, hc, hm, hb⟩ := h
  refine ⟨a, len, cap, hv, hl, hc, hm, ?_⟩
  rcases hb with hb | ⟨b, off, ha, hlt, hb⟩
  · exact .inl hb
  · exact .inr ⟨b, off, ha, by omega, hb.keep (hk b hlt)⟩
theorem IsBytes.below {w w' : World} {v : Value} {bs : List (BitVec 8)} (h : IsBytes w v bs) (hb : Below w.heap.size w w') : IsBytes w' v bs :=
  h.keep hb.size hb.block
theorem IsBytes.length_le {w : World} {v : Value} {bs : List (BitVec 8)} (h : IsBytes w v bs) : bs.length ≤ 9223372036854775807 := by
  obtain ⟨a, len, cap, _, rfl, hc, hm, _⟩ := h
  unfold maxLen at hm
  omega
/-- Either nothing is there to be read, or the slice's address is known. -/
theorem IsBytes.open_ {w : World} {v : Value} {bs : List (BitVec 8)} (h : IsBytes w v bs) :
    (bs = [] ∧ ∃ a cap, v = .slice a 0 cap ∧ cap ≤ maxLen) ∨
    (0 < bs.length ∧ ∃ b off cap, v = .slice (some ⟨b, off, none⟩) bs.length cap ∧ bs.length ≤ cap ∧ cap ≤ maxLen ∧ b < w.heap.size ∧ BytesAt w b off bs) := by
  obtain ⟨a, len, cap, rfl, rfl, hc, hm, hb⟩ := h
  by_cases h0 : bs = []
  · subst h0; exact .inl ⟨rfl, a, cap, rfl, hm⟩
  · rcases hb with hb | ⟨b, off, rfl, hlt, hb⟩
    · exact absurd hb h0
    · exact .inr ⟨List.length_pos_iff.2 h0, b, off, cap, rfl, hc, hm, hlt, hb⟩

/-- The value is a slice of slices of bytes that reads as these texts. -/
def IsParts (w : World) (v : Value) (ps : List (List (BitVec 8))) : Prop :=
  ∃ a len cap, v = .slice a len cap ∧ len = ps.length ∧ len ≤ cap ∧ cap ≤ maxLen ∧ (ps = [] ∨ ∃ (b off : Nat) (us : List Value), a = some ⟨b, off, none⟩ ∧ b < w.heap.size ∧ us.length = ps.length ∧
    (∀ i (h : i < us.length), w.cell? ⟨b, off + i, none⟩ = some us[i]) ∧ ∀ i (h : i < us.length) (h' : i < ps.length), IsBytes w us[i] ps[i])
theorem IsParts.keep {w w' : World} {v : Value} {ps : List (List (BitVec 8))} (h : IsParts w v ps) (hs : w.heap.size ≤ w'.heap.size) (hk : ∀ b, b < w.heap.size → w'.heap[b]? = w.heap[b]?) : IsParts w' v ps := by
  obtain ⟨a, len, cap, hv, hl, hc, hm, hb⟩ := h
  refine ⟨a, len, cap, hv, hl, hc, hm, ?_⟩
  rcases hb with hb | ⟨b, off, us, ha, hlt, hul, hu, hi⟩
  · exact .inl hb
  · exact .inr ⟨b, off, us, ha, by omega, hul, fun i h => (World.cell?_of_block (a := ⟨b, off + i, none⟩) (hk b hlt)).trans (hu i h), fun i h h' => (hi i h h').keep hs hk⟩
theorem IsParts.below {w w' : World} {v : Value} {ps : List (List (BitVec 8))} (h : IsParts w v ps) (hb : Below w.heap.size w w') : IsParts w' v ps :=
  h.keep hb.size hb.block
theorem IsParts.open_ {w : World} {v : Value} {ps : List (List (BitVec 8))} (h : IsParts w v ps) :
    (ps = [] ∧ ∃ a cap, v = .slice a 0 cap ∧ cap ≤ maxLen) ∨
    (0 < ps.length ∧ ∃ (b off : Nat) (us : List Value) (cap : Nat), v = .slice (some ⟨b, off, none⟩) ps.length cap ∧ ps.length ≤ cap ∧ cap ≤ maxLen ∧ b < w.heap.size ∧ us.length = ps.length ∧
      (∀ i (h : i < us.length), w.cell? ⟨b, off + i, none⟩ = some us[i]) ∧ ∀ i (h : i < us.length) (h' : i < ps.length), IsBytes w us[i] ps[i]) := by
  obtain ⟨a, len, cap, rfl, rfl, hc, hm, hb⟩ := h
  by_cases h0 : ps = []
  · subst h0; exact .inl ⟨rfl, a, cap, rfl, hm⟩
  · rcases hb with hb | ⟨b, off, us, rfl, hlt, hb⟩
    · exact absurd hb h0
    · exact .inr ⟨List.length_pos_iff.2 h0, b, off, us, cap, rfl, hc, hm, hlt, hb⟩

theorem IsBytes.drewN {w : World} {v : Value} {bs : List (BitVec 8)} (h : IsBytes w v bs) (n : Nat) : IsBytes (w.drewN n) v bs := h
theorem IsParts.drewN {w : World} {v : Value} {ps : List (List (BitVec 8))} (h : IsParts w v ps) (n : Nat) : IsParts (w.drewN n) v ps := h
theorem IsBytes.alloc {w : World} {v : Value} {bs : List (BitVec 8)} (h : IsBytes w v bs) (o : Obj) : IsBytes (w.alloc o) v bs := h.below ((Below.refl _ _).alloc (Nat.le_refl _) o)
/-- A slice over a whole new block. -/
theorem IsBytes.new {w : World} {k : Nat} (hk : w.heap.size = k) (cs : Array Value) (t : TypeId) (fr : Nat × Nat) (bs : List (BitVec 8)) (n : Nat) (hn : n = bs.length) (hm : n ≤ 9223372036854775807) (hc : cs.toList = bs.map (fun c => .int .u8 (c.toNat : Int))) : IsBytes (w.alloc (.cells cs t fr)) (.slice (some ⟨k, 0, none⟩) n n) bs := by
  subst hk
  refine ⟨_, _, _, rfl, hn, Nat.le_refl _, by unfold maxLen; omega, .inr ⟨_, _, rfl, by simp, fun i h => ?_⟩⟩
  rw [Nat.zero_add, cell_of_row _ _ i cs t fr (heap_alloc_new w _)]
  rw [← Array.getElem?_toList, hc, List.getElem?_map, List.getElem?_eq_getElem h]; rfl
theorem IsParts.one {w : World} {k : Nat} (hk : w.heap.size = k) (u : Value) (t : TypeId) (bs : List (BitVec 8)) (hu : IsBytes w u bs) : IsParts (w.alloc (.cells #[u] t)) (.slice (some ⟨k, 0, none⟩) 1 1) [bs] := by
  subst hk
  refine ⟨_, _, _, rfl, rfl, Nat.le_refl _, by decide, .inr ⟨_, _, [u], rfl, by simp, rfl, fun i h => ?_, fun i h h' => ?_⟩⟩
  · obtain rfl : i = 0 := by simp at h; omega
    simp
  · obtain rfl : i = 0 := by simp at h; omega
    exact hu.alloc _
theorem IsParts.two {w : World} {k : Nat} (hk : w.heap.size = k) (u v : Value) (t : TypeId) (xs bs : List (BitVec 8)) (hu : IsBytes w u xs) (hv : IsBytes w v bs) : IsParts (w.alloc (.cells #[u, v] t)) (.slice (some ⟨k, 0, none⟩) 2 2) [xs, bs] := by
  subst hk
  refine ⟨_, _, _, rfl, rfl, Nat.le_refl _, by decide, .inr ⟨_, _, [u, v], rfl, by simp, rfl, fun i h => ?_, fun i h h' => ?_⟩⟩
  · rw [Nat.zero_add, cell_of_row _ _ i #[u, v] t (0, 0) (heap_alloc_new w _)]
    match i, h with
    | 0, _ => rfl
    | 1, _ => rfl
  · match i, h with
    | 0, _ => exact hu.alloc _
    | 1, _ => exact hv.alloc _
/-- '[]byte("..")' of a constant: the literal's row is marked; at the first, the third, the fifth new block of a statement. -/
theorem conv0 {P : Program} {t e : TypeId} (ht : P.underlying t = some (.slice e)) (he : P.underlying e = some (.int .u8)) (w : World) (C : Array Value) (n c : Nat) :
    (convert t t (.slice (some ⟨w.heap.size, 0, none⟩) n c)).run P (w.alloc (.cells C e)) = .ok (.slice (some ⟨w.heap.size, 0, none⟩) n c) (w.alloc (.cells C e (C.size, C.size + 1))) :=
  Joins.run_convert_bytes_const_at w t e C n c _ rfl ht he
theorem conv1 {P : Program} {t e : TypeId} (ht : P.underlying t = some (.slice e)) (he : P.underlying e = some (.int .u8)) (w : World) (o1 : Obj) (C : Array Value) (n c : Nat) :
    (convert t t (.slice (some ⟨w.heap.size + 1, 0, none⟩) n c)).run P ((w.alloc o1).alloc (.cells C e)) = .ok (.slice (some ⟨w.heap.size + 1, 0, none⟩) n c) ((w.alloc o1).alloc (.cells C e (C.size, C.size + 1))) :=
  Joins.run_convert_bytes_const_at _ t e C n c _ (by simp) ht he
theorem conv2 {P : Program} {t e : TypeId} (ht : P.underlying t = some (.slice e)) (he : P.underlying e = some (.int .u8)) (w : World) (o1 o2 : Obj) (C : Array Value) (n c : Nat) :
    (convert t t (.slice (some ⟨w.heap.size + 2, 0, none⟩) n c)).run P (((w.alloc o1).alloc o2).alloc (.cells C e)) = .ok (.slice (some ⟨w.heap.size + 2, 0, none⟩) n c) (((w.alloc o1).alloc o2).alloc (.cells C e (C.size, C.size + 1))) :=
  Joins.run_convert_bytes_const_at _ t e C n c _ (by simp) ht he
theorem conv4 {P : Program} {t e : TypeId} (ht : P.underlying t = some (.slice e)) (he : P.underlying e = some (.int .u8)) (w : World) (o1 o2 o3 o4 : Obj) (C : Array Value) (n c : Nat) :
    (convert t t (.slice (some ⟨w.heap.size + 4, 0, none⟩) n c)).run P (((((w.alloc o1).alloc o2).alloc o3).alloc o4).alloc (.cells C e)) = .ok (.slice (some ⟨w.heap.size + 4, 0, none⟩) n c) (((((w.alloc o1).alloc o2).alloc o3).alloc o4).alloc (.cells C e (C.size, C.size + 1))) :=
  Joins.run_convert_bytes_const_at _ t e C n c _ (by simp) ht he
theorem below_drewN {B : Nat} {a w : World} (h : Below B a w) (n : Nat) : Below B a (w.drewN n) := ⟨h.os, h.tape, h.output, h.size, h.block⟩
theorem take_snoc {α : Type} (l : List α) (k : Nat) (h : k < l.length) : l.take (k + 1) = l.take k ++ [l[k]] := by
  rw [List.take_succ_eq_append_getElem h]
theorem ret_int {k : IntKind} {a b : Int} (h : a = b) : Ending.returned (.int k a) = .returned (.int k b) := by rw [h]
theorem ret_slice {a : Option Addr} {n m c : Nat} (h : n = m) : Ending.returned (.slice a n c) = .returned (.slice a m c) := by rw [h]
end Go.Proofs.Ytcnhjbipncledaa
