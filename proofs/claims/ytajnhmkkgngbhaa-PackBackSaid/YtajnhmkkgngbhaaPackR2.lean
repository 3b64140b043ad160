/- The walks of package pack, the reader: next. -/
import Derived.Test.YtajnhmkkgngbhaaPackR
import Derived.Test.YtajnhmkkgngbhaaChg
namespace Go.Proofs.Ytajnhmkkgngbhaa
open Go.RowKit

/-- A reader in memory: what is left of its bytes, its error's number. -/
structure ReaderIs (w : World) (R : Nat) (bs : List (BitVec 8)) (e : Int) : Prop where
  lt : R < w.heap.size
  made : w.cell? ⟨R, 0, none⟩ = some (.bool true)
  rest : ∃ b off c, b < R ∧ bs.length ≤ c ∧ c ≤ 9223372036854775807 ∧ w.cell? ⟨R, 1, none⟩ = some (.slice (some ⟨b, off, none⟩) bs.length c) ∧ BytesAt w b off bs
  err : w.cell? ⟨R, 2, none⟩ = some (.int .i64 e)
  f1 : w.frozen? ⟨R, 1, none⟩ = false
  f2 : w.frozen? ⟨R, 2, none⟩ = false
theorem BytesAt.drop {w : World} {b off : Nat} {bs : List (BitVec 8)} (h : BytesAt w b off bs) (n : Nat) : BytesAt w b (off + n) (bs.drop n) := by
  intro i hi
  rw [List.length_drop] at hi
  rw [Nat.add_assoc, h (n + i) (by omega), List.getElem_drop]
theorem BytesAt.take {w : World} {b off : Nat} {bs : List (BitVec 8)} (h : BytesAt w b off bs) (n : Nat) : BytesAt w b off (bs.take n) := by
  intro i hi
  rw [List.length_take] at hi
  rw [h i (by omega), List.getElem_take]
theorem kept_parts {P : World → Prop} {W : World} {q r : Prop} (lo : Nat) (key : ∀ C w4, Chg C W w4 → (∀ x ∈ C, x < lo) → P w4) (hq : q) (hr : r) : P W ∧ q ∧ r ∧ (∀ C w4, Chg C W w4 → (∀ x ∈ C, x < lo) → P w4) :=
  ⟨key [] W (Chg.refl _ _) (by simp), hq, hr, key⟩
theorem read_is (v : Value) (bs : List (BitVec 8)) (w : World) (hv : IsBytes w v bs) (hr : bs.length ≤ 1048576) :
    Calls Try.prog 17 #[v] w fun e w' => ∃ R, e = .returned (.pointer (some ⟨R, 0, none⟩)) ∧ ReaderIs w' R bs 0 ∧ w.heap.size < R ∧ Below w.heap.size w w' ∧ (∀ C w2, Chg C w' w2 → (∀ x ∈ C, x < w.heap.size) → ReaderIs w2 R bs 0) := by
  have hv' := hv
  obtain ⟨va, vn, vc, rfl, _, _, _, _⟩ := hv'
  have HV := Lib.hid hv
  have HR := Lib.hid hr
  clear hv hr
  go_enter Try.func17, Try.ntmps17
  go_wp2_with (at_builtin; refine wpl_append rfl (.tmp 3) (.tmp 4) _ rfl elemU8 rfl (Own.empty_ (base := w.heap.size) rfl (Nat.le_refl _)) rfl (HV.out.reads.alloc _) one_byteV (by have := HR.out; rw [List.length_map, List.length_nil]; omega) (by have := HR.out; rw [List.length_map, List.length_nil]; unfold maxLen; omega) ?_; intro v' w2 hown2 hg1 hat1; rw [List.nil_append] at hown2; obtain ⟨ra, rn, rc, rfl, hrn⟩ := hown2.form_; have hb2 : Hid (Below w.heap.size w w2) := below_grown ((Below.refl _ _).alloc (Nat.le_refl _) _) (Own.empty_ (base := w.heap.size) rfl (Nat.le_refl _)) hg1 (Nat.le_refl _); have H2 := Lib.hid hown2; have HAT := Lib.hid hat1; have HSZ : Hid (w.heap.size < w2.heap.size) := Nat.lt_of_lt_of_le (by simp) hg1.size; clear hg1 hat1 hown2 hrn)
  go_ret
  have ho := H2.out
  have hat := HAT.out
  have hsz := HSZ.out
  obtain ⟨g, hg⟩ : ∃ g, (Value.slice ra rn rc).ownBlock = some g := by rcases hat with h | h <;> exact ⟨_, h⟩
  obtain ⟨⟨hn, h⟩, hbase⟩ := ho
  rcases h with ⟨he, _⟩ | ⟨g', cap, cur, he, hge, hh, hcap, hm, hs, ht⟩
  · cases he; cases hg
  injection he with e1 e2 e3
  subst e1 e2 e3
  have hlt : g' < w2.heap.size := ((H2.out.block_ge g' rfl)).2
  have hbytes := H2.out.reads.bytes
  obtain ⟨a', len', cap', he, hl', _, _, hb⟩ := hbytes
  injection he with e1 e2 e3
  subst e1 e2 e3
  have hbt : BytesAt w2 g' 0 bs := by
    rcases hb with hb | ⟨b, off, ha, hlt', hb⟩
    · rw [hb]; intro i hi; exact absurd hi (Nat.not_lt_zero _)
    · injection ha with ha
      injection ha with e1 e2
      subst e1 e2
      exact hb
  refine ⟨w2.heap.size, rfl, kept_parts (P := fun W => ReaderIs W w2.heap.size bs 0) w.heap.size ?_ hsz (hb2.out.alloc hb2.out.size _)⟩
  intro C w4 hc hx
  have n1 : w2.heap.size ∉ C := fun h => by have := hx _ h; omega
  have n2 : g' ∉ C := fun h => by have := hx _ h; omega
  refine ⟨Nat.lt_of_lt_of_le (by simp) hc.size, (hc.cell _ 0 (by simp) n1).trans (by simp), ⟨g', 0, _, hlt, by rw [← hl']; exact hcap, by unfold maxLen at hm; omega, (hc.cell _ 1 (by simp) n1).trans (by rw [← hl']; simp), ?_⟩, (hc.cell _ 2 (by simp) n1).trans (by simp), (hc.frozen _ 1 (by simp) n1).trans (by simp), (hc.frozen _ 2 (by simp) n1).trans (by simp)⟩
  exact (hbt.keep (Below.heap_alloc _ _ _ hlt)).chg hc (Nat.lt_trans hlt (by simp)) n2
def faultV (e : Int) : Value := .iface 97 (.agg #[.int .i64 e])
def thrown (e : Int) : Ending := .panicked [{ v := faultV e, recovered := false }]
set_option maxHeartbeats 1000000 in
theorem next_end (R n : Nat) (bs : List (BitVec 8)) (e : Int) (w : World) (hR : ReaderIs w R bs e) (hn : bs.length < n) :
    Calls Try.prog 54 #[.pointer (some ⟨R, 0, none⟩), .int .i64 n] w fun x w' => x = thrown 120 ∧ w = w' := by
  obtain ⟨hlt, c0, ⟨b, off, c, hb, hc, hcm, c1, hat⟩, c2, f1, f2⟩ := hR
  have HAT := Lib.hid hat
  clear hat
  have g : (bs.length : Int) < (n : Int) := by omega
  go_enter Try.func54, Try.ntmps54
  go_wp2
  exact ⟨rfl, rfl, rfl⟩
set_option maxHeartbeats 1000000 in
theorem next_ok (R n : Nat) (bs : List (BitVec 8)) (e : Int) (w : World) (hR : ReaderIs w R bs e) (hn : n ≤ bs.length) :
    Calls Try.prog 54 #[.pointer (some ⟨R, 0, none⟩), .int .i64 n] w fun x w' => ∃ b off, x = .returned (.slice (some ⟨b, off, none⟩) n n) ∧ b < R ∧ BytesAt w' b off (bs.take n) ∧ ReaderIs w' R (bs.drop n) e ∧ Chg [R] w w' := by
  obtain ⟨hlt, c0, ⟨b, off, c, hb, hc, hcm, c1, hat⟩, c2, f1, f2⟩ := hR
  have HAT := Lib.hid hat
  clear hat
  obtain ⟨m, hm⟩ : ∃ m, bs.length = m := ⟨_, rfl⟩
  rw [hm] at hn hc c1
  have HM := Lib.hid hm
  clear hm
  have g : ¬ (m : Int) < (n : Int) := by omega
  have fin : ∀ (off' : Nat) , (off' = off + n ∨ bs.drop n = []) → ReaderIs (w.setCell ⟨R, 1, none⟩ (.slice (some ⟨b, off', none⟩) (m - n) (c - n))) R (bs.drop n) e ∧ BytesAt (w.setCell ⟨R, 1, none⟩ (.slice (some ⟨b, off', none⟩) (m - n) (c - n))) b off (bs.take n) := by
    intro off' ho
    have hk : ∀ v, (w.setCell ⟨R, 1, none⟩ v).heap[b]? = w.heap[b]? := fun v => Below.heap_setCell w ⟨R, 1, none⟩ v b (fun h => by simp at h; omega)
    have hM := HM.out
    refine ⟨⟨by simpa [World.setCell] using hlt, (World.cell?_setCell_other _ _ _ _ (fun h => by simp at h)).trans c0, ⟨b, off', c - n, hb, by rw [List.length_drop]; omega, by omega, ?_, ?_⟩, (World.cell?_setCell_other _ _ _ _ (fun h => by simp at h)).trans c2, by rw [World.frozen?_setCell]; exact f1, by rw [World.frozen?_setCell]; exact f2⟩, (HAT.out.take n).keep (hk _)⟩
    · rw [List.length_drop, hM]; exact World.cell?_setCell_same _ _ _ c1
    · rcases ho with rfl | ho
      · exact (HAT.out.drop n).keep (hk _)
      · rw [ho]; intro i hi; exact absurd hi (Nat.not_lt_zero _)
  have FIN := Lib.hid fin
  clear fin
  by_cases hcn : c = n
  · have h0 : bs.drop n = [] := List.drop_of_length_le (by have := HM.out; omega)
    have H0 := Lib.hid h0
    clear h0
    go_enter Try.func54, Try.ntmps54
    go_wp2
    go_ret
    have F := FIN.out off (.inr H0.out)
    rw [show c - n = 0 by omega] at F
    exact ⟨b, off, rfl, hb, F.2, F.1, (Chg.refl _ _).setCell _ _ (by simp)⟩
  · go_enter Try.func54, Try.ntmps54
    go_wp2
    go_ret
    exact ⟨b, off, rfl, hb, (FIN.out _ (.inl rfl)).2, (FIN.out _ (.inl rfl)).1, (Chg.refl _ _).setCell _ _ (by simp)⟩
end Go.Proofs.Ytajnhmkkgngbhaa
