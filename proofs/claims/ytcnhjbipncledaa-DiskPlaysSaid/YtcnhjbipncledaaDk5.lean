/- The disk's New, Safe and Read, walked. -/
import Derived.Test.YtcnhjbipncledaaDk4
namespace Go.Proofs.Ytcnhjbipncledaa
open Go.RowKit

def Dk.fresh (n : Int) : Dk := { blocks := n, blk := fun _ => zeros 128, under := [], armed := false, left := 0, down := false }
theorem new_any (w : World) (n : Int) (h1 : 1 ≤ n) (h2 : n ≤ 16384) : Calls Try.prog 13 #[.int .i64 n] w fun e w' => e = .returned (.tuple #[.pointer (some ⟨w.heap.size + 1, 0, none⟩), .int .i64 0]) ∧ DiskAt w' (w.heap.size + 1) w.heap.size (.slice none 0 0) (Dk.fresh n) ∧ Below w.heap.size w w' := by
  have g1 : ¬ n < 1 := by omega
  have g2 : ¬ (16384 : Int) < n := by omega
  have hmm := @run_makeMap Try.prog
  go_enter Try.func13, Try.ntmps13
  go_wp2
  refine bodyPost_ret (v := .tuple #[.pointer (some ⟨w.heap.size + 1, 0, none⟩), .int .i64 0]) (by simp [results, Try.results13, go_sem]) rfl ?_
  refine ⟨rfl, ?_, ((Below.refl _ _).alloc (Nat.le_refl _) _).alloc (by simp) _⟩
  have hM := IMap.new w
  have c := fun k (v : Value) (h : #[Value.int .i64 n, .map (some w.heap.size), .slice none 0 0, .bool false, .int .i64 0, .bool false][k]? = some v) => show ((w.alloc (.map #[] 0)).alloc (.cells #[.int .i64 n, .map (some w.heap.size), .slice none 0 0, .bool false, .int .i64 0, .bool false] 58)).cell? ⟨w.heap.size + 1, k, none⟩ = some v by
    have hh := heap_alloc_last (w.alloc (.map #[] 0)) (.cells #[.int .i64 n, .map (some w.heap.size), .slice none 0 0, .bool false, .int .i64 0, .bool false] 58)
    rw [show (w.alloc (.map #[] 0)).heap.size = w.heap.size + 1 by simp] at hh
    rw [cell_of_row _ _ k _ _ (0, 0) hh, h]
  refine ⟨c 0 _ rfl, c 1 _ rfl, c 2 _ rfl, c 3 _ rfl, c 4 _ rfl, c 5 _ rfl, fun k hk => ?_, ⟨_, hM.chg ((Chg.refl [] _).alloc _) (by simp), fun _ => rfl⟩, ⟨rfl, .inl ⟨rfl, rfl⟩⟩, (fun j hj => by cases hj), ⟨by show (0 : Int) < n; omega, fun _ => by simp [Dk.fresh, zeros], by simp [Dk.fresh], by simp [Dk.fresh]⟩⟩
  have hh := heap_alloc_last (w.alloc (.map #[] 0)) (.cells #[.int .i64 n, .map (some w.heap.size), .slice none 0 0, .bool false, .int .i64 0, .bool false] 58)
  rw [show (w.alloc (.map #[] 0)).heap.size = w.heap.size + 1 by simp] at hh
  unfold World.frozen?
  rw [hh]
  simp
/-- What stands in a disk's map at a number. -/
theorem DiskAt.look {w : World} {D M : Nat} {u : Value} {s : Dk} (h : DiskAt w D M u s) (k : Int) : (Instr.lookup 55 (.map (some M)) (.int .i64 k) false).run Try.prog w = .ok (blkV (s.blk k)) w := by
  obtain ⟨f, hf, hv⟩ := h.map
  rw [run_look (P := Try.prog) 55 3 92 (blkV (zeros 128)) (by kernel_rfl) (by kernel_rfl) zeroBlk hf k, hv k]
theorem wpl_look {ops : Array Oper} {rest : List Oper} {o : Oper} {a : Act} {w : World} {Q : Exit → Act → World → Prop} (hgd : o.guard = none) (x y : Operand) (ho : o.op = .lookup 55 x y false) {D M : Nat} {u : Value} {s : Dk} (h : DiskAt w D M u s) {k : Int} (hx : a.eval x = .map (some M)) (hy : a.eval y = .int .i64 k)
    (hk : wpList Try.prog ops Q rest (a.put o.dst (blkV (s.blk k))) w) : wpList Try.prog ops Q (o :: rest) a w := by
  refine wpList_plain hgd fun K hK => ?_
  unfold Oper.wp execOp
  simp only [ho, hx, hy, Sem.run_bind, h.look k, Result.andThen_ok, Sem.run_pure]
  exact hK _ _ hk
theorem size_zcb : Try.zeroCells92.size = 128 := by rw [zc_blk]; simp [zeros]
theorem one_blk (b : List B8) : (b.map byteV).toArray.all (·.oneCell') = true := all_oneCell_toArray one_byteV
theorem range_reads {w : World} {B : Nat} {b : List B8} (hb : b.length = 128) (h : w.rangeAt B 0 (b.map byteV)) (hl : B < w.heap.size) : Reads w (.slice (some ⟨B, 0, none⟩) 128 128) (b.map byteV) :=
  ⟨_, _, _, rfl, by simp [hb], Nat.le_refl _, by decide, .inr ⟨B, 0, rfl, hl, fun i hi => by
    have := h i _ (List.getElem?_eq_getElem hi)
    rw [Nat.zero_add] at this ⊢
    exact this⟩⟩
def Dk.safe (s : Dk) (i : Int) : List B8 × Int := if i < 0 ∨ s.blocks ≤ i then ([], 151) else (s.blk i, 0)
set_option maxRecDepth 10000 in
set_option maxHeartbeats 2000000 in
theorem safe_any (w : World) (D M : Nat) (u : Value) (s : Dk) (h : DiskAt w D M u s) (i : Int) : Calls Try.prog 23 #[.pointer (some ⟨D, 0, none⟩), .int .i64 i] w fun e w' => ∃ v, e = .returned (.tuple #[v, .int .i64 (s.safe i).2]) ∧ Own w' w.heap.size 5 v ((s.safe i).1.map byteV) ∧ Below w.heap.size w w' := by
  have HD := Lib.hid h
  have HI := Lib.hid (is_any w D M u s h)
  have c0 := h.c0
  have c1 := h.c1
  have HL := Lib.hid (h.ok.blk i)
  clear h
  unfold Dk.safe
  by_cases hi : i < 0 ∨ s.blocks ≤ i
  · rw [if_pos hi]
    by_cases h0 : i < 0
    · clear hi
      go_enter Try.func23, Try.ntmps23
      go_wp2_with (go_at_call 39; refine HI.out.mono ?_; rintro e w1 ⟨rfl, rfl⟩)
      refine bodyPost_ret (v := .tuple #[.slice none 0 0, .int .i64 151]) (by simp [results, Try.results23, go_sem]) rfl ?_
      exact ⟨_, rfl, Own.nil_ (Nat.le_refl _), Below.refl _ _⟩
    · have h1 : s.blocks ≤ i := by omega
      clear hi
      go_enter Try.func23, Try.ntmps23
      go_wp2_with (go_at_call 39; refine HI.out.mono ?_; rintro e w1 ⟨rfl, rfl⟩)
      refine bodyPost_ret (v := .tuple #[.slice none 0 0, .int .i64 151]) (by simp [results, Try.results23, go_sem]) rfl ?_
      exact ⟨_, rfl, Own.nil_ (Nat.le_refl _), Below.refl _ _⟩
  · rw [if_neg hi]
    have h0 : ¬ i < 0 := by omega
    have h1 : ¬ s.blocks ≤ i := by omega
    clear hi
    obtain ⟨b, hb⟩ : ∃ b, b = s.blk i := ⟨_, rfl⟩
    rw [← hb] at HL
    have HB := Lib.hid hb
    obtain ⟨cs, hcs⟩ : ∃ cs, cs = (b.map byteV).toArray := ⟨_, rfl⟩
    have HCS : Hid (blkV b = .agg cs) := by unfold Hid; rw [hcs]; rfl
    have HSZ : Hid (cs.size = 128 ∧ cs.all (·.oneCell') = true) := by unfold Hid; rw [hcs]; exact ⟨by simp [HL.out], one_blk b⟩
    have HR : Hid ((w.alloc (.cells cs 92)).rangeAt w.heap.size 0 (b.map byteV)) := by unfold Hid; rw [hcs]; exact range_new w _ _
    rw [← hb]
    clear hb hcs
    go_enter Try.func23, Try.ntmps23
    go_wp2_with (first
      | (go_at_call 39; refine HI.out.mono ?_; rintro e w1 ⟨rfl, rfl⟩; clear HI)
      | (refine wpl_look rfl (.tmp 25) (.tmp 26) rfl HD.out rfl rfl ?_; rw [← HB.out, HCS.out])
      | (refine wpl_store_last rfl 92 128 (.tmp 6) (.tmp 27) rfl _ _ rfl rfl sizeBlk size_zcb HSZ.out.1 HSZ.out.2 ?_)
      | (at_builtin; refine wpl_append rfl (.tmp 28) (.tmp 29) 30 rfl elemU8 rfl (Own.empty_ (base := w1.heap.size) (by simp) (Nat.le_succ _)) rfl ((range_reads HL.out HR.out (by simp)).alloc _) one_byteV (by rw [List.length_map, HL.out]; decide) (by rw [List.length_map, HL.out]; decide) ?_; intro v' w5 hown5 hg5 _; rw [List.nil_append] at hown5; have HO5 := Lib.hid hown5; have HB5 : Hid (Below w1.heap.size w1 w5) := below_grown (((Below.refl _ w1).alloc (Nat.le_refl _) _).alloc (by simp) _) (Own.empty_ (base := w1.heap.size) (by simp) (Nat.le_succ _)) hg5 (Nat.le_refl _); clear hown5 hg5))
    refine bodyPost_ret (v := .tuple #[v', .int .i64 0]) (by simp [results, Try.results23, go_sem]) rfl ?_
    exact ⟨v', rfl, HO5.out, HB5.out⟩
end Go.Proofs.Ytcnhjbipncledaa
