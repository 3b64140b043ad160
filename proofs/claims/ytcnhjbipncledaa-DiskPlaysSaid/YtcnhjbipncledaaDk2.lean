/- The disk's keep, walked: a block is made safe. -/
import Derived.Test.YtcnhjbipncledaaDk
namespace Go.Proofs.Ytcnhjbipncledaa
open Go.RowKit

theorem infoBlk : (Try.prog.info? 92).map (fun i => (i.zero, i.size)) = some (some (blkV (zeros 128)), 128) := by kernel_rfl
theorem zeroBlk (w : World) : (zeroValue 92).run Try.prog w = .ok (blkV (zeros 128)) w := (zero_of_info infoBlk).1 w
theorem sizeBlk : (Try.prog.info? 92).map (·.size) = some 128 := (zero_of_info infoBlk).2
theorem under_blk : Try.prog.underlying 92 = some (.array 128 5) := by kernel_rfl
theorem eql_blk (a b : List B8) (ha : a.length = 128) (hb : b.length = 128) (w : World) : (binOp .eql 92 (blkV a) (blkV b)).run Try.prog w = .ok (.bool (decide (a = b))) w := by
  obtain ⟨i, hi, _, hs, _⟩ := info_parts info8
  exact run_eql_blk (P := Try.prog) (w := w) 92 5 128 .u8 i under_blk (by kernel_rfl) hi hs a b ha hb
theorem build_blk (w : World) : (Instr.build 92 #[]).run Try.prog w = .ok (blkV (zeros 128)) w := by
  obtain ⟨i, hi, _, _, _⟩ := info_parts info8
  simp only [Instr.build, Sem.run_bind, zeroBlk, Result.andThen_ok, run_underlying under_blk, run_sizeOf w hi]
  simp [Instr.fill, blkV, Value.cells]
theorem load_blk (W : World) (B o : Nat) (b : List B8) (hb : b.length = 128) (h : W.rangeAt B o (b.map byteV)) : (Instr.loadAt 92 (.pointer (some ⟨B, o, none⟩))).run Try.prog W = .ok (blkV b) W :=
  run_loadAt_mid (P := Try.prog) W B o 92 (b.map byteV) _ h under_blk rfl (by rw [sizeBlk, List.length_map, hb])
def Dk.put (s : Dk) (k : Int) (b : List B8) : Dk := { s with blk := fun j => if j = k then b else s.blk j }
theorem DiskAt.maps {w w' : World} {D M : Nat} {u : Value} {s : Dk} (h : DiskAt w D M u s) {f : Int → Option Value} (hf : IMap w' M f) (hc : Chg [M] w w') {k : Int} {b : List B8} (hb : b.length = 128) (hv : ∀ j, (f j).getD (blkV (zeros 128)) = blkV (if j = k then b else s.blk j)) : DiskAt w' D M u (s.put k b) := by
  obtain ⟨n1, n2⟩ := h.ne
  have lt := h.lt
  have c := fun k => hc.cell D k lt.1 (by simpa using n1.symm)
  have fz := fun k => hc.frozen D k lt.1 (by simpa using n1.symm)
  exact ⟨(c 0).trans h.c0, (c 1).trans h.c1, (c 2).trans h.c2, (c 3).trans h.c3, (c 4).trans h.c4, (c 5).trans h.c5, fun k hk => (fz k).trans (h.fz k hk), ⟨f, hf, hv⟩, row_keep0 h.row (fun k hk => hc.block k (lt.2.2 k hk) (by simpa using n2 k hk)), h.rowD, ⟨h.ok.pos, fun j => by unfold Dk.put; simp only; split; exact hb; exact h.ok.blk j, h.ok.under, h.ok.left⟩⟩
theorem zc_blk : Try.zeroCells92 = ((zeros 128).map byteV).toArray := by kernel_rfl
/-- A load of a whole array, as an operation. -/
theorem exec_load_blk {o : Oper} {a : Act} {W : World} (x : Operand) (ho : o.op = .load 92 x) (B off : Nat) (hx : a.eval x = .pointer (some ⟨B, off, none⟩)) (b : List B8) (hb : b.length = 128) (h : W.rangeAt B off (b.map byteV)) :
    (execOp a.eval o).run Try.prog W = .ok (.value (blkV b)) W := by
  unfold execOp
  simp only [ho, hx, Sem.run_bind, load_blk W B off b hb h, Result.andThen_ok, Sem.run_pure]
theorem wpl_load_blk {ops : Array Oper} {rest : List Oper} {o : Oper} {a : Act} {w : World} {Q : Exit → Act → World → Prop} (hgd : o.guard = none) (x : Operand) (ho : o.op = .load 92 x) (B off : Nat) (hx : a.eval x = .pointer (some ⟨B, off, none⟩)) (b : List B8) (hb : b.length = 128) (h : w.rangeAt B off (b.map byteV))
    (hk : wpList Try.prog ops Q rest (a.put o.dst (blkV b)) w) : wpList Try.prog ops Q (o :: rest) a w :=
  wpList_load_mid hgd 92 x ho B off hx (b.map byteV) _ h under_blk rfl (by rw [sizeBlk, List.length_map, hb]) hk
theorem range_new (w : World) (cs : List Value) (t : TypeId) : (w.alloc (.cells cs.toArray t)).rangeAt w.heap.size 0 cs := fun j v hv => by
  rw [Nat.zero_add, cell_of_row _ _ j cs.toArray t (0, 0) (heap_alloc_last w _)]
  simpa using hv
theorem rangeAt_of_heap {w w' : World} {B o : Nat} {cs : List Value} (h : w.rangeAt B o cs) (hk : w'.heap[B]? = w.heap[B]?) : w'.rangeAt B o cs := fun j v hv => (World.cell?_of_block (a := ⟨B, o + j, none⟩) hk).trans (h j v hv)
theorem wpl_drop {ops : Array Oper} {rest : List Oper} {o : Oper} {a : Act} {w : World} {Q : Exit → Act → World → Prop} (hgd : o.guard = none) (x y : Operand) (ho : o.op = .call { callee := .builtin .delete, args := #[x, y], argTypes := #[55, 3] }) {M : Nat} {k : Int} (hx : a.eval x = .map (some M)) (hy : a.eval y = .int .i64 k) {f : Int → Option Value} (h : IMap w M f)
    (hk : ∀ w', Chg [M] w w' → IMap w' M (fun j => if j = k then none else f j) → wpList Try.prog ops Q rest (a.put o.dst (.tuple #[])) w') : wpList Try.prog ops Q (o :: rest) a w := by
  obtain ⟨w', hrun, hc, hm⟩ := run_drop (P := Try.prog) (w := w) 55 3 92 o.type #[55, 3] rfl (by kernel_rfl) (by kernel_rfl) h k
  refine wpList_plain hgd fun K hK => ?_
  unfold Oper.wp execOp
  simp only [ho, resolve, invoke, builtin, Sem.run_bind, Sem.run_pure, Result.andThen_ok, List.map_toArray, List.map_cons, List.map_nil, hx, hy, hrun]
  exact hK _ _ (hk w' hc hm)
theorem exec_put {o : Oper} {a : Act} {w : World} (x y z : Operand) (ho : o.op = .mapUpdate 55 x y z) {M : Nat} {k : Int} {v : Value} (hx : a.eval x = .map (some M)) (hy : a.eval y = .int .i64 k) (hz : a.eval z = v) {f : Int → Option Value} (h : IMap w M f) :
    ∃ w', (execOp a.eval o).run Try.prog w = .ok .skip w' ∧ Chg [M] w w' ∧ IMap w' M (fun j => if j = k then some v else f j) := by
  obtain ⟨w', hrun, hc, hm⟩ := run_put (P := Try.prog) (w := w) 55 3 92 (by kernel_rfl) (by kernel_rfl) h k v
  refine ⟨w', ?_, hc, hm⟩
  unfold execOp
  simp only [ho, hx, hy, hz, Sem.run_bind, hrun, Result.andThen_ok, Sem.run_pure]
theorem opDo_put {ops : Array Oper} {A : Act} {R : World → World → Prop} {o : Oper} {w : World} (x y z : Operand) (hd : o.dst = none) (hw : Region.wanted o (yielded ops A.tmps) = true) (ho : o.op = .mapUpdate 55 x y z) {M : Nat} {k : Int} {v : Value} (hx : A.eval x = .map (some M)) (hy : A.eval y = .int .i64 k) (hz : A.eval z = v) {f : Int → Option Value} (h : IMap w M f)
    (hR : ∀ w', Chg [M] w w' → IMap w' M (fun j => if j = k then some v else f j) → R w w') : OpDo Try.prog ops A R o w := by
  obtain ⟨w', hrun, hc, hm⟩ := exec_put x y z ho hx hy hz h
  exact opDo_skip hd hw hrun (hR w' hc hm)
/-- The map's block alone turns; what stands elsewhere in the map stays; once it is v at k it stays so. -/
def Turns (M : Nat) (k : Int) (f : Int → Option Value) (v : Value) (a c : World) : Prop :=
  Chg [M] a c ∧ ∀ f', (IMap a M f' ∧ ∀ j, j ≠ k → f' j = f j) → ∃ f2, IMap c M f2 ∧ (∀ j, j ≠ k → f2 j = f j) ∧ (f' k = some v → f2 k = some v)
theorem Turns.refl (M : Nat) (k : Int) (f : Int → Option Value) (v : Value) (a : World) : Turns M k f v a a := ⟨Chg.refl _ _, fun f' h => ⟨f', h.1, h.2, id⟩⟩
theorem Turns.trans {M : Nat} {k : Int} {f : Int → Option Value} {v : Value} {a b c : World} (h : Turns M k f v a b) (h' : Turns M k f v b c) : Turns M k f v a c :=
  ⟨h.1.trans h'.1, fun f' hf => by
    obtain ⟨f2, g1, g2, g3⟩ := h.2 f' hf
    obtain ⟨f3, e1, e2, e3⟩ := h'.2 f2 ⟨g1, g2⟩
    exact ⟨f3, e1, e2, fun x => e3 (g3 x)⟩⟩
theorem Turns.same {M : Nat} {k : Int} {f : Int → Option Value} {v : Value} {a b : World} (h1 : b.os = a.os) (h2 : b.tape = a.tape) (h3 : b.output = a.output) (h4 : b.heap = a.heap) : Turns M k f v a b :=
  ⟨⟨h1, h2, h3, by rw [h4]; exact Nat.le_refl _, fun _ _ _ => by rw [h4]⟩, fun f' h => ⟨f', h.1.keep (by rw [h4]), h.2, id⟩⟩
theorem Turns.put {M : Nat} {k : Int} {f : Int → Option Value} {v : Value} {a b : World} {f0 : Int → Option Value} (hs : ∀ j, j ≠ k → f0 j = f j) (hc : Chg [M] a b) (hm : IMap b M (fun j => if j = k then some v else f0 j)) : Turns M k f v a b :=
  ⟨hc, fun f' _ => ⟨_, hm, fun j hj => by rw [if_neg hj]; exact hs j hj, fun _ => by rw [if_pos rfl]⟩⟩
set_option maxRecDepth 10000 in
set_option maxHeartbeats 1000000 in
theorem keep_any (w : World) (D M : Nat) (u : Value) (s : Dk) (h : DiskAt w D M u s) (k : Int) (b : List B8) (hb : b.length = 128) : Calls Try.prog 42 #[.pointer (some ⟨D, 0, none⟩), .int .i64 k, blkV b] w fun e w' => e = .returned (.tuple #[]) ∧ DiskAt w' D M u (s.put k b) ∧ Chg [M] w w' := by
  have HD := Lib.hid h
  have c1 := h.c1
  obtain ⟨f, hf, hv⟩ := h.map
  have HF := Lib.hid hf
  have HV := Lib.hid hv
  have HB := Lib.hid hb
  clear h hf hv hb
  obtain ⟨cs, hcs⟩ : ∃ cs, cs = (b.map byteV).toArray := ⟨_, rfl⟩
  obtain ⟨w1, hw1⟩ : ∃ w1, w1 = w.alloc (.cells cs 92) := ⟨_, rfl⟩
  have HR1 : Hid (w1.rangeAt w.heap.size 0 (b.map byteV)) := by unfold Hid; rw [hw1, hcs]; exact range_new w _ _
  have HC1 : Hid (Chg [] w w1) := by unfold Hid; rw [hw1]; exact (Chg.refl _ _).alloc _
  have hlw := cell_lt c1
  have hMD : D ≠ M := fun e => HD.out.ne.1 e.symm
  have HLT : Hid (w.heap.size < w1.heap.size) := by unfold Hid; rw [hw1]; simp
  have HMW : Hid (w.heap.size ≠ M) := by have := HF.out.lt; unfold Hid; omega
  have c1' : w1.cell? ⟨D, 1, none⟩ = some (.map (some M)) := (HC1.out.cell _ _ hlw (by simp)).trans c1
  have HF1 : Hid (IMap w1 M f) := HF.out.chg HC1.out (by simp)
  have heq : ∀ w, (binOp .eql 92 (.agg cs) (.agg Try.zeroCells92)).run Try.prog w = .ok (.bool (decide (b = zeros 128))) w := fun w => by rw [hcs, zc_blk]; exact eql_blk b _ HB.out (by simp [zeros]) w
  have hbv : blkV b = .agg cs := by rw [hcs]; rfl
  have HBV := Lib.hid hbv
  rw [hbv]
  clear hbv hcs
  by_cases h0 : b = zeros 128
  · rw [decide_eq_true h0] at heq
    have H0 := Lib.hid h0
    clear h0
    go_enter Try.func42, Try.ntmps42
    go_wp2_with (first | (at_delete; rw [← hw1]; refine wpl_drop rfl (.tmp 12) (.tmp 13) rfl rfl rfl HF1.out ?_; intro w2 hc2 hm2) | (rw [← hw1]; refine wpl_load_blk rfl (.tmp 5) rfl w.heap.size 0 rfl b HB.out HR1.out ?_; rw [HBV.out]))
    refine bodyPost_ret (results_none rfl _ _ _) rfl ?_
    refine ⟨rfl, HD.out.maps hm2 (HC1.out.mono (by simp) |>.trans hc2) HB.out fun j => ?_, HC1.out.mono (by simp) |>.trans hc2⟩
    by_cases hj : j = k
    · subst hj
      rw [if_pos rfl, if_pos rfl, H0.out]; rfl
    · rw [if_neg hj, if_neg hj]; exact HV.out j
  · rw [decide_eq_false h0] at heq
    have H0 := Lib.hid h0
    clear h0
    go_enter Try.func42, Try.ntmps42
    go_wp2_with (rw [← hw1]; refine wpl_load_blk rfl (.tmp 5) rfl w.heap.size 0 rfl b HB.out HR1.out ?_; rw [HBV.out])
    rw [← hw1]
    refine wp_region_listM (by kernel_rfl) (by kernel_rfl) [.pointer (some ⟨D, 0, none⟩), .pointer (some ⟨D, 0, none⟩), .pointer (some ⟨D, 1, none⟩), .map (some M), .int .i64 k, .agg cs, undef] (by (simp [putAll, Act.put]; rfl)) (Turns M k f (.agg cs)) (fun j w => j = 6 → ∃ f', IMap w M f' ∧ (∀ i, i ≠ k → f' i = f i) ∧ f' k = some (.agg cs)) (fun h h' => h.trans h') ((Turns.refl M k f (.agg cs) w1).trans (Turns.same rfl rfl rfl rfl)) (fun j w w' _ h hr hj => by
      obtain ⟨f', h1, h2, h3⟩ := h hj
      obtain ⟨f2, g1, g2, g3⟩ := hr.2 f' ⟨h1, h2⟩
      exact ⟨f2, g1, g2, g3 h3⟩) ?vops ?vrest
    case vops =>
      intro W hR
      have hcW := hR.1
      have q1 : W.cell? ⟨D, 1, none⟩ = some (.map (some M)) := (hcW.cell _ _ (cell_lt c1') (by simpa using hMD)).trans c1'
      have hrW : W.rangeAt w.heap.size 0 (b.map byteV) := rangeAt_of_heap HR1.out (hcW.block _ HLT.out (by simpa using HMW.out))
      obtain ⟨f', hf', hs', _⟩ := hR.2 f ⟨HF.out.chg HC1.out (by simp), fun _ _ => rfl⟩
      refine ⟨?_, ?_, ?_, ?_, ?_, ?_, ?_, trivial⟩
      iterate 5 (refine opDo_value rfl rfl (w' := W) ?_ ⟨Turns.refl _ _ _ _ _, fun h => by cases h⟩; go_simp)
      · refine opDo_value rfl rfl (w' := W) ?_ ⟨Turns.refl _ _ _ _ _, fun h => by cases h⟩
        refine (exec_load_blk (.tmp 5) rfl w.heap.size 0 rfl b HB.out hrW).trans ?_
        rw [HBV.out]
        rfl
      · refine opDo_put (.tmp 17) (.tmp 18) (.tmp 19) rfl rfl rfl rfl rfl rfl hf' ?_
        intro W2 hc2 hm2
        exact ⟨Turns.put hs' hc2 hm2, fun _ => ⟨_, hm2, fun i hi => by rw [if_neg hi]; exact hs' i hi, by rw [if_pos rfl]; rfl⟩⟩
    case vrest =>
      intro W hR hΨ
      obtain ⟨f', hf', hs', hk'⟩ := hΨ 6 (by decide) rfl
      go_end0
      refine ⟨rfl, HD.out.maps hf' (HC1.out.mono (by simp) |>.trans hR.1) HB.out fun j => ?_, HC1.out.mono (by simp) |>.trans hR.1⟩
      by_cases hj : j = k
      · subst hj
        rw [hk', if_pos rfl, HBV.out]; rfl
      · rw [hs' j hj, if_neg hj]; exact HV.out j
end Go.Proofs.Ytcnhjbipncledaa
