/- What a write comes to by a fate: the disk's end, walked. -/
import Derived.Test.YtcnhjbipncledaaDk6
namespace Go.Proofs.Ytcnhjbipncledaa
open Go.RowKit

def fateN (n : Int) : Nat := if n < 0 then 0 else if 128 < n then 128 else n.toNat
def torn (b old : List B8) (m : Nat) : List B8 := b.take m ++ old.drop m
theorem torn_length (b old : List B8) (m : Nat) (hb : b.length = 128) (ho : old.length = 128) : (torn b old m).length = 128 := by simp [torn, hb, ho]; omega
def Dk.ends (s : Dk) (x : Int × List B8) (kind n : Int) : List B8 × Bool :=
  if kind = 1 then (x.2, true) else if kind = 2 then (torn x.2 (s.blk x.1) (fateN n), true) else (zeros 128, false)
theorem Dk.ends_length (s : Dk) (hs : s.Ok) (x : Int × List B8) (hx : x.2.length = 128) (kind n : Int) : (s.ends x kind n).1.length = 128 := by
  unfold Dk.ends
  split
  · exact hx
  · split
    · exact torn_length _ _ _ hx (hs.blk _)
    · simp [zeros]
/-- The results of end, read off. -/
theorem end_results {tmps : Array Value} {w : World} {B : Nat} {r : List B8} {ok : Bool} (h6 : tmps.getD 6 undef = .pointer (some ⟨B, 0, none⟩)) (h7 : tmps.getD 7 undef = .bool ok) (hr : r.length = 128) (hw : w.rangeAt B 0 (r.map byteV)) :
    (results Try.f43 tmps).run Try.prog w = .ok (.tuple #[blkV r, .bool ok]) w := by
  have hld := run_loadVar_mid (P := Try.prog) w B 0 92 (r.map byteV) _ hw under_blk rfl (by rw [sizeBlk, List.length_map, hr])
  rw [show (.agg (r.map byteV).toArray : Value) = blkV r from rfl] at hld
  rw [Array.getD_eq_getD_getElem?] at h6 h7
  simp [results, Try.results43, h6, h7, asAddr, hld, Result.andThen]
theorem exec_alloc_blk {o : Oper} {a : Act} (ho : o.op = .alloc 92) {W W1 : World} {k : Nat} (h : W1 = W.alloc (.cells Try.zeroCells92 92) ∧ W.heap.size = k) : (execOp a.eval o).run Try.prog W = .ok (.value (.pointer (some ⟨k, 0, none⟩))) W1 := by
  obtain ⟨h1, rfl⟩ := h
  subst h1
  unfold execOp
  simp only [ho]
  go_simp
theorem exec_store_last {o : Oper} {a : Act} (t : TypeId) (n : Nat) (x y : Operand) (ho : o.op = .store t x y) {W W1 W2 : World} {k : Nat} (c c' : Array Value) (hx : a.eval x = .pointer (some ⟨k, 0, none⟩)) (hy : a.eval y = .agg c') (hi : (Try.prog.info? t).map (·.size) = some n) (hc : c.size = n) (hc' : c'.size = n) (h1 : c'.all (·.oneCell') = true)
    (h : W1 = W.alloc (.cells c t) ∧ W2 = W.alloc (.cells c' t) ∧ W.heap.size = k) : (execOp a.eval o).run Try.prog W1 = .ok .skip W2 := by
  obtain ⟨e1, e2, rfl⟩ := h
  subst e1 e2
  have hrun := run_storeAt_new (P := Try.prog) W t c c' (by rw [hi, hc']) (by omega) h1
  unfold execOp
  simp only [ho, hx, hy, Sem.run_bind, hrun, Result.andThen_ok, Sem.run_pure]
theorem exec_look {o : Oper} {a : Act} {w : World} (x y : Operand) (ho : o.op = .lookup 55 x y false) {D M : Nat} {u : Value} {s : Dk} (h : DiskAt w D M u s) {k : Int} {b : List B8} (hx : a.eval x = .map (some M)) (hy : a.eval y = .int .i64 k) (hb : b = s.blk k) : (execOp a.eval o).run Try.prog w = .ok (.value (blkV b)) w := by
  subst hb
  unfold execOp
  simp only [ho, hx, hy, Sem.run_bind, h.look k, Result.andThen_ok, Sem.run_pure]
theorem run_max (ts : Array TypeId) (ty : TypeId) (n m : Int) (w : World) : (Builtin.max_ ts ty #[.int .i64 n, .int .i64 m]).run Try.prog w = .ok (.int .i64 (if n < m then m else n)) w := by
  by_cases h : n < m
  · rw [if_pos h]; go_simp
  · rw [if_neg h]; go_simp
theorem run_min (ts : Array TypeId) (ty : TypeId) (n m : Int) (w : World) : (Builtin.min_ ts ty #[.int .i64 n, .int .i64 m]).run Try.prog w = .ok (.int .i64 (if m < n then m else n)) w := by
  by_cases h : m < n
  · rw [if_pos h]; go_simp
  · rw [if_neg h]; go_simp
theorem exec_max {o : Oper} {a : Act} {w : World} (x y : Operand) (ho : o.op = .call { callee := .builtin .max, args := #[x, y], argTypes := #[3, 3] }) {n m : Int} (hx : a.eval x = .int .i64 n) (hy : a.eval y = .int .i64 m) : (execOp a.eval o).run Try.prog w = .ok (.value (.int .i64 (if n < m then m else n))) w := by
  unfold execOp
  simp only [ho, resolve, invoke, builtin, Sem.run_bind, Sem.run_pure, Result.andThen_ok, List.map_toArray, List.map_cons, List.map_nil, hx, hy, run_max]
theorem exec_min {o : Oper} {a : Act} {w : World} (x y : Operand) (ho : o.op = .call { callee := .builtin .min, args := #[x, y], argTypes := #[3, 3] }) {n m : Int} (hx : a.eval x = .int .i64 n) (hy : a.eval y = .int .i64 m) : (execOp a.eval o).run Try.prog w = .ok (.value (.int .i64 (if m < n then m else n))) w := by
  unfold execOp
  simp only [ho, resolve, invoke, builtin, Sem.run_bind, Sem.run_pure, Result.andThen_ok, List.map_toArray, List.map_cons, List.map_nil, hx, hy, run_min]
theorem exec_copy {o : Oper} {a : Act} {w w' : World} (d s : Operand) (dT sT : TypeId) (ho : o.op = .call { callee := .builtin .copy, args := #[d, s], argTypes := #[dT, sT] }) {dv sv v : Value} (hd : a.eval d = dv) (hs : a.eval s = sv) (hrun : (Builtin.copy_ #[dT, sT] o.type #[dv, sv]).run Try.prog w = .ok v w') : (execOp a.eval o).run Try.prog w = .ok (.value v) w' := by
  unfold execOp
  simp only [ho, resolve, invoke, builtin, Sem.run_bind, Sem.run_pure, Result.andThen_ok, List.map_toArray, List.map_cons, List.map_nil, hd, hs, hrun]
theorem fateN_eq (n : Int) : ((fateN n : Nat) : Int) = if 128 < (if n < 0 then 0 else n) then 128 else (if n < 0 then 0 else n) := by
  unfold fateN
  split <;> split <;> simp <;> omega
set_option maxRecDepth 10000 in
set_option maxHeartbeats 2000000 in
theorem end_any (w : World) (D M : Nat) (u : Value) (s : Dk) (h : DiskAt w D M u s) (x : Int × List B8) (hx : x.2.length = 128) (kind n : Int) : Calls Try.prog 43 #[.pointer (some ⟨D, 0, none⟩), .agg (wrC x).toArray, .agg #[.int .i64 kind, .int .i64 n]] w fun e w' => e = .returned (.tuple #[blkV (s.ends x kind n).1, .bool (s.ends x kind n).2]) ∧ Below w.heap.size w w' := by
  have HD := Lib.hid h
  have HXL := Lib.hid hx
  clear h hx
  obtain ⟨xc, hxc⟩ : ∃ xc, xc = (wrC x).toArray := ⟨_, rfl⟩
  rw [← hxc]
  have HXC := Lib.hid hxc
  obtain ⟨zc, hzc⟩ : ∃ zc, zc = Try.zeroCells92 := ⟨_, rfl⟩
  obtain ⟨w3, hw3⟩ : ∃ w3, w3 = ((w.alloc (.cells xc 94)).alloc (.cells #[.int .i64 kind, .int .i64 n] 90)).alloc (.cells Try.zeroCells92 92) := ⟨_, rfl⟩
  have HW3 := Lib.hid hw3
  have hb3 : Below w.heap.size w w3 := by rw [hw3]; exact (((Below.refl _ _).alloc (Nat.le_refl _) _).alloc (by simp) _).alloc (by simp; omega) _
  have HB3 := Lib.hid hb3
  have HS3 : Hid (w3.heap.size = w.heap.size + 3) := by unfold Hid; rw [hw3]; simp
  have h4 : w3.heap[w.heap.size]? = some (.cells xc 94 (0, 0)) := by
    rw [hw3]
    exact ((Below.heap_alloc _ _ _ (by simp; omega)).trans (Below.heap_alloc _ _ _ (by simp))).trans (heap_alloc_last _ _)
  have h5 : w3.heap[w.heap.size + 1]? = some (.cells #[.int .i64 kind, .int .i64 n] 90 (0, 0)) := by
    rw [hw3]
    have := heap_alloc_last (w.alloc (.cells xc 94)) (.cells #[.int .i64 kind, .int .i64 n] 90)
    rw [show (w.alloc (.cells xc 94)).heap.size = w.heap.size + 1 by simp] at this
    exact (Below.heap_alloc _ _ _ (by simp)).trans this
  have h6 : w3.heap[w.heap.size + 1 + 1]? = some (.cells Try.zeroCells92 92 (0, 0)) := by
    rw [hw3]
    have := heap_alloc_last ((w.alloc (.cells xc 94)).alloc (.cells #[.int .i64 kind, .int .i64 n] 90)) (.cells Try.zeroCells92 92)
    rw [show ((w.alloc (.cells xc 94)).alloc (.cells #[.int .i64 kind, .int .i64 n] 90)).heap.size = w.heap.size + 1 + 1 by simp] at this
    exact this
  have H4 := Lib.hid h4
  have H5 := Lib.hid h5
  have H6 := Lib.hid h6
  have q5 : w3.cell? ⟨w.heap.size + 1, 0, none⟩ = some (.int .i64 kind) := by rw [cell_of_row w3 _ 0 _ _ (0, 0) h5]; rfl
  have q51 : w3.cell? ⟨w.heap.size + 1, 1, none⟩ = some (.int .i64 n) := by rw [cell_of_row w3 _ 1 _ _ (0, 0) h5]; rfl
  have q4 : w3.cell? ⟨w.heap.size, 0, none⟩ = some (.int .i64 x.1) := by rw [cell_of_row w3 _ 0 _ _ (0, 0) h4, hxc]; rfl
  have HR4 : Hid (w3.rangeAt w.heap.size 1 (x.2.map byteV)) := fun j v hv => by
    rw [cell_of_row w3 _ (1 + j) _ _ (0, 0) h4, hxc]
    simpa [wrC, Nat.add_comm 1 j] using hv
  clear hxc hb3 h4 h5 h6 hzc
  unfold Dk.ends
  by_cases hk1 : kind = 1
  · rw [if_pos hk1]
    subst hk1
    go_enter Try.func43, Try.ntmps43
    go_wp2_with (first
      | (rw [← hw3]; refine wpl_load_blk rfl (.tmp 13) rfl w.heap.size 1 rfl x.2 HXL.out HR4.out ?_)
      | (refine wpl_store_row rfl 92 128 (.tmp 6) (.tmp 14) rfl (w.heap.size + 1 + 1) _ (x.2.map byteV).toArray rfl rfl H6.out sizeBlk size_zcb (by have := HXL.out; simp [this]) (one_blk x.2) ?_; intro w5 hb5 hc5; have HB5 := Lib.hid hb5; have HC5 := Lib.hid hc5; clear hb5 hc5))
    refine bodyPost_ret (end_results rfl rfl HXL.out (range_row HB5.out)) rfl ?_
    exact ⟨rfl, HB3.out.trans (HC5.out.below (by rw [HS3.out]; omega) (by simp; omega))⟩
  · rw [if_neg hk1]
    have hk1' : (kind == 1) = false := by rw [beq_eq_false_iff_ne]; exact hk1
    by_cases hk2 : kind = 2
    · rw [if_pos hk2]
      subst hk2
      clear hk1 hk1'
      have c1 := (HD.out.below HB3.out).c1
      obtain ⟨old, hold⟩ : ∃ old, old = s.blk x.1 := ⟨_, rfl⟩
      have HOLD := Lib.hid hold
      have HOL : Hid (old.length = 128) := by unfold Hid; rw [hold]; exact HD.out.ok.blk x.1
      rw [← hold]
      obtain ⟨m, hm⟩ : ∃ m, m = fateN n := ⟨_, rfl⟩
      rw [← hm]
      have HMM := Lib.hid hm
      clear hold hm
      go_enter Try.func43, Try.ntmps43
      go_wp2_with fail
      rw [← hw3]
      obtain ⟨Wc, hWc⟩ : ∃ Wc : Nat → World, Wc = fun c => match c with | 0 => w3.drew | 1 => w3.drew.alloc (.cells Try.zeroCells92 92) | _ => w3.drew.alloc (.cells (old.map byteV).toArray 92) := ⟨_, rfl⟩
      have e0 : Wc 0 = w3.drew := congrFun hWc 0
      have e1 : Wc 1 = w3.drew.alloc (.cells Try.zeroCells92 92) := congrFun hWc 1
      have e2 : Wc 2 = w3.drew.alloc (.cells (old.map byteV).toArray 92) := congrFun hWc 2
      have HE0 : Hid (Wc 0 = w3.drew) := e0
      have HE1 : Hid (Wc 1 = (Wc 0).alloc (.cells Try.zeroCells92 92) ∧ (Wc 0).heap.size = w3.heap.size) := by unfold Hid; rw [e0, e1]; exact ⟨rfl, rfl⟩
      have HE2 : Hid (Wc 1 = (Wc 0).alloc (.cells Try.zeroCells92 92) ∧ Wc 2 = (Wc 0).alloc (.cells (old.map byteV).toArray 92) ∧ (Wc 0).heap.size = w3.heap.size) := by unfold Hid; rw [e0, e1, e2]; exact ⟨rfl, rfl, rfl⟩
      have g1 : Chg [] w3 (Wc 1) := by rw [e1]; exact ((Chg.refl [] w3).drewN 1).alloc _
      have g2 : Chg [] w3 (Wc 2) := by rw [e2]; exact ((Chg.refl [] w3).drewN 1).alloc _
      have HDK : Hid (DiskAt w3 D M u s) := HD.out.below HB3.out
      have HDK0 : Hid (DiskAt (Wc 0) D M u s) := by unfold Hid; rw [e0]; exact HDK.out.keep (fun _ _ => rfl)
      have HDK1 : Hid (DiskAt (Wc 1) D M u s) := HDK.out.chg g1 (by simp)
      have HQ0 : Hid ((Wc 0).cell? ⟨D, 1, none⟩ = some (.map (some M))) := HDK0.out.c1
      have HQ1 : Hid ((Wc 1).cell? ⟨D, 1, none⟩ = some (.map (some M))) := HDK1.out.c1
      have HP0 : Hid ((Wc 0).cell? ⟨w.heap.size, 0, none⟩ = some (.int .i64 x.1)) := by unfold Hid; rw [e0]; exact q4
      have HP1 : Hid ((Wc 1).cell? ⟨w.heap.size, 0, none⟩ = some (.int .i64 x.1)) := (g1.cell _ 0 (cell_lt q4) (by simp)).trans q4
      -- the copy
      have hm := HMM.out
      have hm128 : m ≤ 128 := by rw [hm]; unfold fateN; split; omega; split <;> omega
      obtain ⟨mx, hmx⟩ : ∃ mx : Int, mx = if n < 0 then 0 else n := ⟨_, rfl⟩
      have HM : Hid ((m : Int) = if 128 < mx then 128 else mx) := by unfold Hid; rw [hm, hmx]; exact fateN_eq n
      have HMX := Lib.hid hmx
      clear hmx
      have HM0 : Hid ((0 : Int) ≤ (m : Int)) := by unfold Hid; omega
      have HM1 : Hid ((m : Int) ≤ 128) := by unfold Hid; omega
      have hx2 : (Wc 2).drew.heap[w3.heap.size]? = some (.cells (old.map byteV).toArray 92 (0, 0)) := by rw [e2]; exact heap_alloc_last w3.drew _
      have hsrc : (Wc 2).drew.rangeAt w.heap.size 1 (x.2.map byteV) := rangeAt_of_heap HR4.out (g2.block _ (by have := HS3.out; omega) (by simp))
      have hcl : ((x.2.map byteV).take m).length = m := by have := HXL.out; simp [this]; omega
      have hrun := run_copy_row (P := Try.prog) (Wc 2).drew 30 30 3 5 w3.heap.size 0 m 128 ⟨w.heap.size, 1, none⟩ 128 128 (old.map byteV).toArray 92 ((x.2.map byteV).take m) Try.underlying30 sizeU8 hx2 (by rw [hcl]; exact (Nat.min_eq_right hm128).symm) (fun j v hj => by
        rw [Addr.add_mid]
        rw [List.getElem?_take] at hj
        split at hj
        · exact hsrc j v hj
        · cases hj) (by rw [hcl]; have := HOL.out; simp [this]; omega) (fun v hv => one_byteV v (List.mem_of_mem_take hv))
      rw [hcl] at hrun
      obtain ⟨Wd, hWd⟩ : ∃ Wd : Nat → World, Wd = fun c => match c with | 0 => (Wc 2).drew | _ => (Wc 2).drew.setRow w3.heap.size (((old.map byteV).toArray.toList.take 0 ++ (x.2.map byteV).take m ++ (old.map byteV).toArray.toList.drop (0 + m)).toArray) := ⟨_, rfl⟩
      have d0 : Wd 0 = (Wc 2).drew := congrFun hWd 0
      have d1 : Wd 1 = (Wc 2).drew.setRow w3.heap.size (((old.map byteV).toArray.toList.take 0 ++ (x.2.map byteV).take m ++ (old.map byteV).toArray.toList.drop (0 + m)).toArray) := congrFun hWd 1
      have HD0 : Hid (Wd 0 = (Wc 2).drew) := d0
      have HRUN : Hid ((Builtin.copy_ #[30, 30] 3 #[.slice (some ⟨w3.heap.size, 0, none⟩) m 128, .slice (some ⟨w.heap.size, 1, none⟩) 128 128]).run Try.prog (Wd 0) = .ok (goInt m) (Wd 1)) := by unfold Hid; rw [d0, d1]; exact hrun
      have hg3 : Chg [w3.heap.size] (Wc 2).drew (Wd 1) := by rw [d1]; exact ⟨rfl, rfl, rfl, by simp [World.setRow], fun k hk hn => setRow_other _ _ k _ (fun e => hn (by simp [e]))⟩
      have hgd : Chg [w3.heap.size] w3 (Wd 1) := ((g2.drewN 1).mono (by simp)).trans hg3
      have HT0 : Hid ((Wd 0).cell? ⟨w.heap.size + 1, 1, none⟩ = some (.int .i64 n)) := by unfold Hid; rw [d0]; exact ((g2.drewN 1).cell _ 1 (cell_lt q51) (by simp)).trans q51
      have HT1 : Hid ((Wd 1).cell? ⟨w.heap.size + 1, 1, none⟩ = some (.int .i64 n)) := (hgd.cell _ 1 (cell_lt q51) (by have := HS3.out; simp; omega)).trans q51
      have HEND : Hid ((Wd 1).heap[w3.heap.size]? = some (.cells ((torn x.2 old m).map byteV).toArray 92 (0, 0))) := by
        unfold Hid
        rw [d1, setRow_heap _ _ _ _ 92 (0, 0) hx2]
        simp [torn, List.map_take, List.map_drop]
      have H6D : Hid ((Wd 1).heap[w.heap.size + 1 + 1]? = some (.cells Try.zeroCells92 92 (0, 0))) := (hgd.block _ (by have := HS3.out; omega) (by have := HS3.out; simp; omega)).trans H6.out
      have HGD := Lib.hid hgd
      have HTL : Hid ((torn x.2 old m).length = 128) := torn_length _ _ _ HXL.out HOL.out
      clear e0 e1 e2 g1 g2 hWc hWd d0 d1 hm hx2 hsrc hcl hrun hg3 hgd hm128 c1
      refine wp_region_chain (by kernel_rfl) (by kernel_rfl) [7, 8] (by kernel_rfl) Wc HE0.out [.pointer (some ⟨D, 0, none⟩), .pointer (some ⟨D, 0, none⟩), .pointer (some ⟨D, 1, none⟩), .map (some M), .pointer (some ⟨w.heap.size, 0, none⟩), .int .i64 x.1, blkV old, .pointer (some ⟨w3.heap.size, 0, none⟩), undef] (by (simp [putAll, Act.put]; rfl)) ?vops ?vrest
      case vops =>
        intro i' o ho
        match i', ho with
        | 0, ho =>
          injection ho with ho
          subst ho
          exact ⟨fun _ => opDo_value rfl rfl (w' := Wc 0) (by go_simp) rfl, fun _ => opDo_value rfl rfl (w' := Wc 1) (by go_simp) rfl, fun _ => opDo_value rfl rfl (w' := Wc 2) (by go_simp) rfl, trivial⟩
        | 1, ho =>
          injection ho with ho
          subst ho
          exact ⟨fun _ => opDo_value rfl rfl (w' := Wc 0) (by go_simp) rfl, fun _ => opDo_value rfl rfl (w' := Wc 1) (by go_simp) rfl, fun _ => opDo_value rfl rfl (w' := Wc 2) (by go_simp) rfl, trivial⟩
        | 2, ho =>
          injection ho with ho
          subst ho
          exact ⟨fun _ => opDo_value rfl rfl (w' := Wc 0) (by go_simp) rfl, fun _ => opDo_value rfl rfl (w' := Wc 1) (by go_simp) rfl, fun _ => opDo_value rfl rfl (w' := Wc 2) (by go_simp) rfl, trivial⟩
        | 3, ho =>
          injection ho with ho
          subst ho
          exact ⟨fun _ => opDo_value rfl rfl (w' := Wc 0) (by have q := HQ0.out; go_simp) rfl, fun _ => opDo_value rfl rfl (w' := Wc 1) (by have q := HQ1.out; go_simp) rfl, fun hl => absurd hl (Bool.eq_false_iff.1 (by kernel_rfl)), trivial⟩
        | 4, ho =>
          injection ho with ho
          subst ho
          exact ⟨fun _ => opDo_value rfl rfl (w' := Wc 0) (by go_simp) rfl, fun _ => opDo_value rfl rfl (w' := Wc 1) (by go_simp) rfl, fun _ => opDo_value rfl rfl (w' := Wc 2) (by go_simp) rfl, trivial⟩
        | 5, ho =>
          injection ho with ho
          subst ho
          exact ⟨fun _ => opDo_value rfl rfl (w' := Wc 0) (by have q := HP0.out; go_simp) rfl, fun _ => opDo_value rfl rfl (w' := Wc 1) (by have q := HP1.out; go_simp) rfl, fun hl => absurd hl (Bool.eq_false_iff.1 (by kernel_rfl)), trivial⟩
        | 6, ho =>
          injection ho with ho
          subst ho
          exact ⟨fun _ => opDo_value rfl rfl (w' := Wc 0) (exec_look (.tmp 20) (.tmp 22) rfl HDK0.out rfl rfl HOLD.out) rfl, fun _ => opDo_value rfl rfl (w' := Wc 1) (exec_look (.tmp 20) (.tmp 22) rfl HDK1.out rfl rfl HOLD.out) rfl, fun hl => absurd hl (Bool.eq_false_iff.1 (by kernel_rfl)), trivial⟩
        | 7, ho =>
          injection ho with ho
          subst ho
          exact ⟨fun _ => opDo_value rfl rfl (w' := Wc 1) (exec_alloc_blk rfl HE1.out) rfl, fun hl => absurd hl (Bool.eq_false_iff.1 (by kernel_rfl)), fun hl => absurd hl (Bool.eq_false_iff.1 (by kernel_rfl)), trivial⟩
        | 8, ho =>
          injection ho with ho
          subst ho
          exact ⟨fun hl => absurd hl (Bool.eq_false_iff.1 (by kernel_rfl)), fun _ => opDo_skip rfl rfl (w' := Wc 2) (exec_store_last 92 128 (.tmp 8) (.tmp 23) rfl _ _ rfl rfl sizeBlk size_zcb (by have := HOL.out; simp [this]) (one_blk old) HE2.out) rfl, fun hl => absurd hl (Bool.eq_false_iff.1 (by kernel_rfl)), trivial⟩
      case vrest =>
        clear HQ0 HQ1 HP0 HP1 HDK0 HDK1 HE1 HE2 HE0
        show Exit.then _ _ .normal _ (Wc 2)
        go_wp2_with fail
        refine wp_region_chain (by kernel_rfl) (by kernel_rfl) [7] (by kernel_rfl) Wd HD0.out [.pointer (some ⟨w.heap.size + 1, 1, none⟩), .int .i64 n, .int .i64 mx, .int .i64 m, .slice (some ⟨w3.heap.size, 0, none⟩) m 128, .pointer (some ⟨w.heap.size, 1, none⟩), .slice (some ⟨w.heap.size, 1, none⟩) 128 128, goInt m] (by (simp [putAll, Act.put]; rfl)) ?vops2 ?vrest2
        case vops2 =>
          intro i' o ho
          match i', ho with
          | 0, ho =>
            injection ho with ho
            subst ho
            exact ⟨fun _ => opDo_value rfl rfl (w' := Wd 0) (by go_simp) rfl, fun _ => opDo_value rfl rfl (w' := Wd 1) (by go_simp) rfl, trivial⟩
          | 1, ho =>
            injection ho with ho
            subst ho
            exact ⟨fun _ => opDo_value rfl rfl (w' := Wd 0) (by have q := HT0.out; go_simp) rfl, fun _ => opDo_value rfl rfl (w' := Wd 1) (by have q := HT1.out; go_simp) rfl, trivial⟩
          | 2, ho =>
            injection ho with ho
            subst ho
            exact ⟨fun _ => opDo_value rfl rfl (w' := Wd 0) (by rw [exec_max (.tmp 25) (.const (.int .i64 0)) rfl rfl rfl, ← HMX.out]; rfl) rfl, fun _ => opDo_value rfl rfl (w' := Wd 1) (by rw [exec_max (.tmp 25) (.const (.int .i64 0)) rfl rfl rfl, ← HMX.out]; rfl) rfl, trivial⟩
          | 3, ho =>
            injection ho with ho
            subst ho
            exact ⟨fun _ => opDo_value rfl rfl (w' := Wd 0) (by rw [exec_min (.tmp 26) (.const (.int .i64 128)) rfl rfl rfl, ← HM.out]; rfl) rfl, fun _ => opDo_value rfl rfl (w' := Wd 1) (by rw [exec_min (.tmp 26) (.const (.int .i64 128)) rfl rfl rfl, ← HM.out]; rfl) rfl, trivial⟩
          | 4, ho =>
            injection ho with ho
            subst ho
            exact ⟨fun _ => opDo_value rfl rfl (w' := Wd 0) (by have h0 := HM0.out; have h1 := HM1.out; go_simp) rfl, fun hl => absurd hl (Bool.eq_false_iff.1 (by kernel_rfl)), trivial⟩
          | 5, ho =>
            injection ho with ho
            subst ho
            exact ⟨fun _ => opDo_value rfl rfl (w' := Wd 0) (by go_simp) rfl, fun _ => opDo_value rfl rfl (w' := Wd 1) (by go_simp) rfl, trivial⟩
          | 6, ho =>
            injection ho with ho
            subst ho
            exact ⟨fun _ => opDo_value rfl rfl (w' := Wd 0) (by have h0 := HM0.out; have h1 := HM1.out; go_simp) rfl, fun hl => absurd hl (Bool.eq_false_iff.1 (by kernel_rfl)), trivial⟩
          | 7, ho =>
            injection ho with ho
            subst ho
            exact ⟨fun _ => opDo_value rfl rfl (w' := Wd 1) (exec_copy (.tmp 28) (.tmp 30) 30 30 rfl rfl rfl HRUN.out) rfl, fun hl => absurd hl (Bool.eq_false_iff.1 (by kernel_rfl)), trivial⟩
        case vrest2 =>
          obtain ⟨W5, hW5⟩ : ∃ W5, W5 = Wd 1 := ⟨_, rfl⟩
          show Exit.then _ _ .normal _ (Wd 1)
          rw [← hW5] at HEND H6D HGD ⊢
          clear HT0 HT1 HRUN HD0 HM HM0 HM1 HMM HMX hW5
          obtain ⟨r, hr⟩ : ∃ r, r = torn x.2 old m := ⟨_, rfl⟩
          rw [← hr] at HEND HTL
          have HR := Lib.hid hr
          clear hr
          go_wp2_with (first
            | (refine wpl_load_blk rfl (.tmp 8) rfl w3.heap.size 0 rfl r HTL.out (range_row HEND.out) ?_)
            | (refine wpl_store_row rfl 92 128 (.tmp 6) (.tmp 32) rfl (w.heap.size + 1 + 1) _ (r.map byteV).toArray rfl rfl H6D.out sizeBlk size_zcb (by have := HTL.out; simp [this]) (one_blk r) ?_; intro w6 hb6 hc6; have HB6 := Lib.hid hb6; have HC6 := Lib.hid hc6; clear hb6 hc6))
          rw [← HR.out]
          refine bodyPost_ret (end_results rfl rfl HTL.out (range_row HB6.out)) rfl ?_
          have h3 := HS3.out
          exact ⟨rfl, (HB3.out.trans (HGD.out.below (by omega) (by simp; omega))).trans (HC6.out.below (by have := HGD.out.size; omega) (by simp; omega))⟩
    · rw [if_neg hk2]
      have hk2' : (kind == 2) = false := by rw [beq_eq_false_iff_ne]; exact hk2
      go_enter Try.func43, Try.ntmps43
      go_wp2_with (rw [← hw3]; refine wpl_store_row rfl 92 128 (.tmp 6) (.tmp 33) rfl (w.heap.size + 1 + 1) _ Try.zeroCells92 rfl rfl H6.out sizeBlk size_zcb size_zcb (by rw [zc_blk]; exact one_blk _) ?_; intro w5 hb5 hc5; have HB5 := Lib.hid hb5; have HC5 := Lib.hid hc5; clear hb5 hc5)
      refine bodyPost_ret (end_results rfl rfl (r := zeros 128) (by simp [zeros]) (range_row (by rw [← zc_blk]; exact HB5.out))) rfl ?_
      exact ⟨rfl, HB3.out.trans (HC5.out.below (by rw [HS3.out]; omega) (by simp; omega))⟩
end Go.Proofs.Ytcnhjbipncledaa
