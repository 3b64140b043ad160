/- The disk's Write, walked. -/
import Derived.Test.YtcnhjbipncledaaDk3
import Derived.Test.YtcnhjbipncledaaRegC
import Derived.Laws.CopyOwn
import Derived.Great.BuildSlice
namespace Go.Proofs.Ytcnhjbipncledaa
open Go.RowKit

def full (b : List B8) : List B8 := b ++ zeros (128 - b.length)
theorem full_length (b : List B8) (h : b.length ≤ 128) : (full b).length = 128 := by simp [full, zeros]; omega
def Dk.lay (s : Dk) (i : Int) (b : List B8) : Dk := { s with under := s.under ++ [(i, full b)] }
def Dk.write (s : Dk) (i : Int) (b : List B8) : Dk × Int :=
  if s.asked i ≠ 0 then (s, s.asked i) else if 128 < b.length then (s, 3) else ((s.lay i b).spend.1, if (s.lay i b).spend.2 then 0 else 150)
theorem fold_set : ∀ (L : List Value) (k : Nat) (A : Array Value), A.size = k + L.length → (L.zipIdx k).foldl (fun (cs : Array Value) (x : Value × Nat) => cs.setIfInBounds (0 + x.2) x.1) A = (A.toList.take k ++ L).toArray
  | [], k, A, h => by
    have : A.toList.take k = A.toList := List.take_of_length_le (by simp at h ⊢; omega)
    simp [this]
  | v :: L, k, A, h => by
    rw [List.zipIdx_cons, List.foldl_cons, fold_set L (k + 1) _ (by simp at h ⊢; omega)]
    simp only [Nat.zero_add, Array.toList_setIfInBounds]
    have hk : k < A.toList.length := by simp at h ⊢; omega
    rw [List.take_succ_eq_append_getElem (by simpa using hk)]
    have ht : List.take k (A.toList.set k v) = List.take k A.toList := by
      apply List.ext_getElem?
      intro i
      rw [List.getElem?_take, List.getElem?_take]
      split
      · rw [List.getElem?_set_ne (by omega)]
      · rfl
    simp [ht]
set_option maxRecDepth 10000 in
/-- A row of one write is laid. -/
theorem exec_build_wr {o : Oper} {a : Act} {y : Operand} (ho : o.op = .buildSlice 56 1 #[(0, y)]) (x : Int × List B8) (hy : a.eval y = .agg (wrC x).toArray) (hx : x.2.length = 128) (W : World) {W1 : World} {k : Nat} (h : W1 = W.alloc (.cells (wrC x).toArray 94) ∧ W.heap.size = k) :
    (execOp a.eval o).run Try.prog W = .ok (.value (.slice (some ⟨k, 0, none⟩) 1 1)) W1 := by
  obtain ⟨h1, rfl⟩ := h
  subst h1
  obtain ⟨i0, hi0, hz0, hz1, hz2⟩ := info_parts infoWr
  have hs := size_wr x hx
  have hrun := run_buildSlice (P := Try.prog) W 56 94 1 #[(0, .agg (wrC x).toArray)] (wrC x).toArray i0 _ Try.underlying56 hi0 hz0 (by rw [hz1]; decide) (by rw [hz1]; decide) (by
    rw [hz1]
    simp only [Instr.fill, Value.cells, hs]
    rw [if_neg (by simp), ← Array.foldl_toList, Array.toList_zipIdx]
    generalize hA0 : (Array.range (1 * 129)).map (fun j => (wrC (0, zeros 128)).toArray[j % (wrC (0, zeros 128)).toArray.size]!) = A0
    have hsz : A0.size = 129 := by rw [← hA0, Array.size_map, Array.size_range]
    have := fold_set (wrC x) 0 A0 (by rw [hsz]; simp [wrC, hx])
    rw [List.take_zero, List.nil_append] at this
    exact congrArg some this)
  unfold execOp
  simp only [ho, List.map_toArray, List.map_cons, List.map_nil, hy, Sem.run_bind, hrun, Result.andThen_ok, Sem.run_pure]
theorem exec_append {o : Oper} {a : Act} {w w' : World} (s x : Operand) (t : TypeId) (ho : o.op = .call { callee := .builtin .append, args := #[s, x], argTypes := #[t, t] }) {sv xv v' : Value} (hs : a.eval s = sv) (hx : a.eval x = xv)
    (hrun : (Builtin.append_ #[t, t] o.type #[sv, xv]).run Try.prog w = .ok v' w') : (execOp a.eval o).run Try.prog w = .ok (.value v') w' := by
  unfold execOp
  simp only [ho, resolve, invoke, builtin, Sem.run_bind, Sem.run_pure, Result.andThen_ok, List.map_toArray, List.map_cons, List.map_nil, hs, hx, hrun]
theorem src_of {w : World} {a : Option Addr} {n c : Nat} {xs : List Value} (h : Reads w (.slice a n c) xs) (hp : 0 < xs.length) : ∃ ad, a = some ad ∧ ∀ j v, xs[j]? = some v → w.cell? (ad.add j) = some v := by
  obtain ⟨a', n', c', he, _, _, _, hr⟩ := h
  injection he with e1 _ _
  subst e1
  rcases hr with rfl | ⟨b, off, rfl, _, hc⟩
  · simp at hp
  · refine ⟨_, rfl, fun j v hj => ?_⟩
    obtain ⟨hl, hv⟩ := List.getElem?_eq_some_iff.1 hj
    rw [Addr.add_mid, hc j hl, hv]
theorem sizeU8 : (Try.prog.info? 5).map (·.size) = some 1 := by
  obtain ⟨i, hi, _, hs, _⟩ := info_parts info8
  rw [hi]; simp [hs]
theorem zc_wr : Try.zeroCells94 = (wrC (0, zeros 128)).toArray := by kernel_rfl
theorem set_wr (i : Int) : Try.zeroCells94.setIfInBounds 0 (.int .i64 i) = (wrC (i, zeros 128)).toArray := by rw [zc_wr]; simp [wrC]
theorem size_zc : Try.zeroCells94.size = 129 := by rw [zc_wr]; simp [wrC, zeros]
theorem splice_wr (i : Int) (b : List B8) : splice (wrC (i, zeros 128)) 1 (b.map byteV) = wrC (i, full b) := by
  have hd : ((zeros 128).map byteV).drop b.length = (zeros (128 - b.length)).map byteV := by
    rw [← List.map_drop]
    exact congrArg (List.map byteV) List.drop_replicate
  unfold splice wrC full
  simp only [List.length_map, List.take_succ_cons, List.take_zero, List.cons_append, List.nil_append, List.map_append]
  rw [show 1 + b.length = b.length + 1 by omega, List.drop_succ_cons, hd]
set_option maxRecDepth 10000 in
set_option maxHeartbeats 2000000 in
theorem write_any (w : World) (D M : Nat) (u : Value) (s : Dk) (h : DiskAt w D M u s) (i : Int) (va : Option Addr) (vn vc : Nat) (b : List B8) (hv : IsBytes w (.slice va vn vc) b) (hu : s.under.length ≤ 1000000) : Calls Try.prog 15 #[.pointer (some ⟨D, 0, none⟩), .int .i64 i, .slice va vn vc] w fun e w' => e = .returned (.int .i64 (s.write i b).2) ∧ (∃ u', DiskAt w' D M u' (s.write i b).1 ∧ ∀ j, u'.ownBlock = some j → u.ownBlock = some j ∨ w.heap.size ≤ j) ∧ Chg (fp D M u) w w' := by
  have HD := Lib.hid h
  have HA := Lib.hid (asked_any w D M u s h i)
  have HV := Lib.hid hv
  have hvn : vn = b.length := by
    obtain ⟨_, _, _, he, h, _⟩ := hv
    injection he with _ e2 _
    omega
  have HU := Lib.hid hu
  clear h hv hu
  unfold Dk.write
  by_cases ha : s.asked i = 0
  · rw [if_neg (by simp [ha])]
    rw [ha] at HA
    by_cases hb : 128 < b.length
    · rw [if_pos hb]
      have hg : (128 : Int) < (vn : Int) := by omega
      clear hvn
      go_enter Try.func15, Try.ntmps15
      go_wp2_with (go_at_call 40; refine HA.out.mono ?_; rintro e w1 ⟨rfl, rfl⟩)
      go_ret
      exact ⟨rfl, ⟨u, HD.out, fun j hj => .inl hj⟩, Chg.refl _ _⟩
    · rw [if_neg hb]
      obtain ⟨s1, hs1⟩ : ∃ s1, s1 = (s.lay i b).spend.1 := ⟨_, rfl⟩
      obtain ⟨ok, hok⟩ : ∃ ok, ok = (s.lay i b).spend.2 := ⟨_, rfl⟩
      rw [← hs1, ← hok]
      have HS1 := Lib.hid hs1
      have HOK := Lib.hid hok
      clear hs1 hok
      have hg : ¬ (128 : Int) < (vn : Int) := by omega
      have HVN := Lib.hid hvn
      have HB : Hid (b.length ≤ 128) := by unfold Hid; omega
      clear hvn hb ha
      go_enter Try.func15, Try.ntmps15
      go_wp2_with (first
        | (go_at_call 40; refine HA.out.mono ?_; rintro e w1 ⟨rfl, rfl⟩; clear HA; have HSRC : Hid (0 < (b.map byteV).length → ∃ ad, va = some ad ∧ ∀ j v, (b.map byteV)[j]? = some v → (w1.alloc (.cells (wrC (i, zeros 128)).toArray 94)).cell? (ad.add j) = some v) := (fun hp => src_of (HV.out.alloc _).reads (by simpa using hp)))
        | (refine wpl_store_last rfl 94 129 (.tmp 8) (.tmp 19) rfl _ _ rfl rfl sizeWr size_zc (by rw [set_wr]; exact size_wr _ (by simp [zeros])) (by rw [set_wr]; exact one_wr _) ?_; rw [set_wr])
        | (refine wpList_copy_splice rfl (.tmp 21) (.tmp 22) 30 30 rfl 5 Try.underlying30 sizeU8 _ _ 128 128 vn vc rfl rfl w1.heap.size 1 (wrC (i, zeros 128)) 94 (heap_alloc_last _ _) (b.map byteV) (by have h1 := HVN.out; have h2 := HB.out; rw [List.length_map, ← h1]; exact (Nat.min_eq_left (by omega)).symm) (fun hp => ⟨rfl, HSRC.out hp⟩) (by have := HB.out; simp [wrC, zeros]; omega) one_byteV w1.heap.size w1 ((Below.refl _ w1).alloc (Nat.le_refl _) _) (Nat.le_refl _) ?_; intro w4 hg4 hb4; rw [splice_wr i b] at hg4; have HB4 := Lib.hid hb4; clear hb4))
      obtain ⟨x, hx⟩ : ∃ x, x = (i, full b) := ⟨_, rfl⟩
      have HX := Lib.hid hx
      rw [← hx] at hg4
      have HXL : Hid (x.2.length = 128) := by unfold Hid; rw [hx]; exact full_length b HB.out
      have HG4 := Lib.hid hg4.out
      clear hx hg4 HSRC
      have HD4 : Hid (DiskAt w4.drew D M u s) := (HD.out.below HB4.out).keep (fun _ _ => rfl)
      have hsz4 : w1.heap.size < w4.heap.size := (Array.getElem?_eq_some_iff.1 HG4.out).1
      have HSZ := Lib.hid hsz4
      have hr4 : Hid (w4.drew.rangeAt w1.heap.size 0 (wrC x)) := fun j v hv => by
        rw [Nat.zero_add, cell_of_row w4.drew _ j _ 94 (0, 0) HG4.out]
        simpa using hv
      obtain ⟨i0, hi0, hz0, hz1, hz2⟩ := info_parts infoWr
      have hrow := HD4.out.row
      have lt4 := HD4.out.lt
      obtain ⟨W1, hW1⟩ : ∃ W1, W1 = w4.drew.alloc (.cells (wrC x).toArray 94) := ⟨_, rfl⟩
      have hc1 : Chg [] w4.drew W1 := by rw [hW1]; exact (Chg.refl _ _).alloc _
      have hD1 : DiskAt W1 D M u s := HD4.out.chg hc1 (by simp)
      obtain ⟨v', W2, hrun, hown, hgr, _, hob⟩ := run_append_own_at (P := Try.prog) W1 0 56 56 94 i0 _ 129 136 Try.underlying56 hi0 hz0 hz1 hz2 (by exact size_wr (0, zeros 128) (by simp [zeros])) (by omega) u s.under.length (undV s.under) hD1.row ⟨w4.heap.size, 0, none⟩ 1 1 (wrC x) (by rw [wrC, List.length_cons, List.length_map, HXL.out]) (fun j v hv => by rw [Addr.add_mid, hW1]; exact range_new w4.drew (wrC x) _ j v hv) (by have := one_wr x; rw [Array.all_eq_true_iff_forall_mem] at this; intro v hv; exact this v (by simpa using hv)) (by have := HU.out; unfold maxLen; omega) (by have := HU.out; omega) (Nat.zero_le _)
      obtain ⟨Wc, hWc⟩ : ∃ Wc : Nat → World, Wc = fun c => match c with | 0 => w4.drew | 1 => W1 | 2 => W2 | _ => W2.setCell ⟨D, 2, none⟩ v' := ⟨_, rfl⟩
      have e0 : Wc 0 = w4.drew := congrFun hWc 0
      have e1 : Wc 1 = W1 := congrFun hWc 1
      have e2 : Wc 2 = W2 := congrFun hWc 2
      have HW3 : Hid (Wc 3 = (Wc 2).setCell ⟨D, 2, none⟩ v') := by unfold Hid; rw [e2]; exact congrFun hWc 3
      have hu2 : ∀ y, y < w4.heap.size → u.ownBlock ≠ some y → W2.heap[y]? = w4.heap[y]? := fun y hy hn => (hgr.block y (by rw [hW1]; simp; omega) (fun e => hn e.symm)).trans (hc1.block y hy (by simp))
      have HQ0 : Hid ((Wc 0).cell? ⟨D, 2, none⟩ = some u) := by unfold Hid; rw [e0]; exact HD4.out.c2
      have HQ1 : Hid ((Wc 1).cell? ⟨D, 2, none⟩ = some u) := by unfold Hid; rw [e1]; exact hD1.c2
      have HQ2 : Hid ((Wc 2).cell? ⟨D, 2, none⟩ = some u) := by unfold Hid; rw [e2]; exact (World.cell?_of_block (a := ⟨D, 2, none⟩) (hu2 D lt4.1 (fun e => HD4.out.rowD D e rfl))).trans HD4.out.c2
      have HF2 : Hid ((Wc 2).frozen? ⟨D, 2, none⟩ = false) := by unfold Hid; rw [e2]; exact (World.frozen?_of_block (a := ⟨D, 2, none⟩) (hu2 D lt4.1 (fun e => HD4.out.rowD D e rfl))).trans (HD4.out.fz 2 (by decide))
      have HR0 : Hid ((Wc 0).rangeAt w1.heap.size 0 (wrC x)) := by unfold Hid; rw [e0]; exact hr4.out
      have HB0 : Hid (Wc 1 = (Wc 0).alloc (.cells (wrC x).toArray 94) ∧ (Wc 0).heap.size = w4.heap.size) := by unfold Hid; rw [e0, e1]; exact ⟨hW1, rfl⟩
      have HRUN : Hid ((Builtin.append_ #[56, 56] 56 #[u, .slice (some ⟨w4.heap.size, 0, none⟩) 1 1]).run Try.prog (Wc 1) = .ok v' (Wc 2)) := by unfold Hid; rw [e1, e2]; exact hrun
      have HE0 : Hid (Wc 0 = w4.drew) := e0
      have HEND : Hid (DiskAt (Wc 3) D M v' (s.lay i b) ∧ Chg (fp D M u) w1 (Wc 3) ∧ ∀ j, v'.ownBlock = some j → u.ownBlock = some j ∨ w1.heap.size ≤ j) := by
        unfold Hid
        obtain ⟨f, hf, hm⟩ := HD4.out.map
        obtain ⟨n1, n2⟩ := HD4.out.ne
        have hgM : Chg (u.ownBlock.toList) w4.drew W2 := (hc1.mono (by simp)).trans (Chg.of_grown hgr)
        have hc3 : Chg [D] W2 (Wc 3) := by rw [HW3.out, e2]; exact (Chg.refl _ _).setCell _ _ (.inl (by simp))
        have q2 := HQ2.out
        rw [e2] at q2
        have hnD : D ∉ u.ownBlock.toList := fun h => HD4.out.rowD D (by simpa using h) rfl
        have hnM : M ∉ u.ownBlock.toList := fun h => n2 M (by simpa using h) rfl
        have o := fun k (hk : k ≠ 2) => show (Wc 3).cell? ⟨D, k, none⟩ = w4.drew.cell? ⟨D, k, none⟩ by rw [HW3.out, e2]; exact (World.cell?_setCell_other _ _ _ _ (by simp)).trans (hgM.cell D k lt4.1 hnD)
        have fz := fun k => show (Wc 3).frozen? ⟨D, k, none⟩ = w4.drew.frozen? ⟨D, k, none⟩ by rw [HW3.out, e2, World.frozen?_setCell]; exact hgM.frozen D k lt4.1 hnD
        have hv2 : ∀ j, v'.ownBlock = some j → u.ownBlock = some j ∨ w4.heap.size ≤ j := fun j hj => by
          rcases hob with h | h
          · rw [h] at hj; exact .inl hj
          · rw [h] at hj; injection hj with hj; have := hc1.size; exact .inr (by rw [← hj]; exact this)
        refine ⟨⟨(o 0 (by decide)).trans HD4.out.c0, (o 1 (by decide)).trans HD4.out.c1, ?_, (o 3 (by decide)).trans HD4.out.c3, (o 4 (by decide)).trans HD4.out.c4, (o 5 (by decide)).trans HD4.out.c5, fun k hk => (fz k).trans (HD4.out.fz k hk), ⟨f, ?_, hm⟩, ?_, ?_, ⟨HD4.out.ok.pos, HD4.out.ok.blk, ?_, HD4.out.ok.left⟩⟩, ?_, ?_⟩
        · rw [HW3.out, e2]; exact World.cell?_setCell_same _ _ _ q2
        · exact (hf.chg hgM hnM).chg hc3 (by simpa using n1)
        · have hne : ∀ k, v'.ownBlock = some k → k ≠ D := fun k hk e => by
            rcases hv2 k hk with h | h
            · exact HD4.out.rowD k h e
            · have := lt4.1; subst e; exact absurd this (Nat.not_lt.2 h)
          have h := row_keep0 hown (fun k hk => hc3.block k (by
            obtain ⟨_, hr⟩ := hown
            rcases hr with ⟨h0, _⟩ | ⟨g, cap, cur, h0, _, hh, _⟩
            · rw [h0] at hk; cases hk
            · rw [h0] at hk; injection hk with hk; subst hk; exact (Array.getElem?_eq_some_iff.1 hh).1) (by simpa using hne k hk))
          show (Wc 3).ownsRow 0 94 129 v' (s.under ++ [(i, full b)]).length (undV (s.under ++ [(i, full b)]))
          rw [List.length_append, List.length_singleton, show undV (s.under ++ [(i, full b)]) = undV s.under ++ wrC x by rw [HX.out]; simp [undV_eq]]
          exact h
        · intro k hk e
          rcases hv2 k hk with h | h
          · exact HD4.out.rowD k h e
          · have := lt4.1; subst e; exact absurd this (Nat.not_lt.2 h)
        · intro y hy
          rcases List.mem_append.1 hy with h | h
          · exact HD4.out.ok.under y h
          · simp at h; rw [h, ← HX.out]; exact HXL.out
        · exact (((Chg.of_below HB4.out : Chg (fp D M u) w1 w4).drewN 1).trans (hgM.mono (fun y hy => by simp [fp] at hy ⊢; exact .inr (.inr hy)))).trans (hc3.mono (by simp [fp]))
        · intro j hj
          rcases hv2 j hj with h | h
          · exact .inl h
          · exact .inr (Nat.le_trans HB4.out.size h)
      clear hrun hown hgr hob hWc e0 e1 e2 hu2 hD1 hc1 hW1 hrow lt4 hi0 hz0 hz1 hz2 hr4 hsz4
      obtain ⟨wa, wc, hve, hvl, hvm⟩ := HEND.out.1.len
      subst hve
      clear hvl hvm
      refine wp_region_chain (by kernel_rfl) (by kernel_rfl) [6, 7, 10] (by kernel_rfl) Wc ?h0 [.pointer (some ⟨D, 0, none⟩), .pointer (some ⟨D, 0, none⟩), .pointer (some ⟨D, 0, none⟩), .pointer (some ⟨D, 2, none⟩), u, .agg (wrC x).toArray, .slice (some ⟨w4.heap.size, 0, none⟩) 1 1, .slice wa (s.lay i b).under.length wc, .pointer (some ⟨D, 0, none⟩), .pointer (some ⟨D, 2, none⟩), undef] (by (simp [putAll, Act.put]; rfl)) ?vops ?vrest
      case vops =>
        intro i' o ho
        match i', ho with
        | 0, ho =>
          injection ho with ho
          subst ho
          exact ⟨fun _ => opDo_value rfl rfl (w' := Wc 0) (by go_simp) rfl, fun _ => opDo_value rfl rfl (w' := Wc 1) (by go_simp) rfl, fun _ => opDo_value rfl rfl (w' := Wc 2) (by go_simp) rfl, fun _ => opDo_value rfl rfl (w' := Wc 3) (by go_simp) rfl, trivial⟩
        | 1, ho =>
          injection ho with ho
          subst ho
          exact ⟨fun _ => opDo_value rfl rfl (w' := Wc 0) (by go_simp) rfl, fun _ => opDo_value rfl rfl (w' := Wc 1) (by go_simp) rfl, fun _ => opDo_value rfl rfl (w' := Wc 2) (by go_simp) rfl, fun _ => opDo_value rfl rfl (w' := Wc 3) (by go_simp) rfl, trivial⟩
        | 2, ho =>
          injection ho with ho
          subst ho
          exact ⟨fun _ => opDo_value rfl rfl (w' := Wc 0) (by go_simp) rfl, fun _ => opDo_value rfl rfl (w' := Wc 1) (by go_simp) rfl, fun _ => opDo_value rfl rfl (w' := Wc 2) (by go_simp) rfl, fun _ => opDo_value rfl rfl (w' := Wc 3) (by go_simp) rfl, trivial⟩
        | 3, ho =>
          injection ho with ho
          subst ho
          exact ⟨fun _ => opDo_value rfl rfl (w' := Wc 0) (by go_simp) rfl, fun _ => opDo_value rfl rfl (w' := Wc 1) (by go_simp) rfl, fun _ => opDo_value rfl rfl (w' := Wc 2) (by go_simp) rfl, fun _ => opDo_value rfl rfl (w' := Wc 3) (by go_simp) rfl, trivial⟩
        | 4, ho =>
          injection ho with ho
          subst ho
          refine ⟨?_, ?_, ?_, ?_, trivial⟩
          · exact fun _ => opDo_value rfl rfl (w' := Wc 0) (by have q := HQ0.out; go_simp) rfl
          · exact fun _ => opDo_value rfl rfl (w' := Wc 1) (by have q := HQ1.out; go_simp) rfl
          · exact fun hl => absurd hl (Bool.eq_false_iff.1 (by kernel_rfl))
          · exact fun hl => absurd hl (Bool.eq_false_iff.1 (by kernel_rfl))
        | 5, ho =>
          injection ho with ho
          subst ho
          refine ⟨?_, ?_, ?_, ?_, trivial⟩
          · exact fun _ => opDo_value rfl rfl (w' := Wc 0) (exec_load_wr (.tmp 8) rfl w1.heap.size 0 rfl x HXL.out HR0.out) rfl
          · exact fun hl => absurd hl (Bool.eq_false_iff.1 (by kernel_rfl))
          · exact fun hl => absurd hl (Bool.eq_false_iff.1 (by kernel_rfl))
          · exact fun hl => absurd hl (Bool.eq_false_iff.1 (by kernel_rfl))
        | 6, ho =>
          injection ho with ho
          subst ho
          refine ⟨?_, ?_, ?_, ?_, trivial⟩
          · exact fun _ => opDo_value rfl rfl (w' := Wc 1) (exec_build_wr rfl x rfl HXL.out (Wc 0) HB0.out) rfl
          · exact fun hl => absurd hl (Bool.eq_false_iff.1 (by kernel_rfl))
          · exact fun hl => absurd hl (Bool.eq_false_iff.1 (by kernel_rfl))
          · exact fun hl => absurd hl (Bool.eq_false_iff.1 (by kernel_rfl))
        | 7, ho =>
          injection ho with ho
          subst ho
          refine ⟨?_, ?_, ?_, ?_, trivial⟩
          · exact fun hl => absurd hl (Bool.eq_false_iff.1 (by kernel_rfl))
          · exact fun _ => opDo_value rfl rfl (w' := Wc 2) (exec_append (.tmp 28) (.tmp 30) 56 rfl rfl rfl HRUN.out) rfl
          · exact fun hl => absurd hl (Bool.eq_false_iff.1 (by kernel_rfl))
          · exact fun hl => absurd hl (Bool.eq_false_iff.1 (by kernel_rfl))
        | 8, ho =>
          injection ho with ho
          subst ho
          exact ⟨fun _ => opDo_value rfl rfl (w' := Wc 0) (by go_simp) rfl, fun _ => opDo_value rfl rfl (w' := Wc 1) (by go_simp) rfl, fun _ => opDo_value rfl rfl (w' := Wc 2) (by go_simp) rfl, fun _ => opDo_value rfl rfl (w' := Wc 3) (by go_simp) rfl, trivial⟩
        | 9, ho =>
          injection ho with ho
          subst ho
          exact ⟨fun _ => opDo_value rfl rfl (w' := Wc 0) (by go_simp) rfl, fun _ => opDo_value rfl rfl (w' := Wc 1) (by go_simp) rfl, fun _ => opDo_value rfl rfl (w' := Wc 2) (by go_simp) rfl, fun _ => opDo_value rfl rfl (w' := Wc 3) (by go_simp) rfl, trivial⟩
        | 10, ho =>
          injection ho with ho
          subst ho
          refine ⟨?_, ?_, ?_, ?_, trivial⟩
          · exact fun hl => absurd hl (Bool.eq_false_iff.1 (by kernel_rfl))
          · exact fun hl => absurd hl (Bool.eq_false_iff.1 (by kernel_rfl))
          · exact fun _ => opDo_skip rfl rfl (w' := Wc 3) (by have q := HQ2.out; have f := HF2.out; rw [HW3.out]; go_simp) rfl
          · exact fun hl => absurd hl (Bool.eq_false_iff.1 (by kernel_rfl))
      case h0 => exact HE0.out
      case vrest =>
        obtain ⟨W3, hW3⟩ : ∃ W3, W3 = Wc 3 := ⟨_, rfl⟩
        have HEND := HEND
        rw [← hW3] at HEND
        show Exit.then _ _ .normal _ (Wc 3)
        rw [← hW3]
        obtain ⟨hd3, hc3, hv3⟩ := HEND.out
        have HS := Lib.hid (spend_any W3 D M _ (s.lay i b) hd3)
        have HC3 := Lib.hid hc3
        have HV3 := Lib.hid hv3
        clear hd3 hc3 hv3 HEND HQ0 HQ1 HQ2 HF2 HR0 HB0 HRUN HE0 hW3
        rw [← HS1.out, ← HOK.out] at HS
        clear HS1 HOK
        cases ok with
        | false =>
          go_wp2_with (go_at_call 41; refine HS.out.mono ?_; rintro e w5 ⟨rfl, hd5, hc5⟩; have HD5 := Lib.hid hd5; have HC5 := Lib.hid hc5; clear hd5 hc5 HS)
          go_ret
          exact ⟨rfl, ⟨_, HD5.out, HV3.out⟩, HC3.out.trans (HC5.out.mono (by simp [fp]))⟩
        | true =>
          go_wp2_with (go_at_call 41; refine HS.out.mono ?_; rintro e w5 ⟨rfl, hd5, hc5⟩; have HD5 := Lib.hid hd5; have HC5 := Lib.hid hc5; clear hd5 hc5 HS)
          go_ret
          exact ⟨rfl, ⟨_, HD5.out, HV3.out⟩, HC3.out.trans (HC5.out.mono (by simp [fp]))⟩
  · rw [if_pos ha]
    obtain ⟨er, her⟩ : ∃ er, er = s.asked i := ⟨_, rfl⟩
    rw [← her] at HA ha ⊢
    have hg : (er != 0) = true := by rw [bne_iff_ne]; exact ha
    clear her ha
    go_enter Try.func15, Try.ntmps15
    go_wp2_with (go_at_call 40; refine HA.out.mono ?_; rintro e w1 ⟨rfl, rfl⟩)
    go_ret
    exact ⟨rfl, ⟨u, HD.out, fun j hj => .inl hj⟩, Chg.refl _ _⟩
end Go.Proofs.Ytcnhjbipncledaa
