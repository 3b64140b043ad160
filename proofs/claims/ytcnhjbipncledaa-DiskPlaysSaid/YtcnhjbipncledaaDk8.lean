/- The disk's Crash, walked. -/
import Derived.Test.YtcnhjbipncledaaDk7
import Derived.Test.YtcnhjbipncledaaRegA
namespace Go.Proofs.Ytcnhjbipncledaa
open Go.RowKit

/-- A slice of fates, as it reads. -/
def IsFates (w : World) (v : Value) (fs : List (Int × Int)) : Prop :=
  ∃ a c, v = .slice a fs.length c ∧ fs.length ≤ c ∧ c ≤ maxLen ∧ (fs = [] ∨ ∃ b off, a = some ⟨b, off, none⟩ ∧ b < w.heap.size ∧ ∀ i k n, fs[i]? = some (k, n) → w.cell? ⟨b, off + i * 2, none⟩ = some (.int .i64 k) ∧ w.cell? ⟨b, off + i * 2 + 1, none⟩ = some (.int .i64 n))
theorem IsFates.keep {w w' : World} {v : Value} {fs : List (Int × Int)} (h : IsFates w v fs) (hs : w.heap.size ≤ w'.heap.size) (hk : ∀ b c n, v = .slice (some b) n c → b.block < w.heap.size → fs ≠ [] → w'.heap[b.block]? = w.heap[b.block]?) : IsFates w' v fs := by
  obtain ⟨a, c, rfl, h1, h2, h3⟩ := h
  refine ⟨a, c, rfl, h1, h2, ?_⟩
  by_cases h0 : fs = []
  · exact .inl h0
  rcases h3 with h | ⟨b, off, rfl, hb, hc⟩
  · exact .inl h
  · have := hk _ _ _ rfl hb h0
    exact .inr ⟨b, off, rfl, Nat.lt_of_lt_of_le hb hs, fun i k n hi => ⟨(World.cell?_of_block (a := ⟨b, off + i * 2, none⟩) this).trans (hc i k n hi).1, (World.cell?_of_block (a := ⟨b, off + i * 2 + 1, none⟩) this).trans (hc i k n hi).2⟩⟩
theorem IsFates.lt {w : World} {v : Value} {fs : List (Int × Int)} (h : IsFates w v fs) (h0 : fs ≠ []) (b : Addr) (c n : Nat) (hv : v = .slice (some b) n c) : b.block < w.heap.size := by
  obtain ⟨a, c', hv', _, _, h3⟩ := h
  rcases h3 with h | ⟨B, off, rfl, hb, _⟩
  · exact absurd h h0
  · rw [hv] at hv'
    injection hv' with e _ _
    injection e with e
    subst e; exact hb
def Dk.strike (s : Dk) (p : (Int × List B8) × (Int × Int)) : Dk := if (s.ends p.1 p.2.1 p.2.2).2 then s.put p.1.1 (s.ends p.1 p.2.1 p.2.2).1 else s
def Dk.strikes (s : Dk) (l : List ((Int × List B8) × (Int × Int))) : Dk := l.foldl Dk.strike s
theorem Dk.strike_same (s : Dk) (p : (Int × List B8) × (Int × Int)) : (s.strike p).under = s.under ∧ (s.strike p).blocks = s.blocks := by
  unfold Dk.strike; split <;> exact ⟨rfl, rfl⟩
theorem Dk.strikes_same (l : List ((Int × List B8) × (Int × Int))) : ∀ (s : Dk), (s.strikes l).under = s.under ∧ (s.strikes l).blocks = s.blocks := by
  induction l with
  | nil => intro s; exact ⟨rfl, rfl⟩
  | cons p l ih => intro s; exact ⟨(ih (s.strike p)).1.trans (s.strike_same p).1, (ih (s.strike p)).2.trans (s.strike_same p).2⟩
theorem Dk.strikes_snoc (s : Dk) (l : List ((Int × List B8) × (Int × Int))) (p : (Int × List B8) × (Int × Int)) : s.strikes (l ++ [p]) = (s.strikes l).strike p := by simp [Dk.strikes, List.foldl_append]
def Dk.crash (s : Dk) (fs : List (Int × Int)) : Dk := { s.strikes (s.under.zip fs) with under := [], armed := false, left := 0, down := false }
theorem act_putAll {ops : Array Oper} {a a0 A : Act} {vs : List Value} (hA : putAll ops.toList vs a0 = A) (hd : a.defers = a0.defers) (hs : a.tmps.size = a0.tmps.size) (hbase : ∀ t, (∀ j, dstOf ops j ≠ some t) → a.tmps.getD t undef = a0.tmps.getD t undef)
    (hf : ∀ j t, dstOf ops j = some t → a.tmps.getD t undef = A.tmps.getD t undef) : a = A := by
  obtain ⟨h1, h2, h3⟩ := putAll_base hA
  obtain ⟨t, d⟩ := a
  obtain ⟨t', d'⟩ := A
  simp only at hd hs h1 h2
  rw [hd, h2]
  congr 1
  apply Array.ext (by omega)
  intro i hi hi'
  by_cases hw : ∃ j, dstOf ops j = some i
  · obtain ⟨j, hj⟩ := hw
    have := hf j i hj
    simpa [Array.getD_eq_getD_getElem?, hi, hi'] using this
  · have hno : ∀ j, dstOf ops j ≠ some i := fun j hj => hw ⟨j, hj⟩
    have e1 := hbase i hno
    have e2 := h3 i hno
    simp only [Array.getD_eq_getD_getElem?] at e1
    rw [← e2] at e1
    simpa [hi, hi'] using e1
/-- New blocks may be laid; a new block of noughts may become r. -/
structure Grew (wb : World) (zo ro : Obj) (a c : World) : Prop where
  os : c.os = a.os
  tape : c.tape = a.tape
  output : c.output = a.output
  size : a.heap.size ≤ c.heap.size
  block : ∀ k, k < a.heap.size → c.heap[k]? = a.heap[k]? ∨ (wb.heap.size ≤ k ∧ a.heap[k]? = some zo ∧ c.heap[k]? = some ro)
theorem Grew.refl (wb : World) (zo ro : Obj) (a : World) : Grew wb zo ro a a := ⟨rfl, rfl, rfl, Nat.le_refl _, fun _ _ => .inl rfl⟩
theorem Grew.of_below {wb : World} {zo ro : Obj} {a c : World} (h : Below a.heap.size a c) : Grew wb zo ro a c := ⟨h.os, h.tape, h.output, h.size, fun k hk => .inl (h.block k hk)⟩
theorem Grew.trans {wb : World} {zo ro : Obj} {a b c : World} (h : Grew wb zo ro a b) (h' : Grew wb zo ro b c) : Grew wb zo ro a c :=
  ⟨h'.os.trans h.os, h'.tape.trans h.tape, h'.output.trans h.output, Nat.le_trans h.size h'.size, fun k hk => by
    rcases h'.block k (Nat.lt_of_lt_of_le hk h.size) with e | ⟨e1, e2, e3⟩
    · rcases h.block k hk with g | ⟨g1, g2, g3⟩
      · exact .inl (e.trans g)
      · exact .inr ⟨g1, g2, e.trans g3⟩
    · rcases h.block k hk with g | ⟨g1, g2, _⟩
      · exact .inr ⟨e1, g.symm.trans e2, e3⟩
      · exact .inr ⟨g1, g2, e3⟩⟩
theorem Grew.below {wb : World} {zo ro : Obj} {c : World} (h : Grew wb zo ro wb c) : Below wb.heap.size wb c :=
  ⟨h.os, h.tape, h.output, h.size, fun k hk => by
    rcases h.block k hk with e | ⟨e1, _⟩
    · exact e
    · omega⟩
theorem Grew.either {wb : World} {zo ro : Obj} {a c : World} (h : Grew wb zo ro a c) {B : Nat} (hB : a.heap[B]? = some zo ∨ a.heap[B]? = some ro) : c.heap[B]? = some zo ∨ c.heap[B]? = some ro := by
  have hlt : B < a.heap.size := by rcases hB with h | h <;> exact (Array.getElem?_eq_some_iff.1 h).1
  rcases h.block B hlt with e | ⟨_, _, e3⟩
  · rw [e]; exact hB
  · exact .inr e3
theorem Grew.done {wb : World} {zo ro : Obj} {a c : World} (h : Grew wb zo ro a c) {B : Nat} (hB : a.heap[B]? = some ro) : c.heap[B]? = some ro := by
  rcases h.block B (Array.getElem?_eq_some_iff.1 hB).1 with e | ⟨_, _, e3⟩
  · rw [e]; exact hB
  · exact e3
theorem exec_store_row {o : Oper} {a : Act} {w : World} (t : TypeId) (x y : Operand) (ho : o.op = .store t x y) {g : Nat} {c' : Array Value} {W : World} (hx : a.eval x = .pointer (some ⟨g, 0, none⟩)) (hy : a.eval y = .agg c') (hrun : (storeVar t ⟨g, 0, none⟩ (.agg c')).run Try.prog w = .ok () W) : (execOp a.eval o).run Try.prog w = .ok .skip W := by
  unfold execOp
  simp only [ho, hx, hy, Instr.storeAt, Instr.sureAddr, Sem.run_bind, Sem.run_pure, Result.andThen_ok, hrun]
/-- The store's mark: slot 7's block is filled. -/
def Stored (n0 : Nat) (ro : Obj) (i : Nat) (a : Act) (W : World) : Prop := i = 11 → ∃ B, a.tmps.getD 7 undef = .pointer (some ⟨B, 0, none⟩) ∧ n0 ≤ B ∧ W.heap[B]? = some ro
theorem sizeWrL (x : Int × List B8) (hx : x.2.length = 128) : (Try.prog.info? 94).map (·.size) = some (wrC x).length := by rw [sizeWr]; simp [wrC, hx]
set_option maxRecDepth 10000 in
set_option maxHeartbeats 4000000 in
theorem crash_any (w : World) (D M : Nat) (u : Value) (s : Dk) (h : DiskAt w D M u s) (v : Value) (fs : List (Int × Int)) (hf : IsFates w v fs) (hfp : ∀ b c n, v = .slice (some b) n c → fs ≠ [] → b.block ∉ fp D M u) : Calls Try.prog 18 #[.pointer (some ⟨D, 0, none⟩), v] w fun e w' => e = .returned (.int .i64 0) ∧ DiskAt w' D M (.slice none 0 0) (s.crash fs) ∧ Chg [D, M] w w' := by
  have HD := Lib.hid h
  have HF := Lib.hid hf
  have HFP := Lib.hid hfp
  have HI := Lib.hid (is_any w D M u s h)
  obtain ⟨fa, fc, rfl, hfl, hfm, _⟩ := hf
  obtain ⟨ua, uc, rfl, hul, hum⟩ := h.len
  have c2 := h.c2
  have HFL := Lib.hid hfl
  have HFM := Lib.hid hfm
  have HUL := Lib.hid hul
  have HUM := Lib.hid hum
  obtain ⟨n, hn⟩ : ∃ n, n = s.under.length := ⟨_, rfl⟩
  obtain ⟨nf, hnf⟩ : ∃ nf, nf = fs.length := ⟨_, rfl⟩
  rw [← hn] at c2 HD HFP
  rw [← hnf] at HF HFP ⊢
  have HN := Lib.hid hn
  have HNF := Lib.hid hnf
  clear h hfp hfl hfm hul hum hn hnf
  go_enter Try.func18, Try.ntmps18
  go_wp2_with (go_at_call 39; refine HI.out.mono ?_; rintro e w1 ⟨rfl, rfl⟩; clear HI)
  go_loopw [5, 6, 7, 8, 17] (fun _ _ _ _ k wr => ∃ j : Nat, k = .int .i64 j ∧ j ≤ n ∧ j ≤ nf ∧ Hid (DiskAt wr D M (.slice ua n uc) (s.strikes ((s.under.zip fs).take j))) ∧ Hid (Chg [M] w1 wr)) (fun _ _ _ _ k _ => n - (intOf k).toNat)
  case atStart => exact ⟨0, rfl, Nat.zero_le _, Nat.zero_le _, HD.out, Chg.refl _ _⟩
  case round =>
    obtain ⟨j, rfl, hj, hjf, hdk, hch⟩ := hrel
    by_cases hlt : j < n ∧ j < nf
    · obtain ⟨hlt, hltf⟩ := hlt
      have hg : (j : Int) < (n : Int) := by omega
      have hgf : ¬ (nf : Int) ≤ (j : Int) := by omega
      have hgf2 : (j : Int) < (nf : Int) := by omega
      obtain ⟨x, hx⟩ : ∃ x, s.under[j]? = some x := ⟨_, List.getElem?_eq_getElem (by have := HN.out; omega)⟩
      obtain ⟨⟨kd, by_⟩, hfj⟩ : ∃ f, fs[j]? = some f := ⟨_, List.getElem?_eq_getElem (by have := HNF.out; omega)⟩
      have hun := (Dk.strikes_same ((s.under.zip fs).take j) s).1
      obtain ⟨g, cap, hue, _, _, hgl, hrg⟩ := hdk.out.wr j x (by rw [hun]; exact hx)
      injection hue with u1 u2 u3
      subst u1
      have HFW : Hid (IsFates wr (.slice fa nf fc) fs) := HF.out.keep hch.out.size (fun b c m he hb hn0 => hch.out.block _ hb (fun hx => by have := HFP.out b c m he hn0; simp [fp] at this hx; exact this.2.1 hx))
      obtain ⟨fb, fo, hfa, q0, q1⟩ : ∃ fb fo, fa = some ⟨fb, fo, none⟩ ∧ wr.cell? ⟨fb, fo + j * 2, none⟩ = some (.int .i64 kd) ∧ wr.cell? ⟨fb, fo + j * 2 + 1, none⟩ = some (.int .i64 by_) := by
        obtain ⟨a, c, he, _, _, h3⟩ := HFW.out
        injection he with e1 _ _
        subst e1
        rcases h3 with h | ⟨b, off, rfl, _, hc⟩
        · rw [h] at hfj; simp at hfj
        · exact ⟨b, off, rfl, hc j kd by_ hfj⟩
      subst hfa
      have hxl : x.2.length = 128 := HD.out.ok.under x (List.mem_of_getElem? hx)
      have HXL := Lib.hid hxl
      have HX := Lib.hid hx
      have HFJ := Lib.hid hfj
      have HRG := Lib.hid hrg
      clear u2 u3 hun hrg hxl hx hfj
      obtain ⟨wb, hwb⟩ : ∃ wb, wb = wr.alloc (.cells (wrC x).toArray 94) := ⟨_, rfl⟩
      have hcb : Chg [] wr wb := by rw [hwb]; exact (Chg.refl _ _).alloc _
      have hrb : wb.rangeAt wr.heap.size 0 (wrC x) := by rw [hwb]; exact range_new wr _ _
      have p0 : wb.cell? ⟨fb, fo + j * 2, none⟩ = some (.int .i64 kd) := (hcb.cell _ _ (cell_lt q0) (by simp)).trans q0
      have p1 : wb.cell? ⟨fb, fo + j * 2 + 1, none⟩ = some (.int .i64 by_) := (hcb.cell _ _ (cell_lt q1) (by simp)).trans q1
      have HDB : Hid (DiskAt wb D M (.slice (some ⟨g, 0, none⟩) n uc) (s.strikes ((s.under.zip fs).take j))) := hdk.out.chg hcb (by simp)
      have HCB : Hid (Chg [M] w1 wb) := hch.out.trans (hcb.mono (by simp))
      have HWB := Lib.hid hwb
      clear hwb hcb
      go_wp2_with (first
        | (refine wpl_load_wr rfl (.tmp 20) rfl g (j * 129) rfl x HXL.out HRG.out ?_)
        | (refine wpl_store_last rfl 94 129 (.tmp 6) (.tmp 21) rfl _ _ rfl rfl sizeWr size_zc (size_wr x HXL.out) (one_wr x) ?_; rw [← HWB.out]))
      obtain ⟨r, hr⟩ : ∃ r, r = ((s.strikes ((s.under.zip fs).take j)).ends x kd by_).1 := ⟨_, rfl⟩
      obtain ⟨ok, hok⟩ : ∃ ok, ok = ((s.strikes ((s.under.zip fs).take j)).ends x kd by_).2 := ⟨_, rfl⟩
      have HRL : Hid (r.length = 128) := by unfold Hid; rw [hr]; exact Dk.ends_length _ HDB.out.ok x HXL.out kd by_
      have HEN : Hid (Value.tuple #[blkV ((s.strikes ((s.under.zip fs).take j)).ends x kd by_).1, .bool ((s.strikes ((s.under.zip fs).take j)).ends x kd by_).2] = .tuple #[blkV r, .bool ok]) := by unfold Hid; rw [hr, hok]
      have HRR := Lib.hid hr
      have HOK := Lib.hid hok
      have HRB := Lib.hid hrb
      have HLT : Hid (wr.heap.size < wb.heap.size) := by unfold Hid; rw [HWB.out]; simp
      clear hr hok hrb
      refine wp_region_marksA (by kernel_rfl) (by kernel_rfl) (fun t v W => match t with
        | 27 => v = .pointer (some ⟨D, 0, none⟩)
        | 28 => v = .agg (wrC x).toArray
        | 29 => v = .slice (some ⟨fb, fo, none⟩) nf fc
        | 30 => v = .int .i64 j
        | 31 => v = .pointer (some ⟨fb, fo + j * 2, none⟩)
        | 32 => v = .agg #[.int .i64 kd, .int .i64 by_]
        | 33 => v = .tuple #[blkV r, .bool ok]
        | 26 => v = .tuple #[blkV r, .bool ok]
        | 34 => v = blkV r
        | 35 => v = .bool ok
        | 7 => ∃ B, v = .pointer (some ⟨B, 0, none⟩) ∧ wb.heap.size ≤ B ∧ (W.heap[B]? = some (.cells Try.zeroCells92 92 (0, 0)) ∨ W.heap[B]? = some (.cells (r.map byteV).toArray 92 (0, 0)))
        | 8 => v = .bool ok
        | _ => True) (Stored wb.heap.size (.cells (r.map byteV).toArray 92 (0, 0)))
        (Grew wb (.cells Try.zeroCells92 92 (0, 0)) (.cells (r.map byteV).toArray 92 (0, 0))) (fun h h' => h.trans h') (Grew.of_below (Below.refl _ _).drew) ?_ ?_ ?_ ?_ ?_
      · intro t v W W' _ h hb
        split at h <;> first | exact h | (obtain ⟨B, h1, h2, h3⟩ := h; exact ⟨B, h1, h2, hb.either h3⟩) | (split <;> first | trivial | simp_all)
      · intro i a W W' _ h hb hi
        obtain ⟨B, h1, h2, h3⟩ := h hi
        exact ⟨B, h1, h2, hb.done h3⟩
      · intro i j' o v a W ho hj hij hw hm h11
        subst h11
        obtain ⟨B, h1, h2, h3⟩ := hm rfl
        refine ⟨B, ?_, h2, h3⟩
        cases hd : o.dst with
        | none => exact h1
        | some t =>
          by_cases ht : t = 7
          · subst ht
            have h10 : i = 10 := (regionOkm_spec (n := 55) (by kernel_rfl)).one i 10 7 (by unfold dstOf; rw [ho]; exact hd) (by kernel_rfl)
            subst h10
            exact absurd hw (by rw [show waitsOn _ 11 10 = true by kernel_rfl]; simp)
          · have : (a.put (some t) v).tmps.getD 7 undef = a.tmps.getD 7 undef := by
              simp [Act.put, Array.getD_eq_getD_getElem?, Array.getElem?_setIfInBounds_ne ht]
            rw [this]; exact h1
      · intro i o ac W ho hR hdf hsz hbase hfact
        clear hdf hsz
        have hbel := hR.below
        have q0 : W.cell? ⟨fb, fo + j * 2, none⟩ = some (.int .i64 kd) := (hbel.cell (cell_lt p0)).trans p0
        have q1 : W.cell? ⟨fb, fo + j * 2 + 1, none⟩ = some (.int .i64 by_) := (hbel.cell (cell_lt p1)).trans p1
        clear p0 p1
        match i, ho with
        | 0, ho =>
          injection ho with ho
          subst ho
          have h1 := slot_of (hbase 0 (base_of (by kernel_rfl)) (by decide))
          refine op_value_a rfl rfl (v := .pointer (some ⟨D, 0, none⟩)) (w' := W) ?_ (Grew.refl _ _ _ _) ?_ ?_
          · clear hfact hbase; go_simp
          · rintro t ⟨⟩; rfl
          · intro h; cases h
        | 1, ho =>
          injection ho with ho
          subst ho
          refine op_value_a rfl rfl (w' := W) (exec_load_wr (.tmp 6) rfl wr.heap.size 0 (hbase 6 (base_of (by kernel_rfl)) (by decide)) x HXL.out (rangeAt_of_heap HRB.out (hbel.block _ HLT.out))) (Grew.refl _ _ _ _) ?_ ?_
          · rintro t ⟨⟩; rfl
          · intro h; cases h
        | 2, ho =>
          injection ho with ho
          subst ho
          have h1 := slot_of (hbase 1 (base_of (by kernel_rfl)) (by decide))
          refine op_value_a rfl rfl (v := .slice (some ⟨fb, fo, none⟩) nf fc) (w' := W) ?_ (Grew.refl _ _ _ _) ?_ ?_
          · clear hfact hbase; go_simp
          · rintro t ⟨⟩; rfl
          · intro h; cases h
        | 3, ho =>
          injection ho with ho
          subst ho
          have h1 := slot_of (hbase 5 (base_of (by kernel_rfl)) (by decide))
          refine op_value_a rfl rfl (v := .int .i64 j) (w' := W) ?_ (Grew.refl _ _ _ _) ?_ ?_
          · clear hfact hbase; go_simp
          · rintro t ⟨⟩; rfl
          · intro h; cases h
        | 4, ho =>
          injection ho with ho
          subst ho
          have h1 := slot_of (hfact 2 29 (by kernel_rfl) (by kernel_rfl))
          have h2 := slot_of (hfact 3 30 (by kernel_rfl) (by kernel_rfl))
          refine op_value_a rfl rfl (v := .pointer (some ⟨fb, fo + j * 2, none⟩)) (w' := W) ?_ (Grew.refl _ _ _ _) ?_ ?_
          · clear hfact hbase; go_simp
          · rintro t ⟨⟩; rfl
          · intro h; cases h
        | 5, ho =>
          injection ho with ho
          subst ho
          have h1 := slot_of (hfact 4 31 (by kernel_rfl) (by kernel_rfl))
          refine op_value_a rfl rfl (v := .agg #[.int .i64 kd, .int .i64 by_]) (w' := W) ?_ (Grew.refl _ _ _ _) ?_ ?_
          · clear hfact hbase; go_simp
          · rintro t ⟨⟩; rfl
          · intro h; cases h
        | 6, ho =>
          injection ho with ho
          subst ho
          have h1 := slot_of (hfact 0 27 (by kernel_rfl) (by kernel_rfl))
          have h2 := slot_of (hfact 1 28 (by kernel_rfl) (by kernel_rfl))
          have h3 := slot_of (hfact 5 32 (by kernel_rfl) (by kernel_rfl))
          refine op_call_a rfl rfl (f := 43) (args := #[.pointer (some ⟨D, 0, none⟩), .agg (wrC x).toArray, .agg #[.int .i64 kd, .int .i64 by_]]) (w1 := W) (by clear hfact hbase; go_simp) ?_
          refine (end_any W D M _ _ (HDB.out.below hbel) x HXL.out kd by_).mono ?_
          rintro e w6 ⟨rfl, hb6⟩
          exact ⟨_, rfl, Grew.of_below hb6, (by rintro t ⟨⟩; exact HEN.out), (by intro h; cases h)⟩
        | 7, ho =>
          injection ho with ho
          subst ho
          have h1 := slot_of (hfact 6 33 (by kernel_rfl) (by kernel_rfl))
          refine op_value_a rfl rfl (v := .tuple #[blkV r, .bool ok]) (w' := W) ?_ (Grew.refl _ _ _ _) ?_ ?_
          · clear hfact hbase; go_simp
          · rintro t ⟨⟩; rfl
          · intro h; cases h
        | 8, ho =>
          injection ho with ho
          subst ho
          have h1 := slot_of (hfact 7 26 (by kernel_rfl) (by kernel_rfl))
          refine op_value_a rfl rfl (v := blkV r) (w' := W) ?_ (Grew.refl _ _ _ _) ?_ ?_
          · clear hfact hbase; go_simp
          · rintro t ⟨⟩; rfl
          · intro h; cases h
        | 9, ho =>
          injection ho with ho
          subst ho
          have h1 := slot_of (hfact 7 26 (by kernel_rfl) (by kernel_rfl))
          refine op_value_a rfl rfl (v := .bool ok) (w' := W) ?_ (Grew.refl _ _ _ _) ?_ ?_
          · clear hfact hbase; go_simp
          · rintro t ⟨⟩; rfl
          · intro h; cases h
        | 10, ho =>
          injection ho with ho
          subst ho
          refine op_value_a rfl rfl (exec_alloc_blk (W := W) rfl ⟨rfl, rfl⟩) (Grew.of_below ((Below.refl _ W).alloc (Nat.le_refl _) _)) ?_ ?_
          · rintro t ⟨⟩; exact ⟨_, rfl, hbel.size, .inl (heap_alloc_last _ _)⟩
          · intro h; cases h
        | 11, ho =>
          injection ho with ho
          subst ho
          obtain ⟨B, hB, hBl, hBo⟩ := hfact 10 7 (by kernel_rfl) (by kernel_rfl)
          have h2 : ac.eval (.tmp 34) = blkV r := hfact 8 34 (by kernel_rfl) (by kernel_rfl)
          obtain ⟨c, hc, hcs⟩ : ∃ c : Array Value, W.heap[B]? = some (.cells c 92 (0, 0)) ∧ c.size = 128 := by
            rcases hBo with h | h
            · exact ⟨_, h, size_zcb⟩
            · exact ⟨_, h, by have := HRL.out; simp [this]⟩
          have hrun := run_storeVar_row (P := Try.prog) W B 92 92 c (r.map byteV).toArray hc (by rw [sizeBlk]; have := HRL.out; simp [this]) (by have := HRL.out; simp [this, hcs]) (one_blk r)
          have hset := setRow_heap W B c (r.map byteV).toArray 92 (0, 0) hc
          refine op_skip_a rfl rfl (w' := W.setRow B (r.map byteV).toArray) ?_ ⟨rfl, rfl, rfl, by simp [World.setRow], fun k hk => ?_⟩ rfl (fun _ => ⟨B, hB, hBl, hset⟩)
          · exact exec_store_row 92 (.tmp 7) (.tmp 34) rfl hB h2 hrun
          · by_cases hkB : k = B
            · subst hkB
              rcases hBo with h | h
              · exact .inr ⟨hBl, h, hset⟩
              · exact .inl (hset.trans h.symm)
            · exact .inl (setRow_other W B k _ hkB)
        | 12, ho =>
          injection ho with ho
          subst ho
          have h1 := slot_of (hfact 9 35 (by kernel_rfl) (by kernel_rfl))
          refine op_value_a rfl rfl (v := .bool ok) (w' := W) ?_ (Grew.refl _ _ _ _) ?_ ?_
          · clear hfact hbase; go_simp
          · rintro t ⟨⟩; rfl
          · intro h; cases h
      · intro ac W hR hdf hsz hbase hfact hmarks
        obtain ⟨B, hB7, hBl, hBr⟩ := hmarks 11 (by decide) rfl
        have hA := act_putAll (vs := [.pointer (some ⟨D, 0, none⟩), .agg (wrC x).toArray, .slice (some ⟨fb, fo, none⟩) nf fc, .int .i64 j, .pointer (some ⟨fb, fo + j * 2, none⟩), .agg #[.int .i64 kd, .int .i64 by_], .tuple #[blkV r, .bool ok], .tuple #[blkV r, .bool ok], blkV r, .bool ok, .pointer (some ⟨B, 0, none⟩), undef, .bool ok]) (by (simp [putAll, Act.put]; rfl)) hdf hsz hbase ?vslots
        case vslots =>
          intro k t hkt
          have hkl := dst_lt hkt
          have hfk := hfact k t hkt
          match k, hkt, hfk with
          | 0, hkt, hfk =>
            have e : some t = some 27 := hkt.symm.trans (by kernel_rfl)
            injection e with e
            subst e
            exact hfk
          | 1, hkt, hfk =>
            have e : some t = some 28 := hkt.symm.trans (by kernel_rfl)
            injection e with e
            subst e
            exact hfk
          | 2, hkt, hfk =>
            have e : some t = some 29 := hkt.symm.trans (by kernel_rfl)
            injection e with e
            subst e
            exact hfk
          | 3, hkt, hfk =>
            have e : some t = some 30 := hkt.symm.trans (by kernel_rfl)
            injection e with e
            subst e
            exact hfk
          | 4, hkt, hfk =>
            have e : some t = some 31 := hkt.symm.trans (by kernel_rfl)
            injection e with e
            subst e
            exact hfk
          | 5, hkt, hfk =>
            have e : some t = some 32 := hkt.symm.trans (by kernel_rfl)
            injection e with e
            subst e
            exact hfk
          | 6, hkt, hfk =>
            have e : some t = some 33 := hkt.symm.trans (by kernel_rfl)
            injection e with e
            subst e
            exact hfk
          | 7, hkt, hfk =>
            have e : some t = some 26 := hkt.symm.trans (by kernel_rfl)
            injection e with e
            subst e
            exact hfk
          | 8, hkt, hfk =>
            have e : some t = some 34 := hkt.symm.trans (by kernel_rfl)
            injection e with e
            subst e
            exact hfk
          | 9, hkt, hfk =>
            have e : some t = some 35 := hkt.symm.trans (by kernel_rfl)
            injection e with e
            subst e
            exact hfk
          | 10, hkt, hfk =>
            have e : some t = some 7 := hkt.symm.trans (by kernel_rfl)
            injection e with e
            subst e
            exact hB7
          | 11, hkt, hfk => cases (show (none : Option Tmp) = some t from hkt)
          | 12, hkt, hfk =>
            have e : some t = some 8 := hkt.symm.trans (by kernel_rfl)
            injection e with e
            subst e
            exact hfk
        subst hA
        have hbel := hR.below
        have HD5 : Hid (DiskAt W D M (.slice (some ⟨g, 0, none⟩) n uc) (s.strikes ((s.under.zip fs).take j))) := HDB.out.below hbel
        have HC5 : Hid (Chg [M] w1 W) := HCB.out.trans (Chg.of_below hbel)
        have HRW : Hid (W.rangeAt B 0 (r.map byteV)) := range_row hBr
        have k0 : W.cell? ⟨wr.heap.size, 0, none⟩ = some (.int .i64 x.1) := by
          have := HRB.out 0 _ rfl
          rw [Nat.add_zero] at this
          exact (hbel.cell HLT.out).trans this
        clear hR hdf hsz hbase hfact hmarks hB7 p0 p1 q0 q1
        have hw : wrap64 ((j : Int) + 1) = ((j + 1 : Nat) : Int) := by
          have h1 := HN.out
          have h2 := HUL.out
          have h3 := HUM.out
          unfold maxLen at h3
          unfold wrap64
          omega
        have HW := Lib.hid hw
        have hzip : (s.under.zip fs).take (j + 1) = (s.under.zip fs).take j ++ [(x, (kd, by_))] := by
          rw [List.take_add_one, (List.getElem?_zip_eq_some (z := (x, (kd, by_)))).2 ⟨HX.out, HFJ.out⟩]; rfl
        have HZ := Lib.hid hzip
        clear hw hzip
        cases hok : ok with
        | false =>
          subst hok
          go_wp2
          rw [HW.out]
          refine ⟨⟨j + 1, rfl, by omega, by omega, ?_, HC5.out⟩, by simp [intOf]; omega⟩
          unfold Hid
          rw [HZ.out, Dk.strikes_snoc, Dk.strike, if_neg (by rw [← HOK.out]; simp)]
          exact HD5.out
        | true =>
          subst hok
          go_wp2_with (first
            | (refine wpl_load_blk rfl (.tmp 7) rfl B 0 rfl r HRL.out HRW.out ?_)
            | (go_at_call 42; refine (keep_any _ D M _ _ HD5.out x.1 r HRL.out).mono ?_; rintro e w7 ⟨rfl, hd7, hc7⟩; have HD7 := Lib.hid hd7; have HC7 := Lib.hid hc7; clear hd7 hc7))
          rw [HW.out]
          refine ⟨⟨j + 1, rfl, by omega, by omega, ?_, HC5.out.trans HC7.out⟩, by simp [intOf]; omega⟩
          unfold Hid
          rw [HZ.out, Dk.strikes_snoc, Dk.strike, if_pos (by rw [← HOK.out]), ← HRR.out]
          exact HD7.out
    · have hall : (s.under.zip fs).take j = s.under.zip fs := List.take_of_length_le (by have := HN.out; have := HNF.out; rw [List.length_zip]; omega)
      have HOR : Hid (n ≤ j ∨ nf ≤ j) := by unfold Hid; omega
      clear hlt
      rw [hall] at hdk
      have HDK := hdk
      have fin : ∀ (W : World), Chg [] wr W → ∃ W', W' = (((W.setCell ⟨D, 2, none⟩ (.slice none 0 0)).setCell ⟨D, 3, none⟩ (.bool false)).setCell ⟨D, 4, none⟩ (.int .i64 0)).setCell ⟨D, 5, none⟩ (.bool false) ∧ DiskAt W' D M (.slice none 0 0) (s.crash fs) ∧ Chg [D, M] w1 W' := fun W hW => by
        have hd := hdk.out.chg hW (by simp)
        have h0 := hd.empty (w' := W.setCell ⟨D, 2, none⟩ (.slice none 0 0)) rfl
        have hc : Chg [D] (W.setCell ⟨D, 2, none⟩ (.slice none 0 0)) ((((W.setCell ⟨D, 2, none⟩ (.slice none 0 0)).setCell ⟨D, 3, none⟩ (.bool false)).setCell ⟨D, 4, none⟩ (.int .i64 0)).setCell ⟨D, 5, none⟩ (.bool false)) := (((Chg.refl _ _).setCell _ _ (.inl (by simp))).setCell _ _ (.inl (by simp))).setCell _ _ (.inl (by simp))
        have c3 := h0.c3
        have c4 := h0.c4
        have c5 := h0.c5
        have o3 : ∀ k, k < 3 → ((((W.setCell ⟨D, 2, none⟩ (.slice none 0 0)).setCell ⟨D, 3, none⟩ (.bool false)).setCell ⟨D, 4, none⟩ (.int .i64 0)).setCell ⟨D, 5, none⟩ (.bool false)).cell? ⟨D, k, none⟩ = (W.setCell ⟨D, 2, none⟩ (.slice none 0 0)).cell? ⟨D, k, none⟩ := fun k hk => (World.cell?_setCell_other _ _ _ _ (by simp)).trans ((World.cell?_setCell_other _ _ _ _ (by simp)).trans (World.cell?_setCell_other _ _ _ _ (by simp)))
        refine ⟨_, rfl, h0.turn (s' := s.crash fs) hc ⟨rfl, rfl, rfl⟩ ⟨Int.le_refl _, (by show (0 : Int) ≤ 9223372036854775807; decide)⟩ (o3 0 (by omega)) (o3 1 (by omega)) (o3 2 (by omega)) ?_ ?_ ?_ (fun k => by rw [World.frozen?_setCell, World.frozen?_setCell, World.frozen?_setCell]), ?_⟩
        · exact ((World.cell?_setCell_other _ _ _ _ (by simp)).trans (World.cell?_setCell_other _ _ _ _ (by simp))).trans (World.cell?_setCell_same _ _ _ c3)
        · exact (World.cell?_setCell_other _ _ _ _ (by simp)).trans (World.cell?_setCell_same _ _ _ ((World.cell?_setCell_other _ _ _ _ (by simp)).trans c4))
        · exact World.cell?_setCell_same _ _ _ (((World.cell?_setCell_other _ _ _ _ (by simp)).trans (World.cell?_setCell_other _ _ _ _ (by simp))).trans c5)
        · exact ((hch.out.mono (by simp)).trans (hW.mono (by simp))).trans (((Chg.refl _ _).setCell _ _ (.inl (by simp))).trans (hc.mono (by simp)))
      have FIN := Lib.hid fin
      clear fin
      by_cases hlt : j < n
      · have hg : (j : Int) < (n : Int) := by omega
        have hgf : (nf : Int) ≤ (j : Int) := by have := HOR.out; omega
        obtain ⟨x, hx⟩ : ∃ x, s.under[j]? = some x := ⟨_, List.getElem?_eq_getElem (by have := HN.out; omega)⟩
        have hun := (Dk.strikes_same (s.under.zip fs) s).1
        obtain ⟨g, cap, hue, _, _, hgl, hrg⟩ := hdk.out.wr j x (by rw [hun]; exact hx)
        injection hue with u1 u2 u3
        subst u1
        have HXL : Hid (x.2.length = 128) := HD.out.ok.under x (List.mem_of_getElem? hx)
        have HRG := Lib.hid hrg
        clear u2 u3 hun hrg hx
        obtain ⟨wb, hwb⟩ : ∃ wb, wb = wr.alloc (.cells (wrC x).toArray 94) := ⟨_, rfl⟩
        have hcb : Chg [] wr wb := by rw [hwb]; exact (Chg.refl _ _).alloc _
        have hdb := hdk.out.chg hcb (by simp)
        have p2 := hdb.c2
        have p3 := hdb.c3
        have p4 := hdb.c4
        have p5 := hdb.c5
        have f2 := hdb.fz 2 (by decide)
        have f3 := hdb.fz 3 (by decide)
        have f4 := hdb.fz 4 (by decide)
        have f5 := hdb.fz 5 (by decide)
        have HWB := Lib.hid hwb
        obtain ⟨W', hW', hd', hc'⟩ := FIN.out wb hcb
        have HW' := Lib.hid hW'
        have HD' := Lib.hid hd'
        have HC' := Lib.hid hc'
        clear hW' hd' hc' hlt hwb hcb hdb
        go_wp2_with (first
          | (have hgo := HRG.out; clear hgo; refine wpl_load_wr rfl (.tmp 20) rfl g (j * 129) rfl x HXL.out HRG.out ?_; clear HRG)
          | (have hgo := HXL.out; clear hgo; refine wpl_store_last rfl 94 129 (.tmp 6) (.tmp 21) rfl _ _ rfl rfl sizeWr size_zc (size_wr x HXL.out) (one_wr x) ?_; rw [← HWB.out]; clear HXL))
        rw [← HW'.out]
        go_ret
        exact ⟨rfl, HD'.out, HC'.out⟩
      · have hg : ¬ (j : Int) < (n : Int) := by omega
        have p2 := hdk.out.c2
        have p3 := hdk.out.c3
        have p4 := hdk.out.c4
        have p5 := hdk.out.c5
        have f2 := hdk.out.fz 2 (by decide)
        have f3 := hdk.out.fz 3 (by decide)
        have f4 := hdk.out.fz 4 (by decide)
        have f5 := hdk.out.fz 5 (by decide)
        obtain ⟨W', hW', hd', hc'⟩ := FIN.out wr (Chg.refl _ _)
        have HW' := Lib.hid hW'
        have HD' := Lib.hid hd'
        have HC' := Lib.hid hc'
        clear hW' hd' hc' hlt
        go_wp2
        rw [← HW'.out]
        go_ret
        exact ⟨rfl, HD'.out, HC'.out⟩
end Go.Proofs.Ytcnhjbipncledaa
