/- Writes that are under way, as they lie in memory; the disk's Flush, walked. -/
import Derived.Test.YtcnhjbipncledaaDk2
namespace Go.Proofs.Ytcnhjbipncledaa
open Go.RowKit

/-- A write, by value. -/
def wrC (x : Int × List B8) : List Value := .int .i64 x.1 :: x.2.map byteV
theorem undV_eq (l : List (Int × List B8)) : undV l = l.flatMap wrC := rfl
theorem undV_at : ∀ (l : List (Int × List B8)), (∀ x ∈ l, x.2.length = 128) → ∀ (i : Nat) (x : Int × List B8), l[i]? = some x → ∀ (j : Nat) (v : Value), (wrC x)[j]? = some v → (undV l)[i * 129 + j]? = some v := by
  intro l
  induction l with
  | nil => intro _ i x hi; simp at hi
  | cons y l ih =>
    intro hl i x hi j v hj
    have hy : (wrC y).length = 129 := by simp [wrC, hl y (List.mem_cons_self ..)]
    have e : undV (y :: l) = wrC y ++ undV l := by simp [undV_eq]
    rw [e]
    cases i with
    | zero =>
      simp at hi
      subst hi
      have := (List.getElem?_eq_some_iff.1 hj).1
      rw [Nat.zero_mul, Nat.zero_add, List.getElem?_append_left this]
      exact hj
    | succ i =>
      simp at hi
      rw [List.getElem?_append_right (by omega), hy, show (i + 1) * 129 + j - 129 = i * 129 + j by omega]
      exact ih (fun z hz => hl z (List.mem_cons_of_mem _ hz)) i x hi j v hj
theorem infoWr : (Try.prog.info? 94).map (fun i => (i.zero, i.size, i.bytes)) = some (some (.agg (wrC (0, zeros 128)).toArray), 129, 136) := by kernel_rfl
theorem sizeWr : (Try.prog.info? 94).map (·.size) = some 129 := by
  obtain ⟨i, hi, _, hs, _⟩ := info_parts infoWr
  rw [hi]; simp [hs]
theorem under_wr : ∃ fs, Try.prog.underlying 94 = some (.struct fs) := ⟨_, Try.underlying94⟩
theorem load_wr (W : World) (B o : Nat) (x : Int × List B8) (hx : x.2.length = 128) (h : W.rangeAt B o (wrC x)) : (Instr.loadAt 94 (.pointer (some ⟨B, o, none⟩))).run Try.prog W = .ok (.agg (wrC x).toArray) W := by
  obtain ⟨fs, hf⟩ := under_wr
  exact run_loadAt_mid (P := Try.prog) W B o 94 (wrC x) _ h hf rfl (by rw [sizeWr]; simp [wrC, hx])
theorem exec_load_wr {o : Oper} {a : Act} {W : World} (x : Operand) (ho : o.op = .load 94 x) (B off : Nat) (hx : a.eval x = .pointer (some ⟨B, off, none⟩)) (y : Int × List B8) (hy : y.2.length = 128) (h : W.rangeAt B off (wrC y)) :
    (execOp a.eval o).run Try.prog W = .ok (.value (.agg (wrC y).toArray)) W := by
  unfold execOp
  simp only [ho, hx, Sem.run_bind, load_wr W B off y hy h, Result.andThen_ok, Sem.run_pure]
theorem wpl_load_wr {ops : Array Oper} {rest : List Oper} {o : Oper} {a : Act} {w : World} {Q : Exit → Act → World → Prop} (hgd : o.guard = none) (x : Operand) (ho : o.op = .load 94 x) (B off : Nat) (hx : a.eval x = .pointer (some ⟨B, off, none⟩)) (y : Int × List B8) (hy : y.2.length = 128) (h : w.rangeAt B off (wrC y))
    (hk : wpList Try.prog ops Q rest (a.put o.dst (.agg (wrC y).toArray)) w) : wpList Try.prog ops Q (o :: rest) a w := by
  obtain ⟨fs, hf⟩ := under_wr
  exact wpList_load_mid hgd 94 x ho B off hx (wrC y) _ h hf rfl (by rw [sizeWr]; simp [wrC, hy]) hk
/-- A whole value into the block that was made last. -/
theorem wpl_store_last {ops : Array Oper} {rest : List Oper} {o : Oper} {a : Act} {w : World} {Q : Exit → Act → World → Prop} (hgd : o.guard = none) (t : TypeId) (n : Nat) (x y : Operand) (ho : o.op = .store t x y) (c c' : Array Value)
    (hx : a.eval x = .pointer (some ⟨w.heap.size, 0, none⟩)) (hy : a.eval y = .agg c') (hi : (Try.prog.info? t).map (·.size) = some n) (hc : c.size = n) (hc' : c'.size = n) (h1 : c'.all (·.oneCell') = true)
    (hk : wpList Try.prog ops Q rest (a.put o.dst undef) (w.alloc (.cells c' t))) : wpList Try.prog ops Q (o :: rest) a (w.alloc (.cells c t)) := by
  refine wpList_plain hgd fun K hK => ?_
  have hrun := run_storeAt_new (P := Try.prog) w t c c' (by rw [hi, hc']) (by omega) h1
  unfold Oper.wp execOp
  simp only [ho, hx, hy, Sem.run_bind, hrun, Result.andThen_ok, Sem.run_pure]
  exact hK _ _ hk
theorem one_wr (x : Int × List B8) : (wrC x).toArray.all (·.oneCell') = true := all_oneCell_toArray (by
  intro v hv
  rcases List.mem_cons.1 hv with rfl | hv
  · rfl
  · exact one_byteV v hv)
theorem size_wr (x : Int × List B8) (hx : x.2.length = 128) : (wrC x).toArray.size = 129 := by simp [wrC, hx]
/-- The i-th write lies there. -/
theorem DiskAt.wr {w : World} {D M : Nat} {u : Value} {s : Dk} (h : DiskAt w D M u s) (i : Nat) (x : Int × List B8) (hi : s.under[i]? = some x) : ∃ g cap, u = .slice (some ⟨g, 0, none⟩) s.under.length cap ∧ s.under.length ≤ cap ∧ cap ≤ maxLen ∧ g < w.heap.size ∧ w.rangeAt g (i * 129) (wrC x) := by
  obtain ⟨hl, hr⟩ := h.row
  rcases hr with ⟨_, h0⟩ | ⟨g, cap, cur, rfl, _, hh, hn, hm, hs, ht⟩
  · have := (List.getElem?_eq_some_iff.1 hi).1; omega
  · refine ⟨g, cap, rfl, hn, hm, (Array.getElem?_eq_some_iff.1 hh).1, fun j v hj => ?_⟩
    have h1 := undV_at s.under h.ok.under i x hi j v hj
    have h2 := (List.getElem?_eq_some_iff.1 h1).1
    rw [cell_of_row w g _ cur 94 (0, 0) hh, ← h1, ← ht, List.getElem?_take, if_pos (by omega)]
    simp
theorem DiskAt.len {w : World} {D M : Nat} {u : Value} {s : Dk} (h : DiskAt w D M u s) : ∃ a cap, u = .slice a s.under.length cap ∧ s.under.length ≤ cap ∧ cap ≤ maxLen := by
  obtain ⟨hl, hr⟩ := h.row
  rcases hr with ⟨rfl, h0⟩ | ⟨g, cap, cur, rfl, _, hh, hn, hm, hs, ht⟩
  · exact ⟨none, 0, by rw [h0], by omega, Nat.zero_le _⟩
  · exact ⟨_, _, rfl, hn, hm⟩
def Dk.puts (s : Dk) (l : List (Int × List B8)) : Dk := l.foldl (fun s x => s.put x.1 x.2) s
theorem Dk.puts_same (l : List (Int × List B8)) : ∀ (s : Dk), (s.puts l).under = s.under ∧ (s.puts l).armed = s.armed ∧ (s.puts l).left = s.left ∧ (s.puts l).down = s.down ∧ (s.puts l).blocks = s.blocks := by
  induction l with
  | nil => intro s; exact ⟨rfl, rfl, rfl, rfl, rfl⟩
  | cons x l ih => intro s; exact ih (s.put x.1 x.2)
theorem Dk.puts_snoc (s : Dk) (l : List (Int × List B8)) (x : Int × List B8) : s.puts (l ++ [x]) = (s.puts l).put x.1 x.2 := by simp [Dk.puts, List.foldl_append]
def Dk.flushed (s : Dk) : Dk := { s.puts s.under with under := [] }
def Dk.flush (s : Dk) : Dk × Int :=
  if s.down then (s, 150) else if s.spend.2 then (s.spend.1.flushed, 0) else (s.spend.1, 150)
theorem DiskAt.empty {w w' : World} {D M : Nat} {u : Value} {s : Dk} (h : DiskAt w D M u s) (hw : w' = w.setCell ⟨D, 2, none⟩ (.slice none 0 0)) : DiskAt w' D M (.slice none 0 0) { s with under := [] } := by
  obtain ⟨f, hf, hb⟩ := h.map
  obtain ⟨n1, n2⟩ := h.ne
  have hc : Chg [D] w w' := by rw [hw]; exact (Chg.refl _ _).setCell _ _ (.inl (by simp))
  have o := fun k (hk : k ≠ 2) => show w'.cell? ⟨D, k, none⟩ = w.cell? ⟨D, k, none⟩ by rw [hw]; exact World.cell?_setCell_other _ _ _ _ (by simp)
  have fz := fun k => show w'.frozen? ⟨D, k, none⟩ = w.frozen? ⟨D, k, none⟩ by rw [hw, World.frozen?_setCell]
  refine ⟨(o 0 (by decide)).trans h.c0, (o 1 (by decide)).trans h.c1, ?_, (o 3 (by decide)).trans h.c3, (o 4 (by decide)).trans h.c4, (o 5 (by decide)).trans h.c5, fun k hk => (fz k).trans (h.fz k hk), ⟨f, hf.chg hc (by simpa using n1), hb⟩, ⟨rfl, .inl ⟨rfl, rfl⟩⟩, (fun j hj => by cases hj), ⟨h.ok.pos, h.ok.blk, by simp, h.ok.left⟩⟩
  rw [hw]
  exact World.cell?_setCell_same _ _ _ h.c2
set_option maxRecDepth 10000 in
set_option maxHeartbeats 2000000 in
theorem flush_any (w : World) (D M : Nat) (u : Value) (s : Dk) (h : DiskAt w D M u s) : Calls Try.prog 16 #[.pointer (some ⟨D, 0, none⟩)] w fun e w' => e = .returned (.int .i64 s.flush.2) ∧ (∃ u', DiskAt w' D M u' s.flush.1 ∧ (u' = u ∨ u' = .slice none 0 0)) ∧ Chg [D, M] w w' := by
  have HD := Lib.hid h
  have HA := Lib.hid (asked_any w D M u s h 0)
  clear h
  unfold Dk.flush
  by_cases hd : s.down = true
  · rw [if_pos hd]
    have ha : s.asked 0 = 150 := by unfold Dk.asked; rw [if_pos hd]
    rw [ha] at HA
    clear ha
    go_enter Try.func16, Try.ntmps16
    go_wp2_with (go_at_call 40; refine HA.out.mono ?_; rintro e w1 ⟨rfl, rfl⟩)
    go_ret
    exact ⟨rfl, ⟨u, HD.out, .inl rfl⟩, Chg.refl _ _⟩
  · rw [if_neg hd]
    have ha : s.asked 0 = 0 := by
      have := HD.out.ok.pos
      unfold Dk.asked
      rw [if_neg hd, if_neg (by omega)]
    rw [ha] at HA
    clear ha
    obtain ⟨s1, hs1⟩ : ∃ s1, s1 = s.spend.1 := ⟨_, rfl⟩
    obtain ⟨ok, hok⟩ : ∃ ok, ok = s.spend.2 := ⟨_, rfl⟩
    have HS := Lib.hid (spend_any w D M u s HD.out)
    rw [← hs1, ← hok] at HS ⊢
    clear hs1 hok
    cases ok with
    | false =>
      rw [if_neg (by simp)]
      go_enter Try.func16, Try.ntmps16
      go_wp2_with (first | (go_at_call 40; refine HA.out.mono ?_; rintro e w1 ⟨rfl, rfl⟩; clear HA) | (go_at_call 41; refine HS.out.mono ?_; rintro e w2 ⟨rfl, hd2, hc2⟩; have HD2 := Lib.hid hd2; have HC2 := Lib.hid hc2; clear hd2 hc2 HS))
      go_ret
      exact ⟨rfl, ⟨u, HD2.out, .inl rfl⟩, HC2.out.mono (by simp)⟩
    | true =>
      rw [if_pos rfl]
      go_enter Try.func16, Try.ntmps16
      go_wp2_with (first | (go_at_call 40; refine HA.out.mono ?_; rintro e w1 ⟨rfl, rfl⟩; clear HA) | (go_at_call 41; refine HS.out.mono ?_; rintro e w2 ⟨rfl, hd2, hc2⟩; obtain ⟨ua, uc, rfl, hul, hum⟩ := hd2.len; have HUL := Lib.hid hul; have HUM := Lib.hid hum; have q2 := hd2.c2; have HD2 := Lib.hid hd2; have HC2 := Lib.hid hc2; clear hd2 hc2 HS hul hum))
      obtain ⟨n, hn⟩ : ∃ n, n = s1.under.length := ⟨_, rfl⟩
      rw [← hn] at q2 HD2 ⊢
      have HN := Lib.hid hn
      have HDN : Hid (∀ u', u' = Value.slice ua n uc → (∃ j, u'.ownBlock = some j) ∨ u'.ownBlock = none) := fun u' _ => by cases h : u'.ownBlock; exact .inr rfl; exact .inl ⟨_, rfl⟩
      clear HD hn HDN
      go_loopw [5, 19] (fun _ i wr => ∃ j : Nat, i = .int .i64 j ∧ j ≤ n ∧ Hid (DiskAt wr D M (.slice ua n uc) (s1.puts (s1.under.take j))) ∧ Hid (Chg [M] w2 wr)) (fun _ i _ => n - (intOf i).toNat)
      case atStart => exact ⟨0, rfl, Nat.zero_le _, HD2.out, Chg.refl _ _⟩
      case round =>
        obtain ⟨j, rfl, hj, hdk, hch⟩ := hrel
        by_cases hlt : j < n
        · have hg : (j : Int) < (n : Int) := by omega
          obtain ⟨x, hx⟩ : ∃ x, s1.under[j]? = some x := ⟨_, List.getElem?_eq_getElem (by have := HN.out; omega)⟩
          have hun := (Dk.puts_same (s1.under.take j) s1).1
          obtain ⟨g, cap, hue, _, _, hgl, hrg⟩ := hdk.out.wr j x (by rw [hun]; exact hx)
          injection hue with u1 u2 u3
          subst u1
          have HRG := Lib.hid hrg
          have hxl : x.2.length = 128 := HD2.out.ok.under x (List.mem_of_getElem? hx)
          have HXL := Lib.hid hxl
          have HX := Lib.hid hx
          clear u2 u3 hun hrg hxl hx
          obtain ⟨wb, hwb⟩ : ∃ wb, wb = wr.alloc (.cells (wrC x).toArray 94) := ⟨_, rfl⟩
          have hk0 : wb.cell? ⟨wr.heap.size, 0, none⟩ = some (.int .i64 x.1) := by
            have := range_new wr (wrC x) 94 0 _ rfl
            rw [hwb]; exact this
          have HK1 : Hid (wb.rangeAt wr.heap.size 1 (x.2.map byteV)) := fun i v hv => by
            have := range_new wr (wrC x) 94 (i + 1) v (by simpa [wrC] using hv)
            rw [hwb, show 1 + i = 0 + (i + 1) by omega]; exact this
          have HDB : Hid (DiskAt wb D M (.slice (some ⟨g, 0, none⟩) n uc) (s1.puts (s1.under.take j))) := hdk.out.below (by rw [hwb]; exact (Below.refl _ _).alloc (Nat.le_refl _) _)
          have HCB : Hid (Chg [M] w2 wb) := by unfold Hid; rw [hwb]; exact hch.out.alloc _
          have HWB := Lib.hid hwb
          clear hwb
          go_wp2_with (first
            | (refine wpl_load_wr rfl (.tmp 21) rfl g (j * 129) rfl x HXL.out HRG.out ?_)
            | (refine wpl_store_last rfl 94 129 (.tmp 5) (.tmp 22) rfl _ _ rfl rfl sizeWr (by kernel_rfl) (size_wr x HXL.out) (one_wr x) ?_; rw [← HWB.out])
            | (refine wpl_load_blk rfl (.tmp 26) rfl wr.heap.size 1 rfl x.2 HXL.out HK1.out ?_)
            | (go_at_call 42; refine (keep_any _ D M _ _ HDB.out x.1 x.2 HXL.out).mono ?_; rintro e w5 ⟨rfl, hd5, hc5⟩; have HD5 := Lib.hid hd5; have HC5 := Lib.hid hc5; clear hd5 hc5))
          have hw : wrap64 ((j : Int) + 1) = ((j + 1 : Nat) : Int) := by
            have h1 := HN.out
            have h2 := HUL.out
            have h3 := HUM.out
            unfold maxLen at h3
            unfold wrap64
            omega
          rw [hw]
          refine ⟨⟨j + 1, rfl, hlt, ?_, HCB.out.trans HC5.out⟩, by simp [intOf]; omega⟩
          have h := HD5.out
          rw [← Dk.puts_snoc] at h
          rw [List.take_add_one, HX.out]
          exact h
        · have hg : ¬ (j : Int) < (n : Int) := by omega
          have e : j = n := by omega
          subst e
          have c2 := hdk.out.c2
          have f2 := hdk.out.fz 2 (by decide)
          go_wp2
          go_ret
          have h := hdk.out.empty (w' := wr.setCell ⟨D, 2, none⟩ (.slice none 0 0)) rfl
          rw [HN.out, List.take_length] at h
          refine ⟨rfl, ⟨_, h, .inr rfl⟩, ((HC2.out.mono (by simp)).trans (hch.out.mono (by simp))).trans ((Chg.refl _ _).setCell _ _ (.inl (by simp)))⟩
end Go.Proofs.Ytcnhjbipncledaa
