/- The disk's Read, walked. -/
import Derived.Test.YtcnhjbipncledaaDk5
namespace Go.Proofs.Ytcnhjbipncledaa
open Go.RowKit

/-- A whole value into a block that is known whole. -/
theorem wpl_store_row {ops : Array Oper} {rest : List Oper} {o : Oper} {a : Act} {w : World} {Q : Exit → Act → World → Prop} (hgd : o.guard = none) (t : TypeId) (n : Nat) (x y : Operand) (ho : o.op = .store t x y) (g : Nat) (c c' : Array Value)
    (hx : a.eval x = .pointer (some ⟨g, 0, none⟩)) (hy : a.eval y = .agg c') (hg : w.heap[g]? = some (.cells c t (0, 0))) (hi : (Try.prog.info? t).map (·.size) = some n) (hc : c.size = n) (hc' : c'.size = n) (h1 : c'.all (·.oneCell') = true)
    (hk : ∀ w', w'.heap[g]? = some (.cells c' t (0, 0)) → Chg [g] w w' → wpList Try.prog ops Q rest (a.put o.dst undef) w') : wpList Try.prog ops Q (o :: rest) a w := by
  refine wpList_plain hgd fun K hK => ?_
  have hrun := run_storeVar_row (P := Try.prog) w g t t c c' hg (by rw [hi, hc']) (by omega) h1
  unfold Oper.wp execOp
  simp only [ho, hx, hy, Instr.storeAt, Instr.sureAddr, Sem.run_bind, Sem.run_pure, Result.andThen_ok, hrun]
  exact hK _ _ (hk _ (setRow_heap w g c c' t (0, 0) hg) ⟨rfl, rfl, rfl, by simp [World.setRow], fun k hk hn => setRow_other w g k c' (fun e => hn (by simp [e]))⟩)
theorem range_row {w : World} {B : Nat} {cs : List Value} {t : TypeId} (h : w.heap[B]? = some (.cells cs.toArray t (0, 0))) : w.rangeAt B 0 cs := fun j v hv => by
  rw [Nat.zero_add, cell_of_row w _ j _ t (0, 0) h]
  simpa using hv
def Dk.cur (s : Dk) (i : Int) (l : List (Int × List B8)) : List B8 := l.foldl (fun c x => if x.1 = i then x.2 else c) (s.blk i)
theorem Dk.cur_snoc (s : Dk) (i : Int) (l : List (Int × List B8)) (x : Int × List B8) : s.cur i (l ++ [x]) = if x.1 = i then x.2 else s.cur i l := by simp [Dk.cur, List.foldl_append]
theorem Dk.cur_len (s : Dk) (hs : s.Ok) (i : Int) : ∀ (l : List (Int × List B8)), (∀ x ∈ l, x.2.length = 128) → (s.cur i l).length = 128 := by
  intro l h
  unfold Dk.cur
  have : ∀ (l : List (Int × List B8)) (c : List B8), c.length = 128 → (∀ x ∈ l, x.2.length = 128) → (l.foldl (fun c x => if x.1 = i then x.2 else c) c).length = 128 := by
    intro l
    induction l with
    | nil => intro c hc _; exact hc
    | cons x l ih =>
      intro c hc h
      rw [List.foldl_cons]
      refine ih _ ?_ (fun y hy => h y (List.mem_cons_of_mem _ hy))
      split
      · exact h x (List.mem_cons_self ..)
      · exact hc
  exact this l _ (hs.blk i) h
def Dk.read (s : Dk) (i : Int) : List B8 × Int := if s.asked i ≠ 0 then ([], s.asked i) else (s.cur i s.under, 0)
set_option maxRecDepth 10000 in
set_option maxHeartbeats 2000000 in
theorem read_any (w : World) (D M : Nat) (u : Value) (s : Dk) (h : DiskAt w D M u s) (i : Int) : Calls Try.prog 21 #[.pointer (some ⟨D, 0, none⟩), .int .i64 i] w fun e w' => ∃ v, e = .returned (.tuple #[v, .int .i64 (s.read i).2]) ∧ Own w' w.heap.size 5 v ((s.read i).1.map byteV) ∧ Below w.heap.size w w' := by
  have HD := Lib.hid h
  have HA := Lib.hid (asked_any w D M u s h i)
  obtain ⟨ua, uc, rfl, hul, hum⟩ := h.len
  have c1 := h.c1
  have c2 := h.c2
  have HL := Lib.hid (h.ok.blk i)
  have HUL := Lib.hid hul
  have HUM := Lib.hid hum
  clear h hul hum
  unfold Dk.read
  by_cases ha : s.asked i = 0
  · rw [if_neg (by simp [ha])]
    rw [ha] at HA
    clear ha
    obtain ⟨n, hn⟩ : ∃ n, n = s.under.length := ⟨_, rfl⟩
    rw [← hn] at c2 HD
    have HN := Lib.hid hn
    obtain ⟨b, hb⟩ : ∃ b, b = s.blk i := ⟨_, rfl⟩
    rw [← hb] at HL
    have HB := Lib.hid hb
    obtain ⟨cs, hcs⟩ : ∃ cs, cs = (b.map byteV).toArray := ⟨_, rfl⟩
    have HCS : Hid (blkV b = .agg cs ∧ cs = (b.map byteV).toArray) := by unfold Hid; rw [hcs]; exact ⟨rfl, rfl⟩
    have HSZ : Hid (cs.size = 128 ∧ cs.all (·.oneCell') = true) := by unfold Hid; rw [hcs]; exact ⟨by simp [HL.out], one_blk b⟩
    clear hb hcs hn
    go_enter Try.func21, Try.ntmps21
    go_wp2_with (first
      | (go_at_call 40; refine HA.out.mono ?_; rintro e w1 ⟨rfl, rfl⟩; clear HA; have d2 : (w1.alloc (.cells cs 92)).cell? ⟨D, 2, none⟩ = some (.slice ua n uc) := (((Chg.refl [] w1).alloc _).cell D 2 (cell_lt c2) (by simp)).trans c2)
      | (refine wpl_look rfl (.tmp 19) (.tmp 20) rfl HD.out rfl rfl ?_; rw [← HB.out, HCS.out.1])
      | (refine wpl_store_last rfl 92 128 (.tmp 7) (.tmp 21) rfl _ _ rfl rfl sizeBlk size_zcb HSZ.out.1 HSZ.out.2 ?_))
    have HCU := fun j (h : j ≤ n) => s.cur_len HD.out.ok i (s.under.take j) (fun x hx => HD.out.ok.under x (List.mem_of_mem_take hx))
    have HCL := Lib.hid HCU
    clear HCU
    go_loopw [9, 27] (fun _ k wr => ∃ j : Nat, k = .int .i64 j ∧ j ≤ n ∧ Hid (wr.heap[w1.heap.size]? = some (.cells ((s.cur i (s.under.take j)).map byteV).toArray 92 (0, 0))) ∧ Hid (Below w1.heap.size w1 wr)) (fun _ k _ => n - (intOf k).toNat)
    case atStart =>
      refine ⟨0, rfl, Nat.zero_le _, ?_, (Below.refl _ _).alloc (Nat.le_refl _) _⟩
      unfold Hid
      rw [heap_alloc_last, HCS.out.2, HB.out]
      rfl
    case round =>
      obtain ⟨j, rfl, hj, hbx, hbl⟩ := hrel
      by_cases hlt : j < n
      · have hg : (j : Int) < (n : Int) := by omega
        obtain ⟨x, hx⟩ : ∃ x, s.under[j]? = some x := ⟨_, List.getElem?_eq_getElem (by have := HN.out; omega)⟩
        obtain ⟨g, cap, hue, _, _, hgl, hrg⟩ := (HD.out.below hbl.out).wr j x hx
        injection hue with u1 u2 u3
        subst u1
        have HRG := Lib.hid hrg
        have hxl : x.2.length = 128 := HD.out.ok.under x (List.mem_of_getElem? hx)
        have HXL := Lib.hid hxl
        have HX := Lib.hid hx
        clear u2 u3 hrg hxl hx
        obtain ⟨wb, hwb⟩ : ∃ wb, wb = wr.alloc (.cells (wrC x).toArray 94) := ⟨_, rfl⟩
        have hk0 : wb.cell? ⟨wr.heap.size, 0, none⟩ = some (.int .i64 x.1) := by
          have := range_new wr (wrC x) 94 0 _ rfl
          rw [hwb]; exact this
        have HK1 : Hid (wb.rangeAt wr.heap.size 1 (x.2.map byteV)) := fun i v hv => by
          have := range_new wr (wrC x) 94 (i + 1) v (by simpa [wrC] using hv)
          rw [hwb, show 1 + i = 0 + (i + 1) by omega]; exact this
        have hlb := (Array.getElem?_eq_some_iff.1 hbx.out).1
        have HBX : Hid (wb.heap[w1.heap.size]? = some (.cells ((s.cur i (s.under.take j)).map byteV).toArray 92 (0, 0))) := by unfold Hid; rw [hwb]; exact (Below.heap_alloc _ _ _ hlb).trans hbx.out
        have HBL : Hid (Below w1.heap.size w1 wb) := by unfold Hid; rw [hwb]; exact hbl.out.alloc hbl.out.size _
        have HWB := Lib.hid hwb
        clear hwb
        have hw : wrap64 ((j : Int) + 1) = ((j + 1 : Nat) : Int) := by
          have h1 := HN.out
          have h2 := HUL.out
          have h3 := HUM.out
          unfold maxLen at h3
          unfold wrap64
          omega
        have HW := Lib.hid hw
        clear hw
        by_cases hxi : x.1 = i
        · have hxe : (x.1 == i) = true := by rw [beq_iff_eq]; exact hxi
          have HXI := Lib.hid hxi
          clear hxi
          go_wp2_with (first
            | (refine wpl_load_wr rfl (.tmp 29) rfl g (j * 129) rfl x HXL.out HRG.out ?_)
            | (refine wpl_store_last rfl 94 129 (.tmp 9) (.tmp 30) rfl _ _ rfl rfl sizeWr size_zc (size_wr x HXL.out) (one_wr x) ?_; rw [← HWB.out])
            | (refine wpl_load_blk rfl (.tmp 35) rfl wr.heap.size 1 rfl x.2 HXL.out HK1.out ?_)
            | (refine wpl_store_row rfl 92 128 (.tmp 7) (.tmp 36) rfl w1.heap.size _ (x.2.map byteV).toArray rfl rfl HBX.out sizeBlk (by have := HCL.out j hj; simp [this]) (by have := HXL.out; simp [this]) (one_blk x.2) ?_; intro w5 hb5 hc5; have HB5 := Lib.hid hb5; have HC5 := Lib.hid hc5; clear hb5 hc5))
          rw [HW.out]
          refine ⟨⟨j + 1, rfl, hlt, ?_, HBL.out.trans (HC5.out.below HBL.out.size (by simp))⟩, by simp [intOf]; omega⟩
          unfold Hid
          rw [List.take_add_one, HX.out, show (some x).toList = [x] from rfl, Dk.cur_snoc, if_pos HXI.out]
          exact HB5.out
        · have hxe : (x.1 == i) = false := by rw [beq_eq_false_iff_ne]; exact hxi
          have HXI := Lib.hid hxi
          clear hxi
          go_wp2_with (first
            | (refine wpl_load_wr rfl (.tmp 29) rfl g (j * 129) rfl x HXL.out HRG.out ?_)
            | (refine wpl_store_last rfl 94 129 (.tmp 9) (.tmp 30) rfl _ _ rfl rfl sizeWr size_zc (size_wr x HXL.out) (one_wr x) ?_; rw [← HWB.out]))
          rw [HW.out]
          refine ⟨⟨j + 1, rfl, hlt, ?_, HBL.out⟩, by simp [intOf]; omega⟩
          unfold Hid
          rw [List.take_add_one, HX.out, show (some x).toList = [x] from rfl, Dk.cur_snoc, if_neg HXI.out]
          exact HBX.out
      · have hg : ¬ (j : Int) < (n : Int) := by omega
        have e : j = n := by omega
        have hall : s.under.take j = s.under := by rw [e, HN.out]; exact List.take_length
        rw [hall] at hbx
        have HRR : Hid (wr.rangeAt w1.heap.size 0 ((s.cur i s.under).map byteV)) := range_row hbx.out
        have hcl : (s.cur i s.under).length = 128 := s.cur_len HD.out.ok i _ HD.out.ok.under
        have HCL2 := Lib.hid hcl
        have HLB : Hid (w1.heap.size < wr.heap.size) := (Array.getElem?_eq_some_iff.1 hbx.out).1
        clear hcl e hall hj
        go_wp2_with (at_builtin; refine wpl_append rfl (.tmp 38) (.tmp 39) 30 rfl elemU8 rfl (Own.empty_ (base := w1.heap.size) rfl (Nat.le_of_lt HLB.out)) rfl ((range_reads HCL2.out HRR.out HLB.out).alloc _) one_byteV (by rw [List.length_map, HCL2.out]; decide) (by rw [List.length_map, HCL2.out]; decide) ?_; intro v' w5 hown5 hg5 _; rw [List.nil_append] at hown5; have HO5 := Lib.hid hown5; have HB5 : Hid (Below w1.heap.size w1 w5) := below_grown (hbl.out.alloc hbl.out.size _) (Own.empty_ (base := w1.heap.size) rfl (Nat.le_of_lt HLB.out)) hg5 (Nat.le_refl _); clear hown5 hg5)
        refine bodyPost_ret (v := .tuple #[v', .int .i64 0]) (by simp [results, Try.results21, go_sem]) rfl ?_
        exact ⟨v', rfl, HO5.out, HB5.out⟩
  · rw [if_pos ha]
    obtain ⟨er, her⟩ : ∃ er, er = s.asked i := ⟨_, rfl⟩
    rw [← her] at HA ha ⊢
    have hg : (er != 0) = true := by rw [bne_iff_ne]; exact ha
    clear her ha
    go_enter Try.func21, Try.ntmps21
    go_wp2_with (go_at_call 40; refine HA.out.mono ?_; rintro e w1 ⟨rfl, rfl⟩)
    refine bodyPost_ret (v := .tuple #[.slice none 0 0, .int .i64 er]) (by simp [results, Try.results21, go_sem]) rfl ?_
    exact ⟨_, rfl, Own.nil_ (Nat.le_refl _), Below.refl _ _⟩
end Go.Proofs.Ytcnhjbipncledaa
