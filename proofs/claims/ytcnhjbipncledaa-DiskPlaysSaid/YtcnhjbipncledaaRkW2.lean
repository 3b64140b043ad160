/- The document's disk: Write, walked. -/
import Derived.Test.YtcnhjbipncledaaRkM2
import Derived.Test.YtcnhjbipncledaaFull
namespace Go.Proofs.Ytcnhjbipncledaa
open Go.RowKit

theorem infoRW : (Try.prog.info? 105).map (fun i => (i.zero, i.size, i.bytes)) = some (some (.agg #[.int .i64 0, .slice none 0 0]), 2, 32) := by kernel_rfl
/-- A payload that a call has made. -/
theorem Pay.made {w w' : World} {B : Nat} {Y : List Nat} {v : Value} {b : List B8} (h : Own w' w.heap.size 5 v (b.map byteV)) (hB : B ≤ w.heap.size) (hY : ∀ y ∈ Y, y < w.heap.size) : ∃ a m c, v = .slice a m c ∧ Pay w' B Y a m c b := by
  obtain ⟨a, m, c, hv, hl, hc, hm, hb⟩ := h.reads
  refine ⟨a, m, c, hv, by simpa using hl, hc, hm, ?_⟩
  rcases hb with hb | ⟨b', off, ha, hlt, hcell⟩
  · exact .inl (by simpa using hb)
  · refine .inr ⟨b', off, ha, ?_, hlt, fun hx => ?_, fun i hi => ?_⟩
    · rcases Nat.eq_zero_or_pos (b.map byteV).length with h0 | h0
      · have := hcell; have h1 := h.1.2
        rcases h1 with ⟨h1, _⟩ | ⟨g, cap, cur, h1, h2, _⟩
        · rw [h1] at hv; injection hv with hv; rw [← hv] at ha; cases ha
        · rw [h1] at hv; injection hv with hv; rw [← hv] at ha; injection ha with ha; injection ha with ha; omega
      · obtain ⟨g, cap, e, hat⟩ := h.at_ h0
        rw [e] at hv; injection hv with hv; rw [← hv] at ha; injection ha with ha; injection ha with ha
        have := hat.lt
        omega
    · have hy := hY _ hx
      have h1 := h.1.2
      rcases h1 with ⟨h1, _⟩ | ⟨g, cap, cur, h1, h2, _⟩
      · rw [h1] at hv; injection hv with hv; rw [← hv] at ha; cases ha
      · rw [h1] at hv; injection hv with hv; rw [← hv] at ha; injection ha with ha; injection ha with ha; omega
    · have := hcell i (by simpa using hi)
      rw [List.getElem_map] at this
      exact this
theorem rkX_lt {w : World} {B : Nat} {F : List Nat} {R : Nat} {vb vu : Value} {s : Dk} (h : RkAt w B F R vb vu s) (hF : ∀ x ∈ F, x < w.heap.size) : ∀ y ∈ rkX F R vb, y < w.heap.size := fun y hy => by
  unfold rkX at hy
  simp at hy
  obtain ⟨bs, ho, _⟩ := h.blks
  rcases hy with rfl | hy | hy
  · exact h.lt.1
  · exact (ho.block_ge y hy).2
  · exact hF y hy
theorem Dk.write_go {s : Dk} {i : Int} {b : List B8} (ha : s.asked i = 0) (hb : b.length ≤ 128) : s.write i b = ((s.lay i b).spend.1, if (s.lay i b).spend.2 = true then 0 else 150) := by
  unfold Dk.write
  rw [if_neg (by simp [ha]), if_neg (by omega)]
theorem Dk.asked_in {s : Dk} {i : Int} (h : s.asked i = 0) : 0 ≤ i ∧ i < s.blocks := by
  unfold Dk.asked at h
  split at h
  · cases h
  · split at h
    · cases h
    · omega
set_option maxRecDepth 10000 in
set_option maxHeartbeats 2000000 in
theorem write_rk (w : World) (B : Nat) (F : List Nat) (R : Nat) (s : Dk) (h : RkIs w B F R s) (hF : ∀ x ∈ F, x < w.heap.size) (i : Int) (va : Option Addr) (vn vc : Nat) (b : List B8) (hv : IsBytes w (.slice va vn vc) b) (hu : s.under.length ≤ 1000000) :
    Calls Try.prog 44 #[.pointer (some ⟨R, 0, none⟩), .int .i64 i, .slice va vn vc] w fun e w' => e = .returned (.int .i64 (s.write i b).2) ∧ RkIs w' B F R (s.write i b).1 ∧ Off B F w w' := by
  obtain ⟨vb, vu, h⟩ := h
  have H := Lib.hid h
  have HA := Lib.hid (asked_rk w B F R vb vu s h i)
  have HV := Lib.hid hv
  have hvn : vn = b.length := by obtain ⟨_, _, _, e, hl, _⟩ := hv; injection e with _ e _; rw [e, hl]
  have HVN := Lib.hid hvn
  have HF := Lib.hid hF
  have HU := Lib.hid hu
  clear h hv hvn hF hu
  by_cases ha : s.asked i = 0
  · rw [ha] at HA
    by_cases hb : 128 < vn
    · have g1 : decide (128 < (vn : Int)) = true := decide_eq_true (by omega)
      have E := Lib.hid (Dk.write_big (b := b) ha (by rw [← HVN.out]; exact hb))
      clear hb
      go_enter Try.func44, Try.ntmps44
      go_wp2_with (go_at_call 59; refine HA.out.mono ?_; rintro e w1 ⟨rfl, rfl⟩)
      go_ret
      rw [E.out]
      exact ⟨rfl, ⟨vb, vu, H.out⟩, Off.of_below (Below.refl _ _)⟩
    · have g1 : decide (128 < (vn : Int)) = false := decide_eq_false (by omega)
      have HB : Hid (b.length ≤ 128) := by unfold Hid; rw [← HVN.out]; omega
      have HA0 := Lib.hid ha
      clear hb
      go_enter Try.func44, Try.ntmps44
      go_wp2_with (go_at_call 59; refine HA.out.mono ?_; rintro e w1 ⟨rfl, rfl⟩; clear HA)
      obtain ⟨⟨a, n, c, rfl, hn⟩, ⟨ua, uc, rfl, -⟩⟩ := H.out.forms
      have C1 := Lib.hid H.out.c1
      have HLT := H.out.lt
      refine wp_region_E (by kernel_rfl) [0, 1, 2, 3, 4, 5, 6, 8, 11, 12] [] [4] [7, 9] [0, 1, 2, 3, 4, 5, 6, 7, 8, 9, 10, 11, 12, 13] (by kernel_rfl) (fun w' => w'.cell? ⟨R, 1, none⟩ = some (.slice ua s.under.length uc)) ?_
      iterate 4 (refine wpE_pure rfl rfl rfl rfl (fun J hJ => ?_); go_simp; refine hJ _ ?_; clear hJ J)
      refine wpE_read rfl rfl rfl (.slice ua s.under.length uc) rfl C1.out (fun w' hc => by go_simp) rfl ?_
      iterate 2 (refine wpE_pure rfl rfl rfl rfl (fun J hJ => ?_); go_simp; refine hJ _ ?_; clear hJ J)
      refine wpE_call rfl rfl rfl (w' := w1.drew) 19 #[.slice va vn vc] (by go_simp) ?_
      refine (full_any _ b _ (HV.out.drewN 1) HB.out).mono ?_
      rintro e w2 ⟨v8, rfl, hown, hb2⟩
      have hb2 : Below w1.heap.size w1 w2 := (below_drewN (Below.refl _ w1) 1).trans hb2
      have H2 := H.out.below (w' := w2) hb2
      have hc1 := H2.c1
      obtain ⟨pa, pm, pc, rfl, hpay⟩ := Pay.made (B := B) (Y := (Value.slice ua s.under.length uc).ownBlock.toList ++ rkX F R (.slice a n c)) hown H.out.lt.2 (fun y hy => by
        rcases List.mem_append.1 hy with hy | hy
        · have := H.out.und.block y (by simpa using hy); exact this.2
        · exact rkX_lt H.out HF.out y hy)
      refine ⟨_, rfl, fun _ => hc1, ?_⟩
      refine wpE_pure rfl rfl rfl rfl (fun J hJ => ?_)
      go_simp
      refine hJ _ ?_
      clear hJ J
      obtain ⟨w3, hw3⟩ : ∃ w3, w3 = w2.alloc (.cells #[.int .i64 i, .slice pa pm pc] 105) := ⟨_, rfl⟩
      have hb3 : Below w2.heap.size w2 w3 := by rw [hw3]; exact (Below.refl _ _).alloc (Nat.le_refl _) _
      have H3 := H2.below hb3
      have k0 : w3.cell? ((⟨w2.heap.size, 0, none⟩ : Addr).add 0) = some (.int .i64 i) := by rw [hw3]; exact (cell_of_row _ _ 0 #[.int .i64 i, .slice pa pm pc] _ (0, 0) (heap_alloc_new w2 _)).trans rfl
      have k1 : w3.cell? ((⟨w2.heap.size, 0, none⟩ : Addr).add 1) = some (.slice pa pm pc) := by rw [hw3]; exact (cell_of_row _ _ 1 #[.int .i64 i, .slice pa pm pc] _ (0, 0) (heap_alloc_new w2 _)).trans rfl
      refine wpE_value rfl rfl rfl (v := .slice (some ⟨w2.heap.size, 0, none⟩) 1 1) (w' := w3) (by go_simp) (fun _ => H3.c1) ?_
      have hpay3 := hpay.keep hb3.size (fun k _ h2 _ => hb3.block k h2) (fun _ hy => .inl hy)
      obtain ⟨ri, rz, rhi, rhz, rhs, rhb⟩ : ∃ i z, Try.prog.info? 105 = some i ∧ i.zero = some z ∧ i.size = 2 ∧ i.bytes = 32 ∧ z.cells.size = 2 := by
        obtain ⟨i, hi, h1, h2, h3⟩ := info_parts infoRW
        exact ⟨i, _, hi, h1, h2, h3, rfl⟩
      have hb13 : Below w1.heap.size w1 w3 := hb2.trans (hb3.mono hb2.size)
      obtain ⟨v', w4, hrun, hfrs, hgr, hvo⟩ := run_push (P := Try.prog) (ty := 51) (t := 51) (e := 105) (bytes := 32) Try.underlying51 rhi rhz rhs rhb.1 rhb.2 H3.und (fun x hx => Nat.lt_of_lt_of_le (rkX_lt H.out HF.out x hx) hb13.size) ⟨w2.heap.size, 0, none⟩ i pa pm pc 1 (full b) k0 k1 hpay3 (by have := HU.out; omega) (by have := HU.out; unfold maxLen; omega)
      refine wpE_value rfl rfl rfl (exec_append (.tmp 21) (.tmp 26) 51 rfl (by go_simp) (by go_simp) hrun) (fun e => by cases e) ?_
      obtain ⟨xa, xc, hv', -⟩ := hfrs.form_
      obtain ⟨xn, hxn⟩ : ∃ xn, xn = (s.under ++ [(i, full b)]).length := ⟨_, rfl⟩
      rw [← hxn] at hv'
      subst hv'
      clear hxn
      have hvn' : ∀ k, (Value.slice xa xn xc).ownBlock = some k → (Value.slice ua s.under.length uc).ownBlock = some k ∨ w1.heap.size ≤ k := fun k hk => by
        rcases hvo with h | h
        · exact .inl (h ▸ hk)
        · rw [h] at hk; injection hk with hk; have := hb13.size; exact .inr (by omega)
      have huR := H.out.unR
      have hk4 : ∀ k, k < w1.heap.size → (Value.slice ua s.under.length uc).ownBlock ≠ some k → w4.heap[k]? = w1.heap[k]? := fun k h1 h2 => (hgr.block k (Nat.lt_of_lt_of_le h1 hb13.size) (fun e => h2 e.symm)).trans (hb13.block k h1)
      have hR4 : w4.heap[R]? = w1.heap[R]? := hk4 R H.out.lt.1 (fun e => (huR R e).1 rfl)
      have q := fun k => World.cell?_of_block (a := ⟨R, k, none⟩) hR4
      have qf := fun k => World.frozen?_of_block (a := ⟨R, k, none⟩) hR4
      have q1 : w4.cell? ⟨R, 1, none⟩ = some (.slice ua s.under.length uc) := (q 1).trans H.out.c1
      have qf1 : w4.frozen? ⟨R, 1, none⟩ = false := (qf 1).trans (H.out.fz 1 (by decide))
      have QQ := Lib.hid q
      have QF := Lib.hid qf
      clear q qf
      iterate 2 (refine wpE_pure rfl rfl rfl rfl (fun J hJ => ?_); go_simp; refine hJ _ ?_; clear hJ J)
      obtain ⟨w5, hw5⟩ : ∃ w5, w5 = w4.setCell ⟨R, 1, none⟩ (.slice xa xn xc) := ⟨_, rfl⟩
      refine wpE_store rfl rfl rfl (w' := w4.setCell ⟨R, 1, none⟩ (.slice xa xn xc)) (by go_simp) (fun e => by cases e) ?_
      rw [← hw5]
      have q := QQ.out
      have qf := QF.out
      have o := fun k (_ : k ≠ 1) => show w5.cell? ⟨R, k, none⟩ = w1.cell? ⟨R, k, none⟩ from (by rw [hw5]; exact World.cell?_setCell_other _ _ _ _ (by simp; try omega) : w5.cell? ⟨R, k, none⟩ = w4.cell? ⟨R, k, none⟩).trans (q k)
      have hc45 : Chg [R] w4 w5 := by rw [hw5]; exact (Chg.refl _ _).setCell _ _ (.inl (by simp))
      have hs15 : w1.heap.size ≤ w5.heap.size := Nat.le_trans hb13.size (Nat.le_trans hgr.size hc45.size)
      have hRX : R ∈ rkX F R (.slice a n c) := by unfold rkX; simp
      have H5 : RkAt w5 B F R (.slice a n c) (.slice xa xn xc) (s.lay i b) := by
        have hi := Dk.asked_in HA0.out
        refine H.out.swapU hs15 (fun k h1 h2 h3 h4 h5 => (hc45.block k (Nat.lt_of_lt_of_le h2 (Nat.le_trans hb13.size hgr.size)) (by simpa using h3)).trans (hk4 k h2 h4)) (o 0 (by decide)) (by rw [hw5]; exact World.cell?_setCell_same _ _ _ q1) ((o 2 (by decide)).trans H.out.c2) ?_ ((o 4 (by decide)).trans H.out.c4) (fun k hk => by rw [hw5, World.frozen?_setCell]; exact (qf k).trans (H.out.fz k hk)) (hfrs.keep hc45.size (fun k h1 h2 h3 => hc45.block k h2 (fun hx => by simp at hx; subst hx; exact h3 hRX)) (fun _ hy => .inl hy)) hvn' ⟨rfl, rfl⟩ ?_ ?_
        · obtain ⟨l, h1, h2⟩ := H.out.c3
          exact ⟨l, (o 3 (by decide)).trans h1, h2⟩
        · intro x hx
          rcases List.mem_append.1 hx with hx | hx
          · exact H.out.ins x hx
          · simp at hx; subst hx; exact hi
        · exact ⟨H.out.ok.pos, H.out.ok.blk, (fun x hx => by
            rcases List.mem_append.1 hx with hx | hx
            · exact H.out.ok.under x hx
            · simp at hx; subst hx; exact full_length b HB.out), H.out.ok.left⟩
      have O5 : Off B F w1 w5 := by
        refine (Off.of_below hb13).trans ((Off.of_chg (Chg.of_grown hgr) (fun x hx => ?_)).trans (Off.of_chg hc45 (fun x hx => by simp at hx; subst hx; exact H.out.lo)))
        simp at hx
        exact ⟨(H.out.und.block x hx).1, (huR x hx).2.1⟩
      have HH5 := Lib.hid H5
      have OO5 := Lib.hid O5
      have E := Lib.hid (Dk.write_go HA0.out HB.out)
      clear H5 O5 hc45 hs15 o q qf q1 qf1 hR4 hk4 hw5 hrun hfrs hgr hvo hb13 hb3 hpay3 hpay k0 k1 hw3 hc1 hb2 hown H3 H2 huR hvn' rhi rhz rhs rhb hRX
      refine wpE_nil ?_
      go_wp2_with fail
      refine (goes_rk w5 B F R _ _ _ HH5.out).mono ?_
      rintro e w6 ⟨rfl, h6, hc6⟩
      have O6 : Hid (Off B F w1 w6) := OO5.out.trans (Off.of_chg hc6 (fun x hx => by simp at hx; subst hx; exact HH5.out.lo))
      have H6 := Lib.hid h6
      clear h6 hc6
      cases hsp : (s.lay i b).spend.2 with
      | true =>
        have E2 : Hid (s.write i b = ((s.lay i b).spend.1, 0)) := by unfold Hid; rw [E.out, hsp]; rfl
        clear hsp
        go_wp2
        go_ret
        rw [E2.out]
        exact ⟨rfl, ⟨_, _, H6.out⟩, O6.out⟩
      | false =>
        have E2 : Hid (s.write i b = ((s.lay i b).spend.1, 150)) := by unfold Hid; rw [E.out, hsp]; rfl
        clear hsp
        go_wp2
        go_ret
        rw [E2.out]
        exact ⟨rfl, ⟨_, _, H6.out⟩, O6.out⟩
  · have E := Lib.hid (Dk.write_no (b := b) rfl ha)
    have hne : (s.asked i != 0) = true := by rw [bne_iff_ne]; exact ha
    clear ha
    go_enter Try.func44, Try.ntmps44
    go_wp2_with (go_at_call 59; refine HA.out.mono ?_; rintro e w1 ⟨rfl, rfl⟩)
    go_ret
    rw [E.out]
    exact ⟨rfl, ⟨vb, vu, H.out⟩, Off.of_below (Below.refl _ _)⟩
end Go.Proofs.Ytcnhjbipncledaa
