/- The document's disk: Crash, walked. -/
import Derived.Test.YtcnhjbipncledaaRkW5
namespace Go.Proofs.Ytcnhjbipncledaa
open Go.RowKit

/-- How many bytes of a write a fate lets through, as the document reckons. -/
def fateI (kind n : Int) : Int := if kind = 2 then n else if kind = 1 then 128 else 0
theorem fateN_lt (n : Int) (i : Nat) (hi : i < 128) : ((i : Int) < n ↔ i < fateN n) ∧ fateN n ≤ 128 := by
  unfold fateN
  split
  · omega
  · split <;> omega
theorem torn_at (b old : List B8) (m i : Nat) (hb : b.length = 128) (ho : old.length = 128) (hm : m ≤ 128) (hi : i < 128) : (torn b old m).take (i + 1) = (torn b old m).take i ++ [if i < m then b.getD i 0#8 else old.getD i 0#8] := by
  have hl := torn_length b old m hb ho
  rw [List.take_add_one, List.getElem?_eq_getElem (by omega)]
  congr 1
  simp only [Option.toList_some, List.cons.injEq, and_true]
  have hml : (b.take m).length = m := by simp; omega
  unfold torn
  by_cases h : i < m
  · rw [if_pos h, List.getElem_append_left (by omega), List.getElem_take, List.getD_eq_getElem?_getD, List.getElem?_eq_getElem (by omega)]; rfl
  · rw [if_neg h, List.getElem_append_right (by omega), List.getElem_drop, List.getD_eq_getElem?_getD, List.getElem?_eq_getElem (by omega)]
    simp only [hml, Option.getD_some]
    congr 1
    omega
theorem Dk.put_old (s : Dk) (k : Int) : s.put k (s.blk k) = s := by
  unfold Dk.put
  cases s
  congr 1
  funext j
  simp only
  split
  · rename_i h; rw [h]
  · rfl
theorem strike_put (s : Dk) (hs : s.Ok) (x : Int × List B8) (hx : x.2.length = 128) (kind n : Int) : s.strike (x, (kind, n)) = s.put x.1 (torn x.2 (s.blk x.1) (fateN (fateI kind n))) := by
  by_cases k1 : kind = 1
  · subst k1
    have e : torn x.2 (s.blk x.1) (fateN 128) = x.2 := by
      show x.2.take 128 ++ (s.blk x.1).drop 128 = x.2
      rw [List.take_of_length_le (by omega), List.drop_of_length_le (by rw [hs.blk]; exact Nat.le_refl _), List.append_nil]
    have e1 : s.ends x 1 n = (x.2, true) := by unfold Dk.ends; rw [if_pos rfl]
    show (if (s.ends x 1 n).2 then s.put x.1 (s.ends x 1 n).1 else s) = _
    rw [e1, if_pos rfl, show fateI 1 n = 128 from rfl, e]
  · by_cases k2 : kind = 2
    · subst k2
      have e1 : s.ends x 2 n = (torn x.2 (s.blk x.1) (fateN n), true) := by unfold Dk.ends; rw [if_neg k1, if_pos rfl]
      show (if (s.ends x 2 n).2 then s.put x.1 (s.ends x 2 n).1 else s) = _
      rw [e1, if_pos rfl, show fateI 2 n = n from rfl]
    · have e : torn x.2 (s.blk x.1) (fateN 0) = s.blk x.1 := by
        show x.2.take 0 ++ (s.blk x.1).drop 0 = _
        simp
      have e1 : s.ends x kind n = (zeros 128, false) := by unfold Dk.ends; rw [if_neg k1, if_neg k2]
      have e2 : fateI kind n = 0 := by unfold fateI; rw [if_neg k2, if_neg k1]
      show (if (s.ends x kind n).2 then s.put x.1 (s.ends x kind n).1 else s) = _
      rw [e1, if_neg (by simp), e2, e, Dk.put_old]
theorem RkAt.crashed {w : World} {B : Nat} {F : List Nat} {R : Nat} {vb vu : Value} {s : Dk} (h : RkAt w B F R vb vu s) : RkAt ((((w.setCell ⟨R, 1, none⟩ (.slice none 0 0)).setCell ⟨R, 2, none⟩ (.bool false)).setCell ⟨R, 3, none⟩ (.int .i64 0)).setCell ⟨R, 4, none⟩ (.bool false)) B F R vb (.slice none 0 0) { s with under := [], armed := false, left := 0, down := false } := by
  have h1 := h.emptied
  obtain ⟨w1, hw1⟩ : ∃ w1, w1 = w.setCell ⟨R, 1, none⟩ (.slice none 0 0) := ⟨_, rfl⟩
  rw [← hw1] at h1 ⊢
  clear hw1
  obtain ⟨l, c3, -⟩ := h1.c3
  have c0 := h1.c0
  have c1 := h1.c1
  have c2 := h1.c2
  have c4 := h1.c4
  have hc : Chg [R] w1 (((w1.setCell ⟨R, 2, none⟩ (.bool false)).setCell ⟨R, 3, none⟩ (.int .i64 0)).setCell ⟨R, 4, none⟩ (.bool false)) := ((((Chg.refl _ _).setCell _ _ (.inl (by simp))).setCell _ _ (.inl (by simp))).setCell _ _ (.inl (by simp)))
  exact h1.own hc ⟨rfl, rfl, rfl⟩ ⟨h.ok.pos, h.ok.blk, (fun x hx => by cases hx), ⟨Int.le_refl _, by show (0 : Int) ≤ 9223372036854775807; decide⟩⟩ (by go_simp) (by go_simp) (by show _ = some (Value.bool false); go_simp) ⟨0, by go_simp, (fun _ => rfl), by decide, by decide⟩ (by show _ = some (Value.bool false); go_simp) (fun k hk => by rw [World.frozen?_setCell, World.frozen?_setCell, World.frozen?_setCell]; exact h1.fz k hk)
theorem bytes_cell {w : World} {a : Option Addr} {m c : Nat} {b : List B8} (h : IsBytes w (.slice a m c) b) (hb : b.length = 128) : m = 128 ∧ ∃ B off, a = some ⟨B, off, none⟩ ∧ B < w.heap.size ∧ ∀ i, i < 128 → w.cell? ⟨B, off + i, none⟩ = some (byteV (b.getD i 0#8)) := by
  obtain ⟨a', m', c', e, hl, _, _, hx⟩ := h
  injection e with e1 e2 e3
  subst e1 e2 e3
  refine ⟨by omega, ?_⟩
  rcases hx with rfl | ⟨B, off, rfl, hlt, hB⟩
  · simp at hb
  · refine ⟨B, off, rfl, hlt, fun i hi => ?_⟩
    rw [hB i (by omega), List.getD_eq_getElem?_getD, List.getElem?_eq_getElem (by omega)]; rfl
set_option maxRecDepth 20000 in
set_option maxHeartbeats 8000000 in
theorem crash_rk (w : World) (B : Nat) (F : List Nat) (R : Nat) (s : Dk) (h : RkIs w B F R s) (hF : ∀ x ∈ F, x < w.heap.size) (v : Value) (fs : List (Int × Int)) (hf : IsFates w v fs) (hfp : ∀ b c n, v = .slice (some b) n c → fs ≠ [] → b.block < B ∨ b.block ∈ F) (hu : s.under.length ≤ 1000000) :
    Calls Try.prog 48 #[.pointer (some ⟨R, 0, none⟩), v] w fun e w' => e = .returned (.tuple #[]) ∧ RkIs w' B F R (s.crash fs) ∧ Off B F w w' := by
  have hfo : ∀ w', Off B F w w' → IsFates w' v fs := fun w' ho => hf.keep ho.size (fun b c n hv hlt h0 => ho.block _ hlt (hfp b c n hv h0))
  obtain ⟨vb, vu, h⟩ := h
  obtain ⟨⟨a, n, c, rfl, hn⟩, ⟨ua, uc, rfl, -⟩⟩ := h.forms
  obtain ⟨fa, fn, fc, rfl, hfn⟩ : ∃ a n c, v = .slice a n c ∧ n = fs.length := by obtain ⟨a, c, h, _⟩ := hf; exact ⟨a, _, c, h, rfl⟩
  obtain ⟨un, hun⟩ : ∃ un, un = s.under.length := ⟨_, rfl⟩
  rw [← hun] at h hu
  have H := Lib.hid h
  have HUN := Lib.hid hun
  have HN := Lib.hid hn
  have HFN := Lib.hid hfn
  have HFO := Lib.hid hfo
  have HF := Lib.hid hF
  have UB : Hid ((un : Int) ≤ 1000000) := by unfold Hid; omega
  clear h hun hn hfn hfo hfp hf hF hu
  go_enter Try.func48, Try.ntmps48
  go_wp2
  go_loopw [4, 5, 6, 7, 8] (fun k _ _ _ _ wr => ∃ j : Nat, k = .int .i64 j ∧ j ≤ un ∧ j ≤ fn ∧ Hid (RkAt wr B F R (.slice a n c) (.slice ua un uc) (s.strikes ((s.under.zip fs).take j))) ∧ Hid (Off B F w wr)) (fun k _ _ _ _ _ => un - (intOf k).toNat)
  case atStart => exact ⟨0, rfl, Nat.zero_le _, Nat.zero_le _, H.out, Off.of_below (Below.refl _ _)⟩
  case round =>
    obtain ⟨j, rfl, hju, hjf, hr, hof⟩ := hrel
    have q1 := hr.out.c1
    have jb : (j : Int) ≤ 1000000 := by have := UB.out; omega
    by_cases hlt : j < un
    · have g1 : decide ((j : Int) < (un : Int)) = true := decide_eq_true (by omega)
      by_cases hlf : j < fn
      · have g2 : decide ((j : Int) < (fn : Int)) = true := decide_eq_true (by omega)
        have hsm := Dk.strikes_same ((s.under.zip fs).take j) s
        obtain ⟨g2, ⟨x1, x2⟩, pa, pm, pc, rfl, hx, d0, d1, hpay⟩ := hr.out.und_pay j hlt
        have hx' : s.under[j]? = some (x1, x2) := by rw [← hsm.1]; exact hx
        have hxin := H.out.ins _ (List.mem_of_getElem? hx')
        have hxl := H.out.ok.under _ (List.mem_of_getElem? hx')
        simp only at hxin hxl d0 hpay
        obtain ⟨xi, rfl⟩ : ∃ xi : Nat, (xi : Int) = x1 := ⟨x1.toNat, by omega⟩
        obtain ⟨⟨kind, nb⟩, hfj⟩ : ∃ p, fs[j]? = some p := ⟨_, List.getElem?_eq_getElem (by have := HFN.out; omega)⟩
        have HFI := HFO.out wr hof.out
        obtain ⟨fa', fc', hfe, _, _, hfx⟩ := HFI
        injection hfe with u1 u2 u3
        subst u1 u3
        rcases hfx with h0 | ⟨fb, foff, rfl, hfbl, hfcell⟩
        · subst h0; simp at hfj
        obtain ⟨k0, k1⟩ := hfcell j kind nb hfj
        obtain ⟨st, hst⟩ : ∃ st, st = s.strikes ((s.under.zip fs).take j) := ⟨_, rfl⟩
        rw [← hst] at hr hsm
        have HSTEP : Hid (s.strikes ((s.under.zip fs).take (j + 1)) = st.put (xi : Int) (torn x2 (st.blk (xi : Int)) (fateN (fateI kind nb)))) := by
          unfold Hid
          have hz : (s.under.zip fs)[j]? = some (((xi : Int), x2), (kind, nb)) := by rw [List.getElem?_zip_eq_some]; exact ⟨hx', hfj⟩
          rw [List.take_add_one, hz, show (some ((((xi : Int), x2), (kind, nb)) : (Int × List B8) × (Int × Int))).toList = [(((xi : Int), x2), (kind, nb))] from rfl, Dk.strikes_snoc, ← hst]
          exact strike_put st hr.out.ok _ hxl kind nb
        obtain ⟨g, gn, gc, ba, bm, bc, hve, hgn, hbc, hbb⟩ := hr.out.blk_at (xi : Int) hxin.1 (by rw [hsm.2]; exact hxin.2)
        injection hve with e1 e2 e3
        subst e1 e2 e3
        rw [Int.toNat_natCast] at hbc
        obtain ⟨hbm, bB, boff, rfl, hbBl, hbcell⟩ := bytes_cell hbb (hr.out.ok.blk _)
        obtain ⟨hpm, pB, poff, rfl, hpBl, hpcell⟩ := bytes_cell hpay.bytes hxl
        subst hbm hpm
        have i1 : (0 : Int) ≤ (j : Int) ∧ (j : Int) < (un : Int) := by omega
        have i2 : (0 : Int) ≤ (xi : Int) ∧ (xi : Int) < (n : Int) := by have := HN.out; omega
        have i3 : (0 : Int) ≤ (j : Int) ∧ (j : Int) < (fn : Int) := by omega
        obtain ⟨W1, hW1⟩ : ∃ W1, W1 = wr.alloc (.cells #[.int .i64 xi, .slice (some ⟨pB, poff, none⟩) 128 pc] 105) := ⟨_, rfl⟩
        have hcb : Below wr.heap.size wr W1 := by rw [hW1]; exact (Below.refl _ _).alloc (Nat.le_refl _) _
        have CB := Lib.hid hcb
        have hcb' : Below wr.heap.size wr (wr.alloc (.cells #[.int .i64 xi, .slice (some ⟨pB, poff, none⟩) 128 pc] 105)) := (Below.refl _ _).alloc (Nat.le_refl _) _
        have z0 : W1.cell? ⟨wr.heap.size, 0, none⟩ = some (.int .i64 xi) := by rw [hW1]; exact (cell_of_row _ _ 0 #[.int .i64 xi, .slice (some ⟨pB, poff, none⟩) 128 pc] _ (0, 0) (heap_alloc_new wr _)).trans rfl
        have z1 : W1.cell? ⟨wr.heap.size, 1, none⟩ = some (.slice (some ⟨pB, poff, none⟩) 128 pc) := by rw [hW1]; exact (cell_of_row _ _ 1 #[.int .i64 xi, .slice (some ⟨pB, poff, none⟩) 128 pc] _ (0, 0) (heap_alloc_new wr _)).trans rfl
        have y0 : (wr.alloc (.cells #[.int .i64 xi, .slice (some ⟨pB, poff, none⟩) 128 pc] 105)).cell? ⟨fb, foff + j * 2, none⟩ = some (.int .i64 kind) := (hcb'.cell (p := ⟨fb, foff + j * 2, none⟩) (cell_lt k0)).trans k0
        have y1 : (wr.alloc (.cells #[.int .i64 xi, .slice (some ⟨pB, poff, none⟩) 128 pc] 105)).cell? ⟨fb, foff + j * 2 + 1, none⟩ = some (.int .i64 nb) := (hcb'.cell (p := ⟨fb, foff + j * 2 + 1, none⟩) (cell_lt k1)).trans k1
        have HW1 := Lib.hid hW1
        have HR1 : Hid (RkAt W1 B F R (.slice (some ⟨g, 0, none⟩) n c) (.slice (some ⟨g2, 0, none⟩) un uc) st) := hr.out.below hcb
        have HBC : Hid (W1.cell? ⟨g, xi, none⟩ = some (.slice (some ⟨bB, boff, none⟩) 128 bc)) := (hcb.cell (p := ⟨g, xi, none⟩) (cell_lt hbc)).trans hbc
        have HBL : Hid (∀ i, i < 128 → W1.cell? ⟨bB, boff + i, none⟩ = some (byteV ((st.blk (xi : Int)).getD i 0#8))) := fun i hi => (hcb.cell (p := ⟨bB, boff + i, none⟩) hbBl).trans (hbcell i hi)
        have HPL : Hid (∀ i, i < 128 → W1.cell? ⟨pB, poff + i, none⟩ = some (byteV (x2.getD i 0#8))) := fun i hi => (hcb.cell (p := ⟨pB, poff + i, none⟩) hpBl).trans (hpcell i hi)
        have HXL := Lib.hid hxl
        have HXI : Hid (0 ≤ (xi : Int) ∧ (xi : Int) < st.blocks) := by unfold Hid; rw [hsm.2]; exact hxin
        have OF1 : Hid (Off B F w W1) := hof.out.trans (Off.of_below hcb)
        clear hcb hcb' u2 hsm hx hx' hxin hxl hpay hfj hfcell hst hgn hbc hbb hbBl hbcell hpBl hpcell hW1 hfbl k0 k1
        by_cases c1 : kind = 1
        · subst c1
          skip
          go_wp2_with fail
          rw [← HW1.out]
          obtain ⟨wo, rfl⟩ : ∃ wo : World, wo = wr := ⟨_, rfl⟩
          go_loopw [7, 8] (fun vb' i wz => ∃ (k : Nat) (ya : Option Addr) (yn yc : Nat), i = .int .i64 k ∧ k ≤ 128 ∧ vb' = .slice ya yn yc ∧ Hid (Own wz W1.heap.size 5 (.slice ya yn yc) (((torn x2 (st.blk (xi : Int)) (fateN (128 : Int))).take k).map byteV)) ∧ Hid (Below W1.heap.size W1 wz)) (fun _ i _ => 128 - (intOf i).toNat)
          case atStart => exact ⟨0, none, 0, 0, rfl, Nat.zero_le _, rfl, Own.nil_ (Nat.le_refl _), Below.refl _ _⟩
          case round =>
            obtain ⟨k, ya, yn, yc, rfl, hk, rfl, how, hbl⟩ := hrel
            by_cases hlk : k < 128
            · have hte := torn_at x2 (st.blk (xi : Int)) (fateN (128 : Int)) k HXL.out (HR1.out.ok.blk _) (fateN_lt (128 : Int) k hlk).2 hlk
              have kb : (k : Int) ≤ 128 := by omega
              have g3 : decide ((k : Int) < 128) = true := decide_eq_true (by omega)
              have j1 : (0 : Int) ≤ (k : Int) ∧ (k : Int) < 128 := by omega
              have HLN : Hid ((((torn x2 (st.blk (xi : Int)) (fateN (128 : Int))).take k).map byteV).length ≤ 128) := by unfold Hid; rw [List.length_map, List.length_take]; omega
              by_cases hm : k < fateN (128 : Int)
              · have hlt' : (k : Int) < (128 : Int) := (fateN_lt (128 : Int) k hlk).1.2 hm
                have g4 : decide ((k : Int) < (128 : Int)) = true := decide_eq_true hlt'
                rw [if_pos hm] at hte
                have HTE := Lib.hid hte
                have w0 : wr.cell? ⟨wo.heap.size, 1, none⟩ = some (.slice (some ⟨pB, poff, none⟩) 128 pc) := (hbl.out.cell (p := ⟨wo.heap.size, 1, none⟩) (cell_lt z1)).trans z1
                obtain ⟨pv, hpv⟩ : ∃ pv, pv = x2.getD k 0#8 := ⟨_, rfl⟩
                have w2 : wr.cell? ⟨pB, poff + k, none⟩ = some (.int .u8 (pv.toNat : Int)) := by rw [hpv]; exact (hbl.out.cell (p := ⟨pB, poff + k, none⟩) (cell_lt (HPL.out k hlk))).trans (HPL.out k hlk)
                have HPV := Lib.hid hpv
                clear hte hm hpv
                go_wp2_with (at_builtin; refine wpl_append rfl (.tmp 55) (.tmp 61) 30 rfl elemU8 rfl (how.out.alloc _) rfl (Reads.one _ _ _) one_int (by have := HLN.out; simp only [List.length_singleton]; omega) (by have := HLN.out; simp only [List.length_singleton]; unfold maxLen; omega) ?_; intro v' w6 hown6 hg6 _; have HB6 : Hid (Below W1.heap.size W1 w6) := below_grown (hbl.out.alloc hbl.out.size _) (how.out.alloc _) hg6 (Nat.le_refl _); obtain ⟨pa', pn', pc', rfl, _⟩ := hown6.form_; have HO6 := Lib.hid hown6; clear hown6 hg6)
                refine ⟨⟨k + 1, pa', pn', pc', by go_num, hlk, rfl, ?_, HB6.out⟩, by simp [intOf]; omega⟩
                unfold Hid
                rw [HTE.out, List.map_append, ← HPV.out]
                exact HO6.out
              · exact absurd hlk (fun _ => hm (by unfold fateN; simp; omega))
            · obtain rfl : k = 128 := by omega
              have hTl : (torn x2 (st.blk (xi : Int)) (fateN (128 : Int))).length = 128 := torn_length _ _ _ HXL.out (HR1.out.ok.blk _)
              have e : (torn x2 (st.blk (xi : Int)) (fateN (128 : Int))).take 128 = torn x2 (st.blk (xi : Int)) (fateN (128 : Int)) := List.take_of_length_le (by rw [hTl]; exact Nat.le_refl _)
              rw [e] at how
              have HR2 := HR1.out.below hbl.out
              have hFw : ∀ x ∈ F, x < W1.heap.size := fun x hx => Nat.lt_of_lt_of_le (HF.out x hx) OF1.out.size
              obtain ⟨qa, qm, qc, hqe, hpayb⟩ := Pay.made (B := B) (Y := (Value.slice (some ⟨g2, 0, none⟩) un uc).ownBlock.toList ++ rkX F R (.slice (some ⟨g, 0, none⟩) n c)) how.out HR1.out.lt.2 (fun y hy => by
                rcases List.mem_append.1 hy with hy | hy
                · exact (HR1.out.und.block y (by simpa using hy)).2
                · exact rkX_lt HR1.out hFw y hy)
              injection hqe with t1 t2 t3
              subst t1 t2 t3
              obtain ⟨g', n', c', hve, hgB, hgF, hgn, ⟨xo, hxo⟩, hfz, hset⟩ := HR2.setB (xi : Int) HXI.out.1 HXI.out.2 _ hTl _ _ _ hpayb
              injection hve with s1 s2 s3
              injection s1 with s1
              injection s1 with s1
              subst s1
              rw [Int.toNat_natCast] at hxo hfz hset
              have w3 := HR2.c0
              have w0 : wr.cell? ⟨wo.heap.size, 0, none⟩ = some (.int .i64 xi) := (hbl.out.cell (p := ⟨wo.heap.size, 0, none⟩) (cell_lt z0)).trans z0
              have HSET := Lib.hid hset
              have GG : Hid (B ≤ g ∧ g ∉ F) := ⟨hgB, hgF⟩
              clear hTl e HR2 hFw hpayb s2 s3 hgB hgF hgn hset hlk
              go_wp2_with fail
              refine wp_region_E (by kernel_rfl) [0, 1, 2, 3, 4, 5, 6, 7] [3, 5] [] [] [0, 1, 2, 3, 4, 5, 6, 7, 8] (by kernel_rfl) (fun _ => True) ?_
              iterate 8 (first | (refine wpE_pure rfl rfl rfl rfl (fun J hJ => ?_); go_simp; refine hJ _ ?_; clear hJ J) | (refine wpE_still rfl rfl rfl (fun J hJ => ?_); go_simp; refine hJ _ ?_; clear hJ J))
              refine wpE_store rfl rfl rfl (w' := (wr.setCell ⟨g, xi, none⟩ (.slice ya yn yc)).drew) (by go_simp) (fun e => by cases e) ?_
              refine wpE_nil ?_
              go_wp2_with fail
              refine ⟨⟨j + 1, by go_num, hlt, hlf, ?_, ?_⟩, by simp [intOf]; omega⟩
              · unfold Hid
                rw [HSTEP.out, show fateI 1 nb = 128 from rfl]
                exact HSET.out.below (w' := (wr.setCell ⟨g, xi, none⟩ (.slice ya yn yc)).drew) (below_drewN (Below.refl _ _) 1)
              · have h : Off B F wr (wr.setCell ⟨g, xi, none⟩ (.slice ya yn yc)) := Off.of_chg ((Chg.refl _ _).setCell _ _ (.inl (by simp : _ ∈ [g]))) (fun x hx => by simp at hx; subst hx; exact GG.out)
                exact ((OF1.out.trans (Off.of_below hbl.out)).trans h).trans (Off.of_below (below_drewN (Below.refl _ _) 1))
        · have c1' : (kind == 1) = false := by rw [beq_eq_false_iff_ne]; exact c1
          by_cases c2 : kind = 2
          · subst c2
            clear c1
            go_wp2_with fail
            rw [← HW1.out]
            obtain ⟨wo, rfl⟩ : ∃ wo : World, wo = wr := ⟨_, rfl⟩
            go_loopw [7, 8] (fun vb' i wz => ∃ (k : Nat) (ya : Option Addr) (yn yc : Nat), i = .int .i64 k ∧ k ≤ 128 ∧ vb' = .slice ya yn yc ∧ Hid (Own wz W1.heap.size 5 (.slice ya yn yc) (((torn x2 (st.blk (xi : Int)) (fateN nb)).take k).map byteV)) ∧ Hid (Below W1.heap.size W1 wz)) (fun _ i _ => 128 - (intOf i).toNat)
            case atStart => exact ⟨0, none, 0, 0, rfl, Nat.zero_le _, rfl, Own.nil_ (Nat.le_refl _), Below.refl _ _⟩
            case round =>
              obtain ⟨k, ya, yn, yc, rfl, hk, rfl, how, hbl⟩ := hrel
              by_cases hlk : k < 128
              · have hte := torn_at x2 (st.blk (xi : Int)) (fateN nb) k HXL.out (HR1.out.ok.blk _) (fateN_lt nb k hlk).2 hlk
                have kb : (k : Int) ≤ 128 := by omega
                have g3 : decide ((k : Int) < 128) = true := decide_eq_true (by omega)
                have j1 : (0 : Int) ≤ (k : Int) ∧ (k : Int) < 128 := by omega
                have HLN : Hid ((((torn x2 (st.blk (xi : Int)) (fateN nb)).take k).map byteV).length ≤ 128) := by unfold Hid; rw [List.length_map, List.length_take]; omega
                by_cases hm : k < fateN nb
                · have hlt' : (k : Int) < nb := (fateN_lt nb k hlk).1.2 hm
                  have g4 : decide ((k : Int) < nb) = true := decide_eq_true hlt'
                  rw [if_pos hm] at hte
                  have HTE := Lib.hid hte
                  have w0 : wr.cell? ⟨wo.heap.size, 1, none⟩ = some (.slice (some ⟨pB, poff, none⟩) 128 pc) := (hbl.out.cell (p := ⟨wo.heap.size, 1, none⟩) (cell_lt z1)).trans z1
                  obtain ⟨pv, hpv⟩ : ∃ pv, pv = x2.getD k 0#8 := ⟨_, rfl⟩
                  have w2 : wr.cell? ⟨pB, poff + k, none⟩ = some (.int .u8 (pv.toNat : Int)) := by rw [hpv]; exact (hbl.out.cell (p := ⟨pB, poff + k, none⟩) (cell_lt (HPL.out k hlk))).trans (HPL.out k hlk)
                  have HPV := Lib.hid hpv
                  clear hte hm hpv
                  go_wp2_with (at_builtin; refine wpl_append rfl (.tmp 55) (.tmp 61) 30 rfl elemU8 rfl (how.out.alloc _) rfl (Reads.one _ _ _) one_int (by have := HLN.out; simp only [List.length_singleton]; omega) (by have := HLN.out; simp only [List.length_singleton]; unfold maxLen; omega) ?_; intro v' w6 hown6 hg6 _; have HB6 : Hid (Below W1.heap.size W1 w6) := below_grown (hbl.out.alloc hbl.out.size _) (how.out.alloc _) hg6 (Nat.le_refl _); obtain ⟨pa', pn', pc', rfl, _⟩ := hown6.form_; have HO6 := Lib.hid hown6; clear hown6 hg6)
                  refine ⟨⟨k + 1, pa', pn', pc', by go_num, hlk, rfl, ?_, HB6.out⟩, by simp [intOf]; omega⟩
                  unfold Hid
                  rw [HTE.out, List.map_append, ← HPV.out]
                  exact HO6.out
                · have hlt' : ¬ (k : Int) < nb := fun h => hm ((fateN_lt nb k hlk).1.1 h)
                  have g4 : decide ((k : Int) < nb) = false := decide_eq_false hlt'
                  rw [if_neg hm] at hte
                  have HTE := Lib.hid hte
                  have w0 : wr.cell? ⟨wo.heap.size, 0, none⟩ = some (.int .i64 xi) := (hbl.out.cell (p := ⟨wo.heap.size, 0, none⟩) (cell_lt z0)).trans z0
                  have w1' : wr.cell? ⟨g, xi, none⟩ = some (.slice (some ⟨bB, boff, none⟩) 128 bc) := (hbl.out.cell (p := ⟨g, xi, none⟩) (cell_lt HBC.out)).trans HBC.out
                  have w3 : wr.cell? ⟨R, 0, none⟩ = some (.slice (some ⟨g, 0, none⟩) n c) := (hbl.out.cell (p := ⟨R, 0, none⟩) (cell_lt HR1.out.c0)).trans HR1.out.c0
                  obtain ⟨pv, hpv⟩ : ∃ pv, pv = (st.blk (xi : Int)).getD k 0#8 := ⟨_, rfl⟩
                  have w2 : wr.cell? ⟨bB, boff + k, none⟩ = some (.int .u8 (pv.toNat : Int)) := by rw [hpv]; exact (hbl.out.cell (p := ⟨bB, boff + k, none⟩) (cell_lt (HBL.out k hlk))).trans (HBL.out k hlk)
                  have HPV := Lib.hid hpv
                  clear hte hm hpv
                  go_wp2_with fail
                  refine wp_region_E (by kernel_rfl) [0, 1, 2, 3, 4, 5, 6, 7, 8, 9, 10, 11, 14] [4, 6, 8, 11] [] [] [0, 1, 2, 3, 4, 5, 6, 7, 8, 9, 10, 11, 12, 13, 14] (by kernel_rfl) (fun _ => True) ?_
                  iterate 12 (first | (refine wpE_pure rfl rfl rfl rfl (fun J hJ => ?_); go_simp; refine hJ _ ?_; clear hJ J) | (refine wpE_still rfl rfl rfl (fun J hJ => ?_); go_simp; refine hJ _ ?_; clear hJ J))
                  refine wpE_value rfl rfl rfl (v := .slice (some ⟨wr.heap.size, 0, none⟩) 1 1) (w' := (wr.alloc (.cells #[.int .u8 (pv.toNat : Int)] 5)).drew) (by go_simp) (fun e => by cases e) ?_
                  have hown5 : Own (wr.alloc (.cells #[.int .u8 (pv.toNat : Int)] 5)).drew W1.heap.size 5 (.slice ya yn yc) (((torn x2 (st.blk (xi : Int)) (fateN nb)).take k).map byteV) := how.out.alloc _
                  have hrd5 : Reads (wr.alloc (.cells #[.int .u8 (pv.toNat : Int)] 5)).drew (.slice (some ⟨wr.heap.size, 0, none⟩) 1 1) [.int .u8 (pv.toNat : Int)] := Reads.one _ _ _
                  obtain ⟨v', w6, hrun, hown6, hg6, -⟩ := run_append (P := Try.prog) (ty := 30) elemU8 hown5 hrd5 one_int (by have := HLN.out; simp only [List.length_singleton]; omega) (by have := HLN.out; simp only [List.length_singleton]; unfold maxLen; omega)
                  refine wpE_value rfl rfl rfl (exec_append (.tmp 63) (.tmp 75) 30 rfl (by go_simp) (by go_simp) hrun) (fun e => by cases e) ?_
                  have HB6 : Hid (Below W1.heap.size W1 w6) := below_grown (below_drewN (hbl.out.alloc hbl.out.size _) 1) hown5 hg6 (Nat.le_refl _)
                  obtain ⟨pa', pn', pc', rfl, _⟩ := hown6.form_
                  have HO6 := Lib.hid hown6
                  clear hown6 hg6 hown5 hrd5 hrun
                  refine wpE_pure rfl rfl rfl rfl (fun J hJ => ?_)
                  go_simp
                  refine hJ _ ?_
                  clear hJ J
                  refine wpE_nil ?_
                  go_wp2_with fail
                  refine ⟨⟨k + 1, pa', pn', pc', by go_num, hlk, rfl, ?_, HB6.out⟩, by simp [intOf]; omega⟩
                  unfold Hid
                  rw [HTE.out, List.map_append, ← HPV.out]
                  exact HO6.out
              · obtain rfl : k = 128 := by omega
                have hTl : (torn x2 (st.blk (xi : Int)) (fateN nb)).length = 128 := torn_length _ _ _ HXL.out (HR1.out.ok.blk _)
                have e : (torn x2 (st.blk (xi : Int)) (fateN nb)).take 128 = torn x2 (st.blk (xi : Int)) (fateN nb) := List.take_of_length_le (by rw [hTl]; exact Nat.le_refl _)
                rw [e] at how
                have HR2 := HR1.out.below hbl.out
                have hFw : ∀ x ∈ F, x < W1.heap.size := fun x hx => Nat.lt_of_lt_of_le (HF.out x hx) OF1.out.size
                obtain ⟨qa, qm, qc, hqe, hpayb⟩ := Pay.made (B := B) (Y := (Value.slice (some ⟨g2, 0, none⟩) un uc).ownBlock.toList ++ rkX F R (.slice (some ⟨g, 0, none⟩) n c)) how.out HR1.out.lt.2 (fun y hy => by
                  rcases List.mem_append.1 hy with hy | hy
                  · exact (HR1.out.und.block y (by simpa using hy)).2
                  · exact rkX_lt HR1.out hFw y hy)
                injection hqe with t1 t2 t3
                subst t1 t2 t3
                obtain ⟨g', n', c', hve, hgB, hgF, hgn, ⟨xo, hxo⟩, hfz, hset⟩ := HR2.setB (xi : Int) HXI.out.1 HXI.out.2 _ hTl _ _ _ hpayb
                injection hve with s1 s2 s3
                injection s1 with s1
                injection s1 with s1
                subst s1
                rw [Int.toNat_natCast] at hxo hfz hset
                have w3 := HR2.c0
                have w0 : wr.cell? ⟨wo.heap.size, 0, none⟩ = some (.int .i64 xi) := (hbl.out.cell (p := ⟨wo.heap.size, 0, none⟩) (cell_lt z0)).trans z0
                have HSET := Lib.hid hset
                have GG : Hid (B ≤ g ∧ g ∉ F) := ⟨hgB, hgF⟩
                clear hTl e HR2 hFw hpayb s2 s3 hgB hgF hgn hset hlk
                go_wp2_with fail
                refine wp_region_E (by kernel_rfl) [0, 1, 2, 3, 4, 5, 6, 7] [3, 5] [] [] [0, 1, 2, 3, 4, 5, 6, 7, 8] (by kernel_rfl) (fun _ => True) ?_
                iterate 8 (first | (refine wpE_pure rfl rfl rfl rfl (fun J hJ => ?_); go_simp; refine hJ _ ?_; clear hJ J) | (refine wpE_still rfl rfl rfl (fun J hJ => ?_); go_simp; refine hJ _ ?_; clear hJ J))
                refine wpE_store rfl rfl rfl (w' := (wr.setCell ⟨g, xi, none⟩ (.slice ya yn yc)).drew) (by go_simp) (fun e => by cases e) ?_
                refine wpE_nil ?_
                go_wp2_with fail
                refine ⟨⟨j + 1, by go_num, hlt, hlf, ?_, ?_⟩, by simp [intOf]; omega⟩
                · unfold Hid
                  rw [HSTEP.out, show fateI 2 nb = nb from rfl]
                  exact HSET.out.below (w' := (wr.setCell ⟨g, xi, none⟩ (.slice ya yn yc)).drew) (below_drewN (Below.refl _ _) 1)
                · have h : Off B F wr (wr.setCell ⟨g, xi, none⟩ (.slice ya yn yc)) := Off.of_chg ((Chg.refl _ _).setCell _ _ (.inl (by simp : _ ∈ [g]))) (fun x hx => by simp at hx; subst hx; exact GG.out)
                  exact ((OF1.out.trans (Off.of_below hbl.out)).trans h).trans (Off.of_below (below_drewN (Below.refl _ _) 1))
          · have c2' : (kind == 2) = false := by rw [beq_eq_false_iff_ne]; exact c2
            have CC := Lib.hid (And.intro c1 c2)
            clear c1 c2
            go_wp2_with fail
            rw [← HW1.out]
            obtain ⟨wo, rfl⟩ : ∃ wo : World, wo = wr := ⟨_, rfl⟩
            go_loopw [7, 8] (fun vb' i wz => ∃ (k : Nat) (ya : Option Addr) (yn yc : Nat), i = .int .i64 k ∧ k ≤ 128 ∧ vb' = .slice ya yn yc ∧ Hid (Own wz W1.heap.size 5 (.slice ya yn yc) (((torn x2 (st.blk (xi : Int)) (fateN (0 : Int))).take k).map byteV)) ∧ Hid (Below W1.heap.size W1 wz)) (fun _ i _ => 128 - (intOf i).toNat)
            case atStart => exact ⟨0, none, 0, 0, rfl, Nat.zero_le _, rfl, Own.nil_ (Nat.le_refl _), Below.refl _ _⟩
            case round =>
              obtain ⟨k, ya, yn, yc, rfl, hk, rfl, how, hbl⟩ := hrel
              by_cases hlk : k < 128
              · have hte := torn_at x2 (st.blk (xi : Int)) (fateN (0 : Int)) k HXL.out (HR1.out.ok.blk _) (fateN_lt (0 : Int) k hlk).2 hlk
                have kb : (k : Int) ≤ 128 := by omega
                have g3 : decide ((k : Int) < 128) = true := decide_eq_true (by omega)
                have j1 : (0 : Int) ≤ (k : Int) ∧ (k : Int) < 128 := by omega
                have HLN : Hid ((((torn x2 (st.blk (xi : Int)) (fateN (0 : Int))).take k).map byteV).length ≤ 128) := by unfold Hid; rw [List.length_map, List.length_take]; omega
                by_cases hm : k < fateN (0 : Int)
                · exact absurd hm (by unfold fateN; simp)
                · have hlt' : ¬ (k : Int) < (0 : Int) := fun h => hm ((fateN_lt (0 : Int) k hlk).1.1 h)
                  have g4 : decide ((k : Int) < (0 : Int)) = false := decide_eq_false hlt'
                  rw [if_neg hm] at hte
                  have HTE := Lib.hid hte
                  have w0 : wr.cell? ⟨wo.heap.size, 0, none⟩ = some (.int .i64 xi) := (hbl.out.cell (p := ⟨wo.heap.size, 0, none⟩) (cell_lt z0)).trans z0
                  have w1' : wr.cell? ⟨g, xi, none⟩ = some (.slice (some ⟨bB, boff, none⟩) 128 bc) := (hbl.out.cell (p := ⟨g, xi, none⟩) (cell_lt HBC.out)).trans HBC.out
                  have w3 : wr.cell? ⟨R, 0, none⟩ = some (.slice (some ⟨g, 0, none⟩) n c) := (hbl.out.cell (p := ⟨R, 0, none⟩) (cell_lt HR1.out.c0)).trans HR1.out.c0
                  obtain ⟨pv, hpv⟩ : ∃ pv, pv = (st.blk (xi : Int)).getD k 0#8 := ⟨_, rfl⟩
                  have w2 : wr.cell? ⟨bB, boff + k, none⟩ = some (.int .u8 (pv.toNat : Int)) := by rw [hpv]; exact (hbl.out.cell (p := ⟨bB, boff + k, none⟩) (cell_lt (HBL.out k hlk))).trans (HBL.out k hlk)
                  have HPV := Lib.hid hpv
                  clear hte hm hpv
                  go_wp2_with fail
                  refine wp_region_E (by kernel_rfl) [0, 1, 2, 3, 4, 5, 6, 7, 8, 9, 10, 11, 14] [4, 6, 8, 11] [] [] [0, 1, 2, 3, 4, 5, 6, 7, 8, 9, 10, 11, 12, 13, 14] (by kernel_rfl) (fun _ => True) ?_
                  iterate 12 (first | (refine wpE_pure rfl rfl rfl rfl (fun J hJ => ?_); go_simp; refine hJ _ ?_; clear hJ J) | (refine wpE_still rfl rfl rfl (fun J hJ => ?_); go_simp; refine hJ _ ?_; clear hJ J))
                  refine wpE_value rfl rfl rfl (v := .slice (some ⟨wr.heap.size, 0, none⟩) 1 1) (w' := (wr.alloc (.cells #[.int .u8 (pv.toNat : Int)] 5)).drew) (by go_simp) (fun e => by cases e) ?_
                  have hown5 : Own (wr.alloc (.cells #[.int .u8 (pv.toNat : Int)] 5)).drew W1.heap.size 5 (.slice ya yn yc) (((torn x2 (st.blk (xi : Int)) (fateN (0 : Int))).take k).map byteV) := how.out.alloc _
                  have hrd5 : Reads (wr.alloc (.cells #[.int .u8 (pv.toNat : Int)] 5)).drew (.slice (some ⟨wr.heap.size, 0, none⟩) 1 1) [.int .u8 (pv.toNat : Int)] := Reads.one _ _ _
                  obtain ⟨v', w6, hrun, hown6, hg6, -⟩ := run_append (P := Try.prog) (ty := 30) elemU8 hown5 hrd5 one_int (by have := HLN.out; simp only [List.length_singleton]; omega) (by have := HLN.out; simp only [List.length_singleton]; unfold maxLen; omega)
                  refine wpE_value rfl rfl rfl (exec_append (.tmp 63) (.tmp 75) 30 rfl (by go_simp) (by go_simp) hrun) (fun e => by cases e) ?_
                  have HB6 : Hid (Below W1.heap.size W1 w6) := below_grown (below_drewN (hbl.out.alloc hbl.out.size _) 1) hown5 hg6 (Nat.le_refl _)
                  obtain ⟨pa', pn', pc', rfl, _⟩ := hown6.form_
                  have HO6 := Lib.hid hown6
                  clear hown6 hg6 hown5 hrd5 hrun
                  refine wpE_pure rfl rfl rfl rfl (fun J hJ => ?_)
                  go_simp
                  refine hJ _ ?_
                  clear hJ J
                  refine wpE_nil ?_
                  go_wp2_with fail
                  refine ⟨⟨k + 1, pa', pn', pc', by go_num, hlk, rfl, ?_, HB6.out⟩, by simp [intOf]; omega⟩
                  unfold Hid
                  rw [HTE.out, List.map_append, ← HPV.out]
                  exact HO6.out
              · obtain rfl : k = 128 := by omega
                have hTl : (torn x2 (st.blk (xi : Int)) (fateN (0 : Int))).length = 128 := torn_length _ _ _ HXL.out (HR1.out.ok.blk _)
                have e : (torn x2 (st.blk (xi : Int)) (fateN (0 : Int))).take 128 = torn x2 (st.blk (xi : Int)) (fateN (0 : Int)) := List.take_of_length_le (by rw [hTl]; exact Nat.le_refl _)
                rw [e] at how
                have HR2 := HR1.out.below hbl.out
                have hFw : ∀ x ∈ F, x < W1.heap.size := fun x hx => Nat.lt_of_lt_of_le (HF.out x hx) OF1.out.size
                obtain ⟨qa, qm, qc, hqe, hpayb⟩ := Pay.made (B := B) (Y := (Value.slice (some ⟨g2, 0, none⟩) un uc).ownBlock.toList ++ rkX F R (.slice (some ⟨g, 0, none⟩) n c)) how.out HR1.out.lt.2 (fun y hy => by
                  rcases List.mem_append.1 hy with hy | hy
                  · exact (HR1.out.und.block y (by simpa using hy)).2
                  · exact rkX_lt HR1.out hFw y hy)
                injection hqe with t1 t2 t3
                subst t1 t2 t3
                obtain ⟨g', n', c', hve, hgB, hgF, hgn, ⟨xo, hxo⟩, hfz, hset⟩ := HR2.setB (xi : Int) HXI.out.1 HXI.out.2 _ hTl _ _ _ hpayb
                injection hve with s1 s2 s3
                injection s1 with s1
                injection s1 with s1
                subst s1
                rw [Int.toNat_natCast] at hxo hfz hset
                have w3 := HR2.c0
                have w0 : wr.cell? ⟨wo.heap.size, 0, none⟩ = some (.int .i64 xi) := (hbl.out.cell (p := ⟨wo.heap.size, 0, none⟩) (cell_lt z0)).trans z0
                have HSET := Lib.hid hset
                have GG : Hid (B ≤ g ∧ g ∉ F) := ⟨hgB, hgF⟩
                clear hTl e HR2 hFw hpayb s2 s3 hgB hgF hgn hset hlk
                go_wp2_with fail
                refine wp_region_E (by kernel_rfl) [0, 1, 2, 3, 4, 5, 6, 7] [3, 5] [] [] [0, 1, 2, 3, 4, 5, 6, 7, 8] (by kernel_rfl) (fun _ => True) ?_
                iterate 8 (first | (refine wpE_pure rfl rfl rfl rfl (fun J hJ => ?_); go_simp; refine hJ _ ?_; clear hJ J) | (refine wpE_still rfl rfl rfl (fun J hJ => ?_); go_simp; refine hJ _ ?_; clear hJ J))
                refine wpE_store rfl rfl rfl (w' := (wr.setCell ⟨g, xi, none⟩ (.slice ya yn yc)).drew) (by go_simp) (fun e => by cases e) ?_
                refine wpE_nil ?_
                go_wp2_with fail
                refine ⟨⟨j + 1, by go_num, hlt, hlf, ?_, ?_⟩, by simp [intOf]; omega⟩
                · unfold Hid
                  rw [HSTEP.out, show fateI kind nb = 0 from (by unfold fateI; rw [if_neg CC.out.2, if_neg CC.out.1])]
                  exact HSET.out.below (w' := (wr.setCell ⟨g, xi, none⟩ (.slice ya yn yc)).drew) (below_drewN (Below.refl _ _) 1)
                · have h : Off B F wr (wr.setCell ⟨g, xi, none⟩ (.slice ya yn yc)) := Off.of_chg ((Chg.refl _ _).setCell _ _ (.inl (by simp : _ ∈ [g]))) (fun x hx => by simp at hx; subst hx; exact GG.out)
                  exact ((OF1.out.trans (Off.of_below hbl.out)).trans h).trans (Off.of_below (below_drewN (Below.refl _ _) 1))
      · have g2 : decide ((j : Int) < (fn : Int)) = false := decide_eq_false (by omega)
        have f1 := hr.out.fz 1 (by decide)
        have f2 := hr.out.fz 2 (by decide)
        have f3 := hr.out.fz 3 (by decide)
        have f4 := hr.out.fz 4 (by decide)
        have w2 := hr.out.c2
        obtain ⟨l3, w3, -⟩ := hr.out.c3
        have w4 := hr.out.c4
        have HCR := Lib.hid hr.out.crashed
        go_wp2
        go_end0
        have hz : (s.under.zip fs).take j = s.under.zip fs := List.take_of_length_le (by rw [List.length_zip]; have := HUN.out; have := HFN.out; omega)
        rw [hz] at HCR
        refine ⟨rfl, ⟨_, _, HCR.out⟩, hof.out.trans (Off.of_chg (((((Chg.refl _ _).setCell _ _ (.inl (by simp : _ ∈ [R]))).setCell _ _ (.inl (by simp))).setCell _ _ (.inl (by simp))).setCell _ _ (.inl (by simp))) (fun x hx => by simp at hx; subst hx; exact H.out.lo))⟩
    · have g1 : decide ((j : Int) < (un : Int)) = false := decide_eq_false (by omega)
      have f1 := hr.out.fz 1 (by decide)
      have f2 := hr.out.fz 2 (by decide)
      have f3 := hr.out.fz 3 (by decide)
      have f4 := hr.out.fz 4 (by decide)
      have w2 := hr.out.c2
      obtain ⟨l3, w3, -⟩ := hr.out.c3
      have w4 := hr.out.c4
      have HCR := Lib.hid hr.out.crashed
      go_wp2
      go_end0
      have hz : (s.under.zip fs).take j = s.under.zip fs := List.take_of_length_le (by rw [List.length_zip]; have := HUN.out; have := HFN.out; omega)
      rw [hz] at HCR
      refine ⟨rfl, ⟨_, _, HCR.out⟩, hof.out.trans (Off.of_chg (((((Chg.refl _ _).setCell _ _ (.inl (by simp : _ ∈ [R]))).setCell _ _ (.inl (by simp))).setCell _ _ (.inl (by simp))).setCell _ _ (.inl (by simp))) (fun x hx => by simp at hx; subst hx; exact H.out.lo))⟩
end Go.Proofs.Ytcnhjbipncledaa
