/- The document's disk: Flush, walked. -/
import Derived.Test.YtcnhjbipncledaaRkW3
namespace Go.Proofs.Ytcnhjbipncledaa
open Go.RowKit

/-- A write of the row, its cells and its payload. -/
theorem RkAt.und_pay {w : World} {B : Nat} {F : List Nat} {R : Nat} {vb : Value} {ua : Option Addr} {un uc : Nat} {s : Dk} (h : RkAt w B F R vb (.slice ua un uc) s) (k : Nat) (hk : k < un) :
    ∃ g x a m c, ua = some ⟨g, 0, none⟩ ∧ s.under[k]? = some x ∧ w.cell? ⟨g, k * 2, none⟩ = some (.int .i64 x.1) ∧ w.cell? ⟨g, k * 2 + 1, none⟩ = some (.slice a m c) ∧ Pay w B ((Value.slice ua un uc).ownBlock.toList ++ rkX F R vb) a m c x.2 := by
  obtain ⟨a', c', e, _⟩ := h.und.form_
  injection e with e1 e2 e3
  obtain ⟨⟨x1, x2⟩, hx⟩ : ∃ x, s.under[k]? = some x := ⟨_, List.getElem?_eq_getElem (by omega)⟩
  obtain ⟨_, _, xs, ⟨hxl, hr⟩, hf⟩ := h.und
  obtain ⟨a, m, c, h1, h2, h3⟩ := hf k x1 x2 hx
  rcases hr with ⟨e, h0⟩ | ⟨g, cap, cur, e, hg, hh, hn, hm, hs, ht⟩
  · omega
  · injection e with e4 e5 e6
    refine ⟨g, _, a, m, c, e4, hx, ?_, ?_, h3⟩
    · rw [cell_of_row w g _ cur _ (0, 0) hh, ← h1, ← ht, List.getElem?_take, if_pos (by omega)]
      simp
    · rw [cell_of_row w g _ cur _ (0, 0) hh, ← h2, ← ht, List.getElem?_take, if_pos (by omega)]
      simp
/-- The row of writes is emptied. -/
theorem RkAt.emptied {w : World} {B : Nat} {F : List Nat} {R : Nat} {vb vu : Value} {s : Dk} (h : RkAt w B F R vb vu s) : RkAt (w.setCell ⟨R, 1, none⟩ (.slice none 0 0)) B F R vb (.slice none 0 0) { s with under := [] } := by
  have hc : Chg [R] w (w.setCell ⟨R, 1, none⟩ (.slice none 0 0)) := (Chg.refl _ _).setCell _ _ (.inl (by simp))
  have o := fun k (_ : k ≠ 1) => show (w.setCell ⟨R, 1, none⟩ (.slice none 0 0)).cell? ⟨R, k, none⟩ = w.cell? ⟨R, k, none⟩ from World.cell?_setCell_other _ _ _ _ (by simp; try omega)
  refine h.swapU hc.size (fun k _ h2 h3 _ _ => hc.block k h2 (by simpa using h3)) (o 0 (by decide)) (World.cell?_setCell_same _ _ _ h.c1) ((o 2 (by decide)).trans h.c2) ?_ ((o 4 (by decide)).trans h.c4) (fun k hk => by rw [World.frozen?_setCell]; exact h.fz k hk) (Frs.nil_ (Nat.le_trans h.lt.2 hc.size)) (fun k hk => by cases hk) ⟨rfl, rfl⟩ (fun x hx => by cases hx) ⟨h.ok.pos, h.ok.blk, (fun x hx => by cases hx), h.ok.left⟩
  obtain ⟨l, h1, h2⟩ := h.c3
  exact ⟨l, (o 3 (by decide)).trans h1, h2⟩
set_option maxRecDepth 10000 in
set_option maxHeartbeats 4000000 in
theorem flush_rk (w : World) (B : Nat) (F : List Nat) (R : Nat) (s : Dk) (h : RkIs w B F R s) (hu : s.under.length ≤ 1000000) :
    Calls Try.prog 46 #[.pointer (some ⟨R, 0, none⟩)] w fun e w' => e = .returned (.int .i64 s.flush.2) ∧ RkIs w' B F R s.flush.1 ∧ Off B F w w' := by
  obtain ⟨vb, vu, h⟩ := h
  have H := Lib.hid h
  have c4 := h.c4
  by_cases hd : s.down = true
  · have E := Lib.hid (Dk.flush_down hd)
    rw [hd] at c4
    clear h hd
    go_enter Try.func46, Try.ntmps46
    go_wp2
    go_ret
    rw [E.out]
    exact ⟨rfl, ⟨vb, vu, H.out⟩, Off.of_below (Below.refl _ _)⟩
  · have hd' : s.down = false := by simpa using hd
    rw [hd'] at c4
    have HG := Lib.hid (goes_rk w B F R vb vu s h)
    have HU := Lib.hid hu
    cases hsp : s.spend.2 with
    | false =>
      have E := Lib.hid (Dk.flush_no (t := s.spend.1) hd' (by rw [← hsp]))
      rw [hsp] at HG
      clear h hd hd' hsp hu
      go_enter Try.func46, Try.ntmps46
      go_wp2_with (go_at_call 60; refine HG.out.mono ?_; rintro e w1 ⟨rfl, h1, hc1⟩; have H1 := Lib.hid h1; have HC1 := Lib.hid hc1; clear h1 hc1 HG)
      go_ret
      rw [E.out]
      exact ⟨rfl, ⟨vb, vu, H1.out⟩, Off.of_chg HC1.out (fun x hx => by simp at hx; subst hx; exact H.out.lo)⟩
    | true =>
      have E := Lib.hid (Dk.flush_yes (t := s.spend.1) hd' (by rw [← hsp]))
      rw [hsp] at HG
      have HS := Lib.hid s.spend_same
      obtain ⟨t, ht⟩ : ∃ t, t = s.spend.1 := ⟨_, rfl⟩
      rw [← ht] at HG E HS
      clear h hd hd' hsp ht hu
      go_enter Try.func46, Try.ntmps46
      go_wp2_with (go_at_call 60; refine HG.out.mono ?_; rintro e w1 ⟨rfl, h1, hc1⟩; have H1 := Lib.hid h1; have HC1 := Lib.hid hc1; clear h1 hc1 HG)
      obtain ⟨⟨a, n, c, rfl, hn⟩, ⟨ua, uc, rfl, -⟩⟩ := H1.out.forms
      obtain ⟨un, hun⟩ : ∃ un, un = t.under.length := ⟨_, rfl⟩
      rw [← hun] at H1
      have HUN := Lib.hid hun
      have HN := Lib.hid hn
      have ub : (un : Int) ≤ 1000000 := by have := HU.out; have := HS.out.2.2; rw [hun, this]; omega
      have UB := Lib.hid ub
      have OF1 : Hid (Off B F w w1) := Off.of_chg HC1.out (fun x hx => by simp at hx; subst hx; exact H.out.lo)
      clear hun hn HC1 ub
      go_loopw [3] (fun k wr => ∃ j : Nat, k = .int .i64 j ∧ j ≤ un ∧ Hid (RkAt wr B F R (.slice a n c) (.slice ua un uc) (t.puts (t.under.take j))) ∧ Hid (Off B F w1 wr)) (fun k _ => un - (intOf k).toNat)
      case atStart => exact ⟨0, rfl, Nat.zero_le _, H1.out, Off.of_below (Below.refl _ _)⟩
      case round =>
        obtain ⟨j, rfl, hj, hr, hof⟩ := hrel
        have q1 := hr.out.c1
        have jb : (j : Int) ≤ 1000000 := by have := UB.out; omega
        by_cases hlt : j < un
        · have hps := Dk.puts_same (t.under.take j) t
          obtain ⟨g2, ⟨x1, x2⟩, pa, pm, pc, rfl, hx, d0, d1, hpay⟩ := hr.out.und_pay j hlt
          have hx' : t.under[j]? = some (x1, x2) := by rw [← hps.1]; exact hx
          have hxin := H1.out.ins _ (List.mem_of_getElem? hx')
          have hxl := H1.out.ok.under _ (List.mem_of_getElem? hx')
          simp only at hxin hxl d0 hpay
          obtain ⟨xi, rfl⟩ : ∃ xi : Nat, (xi : Int) = x1 := ⟨x1.toNat, by omega⟩
          obtain ⟨g, gn, gc, hve, hgB, hgF, hgn, ⟨xo, hxo⟩, hfz, hset⟩ := hr.out.setB (xi : Int) hxin.1 (by rw [hps.2.2.2.2]; exact hxin.2) x2 hxl pa pm pc hpay
          injection hve with e1 e2 e3
          subst e1 e2 e3
          rw [Int.toNat_natCast] at hxo hfz hset
          have q0 := hr.out.c0
          have HSET := Lib.hid hset
          have HX := Lib.hid hx'
          have i1 : (0 : Int) ≤ (j : Int) ∧ (j : Int) < (un : Int) := by omega
          have i2 : (0 : Int) ≤ (xi : Int) ∧ (xi : Int) < (n : Int) := by have := HN.out; omega
          have GG : Hid (B ≤ g ∧ g ∉ F) := ⟨hgB, hgF⟩
          clear hps hx hx' hxin hxl hpay hset hgn hgB hgF
          go_wp2_with fail
          refine wp_region_E (by kernel_rfl) [0, 1, 2, 3, 4, 5, 6, 7, 8, 9, 10, 11, 12, 13, 14, 15, 16, 17, 18, 19, 20] [3, 7, 11, 15, 19] [] [] [0, 1, 2, 3, 4, 5, 6, 7, 8, 9, 10, 11, 12, 13, 14, 15, 16, 17, 18, 19, 20, 21] (by kernel_rfl) (fun _ => True) ?_
          iterate 21 (first | (refine wpE_pure rfl rfl rfl rfl (fun J hJ => ?_); go_simp; refine hJ _ ?_; clear hJ J) | (refine wpE_still rfl rfl rfl (fun J hJ => ?_); go_simp; refine hJ _ ?_; clear hJ J))
          refine wpE_store rfl rfl rfl (w' := (wr.setCell ⟨g, xi, none⟩ (.slice pa pm pc)).drew) (by go_simp) (fun e => by cases e) ?_
          refine wpE_nil ?_
          go_wp2_with fail
          refine ⟨⟨j + 1, by go_num, hlt, ?_, ?_⟩, by simp [intOf]; omega⟩
          · have h := HSET.out.below (w' := (wr.setCell ⟨g, xi, none⟩ (.slice pa pm pc)).drew) (below_drewN (Below.refl _ _) 1)
            unfold Hid
            rw [List.take_add_one, HX.out, show (some ((xi : Int), x2)).toList = [((xi : Int), x2)] from rfl, Dk.puts_snoc]
            exact h
          · have h : Off B F wr (wr.setCell ⟨g, xi, none⟩ (.slice pa pm pc)) := Off.of_chg ((Chg.refl _ _).setCell _ _ (.inl (by simp : _ ∈ [g]))) (fun x hx => by simp at hx; subst hx; exact GG.out)
            exact (hof.out.trans h).trans (Off.of_below (below_drewN (Below.refl _ _) 1))
        · have e : t.under.take j = t.under := List.take_of_length_le (by have := HUN.out; omega)
          rw [e] at hr
          have f1 := hr.out.fz 1 (by decide)
          have HE := Lib.hid hr.out.emptied
          clear e
          go_wp2
          go_ret
          rw [E.out]
          refine ⟨rfl, ⟨_, _, HE.out⟩, (OF1.out.trans hof.out).trans (Off.of_chg ((Chg.refl _ _).setCell _ _ (.inl (by simp : _ ∈ [R]))) (fun x hx => by simp at hx; subst hx; exact H.out.lo))⟩
end Go.Proofs.Ytcnhjbipncledaa
