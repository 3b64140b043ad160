/- The document's disk: New, walked. -/
import Derived.Test.YtcnhjbipncledaaRkW4
import Derived.Test.YtcnhjbipncledaaAllM
import Derived.Deep.OwnRows
namespace Go.Proofs.Ytcnhjbipncledaa
open Go.RowKit

theorem made_zero (w : World) : Own (w.alloc (.cells (madeCells #[.int .u8 0] 128) 5)) w.heap.size 5 (.slice (some ⟨w.heap.size, 0, none⟩) 128 128) ((zeros 128).map byteV) := by
  have h := (made_own (e := 5) (w := w) rfl (show 128 ≤ maxLen by decide) (.int .u8 0)).1
  have e : List.replicate 128 (Value.int .u8 0) = (zeros 128).map byteV := by unfold zeros; rw [List.map_replicate]; rfl
  rw [List.length_replicate, e] at h
  exact h
/-- While the blocks are laid. -/
structure Laying (w : World) (B R : Nat) (a : Option Addr) (n c : Nat) (j : Nat) : Prop where
  c0 : w.cell? ⟨R, 0, none⟩ = some (.slice a n c)
  c1 : w.cell? ⟨R, 1, none⟩ = some (.slice none 0 0)
  c2 : w.cell? ⟨R, 2, none⟩ = some (.bool false)
  c3 : w.cell? ⟨R, 3, none⟩ = some (.int .i64 0)
  c4 : w.cell? ⟨R, 4, none⟩ = some (.bool false)
  fz : ∀ k, k < 5 → w.frozen? ⟨R, k, none⟩ = false
  out : ∀ k, (Value.slice a n c).ownBlock = some k → k ≠ R
  bs : ∃ bs : List Value, Own w B 30 (.slice a n c) bs ∧ bs.length = j ∧ ∀ (i : Nat) (u : Value), bs[i]? = some u → ∃ a' m c', u = .slice a' m c' ∧ Pay w B (R :: (Value.slice a n c).ownBlock.toList) a' m c' (zeros 128)
theorem Laying.done {w : World} {B R : Nat} {a : Option Addr} {n c j : Nat} {F : List Nat} (h : Laying w B R a n c j) (hj : 0 < j) (hR : B ≤ R) (hF : ∀ x ∈ F, x < B) (hB : B ≤ w.heap.size) : RkAt w B F R (.slice a n c) (.slice none 0 0) (Dk.fresh j) := by
  obtain ⟨bs, ho, hl, hx⟩ := h.bs
  have hn : ∀ k, B ≤ k → k ∉ F := fun k hk hx => by have := hF k hx; omega
  refine ⟨⟨hR, hn R hR⟩, h.c0, h.c1, h.c2, ⟨0, h.c3, (fun e => by cases e), by decide, by decide⟩, h.c4, h.fz, ⟨bs, ho, by rw [hl]; rfl, fun i u hu => ?_⟩, Frs.nil_ hB, fun k hk => ⟨h.out k hk, hn k (ho.block_ge k hk).1⟩, (fun x hx => by cases hx), ⟨by show (0 : Int) < j; omega, (fun k => by simp [Dk.fresh, zeros]), (fun x hx => by cases hx), ⟨Int.le_refl _, by show (0 : Int) ≤ 9223372036854775807; decide⟩⟩⟩
  obtain ⟨a', m, c', e, h1, h2, h3, h4⟩ := hx i u hu
  refine ⟨a', m, c', e, h1, h2, h3, ?_⟩
  rcases h4 with h4 | ⟨b, off, ha, h5, h6, h7, h8⟩
  · exact .inl h4
  · refine .inr ⟨b, off, ha, h5, h6, fun hx => h7 ?_, h8⟩
    unfold rkX at hx
    simp [Value.ownBlock] at hx ⊢
    rcases hx with h | h | h
    · exact .inl h
    · exact .inr h
    · exact absurd h (hn b h5)
set_option maxRecDepth 10000 in
set_option maxHeartbeats 4000000 in
theorem new_rk (w : World) (n : Nat) (F : List Nat) (h1 : 1 ≤ n) (h2 : n ≤ 16384) (hF : ∀ x ∈ F, x < w.heap.size) :
    Calls Try.prog 25 #[.int .i64 n] w fun e w' => e = .returned (.pointer (some ⟨w.heap.size, 0, none⟩)) ∧ RkIs w' w.heap.size F w.heap.size (Dk.fresh n) ∧ Below w.heap.size w w' := by
  have hmk : ∀ w : World, (Instr.makeSlice 30 (.int .i64 128) (.int .i64 128)).run Try.prog w = .ok (.slice (some ⟨w.heap.size, 0, none⟩) 128 128) (w.alloc (.cells (madeCells #[.int .u8 0] 128) 5)) := run_make_row' (P := Try.prog) 30 5 (.int .u8 0) 1 Try.underlying30 info8 rfl .i64 .i64 128 (by omega) (by omega)
  have HMK := Lib.hid hmk
  have HF := Lib.hid hF
  have H1 := Lib.hid h1
  have nb : (n : Int) ≤ 16384 := by omega
  obtain ⟨R, hR⟩ : ∃ R, R = w.heap.size := ⟨_, rfl⟩
  obtain ⟨w1, hw1⟩ : ∃ w1, w1 = w.alloc (.cells #[.slice none 0 0, .slice none 0 0, .bool false, .int .i64 0, .bool false] 53) := ⟨_, rfl⟩
  have HB1 : Hid (Below w.heap.size w w1) := by unfold Hid; rw [hw1]; exact (Below.refl _ _).alloc (Nat.le_refl _) _
  have HRS : Hid (R < w1.heap.size) := by unfold Hid; rw [hw1, hR]; simp
  have L1 : Hid (Laying w1 R R none 0 0 0) := by
    have hh : w1.heap[R]? = some (.cells #[.slice none 0 0, .slice none 0 0, .bool false, .int .i64 0, .bool false] 53) := by rw [hw1, hR]; exact heap_alloc_new w _
    exact ⟨(cell_of_row _ _ 0 _ _ _ hh).trans rfl, (cell_of_row _ _ 1 _ _ _ hh).trans rfl, (cell_of_row _ _ 2 _ _ _ hh).trans rfl, (cell_of_row _ _ 3 _ _ _ hh).trans rfl, (cell_of_row _ _ 4 _ _ _ hh).trans rfl, fun k _ => by simp [World.frozen?, hh], (fun k hk => by cases hk), ⟨[], Own.nil_ (Nat.le_of_lt HRS.out), rfl, (fun i u hu => by simp at hu)⟩⟩
  have HRW : Hid (R = w.heap.size) := hR
  have HW1 := Lib.hid hw1
  clear hmk hF h1 h2 hw1
  go_enter Try.func25, Try.ntmps25
  go_wp2
  rw [← hR, ← HW1.out]
  clear hR
  go_loopw [4] (fun i wr => ∃ (j : Nat) (a : Option Addr) (m c : Nat), i = .int .i64 j ∧ j ≤ n ∧ Hid (Laying wr R R a m c j) ∧ Hid (Below R w1 wr)) (fun i _ => n - (intOf i).toNat)
  case atStart => exact ⟨0, none, 0, 0, rfl, Nat.zero_le _, L1.out, Below.refl _ _⟩
  case round =>
    obtain ⟨j, a, m, c, rfl, hj, hly, hbl⟩ := hrel
    by_cases hlt : j < n
    · have g : (j : Int) < (n : Int) := by omega
      have jb : (j : Int) ≤ 16384 := by omega
      go_wp2_with fail
      refine wp_region_E (by kernel_rfl) [0, 1, 2, 3, 4, 8, 9] [] [4] [5, 6] [0, 1, 2, 3, 4, 5, 6, 7, 8, 9, 10] (by kernel_rfl) (fun w' => w'.cell? ⟨R, 0, none⟩ = some (.slice a m c)) ?_
      iterate 4 (refine wpE_pure rfl rfl rfl rfl (fun J hJ => ?_); go_simp; refine hJ _ ?_; clear hJ J)
      refine wpE_read rfl rfl rfl (.slice a m c) rfl hly.out.c0 (fun w' hc => by go_simp) rfl ?_
      obtain ⟨bs, hown, hbl', hbs⟩ := hly.out.bs
      obtain ⟨w2, hw2⟩ : ∃ w2, w2 = (wr.alloc (.cells (madeCells #[.int .u8 0] 128) 5)).drew := ⟨_, rfl⟩
      have hb2 : Below wr.heap.size wr w2 := by rw [hw2]; exact below_drewN ((Below.refl _ _).alloc (Nat.le_refl _) _) 1
      have hc2 : w2.cell? ⟨R, 0, none⟩ = some (.slice a m c) := (hb2.cell (p := ⟨R, 0, none⟩) (cell_lt hly.out.c0)).trans hly.out.c0
      refine wpE_value rfl rfl rfl (v := .slice (some ⟨wr.heap.size, 0, none⟩) 128 128) (w' := w2) (by have hmk := HMK.out; go_simp) (fun _ => hc2) ?_
      obtain ⟨w3, hw3⟩ : ∃ w3, w3 = w2.alloc (.cells #[.slice (some ⟨wr.heap.size, 0, none⟩) 128 128] 30) := ⟨_, rfl⟩
      have hb3 : Below w2.heap.size w2 w3 := by rw [hw3]; exact (Below.refl _ _).alloc (Nat.le_refl _) _
      have hc3 : w3.cell? ⟨R, 0, none⟩ = some (.slice a m c) := (hb3.cell (p := ⟨R, 0, none⟩) (cell_lt hc2)).trans hc2
      refine wpE_value rfl rfl rfl (v := .slice (some ⟨w2.heap.size, 0, none⟩) 1 1) (w' := w3) (by go_simp) (fun _ => hc3) ?_
      have hb13 : Below wr.heap.size wr w3 := hb2.trans (hb3.mono hb2.size)
      have hown3 : Own w3 R 30 (.slice a m c) bs := hown.below hb13
      have hrd : Reads w3 (.slice (some ⟨w2.heap.size, 0, none⟩) 1 1) [.slice (some ⟨wr.heap.size, 0, none⟩) 128 128] := by rw [hw3]; exact Reads.one _ _ _
      obtain ⟨v', w4, hrun, hown4, hgr, hvo⟩ := run_append (P := Try.prog) (ty := 34) elemRow hown3 hrd (by intro u hu; simp at hu; subst hu; rfl) (by simp only [List.length_singleton]; omega) (by simp only [List.length_singleton]; unfold maxLen; omega)
      refine wpE_value rfl rfl rfl (exec_append (.tmp 16) (.tmp 18) 34 rfl (by go_simp) (by go_simp) hrun) (fun e => by cases e) ?_
      obtain ⟨xa, xn, xc, rfl, -⟩ := hown4.form_
      have hk4 : ∀ k, k < wr.heap.size → (Value.slice a m c).ownBlock ≠ some k → w4.heap[k]? = wr.heap[k]? := fun k h1 h2 => (hgr.block k (Nat.lt_of_lt_of_le h1 hb13.size) (fun e => h2 e.symm)).trans (hb13.block k h1)
      have hRl := cell_lt hly.out.c0
      have hR4 : w4.heap[R]? = wr.heap[R]? := hk4 R hRl (fun e => hly.out.out R e rfl)
      have q := fun k => World.cell?_of_block (a := ⟨R, k, none⟩) hR4
      have qf := fun k => World.frozen?_of_block (a := ⟨R, k, none⟩) hR4
      have q0 : w4.cell? ⟨R, 0, none⟩ = some (.slice a m c) := (q 0).trans hly.out.c0
      have qf0 : w4.frozen? ⟨R, 0, none⟩ = false := (qf 0).trans (hly.out.fz 0 (by decide))
      have QQ := Lib.hid q
      have QF := Lib.hid qf
      clear q qf
      iterate 2 (refine wpE_pure rfl rfl rfl rfl (fun J hJ => ?_); go_simp; refine hJ _ ?_; clear hJ J)
      obtain ⟨w5, hw5⟩ : ∃ w5, w5 = w4.setCell ⟨R, 0, none⟩ (.slice xa xn xc) := ⟨_, rfl⟩
      refine wpE_store rfl rfl rfl (w' := w4.setCell ⟨R, 0, none⟩ (.slice xa xn xc)) (by go_simp) (fun e => by cases e) ?_
      rw [← hw5]
      have hc45 : Chg [R] w4 w5 := by rw [hw5]; exact (Chg.refl _ _).setCell _ _ (.inl (by simp))
      have o := fun k (_ : k ≠ 0) => show w5.cell? ⟨R, k, none⟩ = wr.cell? ⟨R, k, none⟩ from (by rw [hw5]; exact World.cell?_setCell_other _ _ _ _ (by simp; try omega) : w5.cell? ⟨R, k, none⟩ = w4.cell? ⟨R, k, none⟩).trans (QQ.out k)
      have hnew : ∀ k, (Value.slice xa xn xc).ownBlock = some k → (Value.slice a m c).ownBlock = some k ∨ wr.heap.size ≤ k := fun k hk => by
        rcases hvo with h | h
        · exact .inl (h ▸ hk)
        · rw [h] at hk; injection hk with hk; have := hb13.size; exact .inr (by omega)
      have hs3 : wr.heap.size ≤ w4.heap.size := Nat.le_trans hb13.size hgr.size
      have hRnew : ∀ k, (Value.slice xa xn xc).ownBlock = some k → k ≠ R := fun k hk e => by
        rcases hnew k hk with h | h
        · exact hly.out.out k h e
        · omega
      have keep : ∀ {a' m' c' p}, Pay wr R (R :: (Value.slice a m c).ownBlock.toList) a' m' c' p → Pay w5 R (R :: (Value.slice xa xn xc).ownBlock.toList) a' m' c' p := fun hp =>
        hp.keep (Nat.le_trans hs3 hc45.size) (fun k h1 h2 h3 => by
          simp at h3
          exact (hc45.block k (Nat.lt_of_lt_of_le h2 hs3) (by simpa using h3.1)).trans (hk4 k h2 h3.2)) (fun y hy => by
          simp at hy
          rcases hy with rfl | hy
          · exact .inl (by simp)
          · rcases hnew y hy with h | h
            · exact .inl (by simp [h])
            · exact .inr h)
      have hL : Laying w5 R R xa xn xc (j + 1) := by
        refine ⟨by rw [hw5]; exact World.cell?_setCell_same _ _ _ q0, (o 1 (by decide)).trans hly.out.c1, (o 2 (by decide)).trans hly.out.c2, (o 3 (by decide)).trans hly.out.c3, (o 4 (by decide)).trans hly.out.c4, fun k hk => by rw [hw5, World.frozen?_setCell]; exact (QF.out k).trans (hly.out.fz k hk), hRnew, ⟨_, hown4.keep hc45.size (fun k hk => hc45.block k (hown4.block_ge k hk).2 (by simpa using hRnew k hk)), by rw [List.length_append, hbl']; rfl, fun i u hu => ?_⟩⟩
        rcases Nat.lt_or_ge i bs.length with hi | hi
        · rw [List.getElem?_append_left hi] at hu
          obtain ⟨a', m', c', e, hp⟩ := hbs i u hu
          exact ⟨a', m', c', e, keep hp⟩
        · rw [List.getElem?_append_right hi] at hu
          obtain ⟨i', hi'⟩ : ∃ i', i' = i - bs.length := ⟨_, rfl⟩
          rw [← hi'] at hu
          match i', hu with
          | 0, hu =>
            simp at hu
            refine ⟨_, _, _, hu.symm, ?_⟩
            obtain ⟨pa, pm, pc, he, hp⟩ := Pay.made (B := R) (Y := R :: (Value.slice a m c).ownBlock.toList) (made_zero wr) (Nat.le_of_lt hRl) (fun y hy => by
              simp at hy
              rcases hy with rfl | hy
              · exact hRl
              · exact (hown.block_ge y hy).2)
            injection he with e1 e2 e3
            subst e1 e2 e3
            have hp2 : Pay w2 R (R :: (Value.slice a m c).ownBlock.toList) (some ⟨wr.heap.size, 0, none⟩) 128 128 (zeros 128) := hp.keep (by rw [hw2]; exact Nat.le_refl _) (fun k _ h2 _ => by rw [hw2]; rfl) (fun _ hy => .inl hy)
            refine hp2.keep (Nat.le_trans hb3.size (Nat.le_trans hgr.size hc45.size)) (fun k h1 h2 h3 => ?_) (fun y hy => ?_)
            · simp at h3
              exact ((hc45.block k (Nat.lt_of_lt_of_le h2 (Nat.le_trans hb3.size hgr.size)) (by simpa using h3.1)).trans (hgr.block k (Nat.lt_of_lt_of_le h2 hb3.size) (fun e => h3.2 e.symm))).trans (hb3.block k h2)
            · simp at hy
              rcases hy with rfl | hy
              · exact .inl (by simp)
              · rcases hvo with h | h
                · rw [h] at hy; exact .inl (by simp [hy])
                · rw [h] at hy; injection hy with hy; have := hb3.size; exact .inr (by omega)
          | i' + 1, hu => simp at hu
      have hB5 : Below R w1 w5 := by
        have h1 : Below R wr w3 := hb13.mono (Nat.le_of_lt hRl)
        have h2 : Below R w3 w4 := below_grown (Below.refl _ _) hown3 hgr (Nat.le_refl _)
        have h3 : Below R w4 w5 := hc45.below (Nat.le_trans (Nat.le_of_lt hRl) hs3) (fun x hx => by simp at hx; omega)
        exact hbl.out.trans (h1.trans (h2.trans h3))
      have HL5 := Lib.hid hL
      have HB5 := Lib.hid hB5
      clear hL hB5 keep hRnew hs3 hnew o hc45 hw5 hR4 hk4 hown4 hgr hvo hrun hrd hown3 hb13 hc3 hb3 hw3 hc2 hb2 hw2 hown hbl' hbs q0 qf0
      refine wpE_nil ?_
      go_wp2_with fail
      exact ⟨⟨j + 1, xa, xn, xc, by go_num, hlt, HL5.out, HB5.out⟩, by simp [intOf]; omega⟩
    · have hjn : j = n := by omega
      subst hjn
      have g : ¬ (j : Int) < (j : Int) := by omega
      clear hlt
      go_wp2
      go_ret
      have hRW := HRW.out
      refine ⟨by rw [← hRW]; rfl, ?_, HB1.out.trans (by rw [← hRW]; exact hbl.out)⟩
      rw [← hRW]
      exact ⟨_, _, hly.out.done H1.out (Nat.le_refl _) (by rw [hRW]; exact HF.out) (Nat.le_trans (Nat.le_of_lt HRS.out) hbl.out.size)⟩
end Go.Proofs.Ytcnhjbipncledaa
