/- frame.Split, walked: the caller of frame.row's iterator. -/
import Derived.Test.YtfbepdlahaefgaaDoorRowI
import Derived.Test.YtfbepdlahaefgaaDoorRefHunt
import Derived.Test.YtfbepdlahaefgaaDoorRegV
namespace Go.Proofs.YtfbepdlahaefgaaDoor
open Go.RowKit Go.Shelf
open Frm (opened split total)
attribute [local go_sem] Oper.semAt_some

theorem infoAF : (Tryd.prog.info? 47).map (fun i => (i.zero, i.size, i.bytes)) = some (some (.agg #[.int .i64 0, .slice none 0 0]), 2, 32) := by kernel_rfl
/-- One frame more, in a fence. -/
theorem wplIn_push {F : Fence} {n : Nat} {P : Program} {w : World} {ops : Array Oper} {rest : List Oper} {o : Oper} {a : Act} {Q : Exit → Act → World → Prop} (hgd : o.guard = none) (s x : Operand) (t : TypeId)
    (ho : o.op = .call { callee := .builtin .append, args := #[s, x], argTypes := #[t, t] }) {base : Nat} {e : TypeId} {i : TypeInfo} {z : Value} {bytes : Nat} (ht : P.underlying t = some (.slice e)) (hi : P.info? e = some i) (hz : i.zero = some z)
    (hsize : i.size = 2) (hby : i.bytes = bytes) (hzs : z.cells.size = 2) {v : Value} {fs : List (Int × List (BitVec 8))} {X : List Nat} (hs : a.eval s = v) (hown : Frs w base e v fs X) (hX : ∀ x ∈ X, x < w.heap.size)
    (ad : Addr) (k : Int) (pa : Option Addr) (pm pc c : Nat) (p : List (BitVec 8)) (hx : a.eval x = .slice (some ad) 1 c) (h0 : w.cell? (ad.add 0) = some (.int .i64 k)) (h1 : w.cell? (ad.add 1) = some (.slice pa pm pc)) (hp : Pay w base (v.ownBlock.toList ++ X) pa pm pc p)
    (hb1 : (fs.length + 1) * bytes ≤ 140737488355328) (hb2 : fs.length + 1 ≤ maxLen)
    (h : ∀ v' w', Frs w' base e v' (fs ++ [(k, p)]) X → w.grownBy w' v.ownBlock → wpListIn F n P ops Q rest (a.put o.dst v') w') : wpListIn F n P ops Q (o :: rest) a w := by
  obtain ⟨hbs, hnx, xs, hr, hf⟩ := hown
  have hcells : ∀ j u, [Value.int .i64 k, .slice pa pm pc][j]? = some u → w.cell? (ad.add j) = some u := by
    intro j u hu
    match j, hu with
    | 0, hu => injection hu with hu; subst hu; exact h0
    | 1, hu => injection hu with hu; subst hu; exact h1
    | n + 2, hu => simp at hu
  refine wpListIn_plain hgd fun K hK => ?_
  obtain ⟨v', w', hrun, h2, h3, _, h5⟩ := run_append_own_at (P := P) w base t o.type e i z 2 bytes ht hi hz hsize hby hzs (by omega) v fs.length xs hr ad 1 c [.int .i64 k, .slice pa pm pc] rfl hcells (by intro u hu; simp at hu; rcases hu with rfl | rfl <;> rfl) hb2 hb1 hbs
  unfold Oper.wpIn
  refine ⟨?_, ?_⟩
  · simp [Oper.about, ho, resolve, Target.leads, Sem.run_pure]
  · rw [Oper.semAt_plain F _ _ (by rw [ho]; intro c hc'; cases hc')]
    simp [execOp, ho, resolve, invoke, builtin, hs, hx, hrun, Result.andThen]
    have kp : ∀ j, base ≤ j → j < w.heap.size → j ∉ v.ownBlock.toList ++ X → w'.heap[j]? = w.heap[j]? := fun j _ hj hn => h3.block j hj (fun e => hn (List.mem_append.2 (.inl (by rw [← e]; simp))))
    have own' : ∀ y ∈ v'.ownBlock.toList ++ X, y ∈ v.ownBlock.toList ++ X ∨ w.heap.size ≤ y := by
      intro y hy
      rcases List.mem_append.1 hy with hy | hy
      · rcases h5 with h | h
        · rw [h] at hy; exact .inl (List.mem_append.2 (.inl hy))
        · rw [h] at hy; simp at hy; exact .inr (Nat.le_of_eq hy.symm)
      · exact .inl (List.mem_append.2 (.inr hy))
    refine hK _ _ (h v' w' ⟨Nat.le_trans hbs h3.size, fun j hj hx => ?_, _, by rw [List.length_append]; exact h2, fun i' k' p' hi' => ?_⟩ h3)
    · rcases h5 with h | h
      · exact hnx j (h ▸ hj) hx
      · rw [h] at hj; injection hj with hj; have := hX j hx; omega
    rcases Nat.lt_or_ge i' fs.length with hlt | hge'
    · rw [List.getElem?_append_left hlt] at hi'
      obtain ⟨a1, m1, c1, e1, e2, e3⟩ := hf i' k' p' hi'
      have hxl := hr.1
      exact ⟨a1, m1, c1, by rw [List.getElem?_append_left (by omega)]; exact e1, by rw [List.getElem?_append_left (by omega)]; exact e2, e3.keep h3.size kp own'⟩
    · have hi0 : i' = fs.length := by
        have := (List.getElem?_eq_some_iff.1 hi').1
        rw [List.length_append, List.length_singleton] at this
        omega
      subst hi0
      rw [List.getElem?_append_right (Nat.le_refl _), Nat.sub_self] at hi'
      injection hi' with hi'
      injection hi' with q1 q2
      subst q1 q2
      have hxl := hr.1
      exact ⟨pa, pm, pc, by rw [List.getElem?_append_right (by omega), hxl, Nat.sub_self]; rfl, by rw [List.getElem?_append_right (by omega), hxl, Nat.add_sub_cancel_left]; rfl, hp.keep h3.size kp own'⟩
theorem Frs.weaken {w : World} {base base' : Nat} {e : TypeId} {v : Value} {fs : List (Int × List (BitVec 8))} {X : List Nat} (h : Frs w base e v fs X) (hb : base' ≤ base) : Frs w base' e v fs [] := by
  obtain ⟨h1, h2, xs, ⟨h3, hr⟩, hf⟩ := h
  refine ⟨Nat.le_trans hb h1, fun _ _ hx => (by cases hx), xs, ⟨h3, ?_⟩, fun i k p hi => ?_⟩
  · rcases hr with h | ⟨g, cap, cur, hv, hg, r⟩
    · exact .inl h
    · exact .inr ⟨g, cap, cur, hv, Nat.le_trans hb hg, r⟩
  · obtain ⟨a, m, c, e1, e2, e3, e4, e5, e6⟩ := hf i k p hi
    refine ⟨a, m, c, e1, e2, e3, e4, e5, ?_⟩
    rcases e6 with h | ⟨b, off, q1, q2, q3, q4, q5⟩
    · exact .inl h
    · exact .inr ⟨b, off, q1, Nat.le_trans hb q2, q3, fun hy => q4 (by rcases List.mem_append.1 hy with h | h; exact List.mem_append.2 (.inl h); cases h), q5⟩
theorem fresh_cell {w W : World} {x : Value} {t : TypeId} {k : Nat} (hk : w.heap.size = k) (hc : Chg [] (w.alloc (.cells #[x] t)) W) : W.cell? ⟨k, 0, none⟩ = some x ∧ W.frozen? ⟨k, 0, none⟩ = false := by
  subst hk
  exact ⟨(hc.cell _ 0 (by simp) (by simp)).trans (by simp), (hc.frozen _ 0 (by simp) (by simp)).trans (by simp)⟩
theorem row_maker (v : Value) (w : World) (hv : ∃ a n c, v = .slice a n c) :
    Calls Tryd.prog 46 #[v] w fun e w' => e = .returned (.func (.func 48) #[] #[.pointer (some ⟨w.heap.size, 0, none⟩)]) ∧ w' = w.alloc (.cells #[v] 24) := by
  obtain ⟨a, n, c, rfl⟩ := hv
  have hmf : ∀ (fn : Fn) (first cap : Array Value) (w : World), (Instr.makeFunc fn first cap).run Tryd.prog w = .ok (.func fn first cap) w := fun _ _ _ _ => rfl
  go_enter Tryd.func46, Tryd.ntmps46
  go_wp2
  go_ret
  exact ⟨rfl, rfl⟩
/-- What Split's rounds keep: the list's box A, the sum's box A + 1, the row's box A + 2. -/
def SplitI (bs : List (BitVec 8)) (A : Nat) (W3 : World) (k : Nat) (W : World) : Prop :=
  k ≤ (split bs).1.length ∧ A + 3 ≤ W.heap.size ∧ (∃ la ln lc, W.cell? ⟨A, 0, none⟩ = some (.slice la ln lc) ∧ Frs W (A + 3) 47 (.slice la ln lc) ((split bs).1.take k) [A + 3, A + 4]) ∧ W.frozen? ⟨A, 0, none⟩ = false ∧
  W.cell? ⟨A + 1, 0, none⟩ = some (.int .i64 (total ((split bs).1.take k) : Nat)) ∧ W.frozen? ⟨A + 1, 0, none⟩ = false ∧ ChgB (A + 3) [A, A + 1, A + 2] W3 W
set_option maxHeartbeats 4000000 in
theorem split_in (va : Option Addr) (vn vc : Nat) (bs : List (BitVec 8)) (w : World) (hv : IsBytes w (.slice va vn vc) bs) (hl : bs.length ≤ 2000000) (ht : Tab w) :
    CallsIn Fence.wide 3 Tryd.prog 34 #[.slice va vn vc] w fun e w' => ∃ la ln lc, e = .returned (.tuple #[.slice la ln lc, .int .i64 ((split bs).2.1 : Nat), .int .i64 (split bs).2.2]) ∧
      Frs w' w.heap.size 47 (.slice la ln lc) (split bs).1 [] ∧ Below w.heap.size w w' := by
  have HV := Lib.hid hv
  have HT := Lib.hid ht
  have HL := Lib.hid hl
  clear hv ht hl
  obtain ⟨i0, hi, hz0, hz1, hz2⟩ := info_parts infoAF
  have HI := Lib.hid (And.intro hi (And.intro hz0 (And.intro hz1 hz2)))
  clear hi hz0 hz1 hz2
  refine callsIn_of_wp_marks Tryd.func34 rfl trivial ?_ rfl
  simp only [Tryd.ntmps34, List.size_toArray, List.length_cons, List.length_nil, Nat.reduceAdd, Nat.reduceSub, Array.replicate_succ, Array.replicate_zero, List.push_toArray, List.append_toArray, List.nil_append, List.cons_append]
  gi_wp2_with fail
  refine ⟨trivial, callsIn_wide.2 ((row_maker _ _ ⟨_, _, _, rfl⟩).mono ?_)⟩
  rintro e w3 ⟨rfl, rfl⟩
  gi_wp2_with fail
  obtain ⟨A, hA⟩ : ∃ A, A = w.heap.size := ⟨_, rfl⟩
  obtain ⟨W3, hW3⟩ : ∃ W3, W3 = ((w.alloc (.cells #[.slice none 0 0] 67)).alloc (.cells #[.int .i64 0] 3)).alloc (.cells #[.slice va vn vc] 24) := ⟨_, rfl⟩
  have HS3 : Hid (W3.heap.size = A + 3) := by unfold Hid; rw [hW3, hA]; simp
  have HB3 : Hid (Below w.heap.size w W3) := by unfold Hid; rw [hW3]; exact (((Below.refl _ _).alloc (Nat.le_refl _) _).alloc (by simp) _).alloc (by simp; omega) _
  have HC3 : Hid (W3.cell? ⟨A, 0, none⟩ = some (.slice none 0 0) ∧ W3.cell? ⟨A + 1, 0, none⟩ = some (.int .i64 0) ∧ W3.cell? ⟨A + 2, 0, none⟩ = some (.slice va vn vc) ∧ W3.frozen? ⟨A, 0, none⟩ = false ∧ W3.frozen? ⟨A + 1, 0, none⟩ = false ∧ W3.frozen? ⟨A + 2, 0, none⟩ = false) := by
    unfold Hid; rw [hW3, hA]
    have h1 := fresh_cell (w := w) (x := .slice none 0 0) (t := 67) rfl (((Chg.refl [] _).alloc (.cells #[.int .i64 0] 3)).alloc (.cells #[.slice va vn vc] 24))
    have h2 := fresh_cell (w := w.alloc (.cells #[.slice none 0 0] 67)) (x := .int .i64 0) (t := 3) (k := w.heap.size + 1) (by simp) ((Chg.refl [] _).alloc (.cells #[.slice va vn vc] 24))
    have h3 := fresh_cell (w := (w.alloc (.cells #[.slice none 0 0] 67)).alloc (.cells #[.int .i64 0] 3)) (x := .slice va vn vc) (t := 24) (k := w.heap.size + 2) (by simp) (Chg.refl [] _)
    exact ⟨h1.1, h2.1, h3.1, h1.2, h2.2, h3.2⟩
  have HAW : Hid (A = w.heap.size) := hA
  have HV3 : Hid (IsBytes W3 (.slice va vn vc) bs) := HV.out.below HB3.out
  have HV0 := HV
  rw [← hW3, ← hA]
  clear hW3 hA
  have hs3 := HS3.out
  refine wpIn_rangeY (Bs := [A + 1 + 1]) (Cs := [A, A + 1]) rfl (by decide) (gf := 48) (lb := #[.pointer (some ⟨A + 1 + 1, 0, none⟩)]) rfl trivial (enters_of Tryd.func48 (by kernel_rfl) rfl)
    (row1_stops 2 (A + 1 + 1) [A, A + 1] va vn vc bs W3 HC3.out.2.2.1 HC3.out.2.2.2.2.2 HV3.out HL.out ?hcs ?hne ?htab) (by simp; omega) (by simp; omega) (fun _ => rfl)
    (SplitI bs A W3) (fun _ _ _ => False) ?hI (fun _ _ _ _ _ h => h.elim) ?h0
    (fun _ x a' W => ∃ Bx, A + 3 ≤ Bx ∧ Bx < W.heap.size ∧ W.cell? ⟨Bx, 0, none⟩ = some (.int .i64 x.kind) ∧ W.cell? ⟨Bx, 1, none⟩ = some (.slice x.a x.m x.c) ∧ a' = { tmps := #[.slice va vn vc, undef, .pointer (some ⟨A, 0, none⟩), .pointer (some ⟨A + 1, 0, none⟩), .int .i64 0, .pointer (some ⟨Bx, 0, none⟩), .int .i64 x.n, .slice va vn vc, .func (.func 48) #[] #[.pointer (some ⟨A + 1 + 1, 0, none⟩)], .agg #[.int .i64 x.kind, .slice x.a x.m x.c], .int .i64 x.n, undef, undef, undef, undef, undef, undef, undef, undef, undef, undef, undef, undef, undef, undef, undef, undef, undef, undef, undef, undef, undef, undef], defers := [] }) ?hassign ?hbody ?hdone (fun _ _ _ _ h => h.elim)
  case hcs => intro c hc; simp at hc; omega
  case hne =>
    intro hne p hp
    have := HV0.out.block_lt (List.length_pos_iff.2 hne) (by rw [hp])
    have h2 := HAW.out
    refine ⟨by omega, ?_⟩
    simp
    omega
  case htab =>
    intro W' hs hc
    have h3 : Tab W3 := HT.out.below HB3.out
    have h0 := HT.out.1
    have h2 := HAW.out
    have hn : 0 ∉ (A + 1 + 1) :: [A, A + 1] := by simp; omega
    exact ⟨Nat.lt_of_lt_of_le h3.1 hs, fun k hk => (hc.cell _ k h3.1 h3.1 hn).trans (h3.2 k hk)⟩
  case hI =>
    rintro k W W' E ⟨h1, h2, ⟨la, ln, lc, h3, h4⟩, h5, h6, h7, h8⟩ hs hc hE
    have hn : ∀ x, x ≤ A + 1 → x ∉ E := fun x hx he => by rcases hE x he with h | h | h <;> first | omega | (simp at h; omega)
    refine ⟨h1, Nat.le_trans h2 hc.size, ⟨la, ln, lc, (hc.cell _ 0 (by omega) (hn _ (by omega))).trans h3, h4.keep hc.size (fun j hj hj2 hj3 => hc.block j hj2 (fun hx => ?_)) (fun _ hy => .inl hy)⟩, (hc.frozen _ 0 (by omega) (hn _ (by omega))).trans h5, (hc.cell _ 0 (by omega) (hn _ (by omega))).trans h6, (hc.frozen _ 0 (by omega) (hn _ (by omega))).trans h7, h8.trans (ChgB.of_chg hc (fun x hx => ?_))⟩
    · simp at hj3
      rcases hE j hx with h | h | h <;> first | omega | (simp at h; omega)
    · rcases hE x hx with h | h | h
      · exact .inr (by omega)
      · exact .inr (by omega)
      · exact .inl (by simp at h; simp [h])
  case h0 => exact ⟨Nat.zero_le _, by omega, ⟨none, 0, 0, HC3.out.1, Frs.nil_ (by omega)⟩, HC3.out.2.2.2.1, HC3.out.2.1, HC3.out.2.2.2.2.1, ChgB.of_chg (Chg.refl [] _) (by simp)⟩
  case hassign =>
    intro l k x W K hl1 hl2 hi hK
    dsimp only [rowEnc]
    gi_wp2
    refine hK _ _ ((Chg.refl _ _).alloc _) ?_
    intro W'' hc
    have hne : W.heap.size ∉ [l] := by simp; omega
    exact ⟨W.heap.size, by omega, Nat.lt_of_lt_of_le (by simp) hc.size, (hc.cell _ 0 (by simp) hne).trans (by simp), (hc.cell _ 1 (by simp) hne).trans (by simp), rfl⟩
  case hbody =>
    rintro l k x a' W0 W hl1 hl2 ⟨i1, i2, ⟨la, ln, lc, i3, i4⟩, i5, i6, i7, i8⟩ hz hc _ ⟨p, hget, hn, hbit⟩ ⟨Bx, hB1, hB2, b0, b1, rfl⟩
    have hs0 := i4.block
    have hA : A ∉ l :: [A + 1 + 1] := by simp; omega
    have hA1 : A + 1 ∉ l :: [A + 1 + 1] := by simp; omega
    have c2 : W.cell? ⟨A, 0, none⟩ = some (.slice la ln lc) := (hc.cell _ 0 (by omega) hA).trans i3
    have f2 : W.frozen? ⟨A, 0, none⟩ = false := (hc.frozen _ 0 (by omega) hA).trans i5
    have c3 : W.cell? ⟨A + 1, 0, none⟩ = some (.int .i64 (total ((split bs).1.take k) : Nat)) := (hc.cell _ 0 (by omega) hA1).trans i6
    have f3 : W.frozen? ⟨A + 1, 0, none⟩ = false := (hc.frozen _ 0 (by omega) hA1).trans i7
    have HF : Hid (Frs W (A + 3) 47 (.slice la ln lc) ((split bs).1.take k) [A + 3, A + 4]) := i4.keep hc.size (fun j hj hj2 hj3 => hc.block j hj2 (fun hx => by simp at hj3 hx; omega)) (fun _ hy => .inl hy)
    have HP : Hid (Pay W (A + 3) ((Value.slice la ln lc).ownBlock.toList ++ [A + 3, A + 4]) x.a x.m x.c p) := hbit.pay (by omega) (by
      intro y hy
      rcases List.mem_append.1 hy with h | h
      · exact .inl (Nat.le_of_lt (hs0 y (by simpa using h)).2)
      · simp at h; exact .inl (by omega))
    have HC : Hid (ChgB (A + 3) [A, A + 1, A + 2] W3 W) := i8.trans (ChgB.of_chg hc (fun y hy => by simp at hy; rcases hy with h | h; exact .inr (by omega); exact .inl (by simp [h])))
    have HGET := Lib.hid hget
    have hsp := Frm.split_total _ bs (Nat.le_refl _)
    have hkl := (List.getElem?_eq_some_iff.1 hget).1
    have htk : (split bs).1.take (k + 1) = (split bs).1.take k ++ [(x.kind, p)] := by rw [List.take_add_one, hget]; rfl
    have htot : total ((split bs).1.take (k + 1)) = total ((split bs).1.take k) + x.n := by rw [htk, Frm.total_append, hn]; simp [total]
    have hmax : total ((split bs).1.take (k + 1)) ≤ 2000000 := by
      have h1 := Frm.total_take (split bs).1 (k + 1)
      have h2 := HL.out
      omega
    have hlen : ((split bs).1.take k).length ≤ 2000000 := by
      have h1 := Frm.total_le ((split bs).1.take k)
      omega
    have HTK := Lib.hid htk
    have HTOT := Lib.hid htot
    have HMAX := Lib.hid hmax
    have HLEN := Lib.hid hlen
    have HS := Lib.hid hsp
    have HN := Lib.hid hn
    have HAW2 : Hid (A + 5 ≤ W.heap.size) := by unfold Hid; have := hc.size; omega
    clear hs0 i3 i4 i5 i6 i7 i8 hc hget hbit hsp hA hA1 htk htot hmax hlen hn
    gi_wp2_with (gi_at_builtin; refine wplIn_push rfl (.tmp 11) (.tmp 13) _ rfl Tryd.underlying67 HI.out.1 HI.out.2.1 HI.out.2.2.1 HI.out.2.2.2 rfl rfl (HF.out.chg ((Chg.refl [] _).alloc _) (by simp)) (by have := HAW2.out; intro y hy; simp at hy ⊢; omega) ⟨W.heap.size, 0, none⟩ x.kind x.a x.m x.c 1 p (by simp [go_sem]) (by simp [Addr.add]) (by simp [Addr.add]) (HP.out.keep (by simp) (fun k _ hk _ => Below.heap_alloc _ _ _ hk) (fun _ hy => .inl hy)) (by have := HLEN.out; omega) (by have := HLEN.out; unfold maxLen; omega) ?_; intro v' w7 hfr7 hg7; obtain ⟨la', lc', rfl, _, _⟩ := hfr7.form_; have HF7 := Lib.hid hfr7; have HG7 := Lib.hid hg7; have haw2 := HAW2.out; have kk : ∀ j, j < A + 5 → w7.heap[j]? = W.heap[j]? := (fun j hj => (hg7.block j (by simp; omega) (fun e => by have h1 := (HF.out.block j e.symm).1; have h2 := HF.out.2.1 j e.symm; simp at h2; omega)).trans (Below.heap_alloc _ _ _ (by omega))); have q2 : w7.cell? ⟨A, 0, none⟩ = some (.slice la ln lc) := (World.cell?_of_block (a := ⟨A, 0, none⟩) (kk A (by omega))).trans c2; have p2 : w7.frozen? ⟨A, 0, none⟩ = false := (World.frozen?_of_block (a := ⟨A, 0, none⟩) (kk A (by omega))).trans f2; have q3 : w7.cell? ⟨A + 1, 0, none⟩ = some (.int .i64 (total ((split bs).1.take k) : Nat)) := (World.cell?_of_block (a := ⟨A + 1, 0, none⟩) (kk (A + 1) (by omega))).trans c3; have p3 : w7.frozen? ⟨A + 1, 0, none⟩ = false := (World.frozen?_of_block (a := ⟨A + 1, 0, none⟩) (kk (A + 1) (by omega))).trans f3; have KK := Lib.hid kk; clear hfr7 hg7 kk)
    have hw : wrap64 ((total ((split bs).1.take k) : Int) + (x.n : Int)) = ((total ((split bs).1.take (k + 1)) : Nat) : Int) := by
      have h1 := HTOT.out
      have h2 := HMAX.out
      unfold wrap64
      omega
    rw [hw]
    have hch : Chg [A, A + 1] w7 ((w7.setCell ⟨A, 0, none⟩ (.slice la' (k + 1) lc')).setCell ⟨A + 1, 0, none⟩ (.int .i64 ((total ((split bs).1.take (k + 1)) : Nat) : Int))) := ((Chg.refl _ _).setCell _ _ (.inl (by simp))).setCell _ _ (.inl (by simp))
    have hcb : ChgB (A + 5) [A, A + 1] W ((w7.setCell ⟨A, 0, none⟩ (.slice la' (k + 1) lc')).setCell ⟨A + 1, 0, none⟩ (.int .i64 ((total ((split bs).1.take (k + 1)) : Nat) : Int))) := by
      have h7 : ChgB (A + 5) [A, A + 1] W w7 := ⟨HG7.out.os, HG7.out.tape, HG7.out.output, Nat.le_trans (by simp) HG7.out.size, fun j hj _ _ => KK.out j hj⟩
      exact h7.trans (ChgB.of_chg hch (fun _ h => .inl h))
    have hne : ¬ A = A + 1 := by omega
    have hne' : ¬ A + 1 = A := by omega
    show ChgB (W3.heap.size + 2) [A, A + 1] W _ ∧ SplitI bs A W3 (k + 1) _
    rw [hs3]
    refine ⟨hcb, by omega, Nat.le_trans (by omega) hcb.size, ⟨la', k + 1, lc', by go_simp, ?_⟩, by go_simp, by go_simp, by go_simp, HC.out.trans (hcb.mono (by omega) (fun y hy => by simp at hy; rcases hy with h | h <;> simp [h]))⟩
    have h := HF7.out.chg hch (fun y hy => .inl (by simp at hy; omega))
    rw [← HTK.out] at h
    rw [show ((split bs).1.take (k + 1)).length = k + 1 by rw [List.length_take]; omega] at h
    exact h
  case hdone =>
    rintro k W hk ⟨i1, i2, ⟨la, ln, lc, i3, i4⟩, i5, i6, i7, i8⟩ hK
    have hal : (split bs).1.take k = (split bs).1 := by rw [hk]; exact List.take_length
    have hsp := Frm.split_total _ bs (Nat.le_refl _)
    rw [hal] at i4 i6
    rw [← hsp.1] at i6
    have HI4 : Hid (Frs W (A + 3) 47 (.slice la ln lc) (split bs).1 [A + 3, A + 4]) := i4
    obtain ⟨n, hn⟩ : ∃ n, n = (split bs).2.1 := ⟨_, rfl⟩
    rw [← hn] at i6 hsp
    have HN := Lib.hid hn
    have HSP := Lib.hid hsp
    have HI8 := Lib.hid i8
    have hvn : vn = bs.length ∧ vn ≤ vc := by
      obtain ⟨_, _, _, he, h1, h2, _⟩ := HV0.out
      injection he with _ e2 e3
      omega
    have HVN := Lib.hid hvn.1
    have hvc := hvn.2
    have hnl := hsp.2.1
    rw [← hvn.1] at hnl
    clear i4 i8 hsp hn hk hal hvn i1
    by_cases hlt : n < vn
    · have hg : (n : Int) < (vn : Int) := by omega
      obtain ⟨p', hsl, hsub, hblk⟩ := slice_rest (HV0.out.below HB3.out |>.reads.bytes) n (Nat.le_of_lt hlt) hvc
      have HSUB := Lib.hid hsub
      clear hsub
      have hsc := HI8.out
      have HTW : Hid (Tab W) := by
        have h3 : Tab W3 := HT.out.below HB3.out
        have h0 := HT.out.1
        have h2 := HAW.out
        have hn : 0 ∉ [A, A + 1, A + 2] := by simp; omega
        exact ⟨Nat.lt_of_lt_of_le h3.1 hsc.size, fun k hk => (hsc.cell _ k (by have := h3.1; omega) h3.1 hn).trans (h3.2 k hk)⟩
      have HSW : Hid (IsBytes W (.slice p' (vn - n) (vc - n)) (bs.drop n)) := by
        by_cases hbe : bs = []
        · exact absurd hlt (by have := HVN.out; rw [hbe] at this; simp at this; omega)
        · obtain ⟨p0, n0, c0, he, h1, h2, h3, h4⟩ := HSUB.out
          injection he with e1 e2 e3
          subst e1 e2 e3
          refine ⟨_, _, _, rfl, h1, h2, h3, ?_⟩
          rcases h4 with h | ⟨b, off, hp0, hlt4, hat4⟩
          · exact .inl h
          · obtain ⟨q0, hq0, hqb⟩ := hblk _ hp0
            have hlw := HV0.out.block_lt (List.length_pos_iff.2 hbe) (by rw [hq0])
            simp only at hqb
            have h2 := HAW.out
            exact .inr ⟨b, off, hp0, Nat.lt_of_lt_of_le hlt4 hsc.size, hat4.keep (hsc.block b (by omega) hlt4 (by simp; omega))⟩
      clear hsc hblk
      gi_wp2_with fail
      refine ⟨trivial, callsIn_wide.2 ((open_new _ _ W HSW.out HTW.out).mono ?_)⟩
      rintro e w5 ⟨a5, m5, c5, rfl, _, hb5⟩
      have q2 : w5.cell? ⟨A, 0, none⟩ = some (.slice la ln lc) := (hb5.cell (by simp only []; omega)).trans i3
      have p2 : w5.frozen? ⟨A, 0, none⟩ = false := (hb5.frozen (by simp only []; omega)).trans i5
      have q3 : w5.cell? ⟨A + 1, 0, none⟩ = some (.int .i64 n) := (hb5.cell (by simp only []; omega)).trans i6
      have p3 : w5.frozen? ⟨A + 1, 0, none⟩ = false := (hb5.frozen (by simp only []; omega)).trans i7
      have hKX : w5.heap[A + 3]? = some (.deferred (some [])) := by
        rw [hs3] at hK
        exact (hb5.block _ (Array.getElem?_eq_some_iff.1 hK).1).trans hK
      have HFX : Hid (Frs w5 (A + 3) 47 (.slice la ln lc) (split bs).1 [A + 3, A + 4]) := HI4.out.chg (Chg.of_below hb5 : Chg [] W w5) (by simp)
      have HCX : Hid (ChgB (A + 3) [A, A + 1, A + 2] W3 w5) := HI8.out.trans (ChgB.of_chg (Chg.of_below hb5 : Chg [] W w5) (by simp))
      have hee := (HSP.out.2.2.1 (by rw [← HVN.out]; exact hlt)).1
      obtain ⟨er, her⟩ : ∃ er, er = (opened (bs.drop n)).err := ⟨_, rfl⟩
      rw [← her] at hee ⊢
      clear her hb5 hK
      gi_wp2_with fail
      gi_region
      have hd : A + 3 < w5.heap.size := (Array.getElem?_eq_some_iff.1 hKX).1
      obtain ⟨Y, hY⟩ : ∃ Y, Y = ((w5.setCell ⟨A, 0, none⟩ (.slice la ln lc)).setCell ⟨A + 1, 0, none⟩ (.int .i64 n)).drew := ⟨_, rfl⟩
      have hXY : Chg [A, A + 1] w5 Y := by rw [hY]; exact (((Chg.refl _ _).setCell _ _ (.inl (by simp))).setCell _ _ (.inl (by simp))).drewN 1
      have hKY : Y.heap[A + 3]? = some (.deferred (some [])) := (hXY.block _ hd (by simp)).trans hKX
      have hYA : Y.cell? ⟨A, 0, none⟩ = some (.slice la ln lc) := by rw [hY]; go_simp
      have hYB : Y.cell? ⟨A + 1, 0, none⟩ = some (.int .i64 n) := by rw [hY]; go_simp
      gi_wp2_with fail
      rw [← hY]
      clear hY
      have hYZ : Chg [A + 3] Y (Y.putObj (A + 3) (.deferred none)) := chg_putObj _ _ _ _ (by simp)
      have hZA : (Y.putObj (A + 3) (.deferred none)).cell? ⟨A, 0, none⟩ = some (.slice la ln lc) := (hYZ.cell _ 0 (cell_lt hYA) (by simp)).trans hYA
      have hZB : (Y.putObj (A + 3) (.deferred none)).cell? ⟨A + 1, 0, none⟩ = some (.int .i64 n) := (hYZ.cell _ 0 (cell_lt hYB) (by simp)).trans hYB
      have hXZ : Chg [A, A + 1, A + 3] w5 (Y.putObj (A + 3) (.deferred none)) := (hXY.mono (by simp +contextual)).trans (hYZ.mono (by simp +contextual))
      have hfr : Frs (Y.putObj (A + 3) (.deferred none)) (A + 3) 47 (.slice la ln lc) (split bs).1 [A + 3, A + 4] := HFX.out.keep hXZ.size (fun j hj hj2 hj3 => hXZ.block j hj2 (fun hx => by simp at hj3 hx; omega)) (fun _ hy => .inl hy)
      have hcb : Below w.heap.size w (Y.putObj (A + 3) (.deferred none)) := by
        have h1 : ChgB (A + 3) [A, A + 1, A + 2] W3 (Y.putObj (A + 3) (.deferred none)) := HCX.out.trans (ChgB.of_chg hXZ (fun y hy => by simp at hy; rcases hy with h | h | h; exact .inl (by simp [h]); exact .inl (by simp [h]); exact .inr (by omega)))
        have h2 := HAW.out
        have h3 := HB3.out.size
        exact HB3.out.trans ⟨h1.os, h1.tape, h1.output, h1.size, fun j hj => h1.block j (by omega) (by omega) (by simp; omega)⟩
      refine ⟨by simp, .inl ⟨_, _, rfl, run_takeDeferred hKY, ?_⟩⟩
      refine ⟨.tuple #[.slice la ln lc, .int .i64 n, .int .i64 er], ?_, la, ln, lc, ?_, ?_, hcb⟩
      · clear hfr hcb hXZ hYZ hKY hXY
        simp [results, go_sem, hZA, hZB]
      · rw [← HN.out, hee]
      · rw [← HAW.out]; exact hfr.weaken (by omega)
    · have hg : ¬ (n : Int) < (vn : Int) := by omega
      gi_wp2_with fail
      gi_region
      have hKX : W.heap[A + 3]? = some (.deferred (some [])) := by rw [hs3] at hK; exact hK
      have HFX := HI4
      have HCX := HI8
      have hee : (split bs).2.2 = 0 := HSP.out.2.2.2 (by rw [← HVN.out]; omega)
      have hd : A + 3 < W.heap.size := (Array.getElem?_eq_some_iff.1 hKX).1
      obtain ⟨Y, hY⟩ : ∃ Y, Y = ((W.setCell ⟨A, 0, none⟩ (.slice la ln lc)).setCell ⟨A + 1, 0, none⟩ (.int .i64 n)).drew := ⟨_, rfl⟩
      have hXY : Chg [A, A + 1] W Y := by rw [hY]; exact (((Chg.refl _ _).setCell _ _ (.inl (by simp))).setCell _ _ (.inl (by simp))).drewN 1
      have hKY : Y.heap[A + 3]? = some (.deferred (some [])) := (hXY.block _ hd (by simp)).trans hKX
      have hYA : Y.cell? ⟨A, 0, none⟩ = some (.slice la ln lc) := by rw [hY]; go_simp
      have hYB : Y.cell? ⟨A + 1, 0, none⟩ = some (.int .i64 n) := by rw [hY]; go_simp
      gi_wp2_with fail
      rw [← hY]
      clear hY
      have hYZ : Chg [A + 3] Y (Y.putObj (A + 3) (.deferred none)) := chg_putObj _ _ _ _ (by simp)
      have hZA : (Y.putObj (A + 3) (.deferred none)).cell? ⟨A, 0, none⟩ = some (.slice la ln lc) := (hYZ.cell _ 0 (cell_lt hYA) (by simp)).trans hYA
      have hZB : (Y.putObj (A + 3) (.deferred none)).cell? ⟨A + 1, 0, none⟩ = some (.int .i64 n) := (hYZ.cell _ 0 (cell_lt hYB) (by simp)).trans hYB
      have hXZ : Chg [A, A + 1, A + 3] W (Y.putObj (A + 3) (.deferred none)) := (hXY.mono (by simp +contextual)).trans (hYZ.mono (by simp +contextual))
      have hfr : Frs (Y.putObj (A + 3) (.deferred none)) (A + 3) 47 (.slice la ln lc) (split bs).1 [A + 3, A + 4] := HFX.out.keep hXZ.size (fun j hj hj2 hj3 => hXZ.block j hj2 (fun hx => by simp at hj3 hx; omega)) (fun _ hy => .inl hy)
      have hcb : Below w.heap.size w (Y.putObj (A + 3) (.deferred none)) := by
        have h1 : ChgB (A + 3) [A, A + 1, A + 2] W3 (Y.putObj (A + 3) (.deferred none)) := HCX.out.trans (ChgB.of_chg hXZ (fun y hy => by simp at hy; rcases hy with h | h | h; exact .inl (by simp [h]); exact .inl (by simp [h]); exact .inr (by omega)))
        have h2 := HAW.out
        have h3 := HB3.out.size
        exact HB3.out.trans ⟨h1.os, h1.tape, h1.output, h1.size, fun j hj => h1.block j (by omega) (by omega) (by simp; omega)⟩
      refine ⟨by simp, .inl ⟨_, _, rfl, run_takeDeferred hKY, ?_⟩⟩
      refine ⟨.tuple #[.slice la ln lc, .int .i64 n, .int .i64 0], ?_, la, ln, lc, ?_, ?_, hcb⟩
      · clear hfr hcb hXZ hYZ hKY hXY
        simp [results, go_sem, hZA, hZB]
      · rw [← HN.out, hee]
      · rw [← HAW.out]; exact hfr.weaken (by omega)
end Go.Proofs.YtfbepdlahaefgaaDoor
