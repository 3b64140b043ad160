/- The walk of frame.Hunt's iterator: the frames that stand anywhere, asked for one by one. -/
import Derived.Test.YtfbepdlahaefgaaDoorRangeX
import Derived.Test.YtfbepdlahaefgaaDoorFrameM2
import Derived.Test.YtfbepdlahaefgaaDoorFrameW3
import Derived.Test.YtfbepdlahaefgaaDoorLaw13A
import Derived.Shelf.Abstract
import Derived.Shelf.RegionOpen
import Derived.WalkKit
import Derived.OwnWalkIn
import Derived.TacticsInMore
import Derived.LoopNIn
import Derived.LoopIn
namespace Go.Proofs.YtfbepdlahaefgaaDoor
open Go.RowKit Go.Shelf
open Frm (opened hunt)
attribute [local go_sem] Oper.semAt_some

theorem wplIn_append {F : Fence} {n : Nat} {P : Program} {w : World} {ops : Array Oper} {rest : List Oper} {o : Oper} {a : Act} {Q : Exit → Act → World → Prop} (hgd : o.guard = none) (s x : Operand) (t : TypeId)
    (ho : o.op = .call { callee := .builtin .append, args := #[s, x], argTypes := #[t, t] }) {base : Nat} {e : TypeId} {bytes : Nat} (E : Elem P t e bytes)
    {v : Value} {xs : List Value} (hs : a.eval s = v) (hown : Own w base e v xs) {xv : Value} {news : List Value} (hx : a.eval x = xv) (hr : Reads w xv news) (h1 : ∀ u ∈ news, u.oneCell' = true)
    (hb1 : (xs.length + news.length) * bytes ≤ 140737488355328) (hb2 : xs.length + news.length ≤ maxLen)
    (h : ∀ v' w', Own w' base e v' (xs ++ news) → w.grownBy w' v.ownBlock → (v'.ownBlock = v.ownBlock ∨ v'.ownBlock = some w.heap.size) → wpListIn F n P ops Q rest (a.put o.dst v') w') : wpListIn F n P ops Q (o :: rest) a w := by
  refine wpListIn_plain hgd fun K hK => ?_
  obtain ⟨v', w', hrun, h2, h3, h4⟩ := run_append (P := P) (ty := o.type) E hown hr h1 hb1 hb2
  unfold Oper.wpIn
  refine ⟨?_, ?_⟩
  · simp [Oper.about, ho, resolve, Target.leads, Sem.run_pure]
  · rw [Oper.semAt_plain F _ _ (by rw [ho]; intro c hc'; cases hc')]
    simp [execOp, ho, resolve, invoke, builtin, hs, hx, hrun, Result.andThen]
    exact hK _ _ (h v' w' h2 h3 h4)
theorem Bit.chg {B : Nat} {E : List Nat} {w w' : World} {v : Value} {bs : List (BitVec 8)} (h : Bit B w v bs) (hc : Chg E w w') (hE : ∀ e ∈ E, e ≤ B) : Bit B w' v bs := by
  obtain ⟨a, len, cap, hv, h1, h2, h3, hb⟩ := h
  refine ⟨a, len, cap, hv, h1, h2, h3, ?_⟩
  rcases hb with hb | ⟨b, off, ha, hne, hlt, hat⟩
  · exact .inl hb
  · exact .inr ⟨b, off, ha, hne, Nat.lt_of_lt_of_le hlt hc.size, hat.chg hc hlt (fun hx => by have := hE b hx; omega)⟩
/-- What is left of a slice of bytes from a place on: the operation's run, and how it reads. -/
theorem slice_tail {w : World} {p : Option Addr} {z c : Nat} {bs : List (BitVec 8)} (h : IsBytes w (.slice p z c) bs) (i : Nat) (hi : i ≤ z) (hz : z ≤ c) :
    ∃ p', (∀ w', (Instr.slice 24 (.slice p z c) (some (.int .i64 (i : Int))) none none).run Tryd.prog w' = .ok (.slice p' (z - i) (c - i)) w') ∧ IsBytes w (.slice p' (z - i) (c - i)) (bs.drop i) := by
  have hrun : ∀ w', (Instr.slice 24 (.slice p z c) (some (.int .i64 (i : Int))) none none).run Tryd.prog w' = .ok (.slice (if c = i then p else p.map (·.add (i * 1))) (z - i) (c - i)) w' := by
    intro w'
    have h1 : (i : Int) ≤ (z : Int) := by omega
    have h0 : (0 : Int) ≤ (i : Int) := by omega
    clear h
    go_simp
  refine ⟨_, hrun, ?_⟩
  obtain ⟨p0, n0, c0, he, hl, hlc, hm, hb⟩ := h
  injection he with e1 e2 e3
  subst e1 e2 e3
  refine ⟨_, _, _, rfl, by rw [List.length_drop]; omega, by omega, by omega, ?_⟩
  by_cases hcz : c = i
  · left
    exact List.drop_of_length_le (by omega)
  · rcases hb with rfl | ⟨b, off, rfl, hlt, hb⟩
    · left; simp
    · right
      refine ⟨b, off + i, ?_, hlt, ?_⟩
      · rw [if_neg hcz]
        simp [Addr.add]
      · intro k hk
        rw [List.length_drop] at hk
        rw [Nat.add_assoc, hb (i + k) (by omega), List.getElem_drop]
/-- What is handed to a round: a place, a frame. -/
structure Met where
  at_ : Nat
  kind : Int
  a : Option Addr
  m : Nat
  c : Nat
def metEnc (x : Met) : Array Value := #[.int .i64 x.at_, .agg #[.int .i64 x.kind, .slice x.a x.m x.c]]
def MetOk (bs : List (BitVec 8)) (k : Nat) (x : Met) (W : World) : Prop := ∃ p, (hunt 0 bs)[k]? = some (x.at_, x.kind, p) ∧ IsBytes W (.slice x.a x.m x.c) p
set_option maxHeartbeats 2000000 in
theorem hunt1_stops (n Bx : Nat) (Cs : List Nat) (ba : Option Addr) (bn bc : Nat) (bs : List (BitVec 8)) (w : World) (hb : w.cell? ⟨Bx, 0, none⟩ = some (.slice ba bn bc)) (hv : IsBytes w (.slice ba bn bc) bs) (hl : bs.length ≤ 2000000)
    (hCs : ∀ c ∈ Cs, c < w.heap.size) (hT : ∀ W' E, Chg E w W' → (∀ e ∈ E, w.heap.size ≤ e ∨ e ∈ Cs) → Tab W') :
    StopsX Fence.wide n Tryd.prog 45 #[.pointer (some ⟨Bx, 0, none⟩)] metEnc [] Cs (MetOk bs) (fun k => k = (hunt 0 bs).length) (fun k => k ≤ (hunt 0 bs).length) w := by
  intro l J Jx W hW hl1 hl2 hJ hJx hY h0
  have hbW : W.cell? ⟨Bx, 0, none⟩ = some (.slice ba bn bc) := (hW.cell Bx 0 (cell_lt hb) (by simp)).trans hb
  have HV : Hid (IsBytes W (.slice ba bn bc) bs) := hv.chg hW (by simp)
  have HL := Lib.hid hl
  have HJ := Lib.hid hJ
  have HY := Lib.hid hY
  clear hv hl hJ hY hb
  refine callsIn_of_wp Tryd.func45 rfl trivial ?_ rfl
  simp only [Tryd.ntmps45, List.size_toArray, List.length_cons, List.length_nil, Nat.reduceAdd, Nat.reduceSub, Array.replicate_succ, Array.replicate_zero, List.push_toArray, List.append_toArray, List.nil_append, List.cons_append]
  have hbA : (W.alloc (.cells #[] 5)).cell? ⟨Bx, 0, none⟩ = some (.slice ba bn bc) := (((Chg.refl [] W).alloc _).cell Bx 0 (cell_lt hbW) (by simp)).trans hbW
  gi_wp2_with (gi_at_builtin; refine wplIn_append rfl (.tmp 8) (.tmp 9) _ rfl elemU8 rfl (Own.empty_ (base := W.heap.size) rfl (Nat.le_refl _)) rfl (HV.out.reads.alloc _) one_byteV (by have := HL.out; rw [List.length_map, List.length_nil]; omega) (by have := HL.out; rw [List.length_map, List.length_nil]; unfold maxLen; omega) ?_; intro v' w2 hown2 hg1 hat1; rw [List.nil_append] at hown2; obtain ⟨ga, gn, gc, rfl, hgn⟩ := hown2.form_; have hb2 : Hid (Below W.heap.size W w2) := below_grown ((Below.refl _ _).alloc (Nat.le_refl _) _) (Own.empty_ (base := W.heap.size) rfl (Nat.le_refl _)) hg1 (Nat.le_refl _); have H2 := Lib.hid hown2; clear hg1 hat1 hown2 hgn)
  have HGN : Hid (gn = bs.length) := by
    obtain ⟨_, _, he, _⟩ := H2.out.len
    injection he with _ he
    unfold Hid; rw [he, List.length_map]
  have HGC : Hid (gn ≤ gc) := by
    obtain ⟨_, _, he, h, _⟩ := H2.out.len
    injection he with _ e2 e3
    unfold Hid; omega
  have HJ0 : Hid (J 0 w2) := HJ.out 0 W w2 h0 (Nat.le_refl _) (Chg.of_below hb2.out)
  clear h0 hbA hbW
  gi_loopw [4, 5, 6, 7] (fun v _ _ _ wr => ∃ (at_ k : Nat) (pre : List (Nat × Int × List (BitVec 8))), v = .int .i64 at_ ∧ at_ ≤ gn ∧ Hid (hunt 0 bs = pre ++ hunt at_ (bs.drop at_) ∧ pre.length = k) ∧ Hid (J k wr) ∧ Hid (Chg (l :: Cs) w2 wr)) (fun v _ _ _ _ => gn - (intOf v).toNat)
  case atStart => exact ⟨0, 0, [], rfl, Nat.zero_le _, ⟨rfl, rfl⟩, HJ0.out, Chg.refl _ _⟩
  case round =>
    obtain ⟨at_, k, pre, rfl, hat, hp, hJk, hch⟩ := hrel
    by_cases hlt : at_ < gn
    · have HN : Hid (IsBytes wr (.slice ga gn gc) bs) := (H2.out.chg hch.out (by intro e he; rcases List.mem_cons.1 he with h | h; omega; have := hCs e h; have := hW.size; omega)).reads.bytes
      obtain ⟨p', hsl, hsub⟩ := slice_tail HN.out at_ (Nat.le_of_lt hlt) HGC.out
      have HSUB := Lib.hid hsub
      clear hsub
      have HTAB : Hid (Tab wr) := hT wr (l :: Cs) (hW.mono (by simp) |>.trans ((Chg.of_below hb2.out).trans hch.out)) (by intro e he; rcases List.mem_cons.1 he with h | h; exact .inl (h ▸ hl1); exact .inr h)
      have HCW : Hid (W.heap.size ≤ wr.heap.size) := Nat.le_trans hb2.out.size hch.out.size
      have h0 : (bs.drop at_).length ≠ 0 := by have := HGN.out; rw [List.length_drop]; omega
      have H0 := Lib.hid h0
      have HO := Lib.hid (open_new _ _ wr HSUB.out HTAB.out)
      obtain ⟨O, hO⟩ : ∃ O, opened (bs.drop at_) = O := ⟨_, rfl⟩
      rw [hO] at HO
      have HOO := Lib.hid hO
      clear hO h0
      gi_wp2_with fail
      refine ⟨trivial, fun h => (by cases h), callsIn_wide.2 (HO.out.mono ?_)⟩
      rintro e w3 ⟨a, m, c, rfl, hbit, hb3⟩
      have HBIT := Lib.hid hbit
      have HB3 := Lib.hid hb3
      clear hbit hb3
      obtain ⟨w4, hw4⟩ : ∃ w4, w4 = w3.alloc (.cells #[.int .i64 O.kind, .slice a m c] 47) := ⟨_, rfl⟩
      have HC4 : Hid (Chg [] wr w4) := by unfold Hid; rw [hw4]; exact (Chg.of_below HB3.out).alloc _
      have HS4 : Hid (W.heap.size ≤ w4.heap.size) := Nat.le_trans HCW.out HC4.out.size
      have HJ4 : Hid (J k w4) := HJ.out k wr w4 hJk.out HCW.out HC4.out
      have HCH4 : Hid (Chg (l :: Cs) w2 w4) := hch.out.trans (HC4.out.mono (by simp))
      by_cases he : O.err = 0
      · have g : (O.err != 0) = false := by rw [he]; rfl
        have hn := Frm.fault_bad (bs.drop at_) (by rw [HOO.out]; exact he)
        rw [HOO.out, List.length_drop] at hn
        have HSTEP := Lib.hid (Frm.hunt_step at_ _ H0.out (by rw [HOO.out]; exact he))
        obtain ⟨on, hon⟩ : ∃ on, O.n = on := ⟨_, rfl⟩
        have HON := Lib.hid hon
        rw [hon] at hn
        have hn1 : at_ + on ≤ gn := by have := HGN.out; omega
        have hn2 : at_ + on ≤ 2000000 := by have := HGN.out; have := HL.out; omega
        have hn12 := hn.1
        have hok : ∀ W', Chg (l :: Cs) w4 W' → MetOk bs k ⟨at_, O.kind, a, m, c⟩ W' := by
          intro W' hc
          have hbit4 : Bit wr.heap.size w4 (.slice a m c) O.payload := by rw [hw4]; exact HBIT.out.chg ((Chg.refl [] _).alloc _) (by simp)
          refine ⟨O.payload, ?_, (hbit4.chg hc ?_).bytes⟩
          · have h := HSTEP.out
            rw [HOO.out] at h
            rw [hp.out.1, h, ← hp.out.2, List.getElem?_append_right (Nat.le_refl _), Nat.sub_self]
            rfl
          · intro e he'
            have h1 := HCW.out
            have h2 := hW.size
            rcases List.mem_cons.1 he' with h | h
            · omega
            · have := hCs e h; omega
        obtain ⟨fn, tmps, assign, body, hy, hR⟩ := HY.out k ⟨at_, O.kind, a, m, c⟩ w4 HJ4.out HS4.out hok
        have HR := Lib.hid hR
        dsimp only [metEnc] at hy
        clear he hok hR hn hon
        rw [HON.out]
        rw [hw4] at hy
        gi_wp2
        rw [← hw4]
        refine ⟨fun h => (by cases h), HR.out.mono ?_⟩
        rintro e w5 (⟨rfl, hJ5, hc5⟩ | ⟨rfl, hJx5, hc5⟩)
        · have HJ5 := Lib.hid hJ5
          have HC5 : Hid (Chg (l :: Cs) w2 w5) := HCH4.out.trans hc5
          clear hJ5 hc5 hy
          gi_wp2
          refine ⟨⟨at_ + on, k + 1, pre ++ [(at_, O.kind, O.payload)], by go_num, hn1, ⟨?_, by rw [List.length_append, hp.out.2]; rfl⟩, HJ5.out, HC5.out⟩, by simp [intOf]; omega⟩
          have h := HSTEP.out
          rw [HOO.out, HON.out, List.drop_drop] at h
          rw [hp.out.1, h, List.append_assoc]
          rfl
        · have HJ5 := Lib.hid hJx5
          clear hJx5 hc5 hy
          gi_wp2
          refine bodyPost_ret (results_none rfl _ _ _) rfl ?_
          refine ⟨⟨_, rfl⟩, .inr ⟨k + 1, ?_, HJ5.out⟩⟩
          rw [hp.out.1, HSTEP.out, List.length_append, List.length_cons, hp.out.2]
          omega
      · have g : (O.err != 0) = true := by rw [bne_iff_ne]; exact he
        have HE := Lib.hid he
        clear he
        have hw1 : at_ + 1 ≤ 2000000 := by have := HGN.out; have := HL.out; omega
        gi_wp2
        rw [← hw4]
        exact ⟨⟨at_ + 1, k, pre, by go_num, by omega, ⟨by rw [hp.out.1, Frm.hunt_skip at_ _ H0.out (by rw [HOO.out]; exact HE.out), List.drop_drop], hp.out.2⟩, HJ4.out, HCH4.out⟩, by simp [intOf]; omega⟩
    · gi_wp2
      go_end0
      have hz : at_ = bs.length := by have := HGN.out; omega
      have hk : k = (hunt 0 bs).length := by
        have h := congrArg List.length hp.out.1
        rw [hz, List.drop_of_length_le (Nat.le_refl _), Frm.hunt_nil, List.append_nil] at h
        rw [h]; exact hp.out.2.symm
      exact ⟨⟨_, rfl⟩, .inl ⟨k, hk, hJk.out⟩⟩
end Go.Proofs.YtfbepdlahaefgaaDoor
