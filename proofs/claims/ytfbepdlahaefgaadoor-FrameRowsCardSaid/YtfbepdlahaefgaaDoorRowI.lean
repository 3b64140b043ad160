/- The walk of frame.row's iterator: the frames that stand one behind the other, asked for one by one; what is left stands in its box. -/
import Derived.Test.YtfbepdlahaefgaaDoorRangeY
import Derived.Test.YtfbepdlahaefgaaDoorHuntI
import Derived.Test.YtfbepdlahaefgaaDoorFrameM3
namespace Go.Proofs.YtfbepdlahaefgaaDoor
open Go.RowKit Go.Shelf
open Frm (opened split)
attribute [local go_sem] Oper.semAt_some

/-- What is left of a slice of bytes from a place on: in the same block. -/
theorem slice_rest {w : World} {p : Option Addr} {z c : Nat} {bs : List (BitVec 8)} (h : IsBytes w (.slice p z c) bs) (i : Nat) (hi : i ≤ z) (hz : z ≤ c) :
    ∃ p', (∀ w', (Instr.slice 24 (.slice p z c) (some (.int .i64 (i : Int))) none none).run Tryd.prog w' = .ok (.slice p' (z - i) (c - i)) w') ∧ IsBytes w (.slice p' (z - i) (c - i)) (bs.drop i) ∧ ∀ q, p' = some q → ∃ q0, p = some q0 ∧ q.block = q0.block := by
  have hrun : ∀ w', (Instr.slice 24 (.slice p z c) (some (.int .i64 (i : Int))) none none).run Tryd.prog w' = .ok (.slice (if c = i then p else p.map (·.add (i * 1))) (z - i) (c - i)) w' := by
    intro w'
    have h1 : (i : Int) ≤ (z : Int) := by omega
    have h0 : (0 : Int) ≤ (i : Int) := by omega
    clear h
    go_simp
  obtain ⟨p1, h1, h2⟩ := slice_tail h i hi hz
  have he := (h1 w).symm.trans (hrun w)
  injection he with he
  injection he with he
  refine ⟨p1, h1, h2, fun q hq => ?_⟩
  rw [he] at hq
  split at hq
  · exact ⟨q, hq, rfl⟩
  · cases hp : p with
    | none => rw [hp] at hq; cases hq
    | some q0 => rw [hp] at hq; injection hq with hq; exact ⟨q0, rfl, by rw [← hq]; simp only [Addr.add]; split <;> rfl⟩
/-- What is handed to a round: a frame, and how many bytes it has. -/
structure Rowed where
  kind : Int
  a : Option Addr
  m : Nat
  c : Nat
  n : Nat
def rowEnc (x : Rowed) : Array Value := #[.agg #[.int .i64 x.kind, .slice x.a x.m x.c], .int .i64 x.n]
def RowOk (bs : List (BitVec 8)) (k : Nat) (x : Rowed) (W0 W : World) : Prop := ∃ p, (split bs).1[k]? = some (x.kind, p) ∧ x.n = p.length + 12 ∧ Bit W0.heap.size W (.slice x.a x.m x.c) p
set_option maxHeartbeats 2000000 in
theorem row1_stops (n Bx : Nat) (Cs : List Nat) (ba : Option Addr) (bn bc : Nat) (bs : List (BitVec 8)) (w : World) (hb : w.cell? ⟨Bx, 0, none⟩ = some (.slice ba bn bc)) (hf : w.frozen? ⟨Bx, 0, none⟩ = false) (hv : IsBytes w (.slice ba bn bc) bs) (hl : bs.length ≤ 2000000)
    (hCs : ∀ c ∈ Cs, c < w.heap.size ∧ c ≠ Bx) (hne : bs ≠ [] → ∀ p, ba = some p → p.block < w.heap.size ∧ p.block ∉ Bx :: Cs) (hT : ∀ W', w.heap.size ≤ W'.heap.size → ChgB w.heap.size (Bx :: Cs) w W' → Tab W') :
    StopsY Fence.wide n Tryd.prog 48 #[.pointer (some ⟨Bx, 0, none⟩)] rowEnc [Bx] Cs (RowOk bs) (fun k => k = (split bs).1.length) (fun k => k ≤ (split bs).1.length) w := by
  intro l J Jx W hW hl1 hl2 hJ hJx hY h0
  have hbx := cell_lt hb
  have hbW : W.cell? ⟨Bx, 0, none⟩ = some (.slice ba bn bc) := (hW.cell Bx 0 hbx (by simp)).trans hb
  have hfW : W.frozen? ⟨Bx, 0, none⟩ = false := (hW.frozen Bx 0 hbx (by simp)).trans hf
  have HV : Hid (IsBytes W (.slice ba bn bc) bs) := hv.chg hW (by simp)
  have HBN : Hid (bn = bs.length ∧ bn ≤ bc) := by
    obtain ⟨_, _, _, he, h1, h2, _⟩ := hv
    injection he with _ e2 e3
    unfold Hid; omega
  have HNE := Lib.hid hne
  have HL := Lib.hid hl
  have HJ := Lib.hid hJ
  have HY := Lib.hid hY
  have HTAB := Lib.hid hT
  have hbxW : Bx < W.heap.size := Nat.lt_of_lt_of_le hbx hW.size
  have HCS := Lib.hid hCs
  clear hv hl hJ hY hb hf hne hT hCs
  refine callsIn_of_wp Tryd.func48 rfl trivial ?_ rfl
  simp only [Tryd.ntmps48, List.size_toArray, List.length_cons, List.length_nil, Nat.reduceAdd, Nat.reduceSub, Array.replicate_succ, Array.replicate_zero, List.push_toArray, List.append_toArray, List.nil_append, List.cons_append]
  gi_wp2_with fail
  gi_loopw [3, 4, 5] (fun _ _ _ wr => ∃ (at_ k : Nat) (pre : List (Int × List (BitVec 8))) (p : Option Addr), at_ ≤ bn ∧ wr.cell? ⟨Bx, 0, none⟩ = some (.slice p (bn - at_) (bc - at_)) ∧ wr.frozen? ⟨Bx, 0, none⟩ = false ∧ Hid (∀ q, p = some q → ∃ q0, ba = some q0 ∧ q.block = q0.block) ∧ Hid (IsBytes wr (.slice p (bn - at_) (bc - at_)) (bs.drop at_)) ∧ Hid ((split bs).1 = pre ++ (split (bs.drop at_)).1 ∧ pre.length = k) ∧ Hid (J k wr) ∧ Hid (ChgB W.heap.size (l :: Bx :: Cs) W wr)) (fun _ _ _ wr => match wr.cell? ⟨Bx, 0, none⟩ with | some (.slice _ z _) => z | _ => 0)
  case atStart => exact ⟨0, 0, [], ba, Nat.zero_le _, hbW, hfW, fun q hq => ⟨q, hq, rfl⟩, HV.out, ⟨rfl, rfl⟩, h0, ChgB.of_chg (Chg.refl [] W) (by simp)⟩
  case round =>
    obtain ⟨at_, k, pre, p, hat, hcx, hfx, hpb, HN, hp, hJk, hch⟩ := hrel
    have hbxr : Bx < wr.heap.size := cell_lt hcx
    by_cases hlt : at_ < bn
    · have hpos : (0 : Int) < ((bn - at_ : Nat) : Int) := by omega
      have HNE := Lib.hid (HNE.out (fun h => by have := HBN.out.1; rw [h] at this; simp at this; omega))
      have HTW : Hid (Tab wr) := HTAB.out wr (Nat.le_trans hW.size hch.out.size) (((ChgB.of_chg (S := l :: Bx :: Cs) hW (by simp)).trans (hch.out.mono hW.size (fun _ h => h))) |> fun h => ⟨h.os, h.tape, h.output, h.size, fun j hj hj2 hn => h.block j hj hj2 (fun hx => by rcases List.mem_cons.1 hx with e | e; omega; exact hn e)⟩)
      have HCW : Hid (W.heap.size ≤ wr.heap.size) := hch.out.size
      have h0 : (bs.drop at_).length ≠ 0 := by have := HBN.out.1; rw [List.length_drop]; omega
      have H0 := Lib.hid h0
      have HO := Lib.hid (open_new _ _ wr HN.out HTW.out)
      obtain ⟨O, hO⟩ : ∃ O, opened (bs.drop at_) = O := ⟨_, rfl⟩
      rw [hO] at HO
      have HOO := Lib.hid hO
      clear hO h0
      gi_wp2_with fail
      refine ⟨trivial, fun h => (by cases h), callsIn_wide.2 (HO.out.mono ?_)⟩
      rintro e w3 ⟨a, m, c, rfl, hbit, hb3⟩
      have HBIT := Lib.hid hbit
      have HB3 := Lib.hid hb3
      clear hbit hb3
      obtain ⟨w4, hw4⟩ : ∃ w4, w4 = w3.alloc (.cells #[.int .i64 O.kind, .slice a m c] 47) := ⟨_, rfl⟩
      have HC4 : Hid (Chg [] wr w4) := by unfold Hid; rw [hw4]; exact (Chg.of_below HB3.out).alloc _
      have hcx4 : w4.cell? ⟨Bx, 0, none⟩ = some (.slice p (bn - at_) (bc - at_)) := (HC4.out.cell Bx 0 hbxr (by simp)).trans hcx
      have hfx4 : w4.frozen? ⟨Bx, 0, none⟩ = false := (HC4.out.frozen Bx 0 hbxr (by simp)).trans hfx
      have HS4 : Hid (W.heap.size ≤ w4.heap.size) := Nat.le_trans HCW.out HC4.out.size
      have HCH4 : Hid (ChgB W.heap.size (l :: Bx :: Cs) W w4) := hch.out.trans (ChgB.of_chg HC4.out (by simp))
      by_cases he : O.err = 0
      · have g : (O.err != 0) = false := by rw [he]; rfl
        have hn := Frm.fault_bad (bs.drop at_) (by rw [HOO.out]; exact he)
        have hpl := Frm.opened_n (bs.drop at_) (by rw [HOO.out]; exact he)
        rw [HOO.out, List.length_drop] at hn
        rw [HOO.out] at hpl
        have HPL := Lib.hid hpl
        have HSTEP := Lib.hid (Frm.split_step _ H0.out (by rw [HOO.out]; exact he))
        obtain ⟨on, hon⟩ : ∃ on, O.n = on := ⟨_, rfl⟩
        have HON := Lib.hid hon
        rw [hon] at hn
        have hn1 : at_ + on ≤ bn := by have := HBN.out.1; omega
        have hn2 : at_ + on ≤ 2000000 := by have := HBN.out.1; have := HL.out; omega
        have hn12 := hn.1
        have hok : ∀ W', Chg [l] w4 W' → RowOk bs k ⟨O.kind, a, m, c, on⟩ wr W' := by
          intro W' hc
          have hbit4 : Bit wr.heap.size w4 (.slice a m c) O.payload := by rw [hw4]; exact HBIT.out.chg ((Chg.refl [] _).alloc _) (by simp)
          refine ⟨O.payload, ?_, by rw [← HON.out]; exact HPL.out, hbit4.chg hc ?_⟩
          · have h := HSTEP.out
            rw [HOO.out] at h
            rw [hp.out.1, h, ← hp.out.2, List.getElem?_append_right (Nat.le_refl _), Nat.sub_self]
            rfl
          · intro e he'
            simp at he'
            have := HCW.out
            omega
        obtain ⟨fn, tmps, assign, body, hy, hR⟩ := HY.out k ⟨O.kind, a, m, c, on⟩ wr w4 hJk.out HCW.out (HC4.out.mono (by simp)) hok
        have HR := Lib.hid hR
        dsimp only [rowEnc] at hy
        clear he hok hR hn hon hpl
        rw [HON.out]
        rw [hw4] at hy
        gi_wp2
        rw [← hw4]
        refine ⟨fun h => (by cases h), HR.out.mono ?_⟩
        rintro e w5 (⟨rfl, hJ5, hc5⟩ | ⟨rfl, hJx5, hc5⟩)
        · have HJ5 := Lib.hid hJ5
          have HC5 : Hid (ChgB W.heap.size (l :: Cs) w4 w5) := hc5
          have hxl : Bx ∉ l :: Cs := fun hx => by
            rcases List.mem_cons.1 hx with h | h
            · omega
            · exact (HCS.out Bx h).2 rfl
          have hbx4 := cell_lt hcx4
          have hcx5 : w5.cell? ⟨Bx, 0, none⟩ = some (.slice p (bn - at_) (bc - at_)) := (hc5.cell Bx 0 hbxW hbx4 hxl).trans hcx4
          have hfx5 : w5.frozen? ⟨Bx, 0, none⟩ = false := (hc5.frozen Bx 0 hbxW hbx4 hxl).trans hfx4
          have HN4 : Hid (IsBytes w4 (.slice p (bn - at_) (bc - at_)) (bs.drop at_)) := HN.out.chg HC4.out (by simp)
          have HN5 : Hid (IsBytes w5 (.slice p (bn - at_) (bc - at_)) (bs.drop at_)) := by
            obtain ⟨p0, n0, c0, he, h1, h2, h3, h4⟩ := HN4.out
            injection he with e1 e2 e3
            subst e1 e2 e3
            refine ⟨_, _, _, rfl, h1, h2, h3, ?_⟩
            rcases h4 with h | ⟨b, off, hp0, hlt4, hat4⟩
            · exact .inl h
            · refine .inr ⟨b, off, hp0, Nat.lt_of_lt_of_le hlt4 hc5.size, hat4.keep (hc5.block b ?_ hlt4 ?_)⟩
              · obtain ⟨q0, hq0, hqb⟩ := hpb.out _ hp0
                have := (HNE.out q0 hq0).1
                have := hW.size
                simp only at hqb
                omega
              · obtain ⟨q0, hq0, hqb⟩ := hpb.out _ hp0
                have h1 := HNE.out q0 hq0
                simp only at hqb
                rw [← hqb] at h1
                intro hx
                rcases List.mem_cons.1 hx with h | h
                · omega
                · exact h1.2 (List.mem_cons.2 (.inr h))
          clear hJ5 hc5 hy
          obtain ⟨p', hsl, hsub, hpb'⟩ := slice_rest HN5.out on (by omega) (by have := HBN.out; omega)
          have HSUB := Lib.hid hsub
          have HPB' := Lib.hid hpb'
          clear hsub hpb'
          gi_wp2
          have hc6 : (w5.setCell ⟨Bx, 0, none⟩ (.slice p' (bn - at_ - on) (bc - at_ - on))).cell? ⟨Bx, 0, none⟩ = some (.slice p' (bn - at_ - on) (bc - at_ - on)) := by go_simp
          have hf6 : (w5.setCell ⟨Bx, 0, none⟩ (.slice p' (bn - at_ - on) (bc - at_ - on))).frozen? ⟨Bx, 0, none⟩ = false := by go_simp
          have hg6 : Chg [Bx] w5 (w5.setCell ⟨Bx, 0, none⟩ (.slice p' (bn - at_ - on) (bc - at_ - on))) := (Chg.refl _ _).setCell _ _ (.inl (by simp))
          rw [hc6, hcx]
          refine ⟨⟨at_ + on, k + 1, pre ++ [(O.kind, O.payload)], p', hn1, by rw [Nat.sub_sub, Nat.sub_sub], hf6, ?_, ?_, ⟨?_, ?_⟩, ?_, ?_⟩, ?_⟩
          · intro q hq
            obtain ⟨q0, hq0, e1⟩ := HPB'.out q hq
            obtain ⟨q1, hq1, e2⟩ := hpb.out q0 hq0
            exact ⟨q1, hq1, e1.trans e2⟩
          · have h := HSUB.out
            rw [List.drop_drop, Nat.sub_sub, Nat.sub_sub] at h
            refine h.chg hg6 ?_
            intro q n' c' he
            injection he with he _ _
            obtain ⟨q0, hq0, e1⟩ := HPB'.out q he
            obtain ⟨q1, hq1, e2⟩ := hpb.out q0 hq0
            have := (HNE.out q1 hq1).2
            rw [e1, e2]
            intro hx
            exact this (List.mem_cons.2 (.inl (by simpa using hx)))
          · have h := HSTEP.out
            rw [HOO.out, HON.out, List.drop_drop] at h
            rw [hp.out.1, h, List.append_assoc]
            rfl
          · rw [List.length_append, hp.out.2]; rfl
          · exact HJ.out (k + 1) w5 _ HJ5.out (Nat.le_trans HS4.out HC5.out.size) hg6
          · exact (HCH4.out.trans (HC5.out.mono (Nat.le_refl _) (fun x hx => by rcases List.mem_cons.1 hx with h | h; exact List.mem_cons.2 (.inl h); exact List.mem_cons.2 (.inr (List.mem_cons.2 (.inr h)))))).trans (ChgB.of_chg hg6 (by simp))
          · show bn - at_ - on < bn - at_
            omega
        · have HJ5 := Lib.hid hJx5
          clear hJx5 hc5 hy
          gi_wp2
          refine bodyPost_ret (results_none rfl _ _ _) rfl ?_
          refine ⟨⟨_, rfl⟩, .inr ⟨k + 1, ?_, HJ5.out⟩⟩
          rw [hp.out.1, HSTEP.out, List.length_append, List.length_cons, hp.out.2]
          omega
      · have g : (O.err != 0) = true := by rw [bne_iff_ne]; exact he
        have HEND := Lib.hid (Frm.split_end _ H0.out (by rw [HOO.out]; exact he))
        have HJ4 : Hid (J k w4) := HJ.out k wr w4 hJk.out HCW.out (HC4.out.mono (by simp))
        clear he
        gi_wp2
        refine ⟨fun _ h => (by cases h), ?_⟩
        gi_wp2
        rw [← hw4]
        refine bodyPost_ret (results_none rfl _ _ _) rfl ?_
        have hk : k = (split bs).1.length := by
          have h := congrArg List.length hp.out.1
          rw [HEND.out, List.append_nil] at h
          rw [h]; exact hp.out.2.symm
        exact ⟨⟨_, rfl⟩, .inl ⟨k, hk, HJ4.out⟩⟩
    · have hpos : ¬ (0 : Int) < ((bn - at_ : Nat) : Int) := by omega
      gi_wp2
      go_end0
      have hz : at_ = bs.length := by have := HBN.out; omega
      have hk : k = (split bs).1.length := by
        have h := congrArg List.length hp.out.1
        rw [hz, List.drop_of_length_le (Nat.le_refl _), Frm.split_nil, List.append_nil] at h
        rw [h]; exact hp.out.2.symm
      exact ⟨⟨_, rfl⟩, .inl (hk ▸ hJk.out)⟩
end Go.Proofs.YtfbepdlahaefgaaDoor
