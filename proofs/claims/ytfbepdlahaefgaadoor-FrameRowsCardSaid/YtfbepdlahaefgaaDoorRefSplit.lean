/- The document's Split, walked: the frames, how many bytes, and the error where they end. -/
import Derived.Test.YtfbepdlahaefgaaDoorRefHunt
import Derived.Test.YtfbepdlahaefgaaDoorFrameM3
namespace Go.Proofs.YtfbepdlahaefgaaDoor
open Go.RowKit
open Frm (opened split)

set_option maxHeartbeats 4000000 in
theorem refSplit_any (v : Value) (bs : List (BitVec 8)) (w : World) (hv : IsBytes w v bs) (hl : bs.length ≤ 2000000) :
    Calls Tryd.prog 35 #[v] w fun e w' => ∃ wa wn wc, e = .returned (.tuple #[.slice wa wn wc, .int .i64 ((split bs).2.1 : Nat), .int .i64 (split bs).2.2]) ∧
      Frs w' w.heap.size 50 (.slice wa wn wc) (split bs).1 [] ∧ Below w.heap.size w w' := by
  have HV := Lib.hid hv
  have HL := Lib.hid hl
  obtain ⟨va, vn, vc, rfl, hvn, hvc, hvm, _⟩ := hv
  have HVN := Lib.hid hvn
  clear hvn hl
  obtain ⟨i0, hi, hz0, hz1, hz2⟩ := info_parts infoRF
  have HI := Lib.hid (And.intro hi (And.intro hz0 (And.intro hz1 hz2)))
  clear hi hz0 hz1 hz2
  go_enter Tryd.func35, Tryd.ntmps35
  go_wp2
  go_loopw [5, 6, 7, 8, 9] (fun vw i _ _ _ wr => ∃ (at_ : Nat) (pre : List (Int × List (BitVec 8))) (wa : Option Addr) (wn wc : Nat), i = .int .i64 at_ ∧ at_ ≤ vn ∧ vw = .slice wa wn wc ∧ Hid ((split bs).1 = pre ++ (split (bs.drop at_)).1 ∧ (split bs).2.1 = at_ + (split (bs.drop at_)).2.1 ∧ (split bs).2.2 = (split (bs.drop at_)).2.2) ∧ Hid (pre.length ≤ at_) ∧
    Hid (Frs wr w.heap.size 50 (.slice wa wn wc) pre []) ∧ Hid (Below w.heap.size w wr)) (fun _ i _ _ _ _ => vn - (intOf i).toNat)
  case atStart => exact ⟨0, [], none, 0, 0, rfl, Nat.zero_le _, rfl, ⟨rfl, (Nat.zero_add _).symm, rfl⟩, Nat.zero_le _, Frs.nil_ (Nat.le_refl _), Below.refl _ _⟩
  case round =>
    obtain ⟨at_, pre, wa, wn, wc, rfl, hat, rfl, hp, hpl, how, hb⟩ := hrel
    by_cases hlt : at_ < vn
    · have HN : Hid (IsBytes wr (.slice va vn vc) bs) := HV.out.below hb.out
      obtain ⟨p', hsl, hsub⟩ := slice_tail HN.out at_ (Nat.le_of_lt hlt) hvc
      have HSUB := Lib.hid hsub
      clear hsub
      have H0 : Hid ((bs.drop at_).length ≠ 0) := by unfold Hid; have := HVN.out; rw [List.length_drop]; omega
      have HO := Lib.hid (refOpen_new _ _ wr HSUB.out)
      obtain ⟨O, hO⟩ : ∃ O, opened (bs.drop at_) = O := ⟨_, rfl⟩
      rw [hO] at HO
      have HOO := Lib.hid hO
      clear hO
      go_wp2_with fail
      refine HO.out.mono ?_
      rintro e w3 ⟨a, m, c, rfl, hbit, hb3⟩
      have HBIT := Lib.hid hbit
      have HB3 := Lib.hid hb3
      clear hbit hb3
      obtain ⟨w4, hw4⟩ : ∃ w4, w4 = w3.alloc (.cells #[.int .i64 O.kind, .slice a m c] 50) := ⟨_, rfl⟩
      have HB4 : Hid (Below wr.heap.size wr w4) := by unfold Hid; rw [hw4]; exact HB3.out.alloc HB3.out.size _
      have HOW4 : Hid (Frs w4 w.heap.size 50 (.slice wa wn wc) pre []) := how.out.chg (Chg.of_below HB4.out : Chg [] wr w4) (by simp)
      have HBB4 : Hid (Below w.heap.size w w4) := hb.out.trans (HB4.out.mono hb.out.size)
      by_cases he : O.err = 0
      · have g : (O.err != 0) = false := by rw [he]; rfl
        have hn := Frm.fault_bad (bs.drop at_) (by rw [HOO.out]; exact he)
        rw [HOO.out, List.length_drop] at hn
        have HSTEP := Lib.hid (Frm.split_step _ H0.out (by rw [HOO.out]; exact he))
        obtain ⟨on, hon⟩ : ∃ on, O.n = on := ⟨_, rfl⟩
        have HON := Lib.hid hon
        rw [hon] at hn
        have hn1 : at_ + on ≤ vn := by have := HVN.out; omega
        have hn2 : at_ + on ≤ 2000000 := by have := HVN.out; have := HL.out; omega
        have hn12 := hn.1
        clear he hn hon
        rw [HON.out]
        have HK80 : Hid (pre.length ≤ 2000000) := by unfold Hid; have := hpl.out; have := HVN.out; have := HL.out; omega
        have HBIT4 : Hid (Bit wr.heap.size w4 (.slice a m c) O.payload) := by unfold Hid; rw [hw4]; exact HBIT.out.chg ((Chg.refl [] _).alloc _) (by simp)
        have HWB := Lib.hid how.out.block
        have HB3S : Hid (wr.heap.size ≤ w3.heap.size) := HB3.out.size
        have HPAY4 : Hid (Pay w4 w.heap.size ((Value.slice wa wn wc).ownBlock.toList ++ []) a m c O.payload) := HBIT4.out.pay hb.out.size (by
          intro y hy
          rcases List.mem_append.1 hy with h | h
          · exact .inl (Nat.le_of_lt (HWB.out y (by simpa using h)).2)
          · cases h)
        subst hw4
        go_wp2_with (at_builtin; refine wpl_push rfl (.tmp 27) (.tmp 29) _ rfl Tryd.underlying60 HI.out.1 HI.out.2.1 HI.out.2.2.1 HI.out.2.2.2 rfl rfl (HOW4.out.chg ((Chg.refl [] _).alloc _) (by simp)) (by simp) ⟨w3.heap.size + 1, 0, none⟩ O.kind a m c 1 O.payload (by simp [go_sem]) (by simp [Addr.add]) (by simp [Addr.add]) (HPAY4.out.keep (by simp) (fun k _ hk _ => Below.heap_alloc _ _ _ hk) (fun _ hy => .inl hy)) (by have := HK80.out; omega) (by have := HK80.out; unfold maxLen; omega) ?_; intro v' w7 hfr7 hg7; obtain ⟨wa', wc', rfl, _, _⟩ := hfr7.form_; have HF7 := Lib.hid hfr7; have HG7 := Lib.hid hg7; clear hfr7 hg7)
        have h := HSTEP.out
        rw [HOO.out, HON.out, List.drop_drop] at h
        refine ⟨⟨at_ + on, pre ++ [(O.kind, O.payload)], wa', _, wc', by go_num, hn1, rfl, ⟨?_, ?_, ?_⟩, ?_, ?_, ?_⟩, by simp [intOf]; omega⟩
        · rw [hp.out.1, h, List.append_assoc]; rfl
        · rw [hp.out.2.1, h]; exact (Nat.add_assoc _ _ _).symm
        · rw [hp.out.2.2, h]
        · unfold Hid
          rw [List.length_append, List.length_singleton]
          have := hpl.out
          omega
        · have h := HF7.out
          rw [show (pre ++ [(O.kind, O.payload)]).length = pre.length + 1 by simp] at h
          exact h
        · exact (HBB4.out.alloc HBB4.out.size _).grown HG7.out (Nat.le_trans HBB4.out.size (by simp)) (fun k hk => (HWB.out k hk).1)
      · have g : (O.err != 0) = true := by rw [bne_iff_ne]; exact he
        have HE := Lib.hid he
        have HEND := Lib.hid (Frm.split_end _ H0.out (by rw [HOO.out]; exact he))
        clear he
        go_wp2
        rw [← hw4]
        refine bodyPost_ret (v := .tuple #[.slice wa wn wc, .int .i64 at_, .int .i64 O.err]) (by simp [results, Tryd.results35, go_sem]) rfl ?_
        refine ⟨wa, wn, wc, ?_, ?_, HBB4.out⟩
        · rw [hp.out.2.1, hp.out.2.2, HEND.out, HOO.out]; rfl
        · rw [hp.out.1, HEND.out, List.append_nil]; exact HOW4.out
    · go_wp2
      refine bodyPost_ret (v := .tuple #[.slice wa wn wc, .int .i64 at_, .int .i64 0]) (by simp [results, Tryd.results35, go_sem]) rfl ?_
      have hz : at_ = bs.length := by have := HVN.out; omega
      refine ⟨wa, wn, wc, ?_, ?_, hb.out⟩
      · rw [hp.out.2.1, hp.out.2.2, hz, List.drop_of_length_le (Nat.le_refl _), Frm.split_nil]; rfl
      · rw [hp.out.1, hz, List.drop_of_length_le (Nat.le_refl _), Frm.split_nil, List.append_nil]; exact how.out
end Go.Proofs.YtfbepdlahaefgaaDoor
