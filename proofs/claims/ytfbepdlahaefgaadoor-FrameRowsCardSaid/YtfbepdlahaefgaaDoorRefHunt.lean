/- The document's Hunt, walked: the places, and the frames. -/
import Derived.Test.YtfbepdlahaefgaaDoorFrRow
import Derived.Test.YtfbepdlahaefgaaDoorHuntI
import Derived.Test.YtfbepdlahaefgaaDoorLaw13O
namespace Go.Proofs.YtfbepdlahaefgaaDoor
open Go.RowKit
open Frm (opened hunt)

theorem elemIntR : Elem Tryd.prog 59 3 8 := Elem.mk_ Tryd.underlying59 (z := .int .i64 0) (by kernel_rfl) rfl
theorem infoRF : (Tryd.prog.info? 50).map (fun i => (i.zero, i.size, i.bytes)) = some (some (.agg #[.int .i64 0, .slice none 0 0]), 2, 32) := by kernel_rfl
theorem Bit.pay {B base : Nat} {w : World} {Y : List Nat} {a : Option Addr} {m c : Nat} {p : List (BitVec 8)} (h : Bit B w (.slice a m c) p) (hb : base ≤ B) (hY : ∀ y ∈ Y, y ≤ B ∨ w.heap.size ≤ y) : Pay w base Y a m c p := by
  obtain ⟨a', m', c', he, h1, h2, h3, h4⟩ := h
  injection he with e1 e2 e3
  subst e1 e2 e3
  refine ⟨h1, h2, h3, ?_⟩
  rcases h4 with h | ⟨b, off, ha, hne, hlt, hat⟩
  · exact .inl h
  · exact .inr ⟨b, off, ha, by omega, hlt, (fun hx => by rcases hY b hx with h | h <;> omega), hat⟩
theorem Reads.one_ {w : World} {k : Nat} (hk : w.heap.size = k) (x : Value) (t : TypeId) : Reads (w.alloc (.cells #[x] t)) (.slice (some ⟨k, 0, none⟩) 1 1) [x] := hk ▸ Reads.one w x t
theorem mem_own {o : Option Nat} {k : Nat} (h : o = some k) : k ∈ o.toList := by rw [h]; simp
theorem own_or {v v' : Value} {n m : Nat} (h : v'.ownBlock = v.ownBlock ∨ v'.ownBlock = some n) (hm : m ≤ n) : ∀ y ∈ v'.ownBlock.toList, y ∈ v.ownBlock.toList ∨ m ≤ y := by
  intro y hy
  rcases h with h | h
  · rw [h] at hy; exact .inl hy
  · rw [h] at hy; simp at hy; exact .inr (by omega)
theorem hunt_facts {w4 w6 : World} {o : Obj} {own : Option Nat} {B : Nat} {x y : Value} (hg : (w4.alloc o).grownBy w6 own) (hB : w4.cell? ⟨B, 0, none⟩ = some x ∧ w4.cell? ⟨B, 1, none⟩ = some y ∧ B < w4.heap.size) (ho : ∀ j, own = some j → j < B) :
    (∀ k, k < w4.heap.size → own ≠ some k → w6.heap[k]? = w4.heap[k]?) ∧ w6.cell? ⟨B, 0, none⟩ = some x ∧ w6.cell? ⟨B, 1, none⟩ = some y ∧ w4.heap.size ≤ w6.heap.size := by
  have hk : ∀ k, k < w4.heap.size → own ≠ some k → w6.heap[k]? = w4.heap[k]? := fun k hk hn => (hg.block k (Nat.lt_of_lt_of_le hk (by simp)) (fun e => hn e.symm)).trans (Below.heap_alloc _ _ _ hk)
  have hb := hk B hB.2.2 (fun e => by have := ho B e; omega)
  exact ⟨hk, (World.cell?_of_block (a := ⟨B, 0, none⟩) hb).trans hB.1, (World.cell?_of_block (a := ⟨B, 1, none⟩) hb).trans hB.2.1, Nat.le_trans (by simp) hg.size⟩
set_option maxHeartbeats 4000000 in
theorem refHunt_any (v : Value) (bs : List (BitVec 8)) (w : World) (hv : IsBytes w v bs) (hl : bs.length ≤ 2000000) :
    Calls Tryd.prog 32 #[v] w fun e w' => ∃ pa pn pc wa wn wc, e = .returned (.tuple #[.slice pa pn pc, .slice wa wn wc]) ∧ Own w' w.heap.size 3 (.slice pa pn pc) ((hunt 0 bs).map fun x => intV x.1) ∧
      (∃ X, Frs w' w.heap.size 50 (.slice wa wn wc) ((hunt 0 bs).map (·.2)) X) ∧ Below w.heap.size w w' := by
  have HV := Lib.hid hv
  have HL := Lib.hid hl
  obtain ⟨va, vn, vc, rfl, hvn, hvc, hvm, _⟩ := hv
  have HVN := Lib.hid hvn
  clear hvn hl
  obtain ⟨i0, hi, hz0, hz1, hz2⟩ := info_parts infoRF
  have HI := Lib.hid (And.intro hi (And.intro hz0 (And.intro hz1 hz2)))
  clear hi hz0 hz1 hz2
  go_enter Tryd.func32, Tryd.ntmps32
  go_wp2
  go_loopw [4, 5, 6, 7, 8, 9] (fun vp vw i _ _ _ wr => ∃ (at_ : Nat) (pre : List (Nat × Int × List (BitVec 8))) (pa wa : Option Addr) (pn pc wn wc : Nat), i = .int .i64 at_ ∧ at_ ≤ vn ∧ vp = .slice pa pn pc ∧ vw = .slice wa wn wc ∧ Hid (hunt 0 bs = pre ++ hunt at_ (bs.drop at_)) ∧ Hid (pre.length ≤ at_) ∧
    Hid (Own wr w.heap.size 3 (.slice pa pn pc) (pre.map fun x => intV x.1)) ∧ Hid (Frs wr w.heap.size 50 (.slice wa wn wc) (pre.map (·.2)) (Value.slice pa pn pc).ownBlock.toList) ∧ Hid (Below w.heap.size w wr)) (fun _ _ i _ _ _ _ => vn - (intOf i).toNat)
  case atStart => exact ⟨0, [], none, none, 0, 0, 0, 0, rfl, Nat.zero_le _, rfl, rfl, rfl, Nat.zero_le _, Own.nil_ (Nat.le_refl _), Frs.nil_ (Nat.le_refl _), Below.refl _ _⟩
  case round =>
    obtain ⟨at_, pre, pa, wa, pn, pc, wn, wc, rfl, hat, rfl, rfl, hp, hpl, hop, how, hb⟩ := hrel
    by_cases hlt : at_ < vn
    · have HN : Hid (IsBytes wr (.slice va vn vc) bs) := HV.out.below hb.out
      obtain ⟨p', hsl, hsub⟩ := slice_tail HN.out at_ (Nat.le_of_lt hlt) hvc
      have HSUB := Lib.hid hsub
      clear hsub
      have H0 : Hid ((bs.drop at_).length ≠ 0) := by unfold Hid; have := HVN.out; rw [List.length_drop]; omega
      have HO := Lib.hid (refOpen_new _ _ wr HSUB.out)
      obtain ⟨O, hO⟩ : ∃ O, opened (bs.drop at_) = O := ⟨_, rfl⟩
      rw [hO] at HO
      have HOO := Lib.hid hO
      clear hO
      go_wp2_with fail
      refine HO.out.mono ?_
      rintro e w3 ⟨a, m, c, rfl, hbit, hb3⟩
      have HBIT := Lib.hid hbit
      have HB3 := Lib.hid hb3
      clear hbit hb3
      obtain ⟨w4, hw4⟩ : ∃ w4, w4 = w3.alloc (.cells #[.int .i64 O.kind, .slice a m c] 50) := ⟨_, rfl⟩
      have HB4 : Hid (Below wr.heap.size wr w4) := by unfold Hid; rw [hw4]; exact HB3.out.alloc HB3.out.size _
      have HOP4 : Hid (Own w4 w.heap.size 3 (.slice pa pn pc) (pre.map fun x => intV x.1)) := hop.out.below HB4.out
      have HOW4 : Hid (Frs w4 w.heap.size 50 (.slice wa wn wc) (pre.map (·.2)) (Value.slice pa pn pc).ownBlock.toList) := how.out.chg (Chg.of_below HB4.out : Chg [] wr w4) (by simp)
      have HBB4 : Hid (Below w.heap.size w w4) := hb.out.trans (HB4.out.mono hb.out.size)
      by_cases he : O.err = 0
      · have g : (O.err == 0) = true := by rw [he]; rfl
        have hn := Frm.fault_bad (bs.drop at_) (by rw [HOO.out]; exact he)
        rw [HOO.out, List.length_drop] at hn
        have HSTEP := Lib.hid (Frm.hunt_step at_ _ H0.out (by rw [HOO.out]; exact he))
        obtain ⟨on, hon⟩ : ∃ on, O.n = on := ⟨_, rfl⟩
        have HON := Lib.hid hon
        rw [hon] at hn
        have hn1 : at_ + on ≤ vn := by have := HVN.out; omega
        have hn2 : at_ + on ≤ 2000000 := by have := HVN.out; have := HL.out; omega
        have hn12 := hn.1
        clear he hn hon
        rw [HON.out]
        have hk80 : pre.length ≤ 2000000 := by have := hpl.out; have := HVN.out; have := HL.out; omega
        have HK80 := Lib.hid hk80
        have HBIT4 : Hid (Bit wr.heap.size w4 (.slice a m c) O.payload) := by unfold Hid; rw [hw4]; exact HBIT.out.chg ((Chg.refl [] _).alloc _) (by simp)
        have hcB : w4.cell? ⟨w3.heap.size, 0, none⟩ = some (.int .i64 O.kind) ∧ w4.cell? ⟨w3.heap.size, 1, none⟩ = some (.slice a m c) ∧ w3.heap.size < w4.heap.size := by rw [hw4]; simp
        have HCB := Lib.hid hcB
        have hpb := hop.out.block_ge
        have HPB : Hid (∀ j, (Value.slice pa pn pc).ownBlock = some j → w.heap.size ≤ j ∧ j < wr.heap.size) := hpb
        have HWB := Lib.hid how.out.block
        have HB3S : Hid (wr.heap.size ≤ w3.heap.size) := HB3.out.size
        clear hcB hk80 hpb
        have HPAY4 : Hid (Pay w4 w.heap.size ((Value.slice wa wn wc).ownBlock.toList ++ (Value.slice pa pn pc).ownBlock.toList) a m c O.payload) := HBIT4.out.pay hb.out.size (by
          intro y hy
          rcases List.mem_append.1 hy with h | h
          · exact .inl (Nat.le_of_lt (HWB.out y (by simpa using h)).2)
          · exact .inl (Nat.le_of_lt (HPB.out y (by simpa using h)).2))
        subst hw4
        go_wp2_with (first | (at_builtin; refine wpl_append rfl (.tmp 24) (.tmp 26) _ rfl elemIntR rfl (HOP4.out.alloc _) rfl (Reads.one_ (by simp) _ _) one_int (by have := HK80.out; rw [List.length_map, List.length_singleton]; omega) (by have := HK80.out; rw [List.length_map, List.length_singleton]; unfold maxLen; omega) ?_; intro v' w6 hown6 hg6 h56; obtain ⟨pa', pn', pc', rfl, hpn'⟩ := hown6.form_; clear hpn'; obtain ⟨hk6, c0, c1, hsz6⟩ := hunt_facts hg6 HCB.out (fun j hj => Nat.lt_of_lt_of_le (HPB.out j hj).2 HB3S.out); have HO6 := Lib.hid hown6; have HB6 : Hid (Below w.heap.size w w6) := below_grown (HBB4.out.alloc HBB4.out.size _) (HOP4.out.alloc _) hg6 (Nat.le_refl _); have HOW6 : Hid (Frs w6 w.heap.size 50 (.slice wa wn wc) (pre.map (·.2)) (Value.slice pa' pn' pc').ownBlock.toList) := HOW4.out.keep hsz6 (fun k _ hk2 hx => hk6 k hk2 (fun e => hx (mem_own (o := (Value.slice pa pn pc).ownBlock) e))) (own_or (v := .slice pa pn pc) h56 (by simp)); have HP6 : Hid (Pay w6 w.heap.size ((Value.slice wa wn wc).ownBlock.toList ++ (Value.slice pa' pn' pc').ownBlock.toList) a m c O.payload) := HPAY4.out.keep hsz6 (fun k _ hk2 hx => hk6 k hk2 (fun e => hx (List.mem_append.2 (.inr (mem_own (o := (Value.slice pa pn pc).ownBlock) e))))) (fun y hy => by rcases List.mem_append.1 hy with h | h; exact .inl (List.mem_append.2 (.inl h)); rcases own_or (v := .slice pa pn pc) (m := (w3.alloc (.cells #[.int .i64 O.kind, .slice a m c] 50)).heap.size) h56 (by simp) y h with h | h; exact .inl (List.mem_append.2 (.inr h)); exact .inr h); clear hown6 hg6 h56 hk6) | (at_builtin; refine wpl_push rfl (.tmp 28) (.tmp 30) _ rfl Tryd.underlying60 HI.out.1 HI.out.2.1 HI.out.2.2.1 HI.out.2.2.2 rfl rfl (HOW6.out.chg ((Chg.refl [] _).alloc _) (by simp)) (fun x hx => Nat.lt_of_lt_of_le (HO6.out.block_ge x (by simpa using hx)).2 (by simp)) ⟨w6.heap.size, 0, none⟩ O.kind a m c 1 O.payload rfl (by simp [Addr.add]) (by simp [Addr.add]) (HP6.out.keep (by simp) (fun k _ hk _ => Below.heap_alloc _ _ _ hk) (fun _ hy => .inl hy)) (by have := HK80.out; rw [List.length_map]; omega) (by have := HK80.out; rw [List.length_map]; unfold maxLen; omega) ?_; intro v' w7 hfr7 hg7; obtain ⟨wa', wc', rfl, _, _⟩ := hfr7.form_; have HF7 := Lib.hid hfr7; have HG7 := Lib.hid hg7; clear hfr7 hg7))
        refine ⟨⟨at_ + on, pre ++ [(at_, O.kind, O.payload)], pa', wa', pn', pc', _, wc', by go_num, hn1, rfl, rfl, ?_, ?_, ?_, ?_, ?_⟩, by simp [intOf]; omega⟩
        · have h := HSTEP.out
          rw [HOO.out, HON.out, List.drop_drop] at h
          unfold Hid
          rw [hp.out, h, List.append_assoc]
          rfl
        · unfold Hid
          rw [List.length_append, List.length_singleton]
          have := hpl.out
          omega
        · unfold Hid
          rw [List.map_append]
          exact (HO6.out.alloc _).grown HG7.out (fun k hk he => HOW6.out.2.1 k he (mem_own hk))
        · unfold Hid
          rw [List.map_append]
          have h := HF7.out
          rw [show (List.map (fun x : Nat × Int × List (BitVec 8) => x.snd) pre ++ [(O.kind, O.payload)]).length = pre.length + 1 by simp] at h
          exact h
        · exact (HB6.out.alloc HB6.out.size _).grown HG7.out (Nat.le_trans HB6.out.size (by simp)) (fun k hk => (HWB.out k hk).1)
      · have g : (O.err == 0) = false := by rw [beq_eq_false_iff_ne]; exact he
        have HE := Lib.hid he
        clear he
        have hw1 : at_ + 1 ≤ 2000000 := by have := HVN.out; have := HL.out; omega
        go_wp2
        rw [← hw4]
        exact ⟨⟨at_ + 1, pre, pa, wa, pn, pc, wn, wc, by go_num, by omega, rfl, rfl, by unfold Hid; rw [hp.out, Frm.hunt_skip at_ _ H0.out (by rw [HOO.out]; exact HE.out), List.drop_drop], Nat.le_trans hpl.out (Nat.le_succ _), HOP4.out, HOW4.out, HBB4.out⟩, by simp [intOf]; omega⟩
    · go_wp2
      refine bodyPost_ret (v := .tuple #[.slice pa pn pc, .slice wa wn wc]) (by simp [results, Tryd.results32, go_sem]) rfl ?_
      have hz : at_ = bs.length := by have := HVN.out; omega
      have hk : hunt 0 bs = pre := by
        rw [hp.out, hz, List.drop_of_length_le (Nat.le_refl _), Frm.hunt_nil, List.append_nil]
      exact ⟨pa, pn, pc, wa, wn, wc, rfl, by rw [hk]; exact hop.out, ⟨_, by rw [hk]; exact how.out⟩, hb.out⟩
end Go.Proofs.YtfbepdlahaefgaaDoor
