/- The walks of the reference's package regattaref12: what is read, second part. -/
import Derived.Test.YtajnhmkkgngbhaaRef12R
import Derived.StillTailTactics
import Derived.Test.YtajnhmkkgngbhaaSliceB
namespace Go.Proofs.Ytajnhmkkgngbhaa
open Go.RowKit
open Pack (Got cnt cntTo whole fixed sizeOf_ text many ints fixes unzig signed64 le)
variable {lo : Nat}

/-- A reference's reader with an error. -/
def RefEnd (w : World) (S : Nat) (e : Int) : Prop := w.cell? ⟨S, 2, none⟩ = some (.int .i64 e) ∧ e ≠ 0
theorem RefIs.end_ {w : World} {S : Nat} {bs : List (BitVec 8)} {n : Nat} {e : Int} (h : RefIs lo w S bs n e) (he : e ≠ 0) : RefEnd w S e := ⟨h.err, he⟩
theorem rf_uint_end (S : Nat) (e : Int) (w : World) (h : RefEnd w S e) :
    Calls Try.prog 36 #[.pointer (some ⟨S, 0, none⟩)] w fun x w' => x = .returned (.int .u64 0) ∧ w = w' := by
  obtain ⟨h2, he⟩ := h
  have g : (e == 0) = false := by rw [beq_eq_false_iff_ne]; exact he
  clear he
  go_enter Try.func36, Try.ntmps36
  go_wp2_with fail
  go_loop [3, 4] (fun u i => u = .int .u64 0 ∧ i = .int .i64 0) (fun _ _ => 0)
  case atStart => exact ⟨rfl, rfl⟩
  case round =>
    obtain ⟨rfl, rfl⟩ := hrel
    go_wp2_with fail
    go_ret
    exact ⟨rfl, rfl⟩
theorem rf_int_end (S : Nat) (e : Int) (w : World) (h : RefEnd w S e) :
    Calls Try.prog 38 #[.pointer (some ⟨S, 0, none⟩)] w fun x w' => x = .returned (.int .i64 0) ∧ w = w' := by
  have H := Lib.hid (rf_uint_end S e w h)
  clear h
  go_enter Try.func38, Try.ntmps38
  go_wp2_with fail
  refine H.out.mono ?_
  rintro x w1 ⟨rfl, rfl⟩
  go_wp2_with fail
  go_ret
  exact ⟨rfl, rfl⟩
theorem rf_fix_end (S : Nat) (e : Int) (w : World) (h : RefEnd w S e) :
    Calls Try.prog 39 #[.pointer (some ⟨S, 0, none⟩)] w fun x w' => x = .returned (.int .i64 0) ∧ w = w' := by
  obtain ⟨h2, he⟩ := h
  have g : (e != 0) = true := by rw [bne_iff_ne]; exact he
  clear he
  go_enter Try.func39, Try.ntmps39
  go_wp2_with fail
  go_ret
  exact ⟨rfl, rfl⟩
theorem rf_size_end (S each : Nat) (e : Int) (w : World) (h : RefEnd w S e) :
    Calls Try.prog 71 #[.pointer (some ⟨S, 0, none⟩), .int .i64 each] w fun x w' => x = .returned (.int .i64 0) ∧ ∃ n, w' = w.drewN n := by
  have H := Lib.hid (rf_uint_end S e w h)
  obtain ⟨h2, he⟩ := h
  have g : (e == 0) = false := by rw [beq_eq_false_iff_ne]; exact he
  have g2 : (e != 0) = true := by rw [bne_iff_ne]; exact he
  clear he
  go_enter Try.func71, Try.ntmps71
  go_wp2_with fail
  refine H.out.mono ?_
  rintro x w1 ⟨rfl, rfl⟩
  go_wp2_with fail
  go_quiet (fail)
  go_wp2_with fail
  go_ret
  exact ⟨rfl, _, rfl⟩
set_option maxHeartbeats 1000000 in
theorem rf_int (S : Nat) (bs : List (BitVec 8)) (a0 : Nat) (w : World) (hS : RefIs lo w S bs a0 0) :
    Calls Try.prog 38 #[.pointer (some ⟨S, 0, none⟩)] w (RfPost lo (.int .i64 0) isI64 S bs w (whole (bs.drop a0))) := by
  have H := Lib.hid (rf_uint S bs a0 w hS)
  clear hS
  go_enter Try.func38, Try.ntmps38
  go_wp2_with fail
  refine H.out.mono ?_
  intro x w1 hq
  rcases hq.part with ⟨e, n, hg, rfl, hr, hc⟩ | ⟨m, v, n, hg, rfl, rfl, hr, hc⟩
  · have HR := Lib.hid hr
    have HC := Lib.hid hc
    have HG : Hid (whole (bs.drop a0) = .no e) := by unfold whole; rw [hg]; rfl
    clear hq hr hc hg
    go_wp2_with fail
    go_ret
    exact RfPost.no HG.out HR.out HC.out
  · have HR := Lib.hid hr
    have HC := Lib.hid hc
    have HG : Hid (whole (bs.drop a0) = .yes (unzig m) (bs.drop n)) := by unfold whole; rw [hg]; rfl
    have hm := (Pack.cnt_lt hg).1
    have HM := Lib.hid hm
    clear hq hr hc hg hm
    by_cases ho : m % 2 = 1
    · have g : ((m : Int) % 2 == 1) = true := by rw [beq_iff_eq]; omega
      have hu : wrap64 (wrap64 (-wrap64 (IntKind.u64.wrap ((m : Int) / 2))) - 1) = unzig m := by
        have := HM.out
        unfold unzig
        rw [if_pos ho, IntKind.wrap_u64]
        unfold wrap64; omega
      have HU := Lib.hid hu
      clear ho hu
      go_wp2_with fail
      go_ret
      exact RfPost.yes HG.out (by show Value.int .i64 _ = _; rw [← HU.out]) HR.out HC.out
    · have g : ((m : Int) % 2 == 1) = false := by rw [beq_eq_false_iff_ne]; omega
      have hu : wrap64 (IntKind.u64.wrap ((m : Int) / 2)) = unzig m := by
        have := HM.out
        unfold unzig
        rw [if_neg ho, IntKind.wrap_u64]
        unfold wrap64; omega
      have HU := Lib.hid hu
      clear ho hu
      go_wp2_with fail
      go_ret
      exact RfPost.yes HG.out (by show Value.int .i64 _ = _; rw [← HU.out]) HR.out HC.out
set_option maxHeartbeats 1000000 in
theorem rf_size (S each : Nat) (bs : List (BitVec 8)) (a0 : Nat) (w : World) (hS : RefIs lo w S bs a0 0) (he : each = 1 ∨ each = 8) :
    Calls Try.prog 71 #[.pointer (some ⟨S, 0, none⟩), .int .i64 each] w (RfPost lo (.int .i64 0) isNat S bs w (sizeOf_ each (bs.drop a0))) := by
  have H := Lib.hid (rf_uint S bs a0 w hS)
  have he1 : 1 ≤ each ∧ each ≤ 8 := by omega
  clear hS he
  go_enter Try.func71, Try.ntmps71
  go_wp2_with fail
  refine H.out.mono ?_
  intro x w1 hq
  rcases hq.part with ⟨e, n, hg, rfl, hr, hc⟩ | ⟨m, v, n, hg, rfl, rfl, hr, hc⟩
  · have HR := Lib.hid hr
    have HC := Lib.hid hc
    have he0 := (Pack.bad_cnt _).ne e hg
    have g1 : (e == 0) = false := by rw [beq_eq_false_iff_ne]; exact he0
    have g2 : (e != 0) = true := by rw [bne_iff_ne]; exact he0
    have c2 := hr.err
    have HG : Hid (sizeOf_ each (bs.drop a0) = .no e) := by unfold sizeOf_; rw [hg]; rfl
    clear hq hr hc hg he0
    go_wp2_with fail
    go_quiet (fail)
    go_wp2_with fail
    go_ret
    exact RfPost.no HG.out (HR.out.chg ((Chg.refl [] _).drewN _) (by simp)) (HC.out.drewN _)
  · have HR := Lib.hid hr
    have HC := Lib.hid hc
    obtain ⟨_, ⟨p, c, hlc, hcm, c0, _⟩, c1, c2, f1, f2, hle⟩ := hr
    have HG : Hid (sizeOf_ each (bs.drop a0) = if (bs.length - n) / each < m then .no 120 else .yes m (bs.drop n)) := by unfold sizeOf_ Hid; rw [hg]; simp only [Pack.Got.then, List.length_drop]
    have hm := (Pack.cnt_lt hg).1
    have HM := Lib.hid hm
    obtain ⟨z, hz⟩ : ∃ z, bs.length = z := ⟨_, rfl⟩
    rw [hz] at hlc c0 hle HG
    have hs1 : IntKind.i64.wrap ((z : Int) - (n : Int)) = ((z - n : Nat) : Int) := by rw [IntKind.wrap_i64]; omega
    have hqm : (z - n) / each ≤ z := Nat.le_trans (Nat.div_le_self _ _) (by omega)
    have HQ : Hid (IntKind.u64.wrap (wrap64 (((z - n : Nat) : Int) / (each : Int))) = (((z - n) / each : Nat) : Int)) := by
      unfold Hid
      rw [← Int.natCast_ediv]
      exact wrap_q _ (Nat.le_trans hqm (Nat.le_trans hlc hcm))
    have hzz : Hid (bs.length = z) := hz
    have hcz : z ≤ 9223372036854775807 := by omega
    clear hq hc hg hm hz
    by_cases hlt : (z - n) / each < m
    · rw [if_pos hlt] at HG
      have g : IntKind.u64.wrap (wrap64 (((z - n : Nat) : Int) / (each : Int))) < (m : Int) := by rw [HQ.out]; omega
      clear hlt hqm hcz
      go_wp2_with fail
      go_quiet (fail)
      go_wp2_with fail
      refine (rfail_any S bs n 120 _ (HR.out.chg ((Chg.refl [] _).drewN _) (by simp))).mono ?_
      rintro x w2 ⟨⟨r, rfl⟩, hr2, hc2⟩
      have HR2 := Lib.hid hr2
      have HC2 : Hid (Chg [S] w w2) := (HC.out.drewN _).trans hc2
      have c22 := hr2.err
      clear hr2 hc2
      go_wp2_with fail
      go_ret
      exact RfPost.no HG.out HR2.out HC2.out
    · rw [if_neg hlt] at HG
      have g : ¬ IntKind.u64.wrap (wrap64 (((z - n : Nat) : Int) / (each : Int))) < (m : Int) := by rw [HQ.out]; omega
      have HMI : Hid (wrap64 (m : Int) = (m : Int)) := wrap_n m (by omega)
      clear hlt hqm hcz
      go_wp2_with fail
      go_quiet (fail)
      go_wp2_with fail
      go_ret
      exact RfPost.yes HG.out (by show Value.int .i64 (wrap64 (m : Int)) = _; rw [HMI.out]) (HR.out.chg ((Chg.refl [] _).drewN _) (by simp)) (HC.out.drewN _)
theorem le_drop (t : List (BitVec 8)) (j : Nat) (h : j < t.length) : le (t.drop j) = t[j].toNat + 256 * le (t.drop (j + 1)) := by
  rw [drop_cons h]; rfl
theorem le_lt8 (t : List (BitVec 8)) (h : t.length ≤ 8) : le t < 2 ^ 64 := by
  have := Pack.le_lt t
  have h2 : 256 ^ t.length ≤ 256 ^ 8 := Nat.pow_le_pow_right (by omega) h
  omega
set_option maxHeartbeats 1000000 in
theorem rf_fix (S : Nat) (bs : List (BitVec 8)) (a0 : Nat) (w : World) (hS : RefIs lo w S bs a0 0) :
    Calls Try.prog 39 #[.pointer (some ⟨S, 0, none⟩)] w (RfPost lo (.int .i64 0) isI64 S bs w (fixed (bs.drop a0))) := by
  have HS := Lib.hid hS
  obtain ⟨_, ⟨p, c, hlc, hcm, c0, hbs⟩, c1, c2, f1, f2, hle⟩ := hS
  have HBS := Lib.hid hbs
  obtain ⟨z, hz⟩ : ∃ z, bs.length = z := ⟨_, rfl⟩
  rw [hz] at hlc c0 hle
  have HZ := Lib.hid hz
  have hs1 : IntKind.i64.wrap ((z : Int) - (a0 : Int)) = (z : Int) - (a0 : Int) := by rw [IntKind.wrap_i64]; omega
  by_cases h8 : z - a0 < 8
  · have HG : Hid (fixed (bs.drop a0) = .no 120) := by unfold fixed Hid; rw [if_pos (by rw [List.length_drop, hz]; exact h8)]
    have g : (z : Int) - (a0 : Int) < 8 := by omega
    clear hbs hz h8
    go_enter Try.func39, Try.ntmps39
    go_wp2_with fail
    go_quiet (fail)
    go_wp2_with fail
    refine (rfail_any S bs a0 120 _ (HS.out.chg ((Chg.refl [] _).drewN _) (by simp))).mono ?_
    rintro x w2 ⟨⟨r, rfl⟩, hr2, hc2⟩
    have HR2 := Lib.hid hr2
    have HC2 : Hid (Chg [S] w w2) := ((Chg.refl _ _).drewN _).trans hc2
    clear hr2 hc2
    go_wp2_with fail
    go_ret
    exact RfPost.no HG.out HR2.out HC2.out
  · have HG : Hid (fixed (bs.drop a0) = .yes (signed64 (le ((bs.drop a0).take 8))) (bs.drop (a0 + 8))) := by unfold fixed Hid; rw [if_neg (by rw [List.length_drop, hz]; exact h8), List.drop_drop]
    have g : ¬ (z : Int) - (a0 : Int) < 8 := by omega
    have ha8 : a0 + 8 ≤ z := by omega
    obtain ⟨b, off, rfl, hb, hby⟩ : ∃ b off, p = some ⟨b, off, none⟩ ∧ b < min lo S ∧ BytesAt w b off bs := by
      rcases hbs with h | h
      · rw [h] at hz; simp at hz; omega
      · exact h
    obtain ⟨t, ht⟩ : ∃ t, t = (bs.drop a0).take 8 := ⟨_, rfl⟩
    have HTL : Hid (t.length = 8) := by unfold Hid; rw [ht, List.length_take, List.length_drop]; omega
    have HTC : Hid (∀ j (h : j < t.length), w.cell? ⟨b, off + (a0 + j), none⟩ = some (.int .u8 (t[j].toNat : Int))) := by
      intro j hj
      have hj8 : j < 8 := by rw [← HTL.out]; exact hj
      subst ht
      rw [hby (a0 + j) (by omega), List.getElem_take, List.getElem_drop]
    rw [← ht] at HG
    clear hbs hz h8 hby ht
    go_enter Try.func39, Try.ntmps39
    go_wp2_with fail
    go_quiet (fail)
    go_wp2_with fail
    go_loopw [3, 4] (fun u i wr => ∃ (j q : Nat), j ≤ 8 ∧ u = .int .u64 (le (t.drop j)) ∧ i = .int .i64 ((j : Int) - 1) ∧ wr = w.drewN q) (fun _ i _ => (intOf i + 1).toNat)
    case atStart => exact ⟨8, _, by omega, by rw [List.drop_of_length_le (by have := HTL.out; omega)]; rfl, rfl, rfl⟩
    case round =>
      obtain ⟨j, q, hj, rfl, rfl, rfl⟩ := hrel
      by_cases hj0 : j = 0
      · subst hj0
        have HV : Hid (wrap64 (le t : Int) = signed64 (le t)) := wrap_signed _ (le_lt8 t (by have := HTL.out; omega))
        rw [List.drop_zero]
        go_wp2_with fail
        go_ret
        exact RfPost.yes HG.out (by show Value.int .i64 (wrap64 (le t : Int)) = _; rw [HV.out]) ((HS.out.chg ((Chg.refl [] _).drewN _) (by simp)).setAt (a0 + 8) (by have := HZ.out; omega)) (((Chg.refl _ _).drewN _).setCell _ _ (by simp))
      · obtain ⟨i, rfl⟩ : ∃ i, j = i + 1 := ⟨j - 1, by omega⟩
        have hit : i < t.length := by have := HTL.out; omega
        have hcell := HTC.out i hit
        have HLE := Lib.hid (le_drop t i hit)
        have hb64 : le (t.drop i) < 2 ^ 64 := le_lt8 _ (by rw [List.length_drop]; have := HTL.out; omega)
        obtain ⟨x, hx⟩ : ∃ x, x = t[i]'hit := ⟨_, rfl⟩
        obtain ⟨y, hy⟩ : ∃ y, y = le (t.drop (i + 1)) := ⟨_, rfl⟩
        have hw1 : IntKind.u64.wrap (IntKind.u64.wrap (256 * (y : Int)) + (x.toNat : Int)) = ((x.toNat + 256 * y : Nat) : Int) := by
          rw [le_drop t i hit] at hb64
          rw [← hx, ← hy] at hb64
          rw [IntKind.wrap_u64, IntKind.wrap_u64]; omega
        rw [← hx] at hcell
        have HLE' : Hid (le (t.drop i) = x.toNat + 256 * y) := by unfold Hid; rw [hx, hy]; exact HLE.out
        have hxb : x.toNat < 256 := x.isLt
        rw [← hy]
        have hix : (0 : Int) ≤ (a0 : Int) + (i : Int) ∧ (a0 : Int) + (i : Int) < (z : Int) := by omega
        have hws : IntKind.i64.wrap ((a0 : Int) + (i : Int)) = (a0 : Int) + (i : Int) := by rw [IntKind.wrap_i64]; omega
        have htn : ((a0 : Int) + (i : Int)).toNat = a0 + i := by omega
        have hii : ((i + 1 : Nat) : Int) - 1 = (i : Int) := by omega
        rw [hii]
        clear hx hy hb64 hit HLE hii
        go_wp2_with fail
        go_quiet (fail)
        go_wp2_with fail
        refine ⟨⟨i, _, by omega, by rw [HLE'.out]; simp, rfl, rfl⟩, by simp [intOf]⟩
set_option maxRecDepth 100000 in
set_option maxHeartbeats 1000000 in
theorem rf_bytes (S : Nat) (bs : List (BitVec 8)) (a0 : Nat) (w : World) (hS : RefIs lo w S bs a0 0) (hl : bs.length ≤ 2000000) :
    Calls Try.prog 40 #[.pointer (some ⟨S, 0, none⟩)] w (RfPost lo (.slice none 0 0) isBytesV S bs w (text (bs.drop a0))) := by
  have HL := Lib.hid hl
  have H := Lib.hid (rf_size S 1 bs a0 w hS (.inl rfl))
  clear hS hl
  go_enter Try.func40, Try.ntmps40
  go_wp2_with fail
  refine H.out.mono ?_
  intro x w1 hq
  rcases hq.part with ⟨e, n, hg, rfl, hr, hc⟩ | ⟨m, v, n, hg, rfl, rfl, hr, hc⟩
  · have HR := Lib.hid hr
    have HC := Lib.hid hc
    have he0 := (Pack.bad_size _ _).ne e hg
    have g2 : (e != 0) = true := by rw [bne_iff_ne]; exact he0
    have c2 := hr.err
    have HG : Hid (text (bs.drop a0) = .no e) := by unfold text; rw [hg]; rfl
    clear hq hr hc hg he0
    go_wp2_with fail
    go_ret
    exact RfPost.no HG.out HR.out HC.out
  · have HR := Lib.hid hr
    have HC := Lib.hid hc
    have hsz := size_le hg
    obtain ⟨hSl, ⟨p, c, hlc, hcm, c0, hbs⟩, c1, c2, f1, f2, hle⟩ := hr
    obtain ⟨z, hz⟩ : ∃ z, bs.length = z := ⟨_, rfl⟩
    rw [hz] at hlc c0 hle
    have hmn : n + m ≤ z := by have := hsz.2; rw [List.length_drop, hz] at this; omega
    have HG : Hid (text (bs.drop a0) = .yes ((bs.drop n).take m) (bs.drop (n + m))) := by unfold text Hid; rw [hg]; simp only [Pack.Got.then, List.drop_drop]
    have HZ := Lib.hid hz
    have HBS := Lib.hid hbs
    have hws : IntKind.i64.wrap ((n : Int) + (m : Int)) = (n : Int) + (m : Int) := by rw [IntKind.wrap_i64]; omega
    have hby : IsBytes w1 (.slice p z c) bs := ⟨p, z, c, rfl, hz.symm, hlc, hcm, by rcases hbs with h | ⟨b, off, h1, h2, h3⟩; exact .inl h; exact .inr ⟨b, off, h1, Nat.lt_of_lt_of_le h2 (Nat.le_trans (Nat.min_le_right _ _) (Nat.le_of_lt hSl)), h3⟩⟩
    obtain ⟨p', hsl, hsub⟩ := slice_sub hby n (n + m) (by omega) hmn hlc
    rw [show n + m - n = m by omega] at hsl hsub
    rw [show ((n + m : Nat) : Int) = (n : Int) + (m : Int) by omega] at hsl
    have HSUB := Lib.hid hsub
    have hmb : m ≤ 2000000 := by have := HL.out; omega
    have HMB := Lib.hid hmb
    clear hq hc hg hz hsz hbs hby hsub hmb
    go_wp2_with fail
    go_still_tail 16, (by kernel_rfl)
    change wpList _ _ _ _ _ w1.drew
    obtain ⟨w2, hw2⟩ : ∃ w2, w2 = w1.drew := ⟨_, rfl⟩
    have hch : Chg [] w1 w2 := by rw [hw2]; exact (Chg.refl [] _).drewN 1
    have HR2 : Hid (RefIs lo w2 S bs n 0) := HR.out.chg hch (by simp)
    have HC2 : Hid (Chg [S] w w2) := HC.out.trans (hch.mono (by simp))
    have HSUB2 : Hid (IsBytes w2 (.slice p' m (c - n)) ((bs.drop n).take m)) := by unfold Hid; rw [hw2]; exact HSUB.out.drewN 1
    have HS2 : Hid (S < w2.heap.size) := HR2.out.lt
    rw [← hw2]
    clear hw2 hch c0 c1 c2 f1 f2
    go_wp2_with (at_builtin; refine wpl_append rfl (.tmp 12) (.tmp 27) _ rfl elemU8 rfl (Own.nil_ (base := w2.heap.size) (Nat.le_refl _)) rfl HSUB2.out.reads one_byteV (by have := HMB.out; rw [List.length_map, List.length_take, List.length_nil]; omega) (by have := HMB.out; rw [List.length_map, List.length_take, List.length_nil]; unfold maxLen; omega) ?_; intro v' w3 hown3 hg3 hat3; rw [List.nil_append] at hown3; obtain ⟨ra, rn, rc, rfl, hrn⟩ := hown3.form_; have hch3 : Chg [] w2 w3 := Chg.of_grown hg3; have HR3 : Hid (RefIs lo w3 S bs n 0) := HR2.out.chg hch3 (by simp); have HC3 : Hid (Chg [S] w w3) := HC2.out.trans (hch3.mono (by simp)); have HO3 := Lib.hid hown3; have HS23 : Hid (w2.heap.size ≤ w3.heap.size) := hg3.size; clear hg3 hat3 hown3 hrn hch3; have hr3 := HR3.out; obtain ⟨_, _, c1, _, f1, _, _⟩ := hr3)
    go_ret
    refine RfPost.yes (n := n + m) HG.out ⟨ra, rn, rc, rfl, ?_⟩ (HR3.out.setAt (n + m) (by have := HZ.out; omega)) (HC3.out.setCell _ _ (by simp))
    exact (HO3.out.chg (S := [S]) ((Chg.refl _ _).setCell _ _ (by simp)) (by simpa using HS2.out)).reads.bytes
end Go.Proofs.Ytajnhmkkgngbhaa
