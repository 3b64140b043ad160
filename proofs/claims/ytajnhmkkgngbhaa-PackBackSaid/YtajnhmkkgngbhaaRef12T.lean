/- The walks of the reference's package regattaref12: what is read, third part: lists; Done. -/
import Derived.Test.YtajnhmkkgngbhaaRef12S
namespace Go.Proofs.Ytajnhmkkgngbhaa
open Go.RowKit
open Pack (Got cnt cntTo whole fixed sizeOf_ text many ints fixes unzig signed64 le)
variable {lo : Nat}
theorem elem64 : Elem Try.prog 72 2 8 := Elem.mk_ (z := .int .i64 0) Try.underlying72 (by kernel_rfl) rfl
theorem rf_bytes_end (S : Nat) (e : Int) (w : World) (h : RefEnd w S e) :
    Calls Try.prog 40 #[.pointer (some ⟨S, 0, none⟩)] w fun x w' => x = .returned (.slice none 0 0) ∧ ∃ n, w' = w.drewN n := by
  have H := Lib.hid (rf_size_end S 1 e w h)
  obtain ⟨h2, he⟩ := h
  have g2 : (e != 0) = true := by rw [bne_iff_ne]; exact he
  clear he
  go_enter Try.func40, Try.ntmps40
  go_wp2_with fail
  refine H.out.mono ?_
  rintro x w1 ⟨rfl, n, rfl⟩
  go_wp2_with fail
  go_ret
  exact ⟨rfl, _, rfl⟩

theorem rf_ints_end (S : Nat) (e : Int) (w : World) (h : RefEnd w S e) :
    Calls Try.prog 43 #[.pointer (some ⟨S, 0, none⟩)] w fun x w' => x = .returned (.slice none 0 0) ∧ ∃ n, w' = w.drewN n := by
  have H := Lib.hid (rf_size_end S 1 e w h)
  obtain ⟨h2, he⟩ := h
  have g1 : (e == 0) = false := by rw [beq_eq_false_iff_ne]; exact he
  have g2 : (e != 0) = true := by rw [bne_iff_ne]; exact he
  clear he
  go_enter Try.func43, Try.ntmps43
  go_wp2_with fail
  refine H.out.mono ?_
  rintro x w1 ⟨rfl, n, rfl⟩
  go_wp2_with fail
  go_loop [4, 5] (fun u i => u = .slice none 0 0 ∧ i = .int .i64 0) (fun _ _ => 0)
  case atStart => exact ⟨rfl, rfl⟩
  case round =>
    obtain ⟨rfl, rfl⟩ := hrel
    go_wp2_with fail
    go_ret
    exact ⟨rfl, _, rfl⟩
set_option maxHeartbeats 2000000 in
theorem rf_ints (S : Nat) (bs : List (BitVec 8)) (a0 : Nat) (w : World) (hS : RefIs lo w S bs a0 0) (hl : bs.length ≤ 2000000) :
    Calls Try.prog 43 #[.pointer (some ⟨S, 0, none⟩)] w (RfPost lo (.slice none 0 0) isIntsV S bs w (ints (bs.drop a0))) := by
  have HL := Lib.hid hl
  have HSl := Lib.hid hS.lt
  have H := Lib.hid (rf_size S 1 bs a0 w hS (.inl rfl))
  clear hS hl
  go_enter Try.func43, Try.ntmps43
  go_wp2_with fail
  refine H.out.mono ?_
  intro x w1 hq
  rcases hq.part with ⟨e, n, hg, rfl, hr, hc⟩ | ⟨m, v, n, hg, rfl, rfl, hr, hc⟩
  · have HR := Lib.hid hr
    have HC := Lib.hid hc
    have he0 := (Pack.bad_size _ _).ne e hg
    have g1 : (e == 0) = false := by rw [beq_eq_false_iff_ne]; exact he0
    have g2 : (e != 0) = true := by rw [bne_iff_ne]; exact he0
    have c2 := hr.err
    have HG : Hid (ints (bs.drop a0) = .no e) := by unfold ints; rw [hg]; rfl
    clear hq hr hc hg he0 H
    go_wp2_with fail
    go_loop [4, 5] (fun u i => u = .slice none 0 0 ∧ i = .int .i64 0) (fun _ _ => 0)
    case atStart => exact ⟨rfl, rfl⟩
    case round =>
      obtain ⟨rfl, rfl⟩ := hrel
      go_wp2_with fail
      go_ret
      exact RfPost.no HG.out HR.out HC.out
  · have HR := Lib.hid hr
    have HC := Lib.hid hc
    have hsz := size_le hg
    have HG : Hid (ints (bs.drop a0) = many whole m [] (bs.drop n)) := by unfold ints; rw [hg]; rfl
    have hmb : m ≤ 2000000 := by have := HL.out; have h2 := hsz.2; rw [List.length_drop] at h2; omega
    clear hq hr hc hg hsz H
    go_wp2_with fail
    go_loopw [4, 5] (fun u i wr => ∃ (k : Nat) (acc : List Int) (n' : Nat) (e : Int), i = .int .i64 k ∧ k ≤ m ∧ Hid (RefIs lo wr S bs n' e) ∧ Hid (Chg [S] w wr) ∧ Hid (Own wr w.heap.size 2 u (acc.map intV)) ∧ Hid (acc.length = k) ∧
      Hid ((e = 0 ∧ many whole (m - k) acc (bs.drop n') = many whole m [] (bs.drop n)) ∨ (e ≠ 0 ∧ many whole m [] (bs.drop n) = .no e))) (fun _ i _ => m - (intOf i).toNat)
    case atStart => exact ⟨0, [], n, 0, rfl, Nat.zero_le _, HR.out, HC.out, Own.nil_ HC.out.size, rfl, .inl ⟨rfl, rfl⟩⟩
    case round =>
      obtain ⟨k, acc, n', e, rfl, hk, hR, hC, hown, ha, hd⟩ := hrel
      have c2 := hR.out.err
      rcases hd.out with ⟨rfl, hm⟩ | ⟨he, hm⟩
      · by_cases hlt : k < m
        · have HM := Lib.hid hm
          clear hd hm
          go_wp2_with fail
          refine (rf_int S bs n' _ hR.out).mono ?_
          intro x w2 hq
          rcases hq.part with ⟨e, n2, hg, rfl, hr, hc⟩ | ⟨x, v, n2, hg, rfl, rfl, hr, hc⟩
          · have HR2 := Lib.hid hr
            have HC2 : Hid (Chg [S] w w2) := hC.out.trans hc
            have HE : Hid (e ≠ 0 ∧ many whole m [] (bs.drop n) = .no e) := by
              refine ⟨(Pack.bad_whole _).ne e hg, ?_⟩
              rw [← HM.out, show m - k = (m - k - 1) + 1 by omega, many_succ, hg]; rfl
            have HOWN2 : Hid (Own w2 w.heap.size 2 u4 (acc.map intV)) := hown.out.chg hc (by simpa using HSl.out)
            clear hq hr hc hg c2
            go_wp2_with (at_builtin; refine wpl_append rfl (.tmp 20) (.tmp 23) _ rfl elem64 rfl (HOWN2.out.alloc _) rfl (Reads.one _ _ _) one_int (by have := ha.out; rw [List.length_map, List.length_singleton]; omega) (by have := ha.out; rw [List.length_map, List.length_singleton]; unfold maxLen; omega) ?_; intro v' w3 hown3 hg3 _)
            have hown4 : Own w3 w.heap.size 2 v' ((acc ++ [0]).map intV) := by rw [List.map_append]; exact hown3
            have hge : ∀ y ∈ u4.ownBlock.toList, w.heap.size ≤ y := fun y hy => (HOWN2.out.block_ge y (by simpa using hy)).1
            exact ⟨⟨k + 1, acc ++ [0], n2, e, by go_num, by omega, (HR2.out.chg ((Chg.refl [] _).alloc _) (by simp)).chg (Chg.of_grown hg3) (fun y hy => Nat.lt_of_lt_of_le HSl.out (hge y hy)), (HC2.out.alloc _).more (Chg.of_grown hg3) (fun y hy => .inr (hge y hy)), hown4, by have := ha.out; unfold Hid; rw [List.length_append, List.length_singleton]; omega, .inr HE.out⟩, by simp [intOf]; omega⟩
          · have HR2 := Lib.hid hr
            have HC2 : Hid (Chg [S] w w2) := hC.out.trans hc
            have HM2 : Hid (many whole (m - (k + 1)) (acc ++ [x]) (bs.drop n2) = many whole m [] (bs.drop n)) := by
              unfold Hid; rw [← HM.out, show m - k = (m - (k + 1)) + 1 by omega, many_succ, hg]; rfl
            have HOWN2 : Hid (Own w2 w.heap.size 2 u4 (acc.map intV)) := hown.out.chg hc (by simpa using HSl.out)
            clear hq hr hc hg c2
            go_wp2_with (at_builtin; refine wpl_append rfl (.tmp 20) (.tmp 23) _ rfl elem64 rfl (HOWN2.out.alloc _) rfl (Reads.one _ _ _) one_int (by have := ha.out; rw [List.length_map, List.length_singleton]; omega) (by have := ha.out; rw [List.length_map, List.length_singleton]; unfold maxLen; omega) ?_; intro v' w3 hown3 hg3 _)
            have hown4 : Own w3 w.heap.size 2 v' ((acc ++ [x]).map intV) := by rw [List.map_append]; exact hown3
            have hge : ∀ y ∈ u4.ownBlock.toList, w.heap.size ≤ y := fun y hy => (HOWN2.out.block_ge y (by simpa using hy)).1
            exact ⟨⟨k + 1, acc ++ [x], n2, 0, by go_num, by omega, (HR2.out.chg ((Chg.refl [] _).alloc _) (by simp)).chg (Chg.of_grown hg3) (fun y hy => Nat.lt_of_lt_of_le HSl.out (hge y hy)), (HC2.out.alloc _).more (Chg.of_grown hg3) (fun y hy => .inr (hge y hy)), hown4, by have := ha.out; unfold Hid; rw [List.length_append, List.length_singleton]; omega, .inl ⟨rfl, HM2.out⟩⟩, by simp [intOf]; omega⟩
        · obtain rfl : k = m := by omega
          have HM : Hid (many whole k [] (bs.drop n) = .yes acc (bs.drop n')) := by rw [Nat.sub_self, many_zero] at hm; exact hm.symm
          obtain ⟨p, z, c, rfl, _⟩ := hown.out.form_
          clear hlt hm hd
          go_wp2_with fail
          go_ret
          exact RfPost.yes (HG.out.trans HM.out) ⟨p, z, c, rfl, hown.out.reads⟩ hR.out hC.out
      · have HM : Hid (ints (bs.drop a0) = .no e) := HG.out.trans hm
        have g1 : (e == 0) = false := by rw [beq_eq_false_iff_ne]; exact he
        have g2 : (e != 0) = true := by rw [bne_iff_ne]; exact he
        have hkm : k < m ∨ ¬ k < m := by omega
        clear hd hm he
        rcases hkm with hkm | hkm
        all_goals
          go_wp2_with fail
          go_ret
          exact RfPost.no HM.out hR.out hC.out

theorem rf_fixes_end (S : Nat) (e : Int) (w : World) (h : RefEnd w S e) :
    Calls Try.prog 45 #[.pointer (some ⟨S, 0, none⟩)] w fun x w' => x = .returned (.slice none 0 0) ∧ ∃ n, w' = w.drewN n := by
  have H := Lib.hid (rf_size_end S 8 e w h)
  obtain ⟨h2, he⟩ := h
  have g1 : (e == 0) = false := by rw [beq_eq_false_iff_ne]; exact he
  have g2 : (e != 0) = true := by rw [bne_iff_ne]; exact he
  clear he
  go_enter Try.func45, Try.ntmps45
  go_wp2_with fail
  refine H.out.mono ?_
  rintro x w1 ⟨rfl, n, rfl⟩
  go_wp2_with fail
  go_loop [4, 5] (fun u i => u = .slice none 0 0 ∧ i = .int .i64 0) (fun _ _ => 0)
  case atStart => exact ⟨rfl, rfl⟩
  case round =>
    obtain ⟨rfl, rfl⟩ := hrel
    go_wp2_with fail
    go_ret
    exact ⟨rfl, _, rfl⟩
set_option maxHeartbeats 2000000 in
theorem rf_fixes (S : Nat) (bs : List (BitVec 8)) (a0 : Nat) (w : World) (hS : RefIs lo w S bs a0 0) (hl : bs.length ≤ 2000000) :
    Calls Try.prog 45 #[.pointer (some ⟨S, 0, none⟩)] w (RfPost lo (.slice none 0 0) isIntsV S bs w (fixes (bs.drop a0))) := by
  have HL := Lib.hid hl
  have HSl := Lib.hid hS.lt
  have H := Lib.hid (rf_size S 8 bs a0 w hS (.inr rfl))
  clear hS hl
  go_enter Try.func45, Try.ntmps45
  go_wp2_with fail
  refine H.out.mono ?_
  intro x w1 hq
  rcases hq.part with ⟨e, n, hg, rfl, hr, hc⟩ | ⟨m, v, n, hg, rfl, rfl, hr, hc⟩
  · have HR := Lib.hid hr
    have HC := Lib.hid hc
    have he0 := (Pack.bad_size _ _).ne e hg
    have g1 : (e == 0) = false := by rw [beq_eq_false_iff_ne]; exact he0
    have g2 : (e != 0) = true := by rw [bne_iff_ne]; exact he0
    have c2 := hr.err
    have HG : Hid (fixes (bs.drop a0) = .no e) := by unfold fixes; rw [hg]; rfl
    clear hq hr hc hg he0 H
    go_wp2_with fail
    go_loop [4, 5] (fun u i => u = .slice none 0 0 ∧ i = .int .i64 0) (fun _ _ => 0)
    case atStart => exact ⟨rfl, rfl⟩
    case round =>
      obtain ⟨rfl, rfl⟩ := hrel
      go_wp2_with fail
      go_ret
      exact RfPost.no HG.out HR.out HC.out
  · have HR := Lib.hid hr
    have HC := Lib.hid hc
    have hsz := size_le hg
    have HG : Hid (fixes (bs.drop a0) = many fixed m [] (bs.drop n)) := by unfold fixes; rw [hg]; rfl
    have hmb : m ≤ 2000000 := by have := HL.out; have h2 := hsz.2; rw [List.length_drop] at h2; omega
    clear hq hr hc hg hsz H
    go_wp2_with fail
    go_loopw [4, 5] (fun u i wr => ∃ (k : Nat) (acc : List Int) (n' : Nat) (e : Int), i = .int .i64 k ∧ k ≤ m ∧ Hid (RefIs lo wr S bs n' e) ∧ Hid (Chg [S] w wr) ∧ Hid (Own wr w.heap.size 2 u (acc.map intV)) ∧ Hid (acc.length = k) ∧
      Hid ((e = 0 ∧ many fixed (m - k) acc (bs.drop n') = many fixed m [] (bs.drop n)) ∨ (e ≠ 0 ∧ many fixed m [] (bs.drop n) = .no e))) (fun _ i _ => m - (intOf i).toNat)
    case atStart => exact ⟨0, [], n, 0, rfl, Nat.zero_le _, HR.out, HC.out, Own.nil_ HC.out.size, rfl, .inl ⟨rfl, rfl⟩⟩
    case round =>
      obtain ⟨k, acc, n', e, rfl, hk, hR, hC, hown, ha, hd⟩ := hrel
      have c2 := hR.out.err
      rcases hd.out with ⟨rfl, hm⟩ | ⟨he, hm⟩
      · by_cases hlt : k < m
        · have HM := Lib.hid hm
          clear hd hm
          go_wp2_with fail
          refine (rf_fix S bs n' _ hR.out).mono ?_
          intro x w2 hq
          rcases hq.part with ⟨e, n2, hg, rfl, hr, hc⟩ | ⟨x, v, n2, hg, rfl, rfl, hr, hc⟩
          · have HR2 := Lib.hid hr
            have HC2 : Hid (Chg [S] w w2) := hC.out.trans hc
            have HE : Hid (e ≠ 0 ∧ many fixed m [] (bs.drop n) = .no e) := by
              refine ⟨(Pack.bad_fixed _).ne e hg, ?_⟩
              rw [← HM.out, show m - k = (m - k - 1) + 1 by omega, many_succ, hg]; rfl
            have HOWN2 : Hid (Own w2 w.heap.size 2 u4 (acc.map intV)) := hown.out.chg hc (by simpa using HSl.out)
            clear hq hr hc hg c2
            go_wp2_with (at_builtin; refine wpl_append rfl (.tmp 20) (.tmp 23) _ rfl elem64 rfl (HOWN2.out.alloc _) rfl (Reads.one _ _ _) one_int (by have := ha.out; rw [List.length_map, List.length_singleton]; omega) (by have := ha.out; rw [List.length_map, List.length_singleton]; unfold maxLen; omega) ?_; intro v' w3 hown3 hg3 _)
            have hown4 : Own w3 w.heap.size 2 v' ((acc ++ [0]).map intV) := by rw [List.map_append]; exact hown3
            have hge : ∀ y ∈ u4.ownBlock.toList, w.heap.size ≤ y := fun y hy => (HOWN2.out.block_ge y (by simpa using hy)).1
            exact ⟨⟨k + 1, acc ++ [0], n2, e, by go_num, by omega, (HR2.out.chg ((Chg.refl [] _).alloc _) (by simp)).chg (Chg.of_grown hg3) (fun y hy => Nat.lt_of_lt_of_le HSl.out (hge y hy)), (HC2.out.alloc _).more (Chg.of_grown hg3) (fun y hy => .inr (hge y hy)), hown4, by have := ha.out; unfold Hid; rw [List.length_append, List.length_singleton]; omega, .inr HE.out⟩, by simp [intOf]; omega⟩
          · have HR2 := Lib.hid hr
            have HC2 : Hid (Chg [S] w w2) := hC.out.trans hc
            have HM2 : Hid (many fixed (m - (k + 1)) (acc ++ [x]) (bs.drop n2) = many fixed m [] (bs.drop n)) := by
              unfold Hid; rw [← HM.out, show m - k = (m - (k + 1)) + 1 by omega, many_succ, hg]; rfl
            have HOWN2 : Hid (Own w2 w.heap.size 2 u4 (acc.map intV)) := hown.out.chg hc (by simpa using HSl.out)
            clear hq hr hc hg c2
            go_wp2_with (at_builtin; refine wpl_append rfl (.tmp 20) (.tmp 23) _ rfl elem64 rfl (HOWN2.out.alloc _) rfl (Reads.one _ _ _) one_int (by have := ha.out; rw [List.length_map, List.length_singleton]; omega) (by have := ha.out; rw [List.length_map, List.length_singleton]; unfold maxLen; omega) ?_; intro v' w3 hown3 hg3 _)
            have hown4 : Own w3 w.heap.size 2 v' ((acc ++ [x]).map intV) := by rw [List.map_append]; exact hown3
            have hge : ∀ y ∈ u4.ownBlock.toList, w.heap.size ≤ y := fun y hy => (HOWN2.out.block_ge y (by simpa using hy)).1
            exact ⟨⟨k + 1, acc ++ [x], n2, 0, by go_num, by omega, (HR2.out.chg ((Chg.refl [] _).alloc _) (by simp)).chg (Chg.of_grown hg3) (fun y hy => Nat.lt_of_lt_of_le HSl.out (hge y hy)), (HC2.out.alloc _).more (Chg.of_grown hg3) (fun y hy => .inr (hge y hy)), hown4, by have := ha.out; unfold Hid; rw [List.length_append, List.length_singleton]; omega, .inl ⟨rfl, HM2.out⟩⟩, by simp [intOf]; omega⟩
        · obtain rfl : k = m := by omega
          have HM : Hid (many fixed k [] (bs.drop n) = .yes acc (bs.drop n')) := by rw [Nat.sub_self, many_zero] at hm; exact hm.symm
          obtain ⟨p, z, c, rfl, _⟩ := hown.out.form_
          clear hlt hm hd
          go_wp2_with fail
          go_ret
          exact RfPost.yes (HG.out.trans HM.out) ⟨p, z, c, rfl, hown.out.reads⟩ hR.out hC.out
      · have HM : Hid (fixes (bs.drop a0) = .no e) := HG.out.trans hm
        have g1 : (e == 0) = false := by rw [beq_eq_false_iff_ne]; exact he
        have g2 : (e != 0) = true := by rw [bne_iff_ne]; exact he
        have hkm : k < m ∨ ¬ k < m := by omega
        clear hd hm he
        rcases hkm with hkm | hkm
        all_goals
          go_wp2_with fail
          go_ret
          exact RfPost.no HM.out hR.out hC.out

theorem rf_done_end (S : Nat) (e : Int) (w : World) (h : RefEnd w S e) :
    Calls Try.prog 21 #[.pointer (some ⟨S, 0, none⟩)] w fun x w' => x = .returned (.int .i64 e) ∧ ∃ n, w' = w.drewN n := by
  obtain ⟨h2, he⟩ := h
  have g1 : (e == 0) = false := by rw [beq_eq_false_iff_ne]; exact he
  clear he
  go_enter Try.func21, Try.ntmps21
  go_wp2_with fail
  go_quiet (fail)
  go_wp2_with fail
  go_ret
  exact ⟨rfl, _, rfl⟩
theorem rf_done (S : Nat) (bs : List (BitVec 8)) (n : Nat) (w : World) (hS : RefIs lo w S bs n 0) :
    Calls Try.prog 21 #[.pointer (some ⟨S, 0, none⟩)] w fun x w' => x = .returned (.int .i64 (if (bs.drop n).length = 0 then 0 else 122)) ∧ ∃ n, w' = w.drewN n := by
  obtain ⟨hSl, ⟨p, c, hlc, hcm, c0, hbs⟩, c1, c2, f1, f2, hle⟩ := hS
  rw [List.length_drop]
  obtain ⟨z, hz⟩ : ∃ z, bs.length = z := ⟨_, rfl⟩
  rw [hz] at hlc c0 hle ⊢
  clear hbs hz
  by_cases h : z - n = 0
  · rw [if_pos h]
    have g : ¬ (n : Int) < (z : Int) := by omega
    clear h
    go_enter Try.func21, Try.ntmps21
    go_wp2_with fail
    go_quiet (fail)
    go_wp2_with fail
    go_ret
    exact ⟨rfl, _, rfl⟩
  · rw [if_neg h]
    have g : (n : Int) < (z : Int) := by omega
    clear h
    go_enter Try.func21, Try.ntmps21
    go_wp2_with fail
    go_quiet (fail)
    go_wp2_with fail
    go_ret
    exact ⟨rfl, _, rfl⟩
end Go.Proofs.Ytajnhmkkgngbhaa
