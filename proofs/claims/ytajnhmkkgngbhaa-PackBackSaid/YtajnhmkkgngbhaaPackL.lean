/- The walks of package pack, the reader: lists. -/
import Derived.Test.YtajnhmkkgngbhaaPackR5
namespace Go.Proofs.Ytajnhmkkgngbhaa
open Go.RowKit
open Pack (Got cnt whole fixed sizeOf_ text many ints fixes unzig signed64 le)
/-- Numbers that were read: a row of the call's own. -/
def isInts (t : TypeId) (base : Nat) (w : World) (xs : List Int) (v : Value) : Prop := ∃ p n c, v = .slice p n c ∧ Own w base t v (xs.map intV)
theorem many_zero (one : List (BitVec 8) → Got Int) (acc : List Int) (bs : List (BitVec 8)) : many one 0 acc bs = .yes acc bs := rfl
theorem many_succ (one : List (BitVec 8) → Got Int) (k : Nat) (acc : List Int) (bs : List (BitVec 8)) : many one (k + 1) acc bs = (one bs).then fun x r => many one k (acc ++ [x]) r := rfl

theorem elemN : Elem Try.prog 37 3 8 := Elem.mk_ (z := .int .i64 0) Try.underlying37 (by kernel_rfl) rfl
set_option maxHeartbeats 1000000 in
theorem listN (R each G : Nat) (one : List (BitVec 8) → Got Int) (bs : List (BitVec 8)) (w : World) (hG : ∀ args w, (callFunc G args).run Try.prog w = .ok (.enter G args) w) (hR : ReaderIs w R bs 0) (he : each = 1 ∨ each = 8) (hl : bs.length ≤ 2000000)
    (hone : ∀ bs w, ReaderIs w R bs 0 → Calls Try.prog G #[.pointer (some ⟨R, 0, none⟩)] w (RdPost isI64 R w (one bs))) :
    Calls Try.prog 58 #[.pointer (some ⟨R, 0, none⟩), .int .i64 each, .func (.func G) #[.pointer (some ⟨R, 0, none⟩)] #[]] w (RdPost (isInts 3 w.heap.size) R w ((sizeOf_ each bs).then fun n r => many one n [] r)) := by
  have hRl := hR.lt
  have H := Lib.hid (size_any R each bs w hR he)
  have HO := Lib.hid hone
  clear hone
  go_enter Try.func58, Try.ntmps58
  go_wp2_with fail
  refine H.out.mono ?_
  intro x w1 hq
  rcases hq.part with ⟨e, rest, hg, rfl, hr, hc⟩ | ⟨n, v, rest, hg, rfl, rfl, hr, hc⟩
  · have HR := Lib.hid hr
    have HC := Lib.hid hc
    have HG : Hid (((sizeOf_ each bs).then fun n r => many one n [] r) = .no e) := by rw [hg]; rfl
    clear hq hr hc hg hR hl
    simp only [thrown]
    go_wp2_with fail
    exact ⟨rfl, RdPost.no HG.out HR.out HC.out⟩
  · have HR := Lib.hid hr
    have HC := Lib.hid hc
    have HG : Hid (((sizeOf_ each bs).then fun n r => many one n [] r) = many one n [] rest) := by rw [hg]; rfl
    have hn := size_le hg
    have hn2 : n ≤ 2000000 := by omega
    clear hq hr hc hg hR hl hn
    go_wp2_with fail
    go_loopw [7, 11] (fun u i wr => ∃ (k : Nat) (acc : List Int) (left : List (BitVec 8)), i = .int .i64 k ∧ k ≤ n ∧ Hid (many one (n - k) acc left = many one n [] rest) ∧ Hid (acc.length = k) ∧ Hid (ReaderIs wr R left 0) ∧ Hid (Chg [R] w wr) ∧ Own wr w.heap.size 3 u (acc.map intV)) (fun _ i _ => n - (intOf i).toNat)
    case atStart => exact ⟨0, [], rest, rfl, Nat.zero_le _, rfl, rfl, HR.out, HC.out, Own.nil_ HC.out.size⟩
    case round =>
      obtain ⟨k, acc, left, rfl, hk, hm, ha, hR, hC, hown⟩ := hrel
      have HOWN := Lib.hid hown
      clear hown
      by_cases hlt : k < n
      · go_wp2_with fail
        refine (HO.out left _ hR.out).mono ?_
        intro x w2 hq
        rcases hq.part with ⟨e, r, hg, rfl, hr, hc⟩ | ⟨x, v, r, hg, rfl, rfl, hr, hc⟩
        · have HR2 := Lib.hid hr
          have HC2 : Hid (Chg [R] w w2) := hC.out.trans hc
          have HM : Hid (many one n [] rest = .no e) := by
            unfold Hid; rw [← hm.out, show n - k = (n - k - 1) + 1 by omega, many_succ, hg]; rfl
          clear hq hr hc hg
          simp only [thrown]
          go_wp2_with fail
          exact ⟨rfl, RdPost.no (HG.out.trans HM.out) HR2.out HC2.out⟩
        · have HR2 := Lib.hid hr
          have HC2 : Hid (Chg [R] w w2) := hC.out.trans hc
          have HM : Hid (many one (n - (k + 1)) (acc ++ [x]) r = many one n [] rest) := by
            unfold Hid; rw [← hm.out, show n - k = (n - (k + 1)) + 1 by omega, many_succ, hg]; rfl
          have HOWN2 : Hid (Own w2 w.heap.size 3 u7 (acc.map intV)) := HOWN.out.chg hc (by simpa using hRl)
          clear hq hr hc hg
          go_wp2_with (at_builtin; refine wpl_append rfl (.tmp 13) (.tmp 16) _ rfl elemN rfl (HOWN2.out.alloc _) rfl (Reads.one _ _ _) one_int (by have := ha.out; rw [List.length_map, List.length_singleton]; omega) (by have := ha.out; rw [List.length_map, List.length_singleton]; unfold maxLen; omega) ?_; intro v' w3 hown3 hg3 _)
          have hown4 : Own w3 w.heap.size 3 v' ((acc ++ [x]).map intV) := by rw [List.map_append]; exact hown3
          have hge : ∀ y ∈ u7.ownBlock.toList, w.heap.size ≤ y := fun y hy => (HOWN2.out.block_ge y (by simpa using hy)).1
          exact ⟨⟨k + 1, acc ++ [x], r, by go_num, by omega, HM.out, by have := ha.out; unfold Hid; rw [List.length_append, List.length_singleton]; omega, (HR2.out.alloc _).chg (Chg.of_grown hg3) (fun y hy => Nat.lt_of_lt_of_le hRl (hge y hy)), (HC2.out.alloc _).more (Chg.of_grown hg3) (fun y hy => .inr (hge y hy)), hown4⟩, by simp [intOf]; omega⟩
      · obtain rfl : k = n := by omega
        have HM : Hid (many one k [] rest = .yes acc left) := by have := hm.out; rw [Nat.sub_self, many_zero] at this; exact this.symm
        obtain ⟨p, m, c, rfl, _⟩ := HOWN.out.form_
        clear hlt hm
        go_wp2_with fail
        go_ret
        exact RdPost.yes (HG.out.trans HM.out) ⟨p, m, c, rfl, HOWN.out⟩ hR.out hC.out

theorem elemX : Elem Try.prog 38 36 8 := Elem.mk_ (z := .int .i64 0) Try.underlying38 (by kernel_rfl) rfl
set_option maxHeartbeats 1000000 in
theorem listX (R each G : Nat) (one : List (BitVec 8) → Got Int) (bs : List (BitVec 8)) (w : World) (hG : ∀ args w, (callFunc G args).run Try.prog w = .ok (.enter G args) w) (hR : ReaderIs w R bs 0) (he : each = 1 ∨ each = 8) (hl : bs.length ≤ 2000000)
    (hone : ∀ bs w, ReaderIs w R bs 0 → Calls Try.prog G #[.pointer (some ⟨R, 0, none⟩)] w (RdPost isI64 R w (one bs))) :
    Calls Try.prog 61 #[.pointer (some ⟨R, 0, none⟩), .int .i64 each, .func (.func G) #[.pointer (some ⟨R, 0, none⟩)] #[]] w (RdPost (isInts 36 w.heap.size) R w ((sizeOf_ each bs).then fun n r => many one n [] r)) := by
  have hRl := hR.lt
  have H := Lib.hid (size_any R each bs w hR he)
  have HO := Lib.hid hone
  clear hone
  go_enter Try.func61, Try.ntmps61
  go_wp2_with fail
  refine H.out.mono ?_
  intro x w1 hq
  rcases hq.part with ⟨e, rest, hg, rfl, hr, hc⟩ | ⟨n, v, rest, hg, rfl, rfl, hr, hc⟩
  · have HR := Lib.hid hr
    have HC := Lib.hid hc
    have HG : Hid (((sizeOf_ each bs).then fun n r => many one n [] r) = .no e) := by rw [hg]; rfl
    clear hq hr hc hg hR hl
    simp only [thrown]
    go_wp2_with fail
    exact ⟨rfl, RdPost.no HG.out HR.out HC.out⟩
  · have HR := Lib.hid hr
    have HC := Lib.hid hc
    have HG : Hid (((sizeOf_ each bs).then fun n r => many one n [] r) = many one n [] rest) := by rw [hg]; rfl
    have hn := size_le hg
    have hn2 : n ≤ 2000000 := by omega
    clear hq hr hc hg hR hl hn
    go_wp2_with fail
    go_loopw [7, 11] (fun u i wr => ∃ (k : Nat) (acc : List Int) (left : List (BitVec 8)), i = .int .i64 k ∧ k ≤ n ∧ Hid (many one (n - k) acc left = many one n [] rest) ∧ Hid (acc.length = k) ∧ Hid (ReaderIs wr R left 0) ∧ Hid (Chg [R] w wr) ∧ Own wr w.heap.size 36 u (acc.map intV)) (fun _ i _ => n - (intOf i).toNat)
    case atStart => exact ⟨0, [], rest, rfl, Nat.zero_le _, rfl, rfl, HR.out, HC.out, Own.nil_ HC.out.size⟩
    case round =>
      obtain ⟨k, acc, left, rfl, hk, hm, ha, hR, hC, hown⟩ := hrel
      have HOWN := Lib.hid hown
      clear hown
      by_cases hlt : k < n
      · go_wp2_with fail
        refine (HO.out left _ hR.out).mono ?_
        intro x w2 hq
        rcases hq.part with ⟨e, r, hg, rfl, hr, hc⟩ | ⟨x, v, r, hg, rfl, rfl, hr, hc⟩
        · have HR2 := Lib.hid hr
          have HC2 : Hid (Chg [R] w w2) := hC.out.trans hc
          have HM : Hid (many one n [] rest = .no e) := by
            unfold Hid; rw [← hm.out, show n - k = (n - k - 1) + 1 by omega, many_succ, hg]; rfl
          clear hq hr hc hg
          simp only [thrown]
          go_wp2_with fail
          exact ⟨rfl, RdPost.no (HG.out.trans HM.out) HR2.out HC2.out⟩
        · have HR2 := Lib.hid hr
          have HC2 : Hid (Chg [R] w w2) := hC.out.trans hc
          have HM : Hid (many one (n - (k + 1)) (acc ++ [x]) r = many one n [] rest) := by
            unfold Hid; rw [← hm.out, show n - k = (n - (k + 1)) + 1 by omega, many_succ, hg]; rfl
          have HOWN2 : Hid (Own w2 w.heap.size 36 u7 (acc.map intV)) := HOWN.out.chg hc (by simpa using hRl)
          clear hq hr hc hg
          go_wp2_with (at_builtin; refine wpl_append rfl (.tmp 13) (.tmp 16) _ rfl elemX rfl (HOWN2.out.alloc _) rfl (Reads.one _ _ _) one_int (by have := ha.out; rw [List.length_map, List.length_singleton]; omega) (by have := ha.out; rw [List.length_map, List.length_singleton]; unfold maxLen; omega) ?_; intro v' w3 hown3 hg3 _)
          have hown4 : Own w3 w.heap.size 36 v' ((acc ++ [x]).map intV) := by rw [List.map_append]; exact hown3
          have hge : ∀ y ∈ u7.ownBlock.toList, w.heap.size ≤ y := fun y hy => (HOWN2.out.block_ge y (by simpa using hy)).1
          exact ⟨⟨k + 1, acc ++ [x], r, by go_num, by omega, HM.out, by have := ha.out; unfold Hid; rw [List.length_append, List.length_singleton]; omega, (HR2.out.alloc _).chg (Chg.of_grown hg3) (fun y hy => Nat.lt_of_lt_of_le hRl (hge y hy)), (HC2.out.alloc _).more (Chg.of_grown hg3) (fun y hy => .inr (hge y hy)), hown4⟩, by simp [intOf]; omega⟩
      · obtain rfl : k = n := by omega
        have HM : Hid (many one k [] rest = .yes acc left) := by have := hm.out; rw [Nat.sub_self, many_zero] at this; exact this.symm
        obtain ⟨p, m, c, rfl, _⟩ := HOWN.out.form_
        clear hlt hm
        go_wp2_with fail
        go_ret
        exact RdPost.yes (HG.out.trans HM.out) ⟨p, m, c, rfl, HOWN.out⟩ hR.out hC.out
end Go.Proofs.Ytajnhmkkgngbhaa
