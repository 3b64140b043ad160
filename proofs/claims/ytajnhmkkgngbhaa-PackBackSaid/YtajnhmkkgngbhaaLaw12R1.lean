/- The statements of chapter 12: lists compared, made wide; a number or none. -/
import Derived.Test.YtajnhmkkgngbhaaRef12T
namespace Go.Proofs.Ytajnhmkkgngbhaa
open Go.RowKit
open Pack (Got cnt whole fixed text ints fixes)
theorem same04_take (xs ys : List Int) (k : Nat) (ha : k < xs.length) (hb : k < ys.length) (h : xs.take k = ys.take k) (e : xs[k] = ys[k]) : xs.take (k + 1) = ys.take (k + 1) := by
  rw [take_snoc xs k ha, take_snoc ys k hb, h, e]
set_option maxHeartbeats 1000000 in
theorem same04_any (u v : Value) (xs ys : List Int) (w : World) (hu : Reads w u (xs.map intV)) (hv : Reads w v (ys.map intV)) :
    Calls Try.prog 41 #[u, v] w fun e w' => e = .returned (.bool (decide (xs = ys))) ∧ ∃ n, w' = w.drewN n := by
  obtain ⟨a, n, c, rfl, hn, hnc, hcm, hxa⟩ := hu
  obtain ⟨a2, n2, c2, rfl, hn2, hnc2, hcm2, hya⟩ := hv
  rw [List.length_map] at hn hn2
  unfold maxLen at hcm hcm2
  have HX := Lib.hid hxa
  have HY := Lib.hid hya
  have HN := Lib.hid hn
  have HN2 := Lib.hid hn2
  clear hxa hya hn hn2
  by_cases hl : n = n2
  · subst hl
    go_enter Try.func41, Try.ntmps41
    go_wp2
    go_loopw [5] (fun i wr => ∃ k q : Nat, i = .int .i64 k ∧ k ≤ n ∧ Hid (xs.take k = ys.take k) ∧ wr = w.drewN q) (fun i _ => n - (intOf i).toNat)
    case atStart => exact ⟨0, 0, rfl, Nat.zero_le _, rfl, rfl⟩
    case round =>
      obtain ⟨k, q, rfl, hk, hs, rfl⟩ := hrel
      by_cases hlt : k < n
      · have hkx : k < xs.length := by have := HN.out; omega
        have hky : k < ys.length := by have := HN2.out; omega
        obtain ⟨b, off, rfl, hb, hcx⟩ : ∃ b off, a = some ⟨b, off, none⟩ ∧ b < w.heap.size ∧ w.cell? ⟨b, off + k, none⟩ = some (.int .i64 xs[k]) := by
          rcases HX.out with h | ⟨b, off, rfl, hb, h⟩
          · have := congrArg List.length h; simp at this; rw [this] at hkx; simp at hkx
          · exact ⟨b, off, rfl, hb, by rw [h k (by rw [List.length_map]; exact hkx), List.getElem_map]; rfl⟩
        obtain ⟨b2, off2, rfl, hb2, hcy⟩ : ∃ b off, a2 = some ⟨b, off, none⟩ ∧ b < w.heap.size ∧ w.cell? ⟨b, off + k, none⟩ = some (.int .i64 ys[k]) := by
          rcases HY.out with h | ⟨b, off, rfl, hb, h⟩
          · have := congrArg List.length h; simp at this; rw [this] at hky; simp at hky
          · exact ⟨b, off, rfl, hb, by rw [h k (by rw [List.length_map]; exact hky), List.getElem_map]; rfl⟩
        have i1 : (0 : Int) ≤ (k : Int) ∧ (k : Int) < (n : Int) := by omega
        by_cases he : xs[k] = ys[k]
        · have hne : (xs[k] != ys[k]) = false := by rw [he]; simp
          have HE := Lib.hid (same04_take xs ys k hkx hky hs.out he)
          obtain ⟨x, hx⟩ : ∃ x, x = xs[k]'hkx := ⟨_, rfl⟩
          obtain ⟨y, hy⟩ : ∃ y, y = ys[k]'hky := ⟨_, rfl⟩
          rw [← hx] at hcx hne
          rw [← hy] at hcy hne
          clear he hx hy hkx hky
          go_wp2
          go_quiet (fail)
          go_wp2
          exact ⟨⟨k + 1, _, by go_num, by omega, HE.out, rfl⟩, by simp [intOf]; omega⟩
        · have hne : (xs[k] != ys[k]) = true := by rw [bne_iff_ne]; exact he
          have HE : Hid (¬ xs = ys) := fun e => he (by simp only [e])
          obtain ⟨x, hx⟩ : ∃ x, x = xs[k]'hkx := ⟨_, rfl⟩
          obtain ⟨y, hy⟩ : ∃ y, y = ys[k]'hky := ⟨_, rfl⟩
          rw [← hx] at hcx hne
          rw [← hy] at hcy hne
          clear he hx hy hkx hky
          go_wp2
          go_quiet (fail)
          go_wp2
          go_ret
          exact ⟨by rw [decide_eq_false HE.out]; rfl, drewN2⟩
      · go_wp2
        go_ret
        refine ⟨?_, _, rfl⟩
        have hs := hs.out
        rw [List.take_of_length_le (by have := HN.out; omega), List.take_of_length_le (by have := HN2.out; omega)] at hs
        rw [decide_eq_true hs]
        rfl
  · have HE : Hid (¬ xs = ys) := fun e => hl (by rw [HN.out, HN2.out, e])
    have hne : ((n : Int) != (n2 : Int)) = true := by rw [bne_iff_ne]; omega
    clear hl
    go_enter Try.func41, Try.ntmps41
    go_wp2
    go_ret
    exact ⟨by rw [decide_eq_false HE.out]; rfl, 0, rfl⟩
theorem orNone_any (x e : Int) (S : Nat) (w : World) (h : w.cell? ⟨S, 2, none⟩ = some (.int .i64 e)) :
    Calls Try.prog 37 #[.int .i64 x, .pointer (some ⟨S, 0, none⟩)] w fun r w' => r = .returned (.int .i64 (if e = 0 then x else 0)) ∧ w = w' := by
  by_cases he : e = 0
  · rw [if_pos he]
    have g : (e != 0) = false := by rw [he]; rfl
    clear he
    go_enter Try.func37, Try.ntmps37
    go_wp2
    go_ret
    exact ⟨rfl, rfl⟩
  · rw [if_neg he]
    have g : (e != 0) = true := by rw [bne_iff_ne]; exact he
    clear he
    go_enter Try.func37, Try.ntmps37
    go_wp2
    go_ret
    exact ⟨rfl, rfl⟩
theorem info64 : (Try.prog.info? 2).map (fun i => (i.zero, i.size, i.bytes)) = some (some (.int .i64 0), 1, 8) := by kernel_rfl

set_option maxHeartbeats 1000000 in
theorem wide_any (v : Value) (xs : List Int) (w : World) (hv : Reads w v (xs.map intV)) (hl : xs.length ≤ 2000000) :
    Calls Try.prog 42 #[v] w fun e w' => ∃ a m c, e = .returned (.slice a m c) ∧ Own w' w.heap.size 2 (.slice a m c) (xs.map intV) ∧ Below w.heap.size w w' := by
  obtain ⟨va, vn, vc, rfl, hvn, hvc, _, hcells⟩ := hv
  rw [List.length_map] at hvn
  have hcell : Hid (∀ k, k < vn → ∃ b off, va = some ⟨b, off, none⟩ ∧ b < w.heap.size ∧ ∃ x, xs[k]? = some x ∧ w.cell? ⟨b, off + k, none⟩ = some (.int .i64 x)) := by
    intro k hk
    rcases hcells with h | ⟨b, off, rfl, hb, h⟩
    · have : xs.length = 0 := by simpa using congrArg List.length h
      omega
    · exact ⟨b, off, rfl, hb, xs[k]'(by omega), List.getElem?_eq_getElem (by omega), by rw [h k (by rw [List.length_map]; omega), List.getElem_map]; rfl⟩
  obtain ⟨i0, hi, hz0, hz1, hz2⟩ := info_parts info64
  have HI := Lib.hid (And.intro hi (And.intro hz0 (And.intro hz1 hz2)))
  have hnb : vn ≤ 2000000 := by omega
  have HN := Lib.hid hvn
  clear hi hz0 hz1 hz2 hvn hcells hl
  go_enter Try.func42, Try.ntmps42
  go_wp2_with (at_make; refine wpList_make_own _ rfl _ _ _ rfl w.heap.size 2 i0 (.int .i64 0) 1 Try.underlying72 HI.out.1 HI.out.2.1 HI.out.2.2.1 .i64 .i64 _ vn rfl rfl rfl (by rw [HI.out.2.2.2]; omega) (by unfold maxLen; omega) (Nat.le_refl _) ?_; intro w1 hown1 hg1; have HO1 : Hid (Own w1 w.heap.size 2 (.slice (some ⟨w.heap.size, 0, none⟩) 0 vn) []) := ⟨hown1, hg1.size⟩; have HB1 : Hid (Below w.heap.size w w1) := (Below.refl _ _).grown hg1 (Nat.le_refl _) (fun k e => by cases e); clear hown1 hg1)
  go_loopw [3, 5, 11] (fun u _ i wr => ∃ (k : Nat) (p : Option Addr) (z c : Nat), i = .int .i64 k ∧ k ≤ vn ∧ u = .slice p z c ∧ Hid (Own wr w.heap.size 2 (.slice p z c) ((xs.take k).map intV)) ∧ Hid (Below w.heap.size w wr)) (fun _ _ i _ => vn - (intOf i).toNat)
  case atStart => exact ⟨0, _, _, _, rfl, Nat.zero_le _, rfl, HO1.out, HB1.out⟩
  case round =>
    obtain ⟨k, p, z, c, rfl, hk, rfl, hown, hb⟩ := hrel
    by_cases hlt : k < vn
    · obtain ⟨b, off, rfl, hbl, x, hx, hc0⟩ := hcell.out k hlt
      have hc1 : wr.cell? ⟨b, off + k, none⟩ = some (.int .i64 x) := (hb.out.cell (p := ⟨b, off + k, none⟩) hbl).trans hc0
      have HX : Hid (xs.take (k + 1) = xs.take k ++ [x]) := by unfold Hid; rw [List.take_add_one, hx]; rfl
      have HTL : Hid ((xs.take k).length ≤ 2000000) := by unfold Hid; rw [List.length_take]; omega
      clear hx hc0
      go_wp2_with (at_builtin; refine wpl_append rfl (.tmp 15) (.tmp 17) _ rfl elem64 rfl (hown.out.alloc _) rfl (Reads.one _ _ _) one_int (by have := HTL.out; rw [List.length_map, List.length_singleton]; omega) (by have := HTL.out; rw [List.length_map, List.length_singleton]; unfold maxLen; omega) ?_; intro v' w3 hown3 hg3 _; obtain ⟨p3, z3, c3, rfl, _⟩ := hown3.form_)
      exact ⟨⟨k + 1, p3, z3, c3, by go_num, by omega, rfl, by unfold Hid; rw [HX.out, List.map_append]; exact hown3, below_grown (hb.out.alloc hown.out.2 _) (hown.out.alloc _) hg3 (Nat.le_refl _)⟩, by simp [intOf]; omega⟩
    · obtain rfl : k = vn := by omega
      have HTK : Hid (xs.take k = xs) := List.take_of_length_le (by have := HN.out; omega)
      clear hlt
      go_wp2
      go_ret
      exact ⟨p, z, c, rfl, by have := hown.out; rwa [HTK.out] at this, hb.out⟩

set_option maxHeartbeats 1000000 in
theorem plain_any (v : Value) (xs : List Int) (w : World) (hv : Reads w v (xs.map intV)) (hl : xs.length ≤ 2000000) :
    Calls Try.prog 44 #[v] w fun e w' => ∃ a m c, e = .returned (.slice a m c) ∧ Own w' w.heap.size 2 (.slice a m c) (xs.map intV) ∧ Below w.heap.size w w' := by
  obtain ⟨va, vn, vc, rfl, hvn, hvc, _, hcells⟩ := hv
  rw [List.length_map] at hvn
  have hcell : Hid (∀ k, k < vn → ∃ b off, va = some ⟨b, off, none⟩ ∧ b < w.heap.size ∧ ∃ x, xs[k]? = some x ∧ w.cell? ⟨b, off + k, none⟩ = some (.int .i64 x)) := by
    intro k hk
    rcases hcells with h | ⟨b, off, rfl, hb, h⟩
    · have : xs.length = 0 := by simpa using congrArg List.length h
      omega
    · exact ⟨b, off, rfl, hb, xs[k]'(by omega), List.getElem?_eq_getElem (by omega), by rw [h k (by rw [List.length_map]; omega), List.getElem_map]; rfl⟩
  obtain ⟨i0, hi, hz0, hz1, hz2⟩ := info_parts info64
  have HI := Lib.hid (And.intro hi (And.intro hz0 (And.intro hz1 hz2)))
  have hnb : vn ≤ 2000000 := by omega
  have HN := Lib.hid hvn
  clear hi hz0 hz1 hz2 hvn hcells hl
  go_enter Try.func44, Try.ntmps44
  go_wp2_with (at_make; refine wpList_make_own _ rfl _ _ _ rfl w.heap.size 2 i0 (.int .i64 0) 1 Try.underlying72 HI.out.1 HI.out.2.1 HI.out.2.2.1 .i64 .i64 _ vn rfl rfl rfl (by rw [HI.out.2.2.2]; omega) (by unfold maxLen; omega) (Nat.le_refl _) ?_; intro w1 hown1 hg1; have HO1 : Hid (Own w1 w.heap.size 2 (.slice (some ⟨w.heap.size, 0, none⟩) 0 vn) []) := ⟨hown1, hg1.size⟩; have HB1 : Hid (Below w.heap.size w w1) := (Below.refl _ _).grown hg1 (Nat.le_refl _) (fun k e => by cases e); clear hown1 hg1)
  go_loopw [3, 5, 11] (fun u _ i wr => ∃ (k : Nat) (p : Option Addr) (z c : Nat), i = .int .i64 k ∧ k ≤ vn ∧ u = .slice p z c ∧ Hid (Own wr w.heap.size 2 (.slice p z c) ((xs.take k).map intV)) ∧ Hid (Below w.heap.size w wr)) (fun _ _ i _ => vn - (intOf i).toNat)
  case atStart => exact ⟨0, _, _, _, rfl, Nat.zero_le _, rfl, HO1.out, HB1.out⟩
  case round =>
    obtain ⟨k, p, z, c, rfl, hk, rfl, hown, hb⟩ := hrel
    by_cases hlt : k < vn
    · obtain ⟨b, off, rfl, hbl, x, hx, hc0⟩ := hcell.out k hlt
      have hc1 : wr.cell? ⟨b, off + k, none⟩ = some (.int .i64 x) := (hb.out.cell (p := ⟨b, off + k, none⟩) hbl).trans hc0
      have HX : Hid (xs.take (k + 1) = xs.take k ++ [x]) := by unfold Hid; rw [List.take_add_one, hx]; rfl
      have HTL : Hid ((xs.take k).length ≤ 2000000) := by unfold Hid; rw [List.length_take]; omega
      clear hx hc0
      go_wp2_with (at_builtin; refine wpl_append rfl (.tmp 15) (.tmp 17) _ rfl elem64 rfl (hown.out.alloc _) rfl (Reads.one _ _ _) one_int (by have := HTL.out; rw [List.length_map, List.length_singleton]; omega) (by have := HTL.out; rw [List.length_map, List.length_singleton]; unfold maxLen; omega) ?_; intro v' w3 hown3 hg3 _; obtain ⟨p3, z3, c3, rfl, _⟩ := hown3.form_)
      exact ⟨⟨k + 1, p3, z3, c3, by go_num, by omega, rfl, by unfold Hid; rw [HX.out, List.map_append]; exact hown3, below_grown (hb.out.alloc hown.out.2 _) (hown.out.alloc _) hg3 (Nat.le_refl _)⟩, by simp [intOf]; omega⟩
    · obtain rfl : k = vn := by omega
      have HTK : Hid (xs.take k = xs) := List.take_of_length_le (by have := HN.out; omega)
      clear hlt
      go_wp2
      go_ret
      exact ⟨p, z, c, rfl, by have := hown.out; rwa [HTK.out] at this, hb.out⟩
end Go.Proofs.Ytajnhmkkgngbhaa
