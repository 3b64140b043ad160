/- The walks of the reference's package regattaref12: Uint, Count, Fix. -/
import Derived.Test.YtajnhmkkgngbhaaPackX
namespace Go.Proofs.Ytajnhmkkgngbhaa
open Go.RowKit
open Pack (form formTo zig leB un eight)

theorem Own.down {w : World} {base base' : Nat} {e : TypeId} {v : Value} {xs : List Value} (h : Own w base e v xs) (hb : base' ≤ base) : Own w base' e v xs := by
  obtain ⟨⟨h1, h⟩, hs⟩ := h
  refine ⟨⟨h1, ?_⟩, Nat.le_trans hb hs⟩
  rcases h with h | ⟨g, cap, cur, hv, hg, r⟩
  · exact .inl h
  · exact .inr ⟨g, cap, cur, hv, Nat.le_trans hb hg, r⟩
theorem byte_low (n : Nat) (h : n < 128) : Value.int .u8 (n : Int) = byteV (BitVec.ofNat 8 n) := by
  unfold byteV
  rw [BitVec.toNat_ofNat, Nat.mod_eq_of_lt (by omega)]
theorem byte_high (n : Nat) : Value.int .u8 ((n : Int) % 128 + 128) = byteV (BitVec.ofNat 8 (n % 128 + 128)) := by
  unfold byteV
  rw [BitVec.toNat_ofNat, Nat.mod_eq_of_lt (by omega)]
  congr 1
theorem byte_mod (n : Nat) : Value.int .u8 ((n : Int) % 256) = byteV (BitVec.ofNat 8 n) := by
  unfold byteV
  rw [BitVec.toNat_ofNat]
  congr 1
set_option maxRecDepth 4000 in
set_option maxHeartbeats 1000000 in
theorem refUint_any (n : Nat) (w : World) (hn : n < 18446744073709551616) :
    Calls Try.prog 67 #[.int .u64 n] w fun e w' => ∃ a m c, e = .returned (.slice a m c) ∧ Own w' w.heap.size 5 (.slice a m c) ((form n).map byteV) ∧ Below w.heap.size w w' := by
  have HNN := Lib.hid hn
  clear hn
  go_enter Try.func67, Try.ntmps67
  go_wp2
  go_loopw [0, 3] (fun i u wr => ∃ (pre : List (BitVec 8)) (k n' : Nat), i = .int .u64 n' ∧ k ≤ 9 ∧ n' < 2 ^ (7 * k + 1) ∧ pre.length + k ≤ 9 ∧ Hid (pre ++ formTo k n' = form n) ∧ Own wr w.heap.size 5 u (pre.map byteV) ∧ Hid (Below w.heap.size w wr)) (fun i _ _ => (intOf i).toNat)
  case atStart => exact ⟨[], 9, n, rfl, by omega, by have := HNN.out; omega, by simp, rfl, Own.nil_ (Nat.le_refl _), Below.refl _ _⟩
  case round =>
    obtain ⟨pre, k, n', rfl, hk, hn', hpk, hf, hown, hbel⟩ := hrel
    have HOWN := Lib.hid hown
    have HPK := Lib.hid hpk
    clear hown hpk
    by_cases h127 : n' ≤ 127
    · have g : ¬ (128 : Int) ≤ (n' : Int) := by omega
      have H127 := Lib.hid h127
      clear hn' h127
      go_wp2_with (at_builtin; refine wpl_append rfl (.tmp 15) (.tmp 18) _ rfl elemU8 rfl (HOWN.out.alloc _) rfl (Reads.one _ _ _) one_int (by have := HPK.out; rw [List.length_map, List.length_singleton]; omega) (by have := HPK.out; rw [List.length_map, List.length_singleton]; unfold maxLen; omega) ?_; intro v' w2 hown2 hg1 hat1)
      go_ret
      obtain ⟨ra, rc, rfl, _, _⟩ := hown2.len
      refine ⟨_, _, _, rfl, ?_, below_grown (hbel.out.alloc HOWN.out.2 _) (HOWN.out.alloc _) hg1 (Nat.le_refl _)⟩
      rw [← hf.out, Pack.formTo_last k n' H127.out, List.map_append, List.map_cons, List.map_nil, ← byte_low n' (by have := H127.out; omega)]
      exact hown2
    · have g : (128 : Int) ≤ (n' : Int) := by omega
      have hk0 : 0 < k := by
        rcases Nat.eq_zero_or_pos k with h | h
        · subst h; simp at hn'; omega
        · exact h
      obtain ⟨k, rfl⟩ : ∃ j, k = j + 1 := ⟨k - 1, by omega⟩
      obtain ⟨q, hqq⟩ : ∃ q, q = n' / 128 := ⟨_, rfl⟩
      have hq : (n' : Int) / 128 = (q : Int) := by omega
      have hn2 : q < 2 ^ (7 * k + 1) := by
        rw [hqq, Nat.div_lt_iff_lt_mul (by omega)]
        have : 2 ^ (7 * k + 1) * 128 = 2 ^ (7 * (k + 1) + 1) := by rw [show 7 * (k + 1) + 1 = (7 * k + 1) + 7 by omega, Nat.pow_add 2 (7 * k + 1) 7]
        omega
      have HN2 := Lib.hid hn2
      have HN1 := Lib.hid hn'
      have HQQ := Lib.hid hqq
      have hqw : IntKind.u64.wrap (q : Int) = (q : Int) := by
        have h1 : 2 ^ (7 * k + 1) ≤ 2 ^ 64 := Nat.pow_le_pow_right (by omega) (by omega)
        rw [IntKind.wrap_u64]; omega
      clear hn2 hn' hqq
      go_wp2_with (at_builtin; refine wpl_append rfl (.tmp 6) (.tmp 11) _ rfl elemU8 rfl (HOWN.out.alloc _) rfl (Reads.one _ _ _) one_int (by have := HPK.out; rw [List.length_map, List.length_singleton]; omega) (by have := HPK.out; rw [List.length_map, List.length_singleton]; unfold maxLen; omega) ?_; intro v' w2 hown2 hg1 hat1)
      refine ⟨⟨pre ++ [BitVec.ofNat 8 (n' % 128 + 128)], k, q, by go_num, by omega, HN2.out, by have := HPK.out; simp; omega, ?_, ?_, below_grown (hbel.out.alloc HOWN.out.2 _) (HOWN.out.alloc _) hg1 (Nat.le_refl _)⟩, ?_⟩
      · unfold Hid
        rw [← hf.out, Pack.formTo_step k n' h127, HQQ.out]; simp
      · rw [List.map_append, List.map_cons, List.map_nil, ← byte_high]
        exact hown2
      · have := HQQ.out; simp [intOf]; omega
set_option maxHeartbeats 1000000 in
theorem refCount_any (n : Int) (w : World) (h : -9223372036854775808 ≤ n) (h' : n ≤ 9223372036854775807) :
    Calls Try.prog 68 #[.int .i64 n] w fun x w' => x = .returned (.int .u64 (zig n : Nat)) ∧ w = w' := by
  by_cases h0 : n < 0
  · have hz : ((zig n : Nat) : Int) = 2 * -(n + 1) + 1 := by unfold zig; rw [if_pos h0]; omega
    rw [hz]
    clear hz
    go_enter Try.func68, Try.ntmps68
    go_wp2
    go_ret
    exact ⟨rfl, rfl⟩
  · have hz : ((zig n : Nat) : Int) = 2 * n := by unfold zig; rw [if_neg h0]; omega
    rw [hz]
    clear hz
    go_enter Try.func68, Try.ntmps68
    go_wp2
    go_ret
    exact ⟨rfl, rfl⟩
set_option maxRecDepth 4000 in
set_option maxHeartbeats 1000000 in
theorem refFix_any (x : Int) (w : World) :
    Calls Try.prog 69 #[.int .i64 x] w fun e w' => ∃ a m c, e = .returned (.slice a m c) ∧ Own w' w.heap.size 5 (.slice a m c) ((eight x).map byteV) ∧ Below w.heap.size w w' := by
  have hu : IntKind.u64.wrap x = ((un x : Nat) : Int) := by rw [IntKind.wrap_u64]; unfold un; omega
  go_enter Try.func69, Try.ntmps69
  go_wp2
  have HU : Hid (un x < 2 ^ 64) := by unfold Hid un; omega
  clear hu
  go_loopw [3, 4, 5] (fun u n i wr => ∃ k : Nat, i = .int .i64 k ∧ k ≤ 8 ∧ n = .int .u64 (un x / 2 ^ (8 * k) : Nat) ∧ Own wr w.heap.size 5 u ((leB k (un x)).map byteV) ∧ Hid (Below w.heap.size w wr)) (fun _ _ i _ => 8 - (intOf i).toNat)
  case atStart => exact ⟨0, rfl, by omega, by simp, by simpa [leB] using Own.nil_ (Nat.le_refl _), Below.refl _ _⟩
  case round =>
    obtain ⟨k, rfl, hk, rfl, hown, hb⟩ := hrel
    have HOWN := Lib.hid hown
    clear hown
    by_cases hlt : k < 8
    · obtain ⟨q, hq⟩ : ∃ q, un x / 2 ^ (8 * k) = q := ⟨_, rfl⟩
      rw [hq]
      have HQ := Lib.hid hq
      have hq64 : q < 2 ^ 64 := by rw [← hq]; exact Nat.lt_of_le_of_lt (Nat.div_le_self _ _) HU.out
      have HQ64 := Lib.hid hq64
      have hqw : IntKind.u64.wrap ((q : Int) / 256) = ((q / 256 : Nat) : Int) := by rw [IntKind.wrap_u64]; omega
      clear hq hq64
      go_wp2_with (at_builtin; refine wpl_append rfl (.tmp 12) (.tmp 16) _ rfl elemU8 rfl (HOWN.out.alloc _) rfl (Reads.one _ _ _) one_int (by rw [List.length_map, Pack.leB_length, List.length_singleton]; omega) (by rw [List.length_map, Pack.leB_length, List.length_singleton]; unfold maxLen; omega) ?_; intro v' w2 hown2 hg1 hat1)
      have hn4 : Own w2 w.heap.size 5 v' ((leB (k + 1) (un x)).map byteV) := by
        rw [Pack.leB_succ, List.map_append, List.map_cons, List.map_nil, HQ.out, ← byte_mod]
        exact hown2
      refine ⟨⟨k + 1, by go_num, by omega, ?_, hn4, below_grown (hb.out.alloc HOWN.out.2 _) (HOWN.out.alloc _) hg1 (Nat.le_refl _)⟩, by simp [intOf]; omega⟩
      rw [← HQ.out, show 8 * (k + 1) = 8 * k + 8 by omega, Nat.pow_add, ← Nat.div_div_eq_div_mul, Int.natCast_ediv]
      rfl
    · obtain rfl : k = 8 := by omega
      obtain ⟨p, m, c, rfl, _⟩ := HOWN.out.form_
      clear hlt
      go_wp2
      go_ret
      exact ⟨p, m, c, rfl, HOWN.out, hb.out⟩
end Go.Proofs.Ytajnhmkkgngbhaa
