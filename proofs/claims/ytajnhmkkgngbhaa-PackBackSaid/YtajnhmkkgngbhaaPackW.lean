/- The walks of package pack: count. -/
import Derived.Test.YtajnhmkkgngbhaaApp2
import Derived.Test.YtajnhmkkgngbhaaProg
import Derived.Test.YtajnhmkkgngbhaaBase
import Derived.Test.YtajnhmkkgngbhaaPackM
import Derived.Test.YtajnhmkkgngbhaaSame
namespace Go.Proofs.Ytajnhmkkgngbhaa
open Go.RowKit
open Pack (form formTo)

theorem bits_or128 (n : Nat) : bits .or .u8 ((n : Int) % 256) 128 = ((BitVec.ofNat 8 (n % 128 + 128)).toNat : Int) := by
  have e : (n : Int) % 256 = ((BitVec.ofNat 8 n).toNat : Int) := by rw [BitVec.toNat_ofNat]; omega
  have key : ∀ m : Fin 256, bits .or .u8 (((BitVec.ofNat 8 m.val).toNat : Nat) : Int) 128 = ((BitVec.ofNat 8 (m.val % 128 + 128)).toNat : Int) := by decide +kernel
  have h1 : BitVec.ofNat 8 n = BitVec.ofNat 8 (n % 256) := by apply BitVec.eq_of_toNat_eq; simp
  rw [e, h1, key ⟨n % 256, by omega⟩]
  have h2 : n % 256 % 128 = n % 128 := by omega
  show ((BitVec.ofNat 8 (n % 256 % 128 + 128)).toNat : Int) = _
  rw [h2]
section
attribute [local go_sem] bits_or128
set_option maxRecDepth 4000 in
set_option maxHeartbeats 1000000 in
theorem count_any (base : Nat) (v : Value) (xs : List Value) (n : Nat) (w : World) (ho : Own w base 5 v xs) (hl : xs.length ≤ 2000000) (hn : n < 18446744073709551616) :
    Calls Try.prog 31 #[v, .int .u64 n] w fun e w' => ∃ a m c, e = .returned (.slice a m c) ∧ Own w' base 5 (.slice a m c) (xs ++ (form n).map byteV) ∧ Below base w w' := by
  have HL := Lib.hid hl
  have HNN := Lib.hid hn
  clear hl hn
  go_enter Try.func31, Try.ntmps31
  go_wp2
  go_loopw [0, 1] (fun u i wr => ∃ (pre : List (BitVec 8)) (k n' : Nat), i = .int .u64 n' ∧ k ≤ 9 ∧ n' < 2 ^ (7 * k + 1) ∧ pre.length + k ≤ 9 ∧ Hid (pre ++ formTo k n' = form n) ∧ Own wr base 5 u (xs ++ pre.map byteV) ∧ Below base w wr) (fun _ i _ => (intOf i).toNat)
  case atStart => exact ⟨[], 9, n, rfl, by omega, by have := HNN.out; omega, by simp, rfl, by simpa using ho, Below.refl _ _⟩
  case round =>
    obtain ⟨pre, k, n', rfl, hk, hn', hpk, hf, hown, hbel⟩ := hrel
    have hlen : (xs ++ pre.map byteV).length = xs.length + pre.length := by simp
    have HLEN := Lib.hid hlen
    clear hlen
    by_cases h127 : n' ≤ 127
    · have g : ¬ (127 : Int) < (n' : Int) := by omega
      clear hn'
      go_wp2_with (at_builtin; refine wpl_append rfl (.tmp 15) (.tmp 18) _ rfl elemU8 rfl (hown.alloc _) rfl (Reads.one _ _ _) one_int (by have := HL.out; have := HLEN.out; simp only [List.length_singleton]; omega) (by have := HL.out; have := HLEN.out; simp only [List.length_singleton, maxLen]; omega) ?_; intro v' w2 hown2 hg1 hat1)
      go_ret
      obtain ⟨ra, rc, rfl, _, _⟩ := hown2.len
      refine ⟨_, _, _, rfl, ?_, below_grown (hbel.alloc hown.2 _) (hown.alloc _) hg1 (Nat.le_refl _)⟩
      rw [← hf.out, Pack.formTo_last k n' h127, List.map_append, ← List.append_assoc, List.map_cons, List.map_nil, show byteV (BitVec.ofNat 8 n') = .int .u8 n' by unfold byteV; rw [BitVec.toNat_ofNat, Nat.mod_eq_of_lt (by omega)]]
      exact hown2
    · have g : (127 : Int) < (n' : Int) := by omega
      have hk0 : 0 < k := by
        rcases Nat.eq_zero_or_pos k with h | h
        · subst h; simp at hn'; omega
        · exact h
      obtain ⟨k, rfl⟩ : ∃ j, k = j + 1 := ⟨k - 1, by omega⟩
      obtain ⟨q, hqq⟩ : ∃ q, q = n' / 128 := ⟨_, rfl⟩
      have hq : (n' : Int) / 128 = (q : Int) := by omega
      have hn2 : q < 2 ^ (7 * k + 1) := by
        rw [hqq, Nat.div_lt_iff_lt_mul (by omega)]
        have : 2 ^ (7 * k + 1) * 128 = 2 ^ (7 * (k + 1) + 1) := by rw [show 7 * (k + 1) + 1 = (7 * k + 1) + 7 by omega, Nat.pow_add 2 (7 * k + 1) 7]
        omega
      have HN2 := Lib.hid hn2
      have HN1 := Lib.hid hn'
      have HQQ := Lib.hid hqq
      clear hn2 hn' hqq
      go_wp2_with (at_builtin; refine wpl_append rfl (.tmp 7) (.tmp 11) _ rfl elemU8 rfl (hown.alloc _) rfl (Reads.one _ _ _) one_int (by have := HL.out; have := HLEN.out; simp only [List.length_singleton]; omega) (by have := HL.out; have := HLEN.out; simp only [List.length_singleton, maxLen]; omega) ?_; intro v' w2 hown2 hg1 hat1)
      go_roundw
      case rel =>
        refine ⟨pre ++ [BitVec.ofNat 8 (n' % 128 + 128)], k, q, by go_num, by omega, HN2.out, by simp; omega, ?_, ?_, below_grown (hbel.alloc hown.2 _) (hown.alloc _) hg1 (Nat.le_refl _)⟩
        · unfold Hid
          rw [← hf.out, Pack.formTo_step k n' h127, HQQ.out]; simp
        · rw [List.map_append, ← List.append_assoc]
          exact hown2
      case measure => have := HQQ.out; simp [intOf]; omega
end
end Go.Proofs.Ytajnhmkkgngbhaa
