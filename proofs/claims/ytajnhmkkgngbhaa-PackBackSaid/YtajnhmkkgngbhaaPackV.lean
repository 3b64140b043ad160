/- The walks of package pack, the writer: sign, eight. -/
import Derived.Test.YtajnhmkkgngbhaaPackW3
import Derived.Test.YtajnhmkkgngbhaaPackM4
import Derived.Test.YtajnhmkkgngbhaaChg
namespace Go.Proofs.Ytajnhmkkgngbhaa
open Go.RowKit
open Pack (form zig leB un eight formI formT formL room)

theorem zig_bits (n : Int) (h : -9223372036854775808 ≤ n) (h' : n ≤ 9223372036854775807) :
    bits .xor .u64 (IntKind.u64.wrap (IntKind.u64.wrap n * 2)) (IntKind.u64.wrap (n / 9223372036854775808)) = ((zig n : Nat) : Int) := by
  unfold zig
  by_cases h0 : n < 0
  · rw [if_pos h0]
    obtain ⟨m, hm⟩ : ∃ m : Nat, (m : Int) = n + 9223372036854775808 := ⟨(n + 9223372036854775808).toNat, by omega⟩
    have e1 : IntKind.u64.wrap (IntKind.u64.wrap n * 2) = ((2 * m : Nat) : Int) := by rw [IntKind.wrap_u64, IntKind.wrap_u64]; omega
    have e2 : IntKind.u64.wrap (n / 9223372036854775808) = 18446744073709551615 := by rw [IntKind.wrap_u64]; omega
    have hh : 2 * m < 2 ^ 64 := by omega
    rw [e1, e2]
    show IntKind.wrap .u64 (((BitVec.ofInt 64 ((2 * m : Nat) : Int)) ^^^ (BitVec.ofInt 64 18446744073709551615)).toNat : Int) = _
    rw [show BitVec.ofInt 64 18446744073709551615 = BitVec.allOnes 64 from by decide, BitVec.xor_allOnes, BitVec.toNat_not, BitVec.ofInt_natCast, BitVec.toNat_ofNat, Nat.mod_eq_of_lt hh, IntKind.wrap_u64]
    omega
  · rw [if_neg h0]
    obtain ⟨m, hm⟩ : ∃ m : Nat, (m : Int) = n := ⟨n.toNat, by omega⟩
    have e1 : IntKind.u64.wrap (IntKind.u64.wrap n * 2) = ((2 * m : Nat) : Int) := by rw [IntKind.wrap_u64, IntKind.wrap_u64]; omega
    have e2 : IntKind.u64.wrap (n / 9223372036854775808) = 0 := by rw [IntKind.wrap_u64]; omega
    have hh : 2 * m < 2 ^ 64 := by omega
    rw [e1, e2]
    show IntKind.wrap .u64 (((BitVec.ofInt 64 ((2 * m : Nat) : Int)) ^^^ (BitVec.ofInt 64 0)).toNat : Int) = _
    rw [show BitVec.ofInt 64 0 = 0#64 from by decide, BitVec.xor_zero, BitVec.ofInt_natCast, BitVec.toNat_ofNat, Nat.mod_eq_of_lt hh, IntKind.wrap_u64]
    omega
set_option maxHeartbeats 1000000 in
theorem sign_any (n : Int) (w : World) (h : -9223372036854775808 ≤ n) (h' : n ≤ 9223372036854775807) :
    Calls Try.prog 62 #[.int .i64 n] w fun x w' => x = .returned (.int .u64 (zig n : Nat)) ∧ w = w' := by
  have H := Lib.hid (zig_bits n h h')
  clear h h'
  go_enter Try.func62, Try.ntmps62
  go_wp2
  go_ret
  exact ⟨by rw [← H.out]; rfl, rfl⟩
theorem byte_at (x : Int) (k : Nat) : Value.int .u8 (IntKind.u64.wrap x / 2 ^ (8 * k) % 256) = byteV (BitVec.ofNat 8 (un x / 2 ^ (8 * k))) := by
  unfold byteV
  rw [BitVec.toNat_ofNat]
  have e : IntKind.u64.wrap x = ((un x : Nat) : Int) := by rw [IntKind.wrap_u64]; unfold un; omega
  rw [e, Int.natCast_emod, Int.natCast_ediv, Int.natCast_pow]
  rfl
set_option maxHeartbeats 1000000 in
theorem eight_any (base : Nat) (v : Value) (xs : List Value) (x : Int) (w : World) (ho : Own w base 5 v xs) (hl : xs.length ≤ 2000000) :
    Calls Try.prog 63 #[v, .int .i64 x] w fun e w' => ∃ a m c, e = .returned (.slice a m c) ∧ Own w' base 5 (.slice a m c) (xs ++ (eight x).map byteV) ∧ Below base w w' := by
  have HL := Lib.hid hl
  have HO := Lib.hid ho
  clear hl ho
  go_enter Try.func63, Try.ntmps63
  go_wp2
  go_loopw [0, 5, 6] (fun u _ i wr => ∃ k : Nat, i = .int .i64 k ∧ k ≤ 8 ∧ Own wr base 5 u (xs ++ (leB k (un x)).map byteV) ∧ Hid (Below base w wr)) (fun _ _ i _ => 8 - (intOf i).toNat)
  case atStart => exact ⟨0, rfl, by omega, by simpa [leB] using HO.out, Below.refl _ _⟩
  case round =>
    obtain ⟨k, rfl, hk, hown, hb⟩ := hrel
    have HOWN := Lib.hid hown
    clear hown
    by_cases hlt : k < 8
    · go_wp2_with (at_builtin; refine wpl_append rfl (.tmp 9) (.tmp 16) _ rfl elemU8 rfl (HOWN.out.alloc _) rfl (Reads.one _ _ _) one_int (by have := HL.out; rw [List.length_append, List.length_map, Pack.leB_length, List.length_singleton]; omega) (by have := HL.out; rw [List.length_append, List.length_map, Pack.leB_length, List.length_singleton]; unfold maxLen; omega) ?_; intro v' w2 hown2 hg1 hat1)
      have hn4 : Own w2 base 5 v' (xs ++ (leB (k + 1) (un x)).map byteV) := by
        rw [Pack.leB_succ, List.map_append, ← List.append_assoc, List.map_cons, List.map_nil, ← byte_at]
        exact hown2
      exact ⟨⟨k + 1, by go_num, by omega, hn4, below_grown (hb.out.alloc HOWN.out.2 _) (HOWN.out.alloc _) hg1 (Nat.le_refl _)⟩, by simp [intOf]; omega⟩
    · obtain rfl : k = 8 := by omega
      obtain ⟨p, m, c, rfl, _⟩ := HOWN.out.form_
      clear hlt
      go_wp2
      go_ret
      exact ⟨p, m, c, rfl, HOWN.out, hb.out⟩
end Go.Proofs.Ytajnhmkkgngbhaa
