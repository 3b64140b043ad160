/- The walks of package pack, the reader: whole, size, fixed. -/
import Derived.Test.YtajnhmkkgngbhaaPackC
import Derived.Test.YtajnhmkkgngbhaaPackM3
namespace Go.Proofs.Ytajnhmkkgngbhaa
open Go.RowKit
open Pack (Got cnt whole fixed sizeOf_ text many ints fixes unzig signed64 le)
def isI64 (_ : World) (n : Int) (v : Value) : Prop := v = .int .i64 n
def isNat (_ : World) (n : Nat) (v : Value) : Prop := v = .int .i64 n
theorem and_one (n : Nat) (hn : n < 18446744073709551616) : bits .and .u64 (n : Int) 1 = ((n % 2 : Nat) : Int) := by
  rw [and_one_u64 _ (by omega) (by omega)]; omega
theorem unzig_bits (n : Nat) (hn : n < 18446744073709551616) : wrap64 (bits .xor .u64 ((n : Int) / 2) (IntKind.u64.wrap (-bits .and .u64 (n : Int) 1))) = unzig n := by
  rw [and_one n hn]
  have e0 : ((n : Int) / 2) = ((n / 2 : Nat) : Int) := by omega
  have hh : n / 2 < 2 ^ 64 := by omega
  unfold unzig
  by_cases h : n % 2 = 1
  · rw [if_pos h, h, e0]
    have e1 : IntKind.u64.wrap (-((1 : Nat) : Int)) = 18446744073709551615 := by decide
    rw [e1]
    have e2 : bits .xor .u64 ((n / 2 : Nat) : Int) 18446744073709551615 = ((18446744073709551615 - n / 2 : Nat) : Int) := by
      show IntKind.wrap .u64 (((BitVec.ofInt 64 ((n / 2 : Nat) : Int)) ^^^ (BitVec.ofInt 64 18446744073709551615)).toNat : Int) = _
      rw [show BitVec.ofInt 64 18446744073709551615 = BitVec.allOnes 64 from by decide, BitVec.xor_allOnes, BitVec.toNat_not, BitVec.ofInt_natCast, BitVec.toNat_ofNat, Nat.mod_eq_of_lt hh, IntKind.wrap_u64]
      omega
    rw [e2]
    unfold wrap64
    omega
  · rw [if_neg h, show n % 2 = 0 by omega, e0]
    have e1 : IntKind.u64.wrap (-((0 : Nat) : Int)) = 0 := by decide
    rw [e1]
    have e2 : bits .xor .u64 ((n / 2 : Nat) : Int) 0 = ((n / 2 : Nat) : Int) := by
      show IntKind.wrap .u64 (((BitVec.ofInt 64 ((n / 2 : Nat) : Int)) ^^^ (BitVec.ofInt 64 0)).toNat : Int) = _
      rw [show BitVec.ofInt 64 0 = 0#64 from by decide, BitVec.xor_zero, BitVec.ofInt_natCast, BitVec.toNat_ofNat, Nat.mod_eq_of_lt hh, IntKind.wrap_u64]
      omega
    rw [e2]
    unfold wrap64
    omega
set_option maxHeartbeats 1000000 in
theorem whole_any (R : Nat) (bs : List (BitVec 8)) (w : World) (hR : ReaderIs w R bs 0) :
    Calls Try.prog 49 #[.pointer (some ⟨R, 0, none⟩)] w (RdPost isI64 R w (whole bs)) := by
  have H := Lib.hid (rcount_any R bs w hR)
  clear hR
  go_enter Try.func49, Try.ntmps49
  go_wp2_with fail
  refine H.out.mono ?_
  intro x w1 hq
  rcases hq.part with ⟨e, rest, hg, rfl, hr, hc⟩ | ⟨n, v, rest, hg, rfl, rfl, hr, hc⟩
  · have HR := Lib.hid hr
    have HC := Lib.hid hc
    have HG : Hid (whole bs = .no e) := by unfold whole; rw [hg]; rfl
    clear hq hr hc hg
    simp only [thrown]
    go_wp2_with fail
    exact ⟨rfl, RdPost.no HG.out HR.out HC.out⟩
  · have HR := Lib.hid hr
    have HC := Lib.hid hc
    have HG : Hid (whole bs = .yes (unzig n) rest) := by unfold whole; rw [hg]; rfl
    have hn := (Pack.cnt_lt hg).1
    have HN := Lib.hid hn
    clear hq hr hc hg hn
    go_wp2_with fail
    go_ret
    exact RdPost.yes HG.out (by unfold isI64; rw [← unzig_bits n HN.out]; rfl) HR.out HC.out
theorem wrap_n (n : Nat) (h : n ≤ 9223372036854775807) : wrap64 (n : Int) = (n : Int) := by unfold wrap64; omega
theorem wrap_q (n : Nat) (h : n ≤ 9223372036854775807) : IntKind.u64.wrap (wrap64 (n : Int)) = (n : Int) := by
  rw [wrap_n n h, IntKind.wrap_u64]; omega
set_option maxHeartbeats 1000000 in
theorem size_any (R each : Nat) (bs : List (BitVec 8)) (w : World) (hR : ReaderIs w R bs 0) (he : each = 1 ∨ each = 8) :
    Calls Try.prog 55 #[.pointer (some ⟨R, 0, none⟩), .int .i64 each] w (RdPost isNat R w (sizeOf_ each bs)) := by
  have H := Lib.hid (rcount_any R bs w hR)
  clear hR
  have he1 : 1 ≤ each ∧ each ≤ 8 := by omega
  clear he
  go_enter Try.func55, Try.ntmps55
  go_wp2_with fail
  refine H.out.mono ?_
  intro x w1 hq
  rcases hq.part with ⟨e, rest, hg, rfl, hr, hc⟩ | ⟨n, v, rest, hg, rfl, rfl, hr, hc⟩
  · have HR := Lib.hid hr
    have HC := Lib.hid hc
    have HG : Hid (sizeOf_ each bs = .no e) := by unfold sizeOf_; rw [hg]; rfl
    clear hq hr hc hg
    simp only [thrown]
    go_wp2_with fail
    exact ⟨rfl, RdPost.no HG.out HR.out HC.out⟩
  · have HR := Lib.hid hr
    have HC := Lib.hid hc
    obtain ⟨_, _, ⟨b, off, c, hb, hlc, hcm, c1, _⟩, _, _, _⟩ := hr
    have HG : Hid (sizeOf_ each bs = if rest.length / each < n then .no 120 else .yes n rest) := by unfold sizeOf_; rw [hg]; rfl
    have hn := (Pack.cnt_lt hg).1
    have HN := Lib.hid hn
    obtain ⟨m, hm⟩ : ∃ m, rest.length = m := ⟨_, rfl⟩
    rw [hm] at hlc c1 HG
    have hqm : m / each ≤ m := Nat.div_le_self _ _
    have hw : IntKind.u64.wrap (wrap64 ((m : Int) / (each : Int))) = ((m / each : Nat) : Int) := by
      rw [← Int.natCast_ediv]
      exact wrap_q _ (Nat.le_trans hqm (Nat.le_trans hlc hcm))
    by_cases hlt : m / each < n
    · rw [if_pos hlt] at HG
      have g : IntKind.u64.wrap (wrap64 ((m : Int) / (each : Int))) < (n : Int) := by rw [hw]; omega
      clear hq hc hg hn hm hw hqm hlt
      go_wp2_with fail
      exact ⟨rfl, RdPost.no HG.out HR.out HC.out⟩
    · rw [if_neg hlt] at HG
      have g : ¬ IntKind.u64.wrap (wrap64 ((m : Int) / (each : Int))) < (n : Int) := by rw [hw]; omega
      have hnb : n ≤ m := by omega
      have hi : wrap64 (n : Int) = (n : Int) := wrap_n n (Nat.le_trans hnb (Nat.le_trans hlc hcm))
      have HI := Lib.hid hi
      clear hq hc hg hn hm hw hqm hlt hi hnb
      go_wp2_with fail
      go_ret
      exact RdPost.yes HG.out (by show Value.int .i64 (wrap64 (n : Int)) = _; rw [HI.out]) HR.out HC.out
theorem le_take_succ (bs : List (BitVec 8)) (k : Nat) (h : k < bs.length) : le (bs.take (k + 1)) = le (bs.take k) + bs[k].toNat * 2 ^ (8 * k) := by
  rw [take_snoc bs k h, Pack.le_snoc, List.length_take, Nat.min_eq_left (by omega), Nat.pow_mul]
theorem or_byte (n k : Nat) (c : BitVec 8) (hk : k ≤ 7) (hn : n < 2 ^ (8 * k)) :
    bits .or .u64 (n : Int) (IntKind.u64.wrap ((c.toNat : Int) * 2 ^ (8 * k))) = ((n + c.toNat * 2 ^ (8 * k) : Nat) : Int) := by
  have hc := c.isLt
  have hb : c.toNat * 2 ^ (8 * k) < 2 ^ 64 := by
    have h1 : c.toNat * 2 ^ (8 * k) ≤ 255 * 2 ^ (8 * k) := Nat.mul_le_mul_right _ (by omega)
    have h2 : 2 ^ (8 * k) ≤ 2 ^ 56 := Nat.pow_le_pow_right (by omega) (by omega)
    omega
  have hn64 : n < 2 ^ 64 := Nat.lt_of_lt_of_le hn (Nat.pow_le_pow_right (by omega) (by omega))
  have e1 : IntKind.u64.wrap ((c.toNat : Int) * 2 ^ (8 * k)) = ((c.toNat * 2 ^ (8 * k) : Nat) : Int) := by
    have e : ((c.toNat : Int) * 2 ^ (8 * k)) = ((c.toNat * 2 ^ (8 * k) : Nat) : Int) := by push_cast; rfl
    rw [e, IntKind.wrap_u64]
    omega
  rw [e1]
  show IntKind.wrap .u64 (((BitVec.ofInt 64 (n : Int)) ||| (BitVec.ofInt 64 ((c.toNat * 2 ^ (8 * k) : Nat) : Int))).toNat : Int) = _
  rw [BitVec.ofInt_natCast, BitVec.ofInt_natCast, BitVec.toNat_or, BitVec.toNat_ofNat, BitVec.toNat_ofNat, Nat.mod_eq_of_lt hn64, Nat.mod_eq_of_lt hb]
  have e2 : n ||| c.toNat * 2 ^ (8 * k) = n + c.toNat * 2 ^ (8 * k) := by
    rw [Nat.or_comm, Nat.mul_comm, ← Nat.two_pow_add_eq_or_of_lt hn, Nat.add_comm]
  have hs : n + c.toNat * 2 ^ (8 * k) < 2 ^ 64 := by
    rw [← e2]; exact Nat.or_lt_two_pow hn64 hb
  rw [e2, IntKind.wrap_u64]
  omega
theorem le_take_lt (bs : List (BitVec 8)) (k : Nat) (h : k ≤ bs.length) : le (bs.take k) < 2 ^ (8 * k) := by
  have := Pack.le_lt (bs.take k)
  rwa [List.length_take, Nat.min_eq_left h, show (256 : Nat) = 2 ^ 8 by rfl, ← Nat.pow_mul] at this
theorem wrap_signed (n : Nat) (h : n < 2 ^ 64) : wrap64 (n : Int) = signed64 n := by
  unfold signed64 wrap64; split <;> omega
set_option maxHeartbeats 1000000 in
theorem fixed_rd (R : Nat) (bs : List (BitVec 8)) (w : World) (hR : ReaderIs w R bs 0) :
    Calls Try.prog 51 #[.pointer (some ⟨R, 0, none⟩)] w (RdPost isI64 R w (fixed bs)) := by
  by_cases h8 : bs.length < 8
  · have H := Lib.hid (next_end R 8 bs 0 w hR h8)
    have HR := Lib.hid hR
    have HG : Hid (fixed bs = .no 120) := by unfold fixed; rw [if_pos h8]; rfl
    clear hR h8
    go_enter Try.func51, Try.ntmps51
    go_wp2_with fail
    refine H.out.mono ?_
    rintro x w1 ⟨rfl, rfl⟩
    simp only [thrown]
    go_wp2_with fail
    exact ⟨rfl, RdPost.no HG.out HR.out (Chg.refl _ _)⟩
  · have H := Lib.hid (next_ok R 8 bs 0 w hR (by omega))
    have HG : Hid (fixed bs = .yes (signed64 (le (bs.take 8))) (bs.drop 8)) := by unfold fixed; rw [if_neg h8]; rfl
    have HL : Hid ((bs.take 8).length = 8) := by unfold Hid; rw [List.length_take]; omega
    clear hR h8
    go_enter Try.func51, Try.ntmps51
    go_wp2_with fail
    refine H.out.mono ?_
    rintro x w1 ⟨b, off, rfl, hb, hat, hR1, hc⟩
    obtain ⟨t, ht⟩ : ∃ t, bs.take 8 = t := ⟨_, rfl⟩
    rw [ht] at hat HG HL
    have HR := Lib.hid hR1
    have HC := Lib.hid hc
    have HAT := Lib.hid hat
    clear hR1 hc hat ht
    go_wp2_with fail
    go_loop [3, 4, 5, 9] (fun u _ _ i => ∃ k : Nat, k ≤ 8 ∧ i = .int .i64 k ∧ u = .int .u64 (le (t.take k))) (fun _ _ _ i => 8 - (intOf i).toNat)
    case atStart => exact ⟨0, by omega, rfl, rfl⟩
    case round =>
      obtain ⟨k, hk, rfl, rfl⟩ := hrel
      by_cases hlt : k < 8
      · have hkt : k < t.length := by have := HL.out; omega
        have hc0 := HAT.out k hkt
        have HS := Lib.hid (le_take_succ t k hkt)
        have HO := Lib.hid (or_byte (le (t.take k)) k t[k] (by omega) (le_take_lt t k (by omega)))
        have hcb : t[k].toNat < 256 := t[k].isLt
        go_wp2_with fail
        exact ⟨⟨k + 1, by omega, by go_num, by rw [HO.out, HS.out]⟩, by simp [intOf]; omega⟩
      · obtain rfl : k = 8 := by omega
        have ht8 : t.take 8 = t := List.take_of_length_le (by have := HL.out; omega)
        rw [ht8]
        have hv : wrap64 (le t : Int) = signed64 (le t) := wrap_signed _ (by have := Pack.le_lt t; rwa [HL.out] at this)
        have HV := Lib.hid hv
        clear ht8 hv hlt
        go_wp2_with fail
        go_ret
        exact RdPost.yes HG.out (by unfold isI64; rw [← HV.out]; rfl) HR.out HC.out
end Go.Proofs.Ytajnhmkkgngbhaa
