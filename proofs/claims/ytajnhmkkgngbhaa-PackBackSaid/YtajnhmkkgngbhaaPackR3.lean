/- The walks of package pack, the reader: count. -/
import Derived.Test.YtajnhmkkgngbhaaPackR2
import Derived.Test.YtajnhmkkgngbhaaPackM2
namespace Go.Proofs.Ytajnhmkkgngbhaa
open Go.RowKit
open Pack (Got cnt cntTo)
/-- How a reading inside the guard ends: a thing and what is left, or thrown. -/
def RdPost {α : Type} (is : World → α → Value → Prop) (R : Nat) (w : World) (g : Got α) (x : Ending) (w' : World) : Prop :=
  match g with
  | .no e => x = thrown e ∧ (∃ rest, ReaderIs w' R rest 0) ∧ Chg [R] w w'
  | .yes a rest => (∃ v, x = .returned v ∧ is w' a v) ∧ ReaderIs w' R rest 0 ∧ Chg [R] w w'
theorem RdPost.no {α : Type} {is : World → α → Value → Prop} {R : Nat} {w w' : World} {g : Got α} {e : Int} {rest : List (BitVec 8)} (hg : g = .no e) (hr : ReaderIs w' R rest 0) (hc : Chg [R] w w') : RdPost is R w g (thrown e) w' := by
  subst hg; exact ⟨rfl, ⟨_, hr⟩, hc⟩
theorem RdPost.yes {α : Type} {is : World → α → Value → Prop} {R : Nat} {w w' : World} {g : Got α} {a : α} {v : Value} {rest : List (BitVec 8)} (hg : g = .yes a rest) (hi : is w' a v) (hr : ReaderIs w' R rest 0) (hc : Chg [R] w w') : RdPost is R w g (.returned v) w' := by
  subst hg; exact ⟨⟨_, rfl, hi⟩, hr, hc⟩
theorem and127 (c : BitVec 8) : bits .and .u8 (c.toNat : Int) 127 = ((c.toNat % 128 : Nat) : Int) := by
  have key : ∀ m : Fin 256, bits .and .u8 ((m.val : Nat) : Int) 127 = ((m.val % 128 : Nat) : Int) := by decide +kernel
  exact key ⟨c.toNat, c.isLt⟩
theorem or_high (n k : Nat) (c : BitVec 8) (hk : k ≤ 9) (hn : n < 2 ^ (7 * k)) (h9 : k = 9 → c.toNat ≤ 1) :
    bits .or .u64 (n : Int) (IntKind.u64.wrap ((c.toNat : Int) % 128 * 2 ^ (7 * k))) = ((n + c.toNat % 128 * 2 ^ (7 * k) : Nat) : Int) := by
  have hc := c.isLt
  have hx : c.toNat % 128 < 128 := Nat.mod_lt _ (by omega)
  have hb : c.toNat % 128 * 2 ^ (7 * k) < 2 ^ 64 := by
    rcases Nat.lt_or_ge k 9 with h | h
    · have h1 : c.toNat % 128 * 2 ^ (7 * k) ≤ 127 * 2 ^ (7 * k) := Nat.mul_le_mul_right _ (by omega)
      have h2 : 2 ^ (7 * k) ≤ 2 ^ 56 := Nat.pow_le_pow_right (by omega) (by omega)
      omega
    · obtain rfl : k = 9 := by omega
      have := h9 rfl
      have : c.toNat % 128 * 2 ^ (7 * 9) ≤ 1 * 2 ^ (7 * 9) := Nat.mul_le_mul_right _ (by omega)
      omega
  have hn64 : n < 2 ^ 64 := Nat.lt_of_lt_of_le hn (Nat.pow_le_pow_right (by omega) (by omega))
  have e1 : IntKind.u64.wrap ((c.toNat : Int) % 128 * 2 ^ (7 * k)) = ((c.toNat % 128 * 2 ^ (7 * k) : Nat) : Int) := by
    have e : ((c.toNat : Int) % 128 * 2 ^ (7 * k)) = ((c.toNat % 128 * 2 ^ (7 * k) : Nat) : Int) := by push_cast; rfl
    rw [e, IntKind.wrap_u64]
    omega
  rw [e1]
  show IntKind.wrap .u64 (((BitVec.ofInt 64 (n : Int)) ||| (BitVec.ofInt 64 ((c.toNat % 128 * 2 ^ (7 * k) : Nat) : Int))).toNat : Int) = _
  rw [BitVec.ofInt_natCast, BitVec.ofInt_natCast, BitVec.toNat_or, BitVec.toNat_ofNat, BitVec.toNat_ofNat, Nat.mod_eq_of_lt hn64, Nat.mod_eq_of_lt hb]
  have e2 : n ||| c.toNat % 128 * 2 ^ (7 * k) = n + c.toNat % 128 * 2 ^ (7 * k) := by
    rw [Nat.or_comm, Nat.mul_comm, ← Nat.two_pow_add_eq_or_of_lt hn, Nat.add_comm]
  have hs : n + c.toNat % 128 * 2 ^ (7 * k) < 2 ^ 64 := by
    rw [← e2]; exact Nat.or_lt_two_pow hn64 hb
  rw [e2, IntKind.wrap_u64]
  omega
def isU64 (_ : World) (n : Nat) (v : Value) : Prop := v = .int .u64 n
set_option maxRecDepth 100000 in
set_option maxHeartbeats 1000000 in
theorem rcount_any (R : Nat) (bs : List (BitVec 8)) (w : World) (hR : ReaderIs w R bs 0) :
    Calls Try.prog 47 #[.pointer (some ⟨R, 0, none⟩)] w (RdPost isU64 R w (cnt bs)) := by
  have HR := Lib.hid hR
  clear hR
  go_enter Try.func47, Try.ntmps47
  go_wp2_with fail
  go_loopw [3, 6] (fun u i wr => ∃ (k n : Nat) (left : List (BitVec 8)), u = .int .u64 n ∧ i = .int .i64 k ∧ k ≤ 9 ∧ n < 2 ^ (7 * k) ∧ Hid (cntTo (10 - k) k n left = cnt bs) ∧ Hid (ReaderIs wr R left 0) ∧ Hid (Chg [R] w wr)) (fun _ i _ => 10 - (intOf i).toNat)
  case atStart => exact ⟨0, 0, bs, rfl, rfl, by omega, by omega, rfl, HR.out, Chg.refl _ _⟩
  case round =>
    obtain ⟨k, n, left, rfl, rfl, hk, hn, hc, hR, hch⟩ := hrel
    cases left with
    | nil =>
      go_wp2_with fail
      refine (next_end R 1 [] 0 _ hR.out (by simp)).mono ?_
      rintro e w1 ⟨rfl, rfl⟩
      simp only [thrown]
      go_wp2_with fail
      exact ⟨rfl, RdPost.no (by rw [← hc.out, show 10 - k = (9 - k) + 1 by omega]; rfl) hR.out hch.out⟩
    | cons c left =>
      go_wp2_with fail
      refine (next_ok R 1 (c :: left) 0 _ hR.out (by simp)).mono ?_
      rintro e w1 ⟨b, off, rfl, hb, hat, hR1, hch1⟩
      have hc0 : w1.cell? ⟨b, off, none⟩ = some (.int .u8 (c.toNat : Int)) := by have := hat 0 (by simp); simpa using this
      clear hat
      have HR1 : Hid (ReaderIs w1 R left 0) := hR1
      have HC1 : Hid (Chg [R] w w1) := hch.out.trans hch1
      clear hR1 hch1
      have hcb : c.toNat < 256 := c.isLt
      have b1 := and127 c
      have HC : Hid ((if k = 9 ∧ 1 < c.toNat then Got.no 121 else if c.toNat < 128 then (if c.toNat = 0 ∧ 0 < k then .no 121 else .yes (n + c.toNat % 128 * 2 ^ (7 * k)) left) else cntTo (9 - k) (k + 1) (n + c.toNat % 128 * 2 ^ (7 * k)) left) = cnt bs) := by
        have h := hc.out
        rw [show 10 - k = (9 - k) + 1 by omega, Pack.cntTo_cons] at h
        exact h
      have HN := Lib.hid hn
      clear hc hn
      by_cases h9 : k = 9 ∧ 1 < c.toNat
      · have H := HC.out
        rw [if_pos h9] at H
        have HH := Lib.hid H
        have g9 : ((k : Int) == 9) = true := by rw [beq_iff_eq]; omega
        have g1 : (1 : Int) < (c.toNat : Int) := by omega
        clear HC h9 H
        go_wp2_with fail
        exact ⟨rfl, RdPost.no HH.out.symm HR1.out HC1.out⟩
      · have h9' : k = 9 → c.toNat ≤ 1 := fun h => by omega
        have hor := or_high n k c hk HN.out h9'
        have HOR := Lib.hid hor
        have H := HC.out
        rw [if_neg h9] at H
        have H9 := Lib.hid h9'
        clear HC hor h9'
        have part : ((k : Int) == 9) = false ∨ (((k : Int) == 9) = true ∧ ¬ (1 : Int) < (c.toNat : Int)) := by
          by_cases hk9 : k = 9
          · exact .inr ⟨by rw [beq_iff_eq]; omega, by have := H9.out hk9; omega⟩
          · exact .inl (by rw [beq_eq_false_iff_ne]; omega)
        clear h9
        by_cases h128 : c.toNat < 128
        · rw [if_pos h128] at H
          have g128 : (c.toNat : Int) < 128 := by omega
          by_cases h0 : c.toNat = 0 ∧ 0 < k
          · rw [if_pos h0] at H
            have HH := Lib.hid H
            have g0 : ((c.toNat : Int) == 0) = true := by rw [beq_iff_eq]; omega
            have g1 : (0 : Int) < (k : Int) := by omega
            clear H h0
            rcases part with gk | ⟨gk, gc⟩
            all_goals
              go_wp2_with fail
              exact ⟨rfl, RdPost.no HH.out.symm HR1.out HC1.out⟩
          · rw [if_neg h0] at H
            have HH := Lib.hid H
            have part2 : ((c.toNat : Int) == 0) = false ∨ (((c.toNat : Int) == 0) = true ∧ ¬ (0 : Int) < (k : Int)) := by
              by_cases hk9 : c.toNat = 0
              · exact .inr ⟨by rw [beq_iff_eq]; omega, by omega⟩
              · exact .inl (by rw [beq_eq_false_iff_ne]; omega)
            clear H h0
            rcases part with gk | ⟨gk, gc⟩ <;> rcases part2 with g0 | ⟨g0, g00⟩
            all_goals
              go_wp2_with fail
              go_ret
              exact RdPost.yes HH.out.symm (by unfold isU64; rw [← HOR.out]; rfl) HR1.out HC1.out
        · rw [if_neg h128] at H
          have HH := Lib.hid H
          have g128 : ¬ (c.toNat : Int) < 128 := by omega
          clear H
          rcases part with gk | ⟨gk, gc⟩
          · go_wp2_with fail
            exact ⟨⟨k + 1, _, left, by rw [HOR.out], by go_num, by have := beq_eq_false_iff_ne.1 gk; omega, Pack.cnt_step_lt k n _ HN.out (Nat.mod_lt _ (by omega)), by unfold Hid; rw [← HH.out, show 10 - (k + 1) = 9 - k by omega], HR1.out, HC1.out⟩, by simp [intOf]; omega⟩
          · omega
end Go.Proofs.Ytajnhmkkgngbhaa
