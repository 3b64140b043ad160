/- The walk of regattaref11.More: the register bit by bit. -/
import Derived.Test.YtfbepdlahaefgaaDoorRefW2
namespace Go.Proofs.YtfbepdlahaefgaaDoor
open Go.RowKit
open Crc (R nib shortT up upN byteStep more moreSum sum b2i bitsL)

/-! ### More -/
theorem bits_poly (a : R) : bits .xor .u32 (a.toNat : Int) 3988292384 = ((x32 a Crc.poly).toNat : Int) := by
  rw [show (3988292384 : Int) = (Crc.poly.toNat : Int) from by decide]; exact bits_x32 a Crc.poly
theorem lsb_mod (r : R) : (r.toNat : Int) % 2 = b2i (r.getLsbD 0) := by
  rw [BitVec.getLsbD, Nat.testBit_eq_decide_div_mod_eq, Nat.pow_zero, Nat.div_one]
  rcases Nat.mod_two_eq_zero_or_one r.toNat with e | e <;> rw [e] <;> simp [b2i] <;> omega
theorem up_unlike (r : R) (b : Bool) (h : (r.getLsbD 0 ^^ b) = true) : x32 (sh1 r) Crc.poly = up (r ^^^ Crc.bitR b) := by
  have e : (r ^^^ Crc.bitR b) >>> 1 = r >>> 1 := by
    apply BitVec.eq_of_getLsbD_eq; intro i hi
    rw [BitVec.getLsbD_ushiftRight, BitVec.getLsbD_ushiftRight, BitVec.getLsbD_xor]
    have : (Crc.bitR b).getLsbD (1 + i) = false := by unfold Crc.bitR; cases b <;> simp
    rw [this, Bool.xor_false]
  have h0 : (Crc.bitR b).getLsbD 0 = b := by cases b <;> decide
  unfold up x32 sh1
  rw [e, BitVec.getLsbD_xor, h0, h]; rfl
theorem up_like (r : R) (b : Bool) (h : (r.getLsbD 0 ^^ b) = false) : sh1 r = up (r ^^^ Crc.bitR b) := by
  have e : (r ^^^ Crc.bitR b) >>> 1 = r >>> 1 := by
    apply BitVec.eq_of_getLsbD_eq; intro i hi
    rw [BitVec.getLsbD_ushiftRight, BitVec.getLsbD_ushiftRight, BitVec.getLsbD_xor]
    have : (Crc.bitR b).getLsbD (1 + i) = false := by unfold Crc.bitR; cases b <;> simp
    rw [this, Bool.xor_false]
  have h0 : (Crc.bitR b).getLsbD 0 = b := by cases b <;> decide
  unfold up sh1
  rw [e, BitVec.getLsbD_xor, h0, h]; simp
section
attribute [local go_sem] bits_n32 signed_u32 bits_poly int_sh1
set_option maxHeartbeats 1000000 in
theorem refMore_any (s : R) (v : Value) (bs : List (BitVec 8)) (w : World) (hv : IsBytes w v bs) (hn : bs.length ≤ 100000) :
    Calls Tryd.prog 21 #[.int .u32 s.toNat, v] w fun e w' => e = .returned (.int .u32 (moreSum s bs).toNat) ∧ Below w.heap.size w w' := by
  go_enter Tryd.func21, Tryd.ntmps21
  go_wp2_with (go_at_call 36; refine (bits_any _ _ _ hv hn).mono ?_; rintro e w1 ⟨u, rfl, hown, hbel⟩)
  obtain ⟨a, cap, hu, hcap, hcap2⟩ := hown.len
  have hll : ((bitsL bs).map intV).length = 8 * bs.length := by simp [Crc.bitsL_length]
  rw [hll] at hu
  subst hu
  have HR := Lib.hid hown.reads
  have HO := Lib.hid hown
  have HLL := Lib.hid hll
  clear hown hll
  go_loopw [5, 7, 8] (fun t i _ wr => ∃ k : Nat, k ≤ 8 * bs.length ∧ i = .int .i64 k ∧ t = .int .u32 (Crc.runF (Crc.mbit bs) k (n32 s)).toNat ∧ ∃ d, wr = w1.drewN d) (fun _ i _ _ => 8 * bs.length - (intOf i).toNat)
  case atStart => exact ⟨0, by omega, rfl, rfl, 0, rfl⟩
  case round =>
    obtain ⟨k, hk, rfl, rfl, d, rfl⟩ := hrel
    by_cases hlt : k < 8 * bs.length
    · obtain ⟨g, cap', he, hat⟩ := HO.out.at_ (by rw [HLL.out]; omega)
      injection he with ha _ hc
      subst ha hc
      have hkl : k < (bitsL bs).length := by rw [Crc.bitsL_length]; exact hlt
      have hc2 := hat.cell k (by rw [List.length_map]; exact hkl)
      rw [List.getElem_map] at hc2
      unfold intV at hc2
      have hx : (bitsL bs)[k] = b2i (Crc.mbit bs k) := by
        have := Crc.bitsL_getD bs k
        rw [List.getD_eq_getElem?_getD, List.getElem?_eq_getElem hkl] at this
        exact this
      rw [hx] at hc2
      obtain ⟨r, hr⟩ : ∃ r, r = Crc.runF (Crc.mbit bs) k (n32 s) := ⟨_, rfl⟩
      rw [← hr]
      have hm := lsb_mod r
      have hunl : ∀ b : Bool, (r.getLsbD 0 ^^ Crc.mbit bs k) = b → up (r ^^^ Crc.bitR (Crc.mbit bs k)) = Crc.runF (Crc.mbit bs) (k + 1) (n32 s) := fun _ _ => by rw [hr]; rfl
      have k1 : 0 ≤ (k : Int) ∧ (k : Int) < 8 * (bs.length : Int) := by omega
      have HU := Lib.hid hunl
      have HUn := Lib.hid (up_unlike r (Crc.mbit bs k))
      have HLi := Lib.hid (up_like r (Crc.mbit bs k))
      clear hx hat HR hunl
      cases h1 : r.getLsbD 0 <;> cases h2 : Crc.mbit bs k <;> rw [h1] at hm <;> rw [h2] at hc2 <;> simp only [b2i, Bool.false_eq_true, if_false, if_true] at hm hc2
      all_goals
        have H1 := Lib.hid h1
        have H2 := Lib.hid h2
        have H3 := Lib.hid hr
        clear h1 h2 hr
        go_wp2
        go_roundw
        case rel =>
          refine ⟨k + 1, by omega, by go_num, ?_, _, rfl⟩
          first
          | rw [HLi.out (by rw [H1.out, H2.out]; rfl), HU.out _ rfl]
          | rw [HUn.out (by rw [H1.out, H2.out]; rfl), HU.out _ rfl]
        case measure => simp [intOf]; omega
    · obtain rfl : k = 8 * bs.length := by omega
      obtain ⟨r, hr⟩ : ∃ r, r = Crc.runF (Crc.mbit bs) (8 * bs.length) (n32 s) := ⟨_, rfl⟩
      rw [← hr]
      have H3 := Lib.hid hr
      clear hr
      go_wp2
      go_ret
      exact ⟨ret_int (by rw [H3.out, ← Crc.more_bits]; rfl), below_drewN hbel _⟩
end
end Go.Proofs.YtfbepdlahaefgaaDoor
