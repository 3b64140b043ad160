/- The law FrameFlips, walked. -/
import Derived.Test.YtfbepdlahaefgaaDoorLaw13S
import Derived.Test.YtfbepdlahaefgaaDoorLaw11B
namespace Go.Proofs.YtfbepdlahaefgaaDoor
open Go.RowKit
open Crc (R sum upN)
open Frm (le4 byteAt num4 head body frame fault fixed opened bad size)

/-- A sealed payload of which bytes were turned. -/
def turnedF (kind : BitVec 8) (p cs : List (BitVec 8)) : List (BitVec 8) := head kind (BitVec.ofNat 32 p.length) ++ (cs ++ le4 (sum (body kind p)))
theorem turnedF_self (kind : BitVec 8) (p : List (BitVec 8)) : turnedF kind p p = frame kind p := by unfold turnedF frame body; rw [List.append_assoc]
theorem turnedF_length (kind : BitVec 8) (p cs : List (BitVec 8)) : (turnedF kind p cs).length = 12 + cs.length := by
  unfold turnedF; rw [List.length_append, List.length_append, Frm.head_length, Frm.le4_length]; omega
theorem turnedF_set (kind : BitVec 8) (p cs : List (BitVec 8)) (q : Nat) (hq : q < cs.length) (x : BitVec 8) : (turnedF kind p cs).set (8 + q) x = turnedF kind p (cs.set q x) := by
  unfold turnedF
  rw [List.set_append, if_neg (by rw [Frm.head_length]; omega), Frm.head_length, show 8 + q - 8 = q by omega, List.set_append, if_pos hq]
theorem turnedF_get (kind : BitVec 8) (p cs : List (BitVec 8)) (q : Nat) (hq : q < cs.length) : (turnedF kind p cs)[8 + q]? = some cs[q] := by
  unfold turnedF
  rw [List.getElem?_append_right (by rw [Frm.head_length]; omega), Frm.head_length, show 8 + q - 8 = q by omega, List.getElem?_append_left hq, List.getElem?_eq_getElem hq]
theorem turnedF_opened (kind : BitVec 8) (p cs : List (BitVec 8)) (hk : kind ≠ 0#8) (hl : cs.length = p.length) (hp : p.length ≤ 65536) (hne : sum p ≠ sum cs) : opened (turnedF kind p cs) = ⟨0, [], 0, 135⟩ := by
  have hN : (BitVec.ofNat 32 p.length).toNat = p.length := by rw [BitVec.toNat_ofNat, Nat.mod_eq_of_lt (by omega)]
  have hs : size (turnedF kind p cs) = p.length := by unfold turnedF; rw [Frm.size_head, hN]
  have hf : fixed (turnedF kind p cs) = 0 := by unfold turnedF; exact Frm.fixed_head _ _ _ hk
  have hlen := turnedF_length kind p cs
  have e : turnedF kind p cs = (head kind (BitVec.ofNat 32 p.length) ++ cs) ++ le4 (sum (body kind p)) := by unfold turnedF; rw [List.append_assoc]
  have hl8 : (head kind (BitVec.ofNat 32 p.length) ++ cs).length = p.length + 8 := by rw [List.length_append, Frm.head_length, hl]; omega
  have ht : (turnedF kind p cs).take (p.length + 8) = head kind (BitVec.ofNat 32 p.length) ++ cs := by
    rw [e, ← hl8, List.take_left]
  have hd : (turnedF kind p cs).drop (p.length + 8) = le4 (sum (body kind p)) := by
    rw [e, ← hl8, List.drop_left]
  have hn4 : num4 (le4 (sum (body kind p))) = sum (body kind p) := by have := Frm.num4_le4 (sum (body kind p)) []; rwa [List.append_nil] at this
  unfold opened
  rw [hf, if_neg (by decide), if_neg (by omega), hs, if_neg (by omega), if_neg (by omega), ht, hd, hn4, if_pos ?_]
  · rfl
  · intro he
    unfold body at he
    rw [Crc.sum_append, Crc.sum_append, hl] at he
    exact hne (by simpa using he)
section
attribute [local go_sem] bit_a32
set_option maxRecDepth 8000 in
set_option maxHeartbeats 4000000 in
theorem frameFlips_in (k0 : Nat) (a : Option Addr) (n cp at_ : Nat) (bits : R) (bs : List (BitVec 8)) (w : World) (hv : IsBytes w (.slice a n cp) bs) (hnl : bs.length = n) (g1 : 1 ≤ k0) (g2 : k0 ≤ 255) (hn : n ≤ 1000) (hat : at_ < 8 * n) (hb0 : ¬ bits = 0#32) (ht : Tab w) :
    Calls Tryd.prog 13 #[.agg #[.int .i64 k0, .slice a n cp], .int .i64 at_, .int .u32 bits.toNat] w fun e w' => e = .returned (.bool true) ∧ Below w.heap.size w w' := by
  have hz : ((bits.toNat : Int) == 0) = false := by
    rw [beq_eq_false_iff_ne]; intro e; exact hb0 (BitVec.eq_of_toNat_eq (by simp; omega))
  have j1 : ¬ (k0 : Int) < 1 := by omega
  have j2 : ¬ (255 : Int) < (k0 : Int) := by omega
  have k1 : ¬ (1000 : Int) < (n : Int) := by omega
  have k2 : ¬ (at_ : Int) < 0 := by omega
  have k3 : ¬ 8 * (n : Int) ≤ (at_ : Int) := by omega
  have HT := Lib.hid ht
  have HV := Lib.hid hv
  have HN := Lib.hid hnl
  have HB0 := Lib.hid hb0
  have hkk : BitVec.ofNat 8 k0 ≠ 0#8 := fun e => by
    have := congrArg BitVec.toNat e
    rw [BitVec.toNat_ofNat, Nat.mod_eq_of_lt (by omega)] at this
    simp at this; omega
  have HKK := Lib.hid hkk
  clear ht hv hnl hb0 hkk
  go_enter Tryd.func13, Tryd.ntmps13
  go_wp2_with (go_at_call 25; refine (awake13_in _ _ HT.out).mono ?_; rintro e w1 ⟨rfl, HB1⟩; obtain ⟨c0, c1⟩ := cells2 HB1)
  have bw1 : Below w.heap.size w w1 := below_box HB1
  have hw01 : w.heap.size < w1.heap.size := Nat.lt_of_lt_of_le (by simp) HB1.out.size
  refine (seal_f k0 n _ bs w1 g1 g2 (HV.out.below bw1) HN.out (by omega) (HT.out.below bw1)).mono ?_
  rintro e w2 ⟨b2, o2, c2, rfl, hc2, hat2, _, ho2, HB2⟩
  have ho2' := ho2.out
  subst ho2'
  have C1 := Lib.hid c1
  have e1 := (HB2.out.cell (p := ⟨w.heap.size, 1, none⟩) hw01).trans c1
  clear c0 c1
  go_wp2_with fail
  clear e1
  go_loopw [9, 64] (fun _ i wr => ∃ (k : Nat) (cs : List (BitVec 8)), k ≤ 32 ∧ i = .int .i64 k ∧ Turned bs cs at_ bits k ∧ OwnAt wr w1.heap.size 5 b2 c2 ((turnedF (BitVec.ofNat 8 k0) bs cs).map byteV) ∧ Below w1.heap.size w1 wr) (fun _ i _ => 32 - (intOf i).toNat)
  case atStart => exact ⟨0, bs, by omega, rfl, turned_zero bs at_ bits, by rw [turnedF_self]; exact hat2.out, HB2.out⟩
  case round =>
    obtain ⟨k, cs, hk, rfl, htu, hat3, hbel⟩ := hrel
    have c1 := (hbel.cell (p := ⟨w.heap.size, 1, none⟩) hw01).trans C1.out
    by_cases hk32 : k < 32
    · have hd : decide ((k : Int) < 32) = true := by simp; omega
      have HTU := Lib.hid htu
      clear htu
      cases hbit : bits.getLsbD k with
      | false =>
        have hbb : (bitA32 bits k == 0) = true := by unfold bitA32; rw [hbit]; rfl
        have HB := Lib.hid hbit
        clear hbit
        go_wp2
        go_roundw
        case rel => exact ⟨k + 1, cs, by omega, by go_num, turned_skip HTU.out HB.out, hat3, hbel⟩
        case measure => simp [intOf]; omega
      | true =>
        have hbb : (bitA32 bits k == 0) = false := by unfold bitA32; rw [hbit]; rfl
        have HB := Lib.hid hbit
        clear hbit
        by_cases hin : at_ + k < 8 * n
        · have k4 : ¬ 8 * (n : Int) ≤ (at_ : Int) + (k : Int) := by omega
          obtain ⟨p, hp⟩ : ∃ p, p = at_ + k := ⟨_, rfl⟩
          have hsum : IntKind.i64.wrap ((at_ : Int) + (k : Int)) = (p : Int) := by rw [IntWalk.i64_in _ (by omega)]; omega
          go_wp2
          have hq2 : p / 8 < cs.length := by rw [HTU.out.1, HN.out]; omega
          have hp8 : p < 9000 := by omega
          obtain ⟨q, hq⟩ : ∃ q, q = p / 8 := ⟨_, rfl⟩
          obtain ⟨r, hr⟩ : ∃ r, r = 8 + q := ⟨_, rfl⟩
          obtain ⟨x, hx⟩ : ∃ x, x = cs.getD (p / 8) 0#8 := ⟨_, rfl⟩
          have hq3 : q < cs.length := by omega
          have hwq : IntKind.i64.wrap (q : Int) = (q : Int) := by rw [IntWalk.i64_in _ (by omega)]
          have hq1 : r < ((turnedF (BitVec.ofNat 8 k0) bs cs).map byteV).length := by rw [List.length_map, turnedF_length, HTU.out.1, HN.out]; omega
          have hc2' := hat3.cell r hq1
          have hgx : ((turnedF (BitVec.ofNat 8 k0) bs cs).map byteV)[r]? = some (byteV x) := by
            rw [hr, List.getElem?_map, turnedF_get _ _ _ q hq3, hx, ← hq, List.getD_eq_getElem?_getD, List.getElem?_eq_getElem hq3]; rfl
          rw [List.getElem?_eq_getElem hq1] at hgx
          rw [hgx] at hc2'
          unfold byteV at hc2'
          have hfr := hat3.frozen r
          have hquo : (p : Int).tdiv 8 = (q : Int) := by rw [Int.tdiv_eq_ediv_of_nonneg (by omega)]; omega
          have hrem : (p : Int).tmod 8 = ((p % 8 : Nat) : Int) := by rw [Int.tmod_eq_emod_of_nonneg (by omega)]; omega
          have hq8 : IntKind.i64.wrap (8 + (q : Int)) = (r : Int) := by rw [IntWalk.i64_in _ (by omega)]; omega
          have hi : 0 ≤ (r : Int) ∧ (r : Int) < (n : Int) + 12 := by omega
          have HQ := Lib.hid hq
          have HX := Lib.hid hx
          have HP := Lib.hid hp
          have HR := Lib.hid hr
          clear hq hx hp hq1 hr hgx
          go_region
          rw [bits_flip8 x (p % 8) (by omega)]
          have hnext : OwnAt (wr.setCell ⟨b2, r, none⟩ (.int .u8 ((x ^^^ (1#8 <<< (p % 8))).toNat : Int))) w1.heap.size 5 b2 c2 ((turnedF (BitVec.ofNat 8 k0) bs (flipB cs (at_ + k))).map byteV) := by
            have := hat3.set_ r (byteV (x ^^^ (1#8 <<< (p % 8))))
            rw [← List.map_set, HR.out, turnedF_set _ _ _ q (by rw [HQ.out]; exact hq2)] at this
            have e : cs.set q (x ^^^ (1#8 <<< (p % 8))) = flipB cs (at_ + k) := by rw [flipB, HX.out, HQ.out, HP.out]
            rw [e] at this
            rw [HR.out]
            exact this
          have HN2 := Lib.hid hnext
          have HK := Lib.hid hin
          clear hnext hsum hquo hrem
          go_wp2
          go_roundw
          case rel => exact ⟨k + 1, flipB cs (at_ + k), by omega, by go_num, turned_flip HTU.out HB.out (by rw [HN.out]; exact HK.out), HN2.out.keep (Nat.le_refl _) rfl, (hbel.setCell hat3.lt.1 _).drew⟩
          case measure => simp [intOf]; omega
        · have k4 : 8 * (n : Int) ≤ (at_ : Int) + (k : Int) := by omega
          go_wp2
          go_ret
          exact ⟨rfl, bw1.trans (hbel.mono (Nat.le_of_lt hw01))⟩
    · have hk2 : k = 32 := by omega
      have hd : decide ((k : Int) < 32) = false := by simp; omega
      rw [hk2] at htu
      have hcl : ((turnedF (BitVec.ofNat 8 k0) bs cs).map byteV).length = n + 12 := by rw [List.length_map, turnedF_length, htu.1, HN.out]; omega
      have hop := Lib.hid (turnedF_opened (BitVec.ofNat 8 k0) bs cs HKK.out htu.1 (by rw [HN.out]; omega) (turned_sum htu HB0.out))
      have hown := hat3.1
      rw [hcl] at hown
      have HO := Lib.hid hown.reads.bytes
      have bwr : Hid (Below w.heap.size w wr) := bw1.trans (hbel.mono (Nat.le_of_lt hw01))
      clear hown hcl htu hk2
      go_wp2_with fail
      refine (open_is _ _ 0 [] 0 135 wr HO.out (HT.out.below bwr.out) hop.out).mono ?_
      rintro e w3 ⟨a3, m3, c3, rfl, _, hb3⟩
      have bw3 : Hid (Below w.heap.size w w3) := bwr.out.trans (hb3.mono bwr.out.size)
      clear hb3
      go_wp2_with fail
      go_ret
      exact ⟨rfl, bw3.out.alloc bw3.out.size _⟩
end
set_option maxRecDepth 4000 in
set_option maxHeartbeats 2000000 in
theorem frameFlips_out (k0 at_ : Int) (a : Option Addr) (n cp : Nat) (bits : R) (w : World) (ht : Tab w) (h : k0 < 1 ∨ 255 < k0 ∨ 1000 < n ∨ at_ < 0 ∨ 8 * (n : Int) ≤ at_ ∨ bits = 0#32) :
    Calls Tryd.prog 13 #[.agg #[.int .i64 k0, .slice a n cp], .int .i64 at_, .int .u32 bits.toNat] w fun e w' => e = .returned (.bool true) ∧ Below w.heap.size w w' := by
  have HT := Lib.hid ht
  have HH : Hid (k0 < 1 ∨ 255 < k0 ∨ 1000 < (n : Int) ∨ at_ < 0 ∨ 8 * (n : Int) ≤ at_ ∨ ((bits.toNat : Int) == 0) = true) := by
    rcases h with h | h | h | h | h | h
    · exact .inl h
    · exact .inr (.inl h)
    · exact .inr (.inr (.inl (by omega)))
    · exact .inr (.inr (.inr (.inl h)))
    · exact .inr (.inr (.inr (.inr (.inl h))))
    · exact .inr (.inr (.inr (.inr (.inr (by rw [h]; rfl)))))
  clear ht h
  by_cases g0 : k0 < 1
  · clear HH
    go_enter Tryd.func13, Tryd.ntmps13
    go_wp2_with (go_at_call 25; refine (awake13_in _ _ HT.out).mono ?_; rintro e w1 ⟨rfl, HB1⟩; obtain ⟨c0, c1⟩ := cells2 HB1)
    go_ret
    exact ⟨rfl, below_box HB1⟩
  by_cases g1 : 255 < k0
  · clear HH
    go_enter Tryd.func13, Tryd.ntmps13
    go_wp2_with (go_at_call 25; refine (awake13_in _ _ HT.out).mono ?_; rintro e w1 ⟨rfl, HB1⟩; obtain ⟨c0, c1⟩ := cells2 HB1)
    go_ret
    exact ⟨rfl, below_box HB1⟩
  by_cases g2 : 1000 < (n : Int)
  · clear HH
    go_enter Tryd.func13, Tryd.ntmps13
    go_wp2_with (go_at_call 25; refine (awake13_in _ _ HT.out).mono ?_; rintro e w1 ⟨rfl, HB1⟩; obtain ⟨c0, c1⟩ := cells2 HB1)
    go_ret
    exact ⟨rfl, below_box HB1⟩
  by_cases g3 : at_ < 0
  · clear HH
    go_enter Tryd.func13, Tryd.ntmps13
    go_wp2_with (go_at_call 25; refine (awake13_in _ _ HT.out).mono ?_; rintro e w1 ⟨rfl, HB1⟩; obtain ⟨c0, c1⟩ := cells2 HB1)
    go_ret
    exact ⟨rfl, below_box HB1⟩
  by_cases g4 : 8 * (n : Int) ≤ at_
  · clear HH
    go_enter Tryd.func13, Tryd.ntmps13
    go_wp2_with (go_at_call 25; refine (awake13_in _ _ HT.out).mono ?_; rintro e w1 ⟨rfl, HB1⟩; obtain ⟨c0, c1⟩ := cells2 HB1)
    go_ret
    exact ⟨rfl, below_box HB1⟩
  by_cases g5 : ((bits.toNat : Int) == 0) = true
  · clear HH
    go_enter Tryd.func13, Tryd.ntmps13
    go_wp2_with (go_at_call 25; refine (awake13_in _ _ HT.out).mono ?_; rintro e w1 ⟨rfl, HB1⟩; obtain ⟨c0, c1⟩ := cells2 HB1)
    go_ret
    exact ⟨rfl, below_box HB1⟩
  rcases HH.out with h | h | h | h | h | h
  · exact absurd h g0
  · exact absurd h g1
  · exact absurd h g2
  · exact absurd h g3
  · exact absurd h g4
  · exact absurd h g5
theorem frameFlips_law (k0 at_ : Int) (u : Value) (p : List (BitVec 8)) (bits : R) (w : World) (hu : IsBytes w u p) (ht : Tab w) :
    Calls Tryd.prog 13 #[.agg #[.int .i64 k0, u], .int .i64 at_, .int .u32 bits.toNat] w fun e w' => e = .returned (.bool true) ∧ Below w.heap.size w w' := by
  have hu' := hu
  obtain ⟨a, n, cp, rfl, hn, _⟩ := hu'
  by_cases h : k0 < 1 ∨ 255 < k0 ∨ 1000 < n ∨ at_ < 0 ∨ 8 * (n : Int) ≤ at_ ∨ bits = 0#32
  · exact frameFlips_out k0 at_ a n cp bits w ht h
  · have h1 : ¬ k0 < 1 := fun e => h (.inl e)
    have h2 : ¬ 255 < k0 := fun e => h (.inr (.inl e))
    have h3 : ¬ 1000 < n := fun e => h (.inr (.inr (.inl e)))
    have h4 : ¬ at_ < 0 := fun e => h (.inr (.inr (.inr (.inl e))))
    have h5 : ¬ 8 * (n : Int) ≤ at_ := fun e => h (.inr (.inr (.inr (.inr (.inl e)))))
    have h6 : ¬ bits = 0#32 := fun e => h (.inr (.inr (.inr (.inr (.inr e)))))
    obtain ⟨k', rfl⟩ : ∃ k' : Nat, k0 = (k' : Int) := ⟨k0.toNat, by omega⟩
    obtain ⟨c', rfl⟩ : ∃ c' : Nat, at_ = (c' : Int) := ⟨at_.toNat, by omega⟩
    exact frameFlips_in k' a n cp c' bits p w hu hn.symm (by omega) (by omega) (by omega) (by omega) h6 ht
end Go.Proofs.YtfbepdlahaefgaaDoor
