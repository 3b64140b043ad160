/- The walk of the law CrcBursts: it returns true. -/
import Derived.Test.YtfbepdlahaefgaaDoorLaw11V
import Derived.Test.YtfbepdlahaefgaaDoorApp2
namespace Go.Proofs.YtfbepdlahaefgaaDoor
open Go.RowKit
open Crc (R sum upN moreSum mbit)

/-- A bit turned. -/
def flipB (cs : List (BitVec 8)) (p : Nat) : List (BitVec 8) := cs.set (p / 8) (cs.getD (p / 8) 0#8 ^^^ (1#8 <<< (p % 8)))
theorem flipB_length (cs : List (BitVec 8)) (p : Nat) : (flipB cs p).length = cs.length := by simp [flipB]
theorem mbit_flip (cs : List (BitVec 8)) (p : Nat) (hp : p < 8 * cs.length) (j : Nat) : mbit (flipB cs p) j = (mbit cs j ^^ decide (j = p)) := by
  unfold mbit flipB
  rw [List.getD_eq_getElem?_getD, List.getElem?_set]
  by_cases h : p / 8 = j / 8
  · rw [if_pos h, if_pos (by omega)]
    rw [Option.getD_some, BitVec.getLsbD_xor, h]
    congr 1
    rw [BitVec.getLsbD_shiftLeft]
    by_cases h2 : j = p
    · subst h2; simp; omega
    · have : ¬ j % 8 = p % 8 := by omega
      by_cases h3 : j % 8 < p % 8
      · simp [h2, h3]
      · have : ¬ j % 8 - p % 8 = 0 := by omega
        simp [h2, this]
  · rw [if_neg h, ← List.getD_eq_getElem?_getD]
    have : ¬ j = p := by intro e; subst e; exact h rfl
    simp [this]
def Turned (bs cs : List (BitVec 8)) (at_ : Nat) (bits : R) (k : Nat) : Prop :=
  cs.length = bs.length ∧ (∀ i, i < k → bits.getLsbD i = true → at_ + i < 8 * bs.length) ∧ ∀ j, mbit cs j = (mbit bs j ^^ (decide (at_ ≤ j) && decide (j - at_ < k) && bits.getLsbD (j - at_)))
theorem turned_zero (bs : List (BitVec 8)) (at_ : Nat) (bits : R) : Turned bs bs at_ bits 0 := ⟨rfl, fun i hi => by omega, fun j => by simp⟩
theorem turned_skip {bs cs : List (BitVec 8)} {at_ : Nat} {bits : R} {k : Nat} (h : Turned bs cs at_ bits k) (hb : bits.getLsbD k = false) : Turned bs cs at_ bits (k + 1) := by
  refine ⟨h.1, fun i hi hi2 => ?_, fun j => ?_⟩
  · by_cases e : i = k
    · subst e; rw [hb] at hi2; cases hi2
    · exact h.2.1 i (by omega) hi2
  · rw [h.2.2 j]
    congr 1
    by_cases e : j - at_ = k
    · rw [e, hb]; simp
    · have : decide (j - at_ < k + 1) = decide (j - at_ < k) := by
        by_cases h1 : j - at_ < k
        · rw [decide_eq_true h1, decide_eq_true (by omega)]
        · rw [decide_eq_false h1, decide_eq_false (by omega)]
      rw [this]
theorem turned_flip {bs cs : List (BitVec 8)} {at_ : Nat} {bits : R} {k : Nat} (h : Turned bs cs at_ bits k) (hb : bits.getLsbD k = true) (hin : at_ + k < 8 * bs.length) : Turned bs (flipB cs (at_ + k)) at_ bits (k + 1) := by
  refine ⟨by rw [flipB_length]; exact h.1, fun i hi hi2 => ?_, fun j => ?_⟩
  · by_cases e : i = k
    · subst e; exact hin
    · exact h.2.1 i (by omega) hi2
  · rw [mbit_flip _ _ (by rw [h.1]; exact hin), h.2.2 j, Bool.xor_assoc]
    congr 1
    by_cases e : j = at_ + k
    · subst e
      rw [show at_ + k - at_ = k from by omega, hb]; simp
    · rw [decide_eq_false e, Bool.xor_false]
      by_cases hj : at_ ≤ j
      · have : decide (j - at_ < k + 1) = decide (j - at_ < k) := by
          by_cases h1 : j - at_ < k
          · rw [decide_eq_true h1, decide_eq_true (by omega)]
          · rw [decide_eq_false h1, decide_eq_false (by omega)]
        rw [this]
      · simp [hj]
theorem turned_sum {bs cs : List (BitVec 8)} {at_ : Nat} {bits : R} (h : Turned bs cs at_ bits 32) (hb : bits ≠ 0#32) : sum bs ≠ sum cs := by
  refine Crc.sum_burst bs cs h.1 at_ bits hb (fun k hk => ?_) (fun j _ => ?_)
  · refine h.2.1 k ?_ hk
    rcases Nat.lt_or_ge k 32 with h1 | h1
    · exact h1
    · rw [BitVec.getLsbD_of_ge _ _ h1] at hk; cases hk
  · rw [h.2.2 j]
    congr 1
    by_cases h1 : j - at_ < 32
    · rw [decide_eq_true h1, Bool.and_true]
    · rw [decide_eq_false h1, BitVec.getLsbD_of_ge _ _ (by omega)]; simp

theorem bits_flip8 (x : BitVec 8) (n : Nat) (hn : n < 8) : bits .xor .u8 (x.toNat : Int) (2 ^ n % 256) = ((x ^^^ (1#8 <<< n)).toNat : Int) := by
  have e : ∀ n : Fin 8, ((2 : Int) ^ n.val % 256) = ((1#8 <<< n.val).toNat : Int) := by decide
  have e2 : (2 : Int) ^ n % 256 = ((1#8 <<< n).toNat : Int) := e ⟨n, hn⟩
  rw [e2]
  show IntKind.wrap .u8 (((BitVec.ofInt 8 (x.toNat : Int)) ^^^ (BitVec.ofInt 8 ((1#8 <<< n).toNat : Int))).toNat : Int) = _
  have h8 : ∀ a : BitVec 8, BitVec.ofInt 8 (a.toNat : Int) = a := fun a => by
    rw [BitVec.ofInt_natCast]; apply BitVec.eq_of_toNat_eq; rw [BitVec.toNat_ofNat, Nat.mod_eq_of_lt a.isLt]
  rw [h8, h8, IntKind.wrap_u8']
  have := (x ^^^ 1#8 <<< n).isLt
  omega
/-! ### The walk -/
section
attribute [local go_sem] bit_a32
set_option maxRecDepth 4000 in
set_option maxHeartbeats 1000000 in
theorem crcBursts_in (b off n cap at_ : Nat) (bits : R) (bs : List (BitVec 8)) (w : World) (hv : IsBytes w (.slice (some ⟨b, off, none⟩) n cap) bs) (hnl : bs.length = n) (hn : n ≤ 2000) (hat : at_ < 8 * n) (hb0 : ¬ bits = 0#32) (ht : Tab w) :
    Calls Tryd.prog 7 #[.slice (some ⟨b, off, none⟩) n cap, .int .i64 at_, .int .u32 bits.toNat] w fun e w' => e = .returned (.bool true) ∧ Below w.heap.size w w' := by
  have hz : ((bits.toNat : Int) == 0) = false := by
    rw [beq_eq_false_iff_ne]; intro e; exact hb0 (BitVec.eq_of_toNat_eq (by simp; omega))
  have k1 : ¬ (2000 : Int) < (n : Int) := by omega
  have k2 : ¬ (at_ : Int) < 0 := by omega
  have k3 : ¬ 8 * (n : Int) ≤ (at_ : Int) := by omega
  have HT := Lib.hid ht
  have HV := Lib.hid hv
  have HN := Lib.hid hnl
  clear ht hv hnl hb0
  go_enter Tryd.func7, Tryd.ntmps7
  go_wp2_with (first
    | (go_at_call 17; refine (awake11_any _ HT.out).mono ?_; rintro e w1 ⟨rfl, hb1⟩)
    | (at_builtin; refine wpl_append rfl _ _ _ rfl elemU8 rfl (Own.empty_ rfl hb1.size) rfl ((HV.out.below hb1).alloc _).reads one_byteV (by rw [List.length_map, HN.out]; simp only [List.length_nil]; omega) (by rw [List.length_map, HN.out]; simp only [List.length_nil, maxLen]; omega) ?_; intro v' w2 hown2 hg1 hat1))
  obtain ⟨g, gc, hve, hat2⟩ := hown2.at_ (by rw [List.nil_append, List.length_map, HN.out]; omega)
  have hl : ([] ++ bs.map byteV).length = n := by rw [List.nil_append, List.length_map, HN.out]
  rw [hl] at hve
  rw [List.nil_append] at hat2
  have hb2 : Below w.heap.size w w2 := below_grown (hb1.alloc hb1.size _) (Own.empty_ rfl hb1.size) hg1 (Nat.le_refl _)
  subst hve
  clear hl hg1 hat1 hown2
  go_loopw [8, 32] (fun _ i wr => ∃ (k : Nat) (cs : List (BitVec 8)), k ≤ 32 ∧ i = .int .i64 k ∧ Turned bs cs at_ bits k ∧ OwnAt wr w.heap.size 5 g gc (cs.map byteV) ∧ Below w.heap.size w wr) (fun _ i _ => 32 - (intOf i).toNat)
  case atStart => exact ⟨0, bs, by omega, rfl, turned_zero bs at_ bits, hat2, hb2⟩
  case round =>
    obtain ⟨k, cs, hk, rfl, htu, hat3, hbel⟩ := hrel
    by_cases hk32 : k < 32
    · have hd : decide ((k : Int) < 32) = true := by simp; omega
      have HTU := Lib.hid htu
      clear htu
      cases hbit : bits.getLsbD k with
      | false =>
        have hbb : (bitA32 bits k == 0) = true := by unfold bitA32; rw [hbit]; rfl
        have HB := Lib.hid hbit
        clear hbit
        go_wp2
        go_roundw
        case rel => exact ⟨k + 1, cs, by omega, by go_num, turned_skip HTU.out HB.out, hat3, hbel⟩
        case measure => simp [intOf]; omega
      | true =>
        have hbb : (bitA32 bits k == 0) = false := by unfold bitA32; rw [hbit]; rfl
        have HB := Lib.hid hbit
        clear hbit
        by_cases hin : at_ + k < 8 * n
        · have k4 : ¬ 8 * (n : Int) ≤ (at_ : Int) + (k : Int) := by omega
          obtain ⟨p, hp⟩ : ∃ p, p = at_ + k := ⟨_, rfl⟩
          have hsum : IntKind.i64.wrap ((at_ : Int) + (k : Int)) = (p : Int) := by rw [IntWalk.i64_in _ (by omega)]; omega
          go_wp2
          have hq1 : p / 8 < (cs.map byteV).length := by rw [List.length_map, HTU.out.1, HN.out]; omega
          have hq2 : p / 8 < cs.length := by rw [HTU.out.1, HN.out]; omega
          have hc2 := hat3.cell (p / 8) hq1
          rw [List.getElem_map] at hc2
          unfold byteV at hc2
          have hfr := hat3.frozen (p / 8)
          obtain ⟨q, hq⟩ : ∃ q, q = p / 8 := ⟨_, rfl⟩
          obtain ⟨x, hx⟩ : ∃ x, x = cs.getD (p / 8) 0#8 := ⟨_, rfl⟩
          rw [show cs[p / 8] = x from by rw [hx, List.getD_eq_getElem?_getD, List.getElem?_eq_getElem hq2]; rfl] at hc2
          rw [← hq] at hc2 hfr
          have hquo : (p : Int).tdiv 8 = (q : Int) := by rw [Int.tdiv_eq_ediv_of_nonneg (by omega)]; omega
          have hrem : (p : Int).tmod 8 = ((p % 8 : Nat) : Int) := by rw [Int.tmod_eq_emod_of_nonneg (by omega)]; omega
          have hi : 0 ≤ (q : Int) ∧ (q : Int) < (n : Int) := by omega
          have HQ := Lib.hid hq
          have HX := Lib.hid hx
          have HP := Lib.hid hp
          clear hq hx hp hq1 hq2
          go_region
          rw [bits_flip8 x (p % 8) (by omega)]
          have hnext : OwnAt (wr.setCell ⟨g, q, none⟩ (.int .u8 ((x ^^^ (1#8 <<< (p % 8))).toNat : Int))) w.heap.size 5 g gc ((flipB cs (at_ + k)).map byteV) := by
            have := hat3.set_ q (byteV (x ^^^ (1#8 <<< (p % 8))))
            rw [← List.map_set] at this
            have e : cs.set q (x ^^^ (1#8 <<< (p % 8))) = flipB cs (at_ + k) := by rw [flipB, HX.out, HQ.out, HP.out]
            rw [e] at this
            exact this
          have HN2 := Lib.hid hnext
          have HK := Lib.hid hin
          clear hnext hsum hquo hrem
          go_wp2
          go_roundw
          case rel => exact ⟨k + 1, flipB cs (at_ + k), by omega, by go_num, turned_flip HTU.out HB.out (by rw [HN.out]; exact HK.out), HN2.out.keep (Nat.le_refl _) rfl, (hbel.setCell hat3.lt.1 _).drew⟩
          case measure => simp [intOf]; omega
        · have k4 : 8 * (n : Int) ≤ (at_ : Int) + (k : Int) := by omega
          go_wp2
          go_ret
          exact ⟨rfl, hbel⟩
    · have hk2 : k = 32 := by omega
      have hd : decide ((k : Int) < 32) = false := by simp; omega
      rw [hk2] at htu
      have hne : ((sum bs).toNat : Int) ≠ ((sum cs).toNat : Int) := by
        intro e
        exact turned_sum htu (fun h0 => by rw [h0] at hz; simp at hz) (BitVec.eq_of_toNat_eq (by omega))
      have hbn : (((sum bs).toNat : Int) != ((sum cs).toNat : Int)) = true := by rw [bne_iff_ne]; exact hne
      have hcl : (cs.map byteV).length = n := by rw [List.length_map, htu.1, HN.out]
      have hown := hat3.1
      rw [hcl] at hown
      have HO := Lib.hid hown.reads.bytes
      have HBN := Lib.hid hbn
      clear hown hne hbn hcl htu hk2
      go_wp2_with fail
      refine (of_one _ bs _ (IsParts.one rfl _ _ _ (HV.out.below hbel)) ((HT.out.below hbel).alloc _)).mono ?_
      rintro e w3 ⟨rfl, rfl⟩
      go_wp2_with fail
      refine (of_one _ cs _ (IsParts.one (by simp) _ _ _ (HO.out.alloc _)) (((HT.out.below hbel).alloc _).alloc _)).mono ?_
      rintro e w3 ⟨rfl, rfl⟩
      have hbn := HBN.out
      go_wp2
      go_ret
      have hsz := hbel.size
      refine ⟨rfl, ?_⟩
      repeat (first | exact hbel | refine Below.alloc ?_ (by first | omega | (simp <;> omega)) _)
end
set_option maxRecDepth 4000 in
set_option maxHeartbeats 1000000 in
theorem crcBursts_out (a : Option Addr) (n cap : Nat) (at_ : Int) (bits : R) (w : World) (hn : n ≤ 9223372036854775807) (h : 2000 < n ∨ at_ < 0 ∨ 8 * (n : Int) ≤ at_ ∨ bits = 0#32) (hat : -9223372036854775808 ≤ at_ ∧ at_ ≤ 9223372036854775807) (ht : Tab w) :
    Calls Tryd.prog 7 #[.slice a n cap, .int .i64 at_, .int .u32 bits.toNat] w fun e w' => e = .returned (.bool true) ∧ Below w.heap.size w w' := by
  have HT := Lib.hid ht
  have HA := Lib.hid hat
  have HN := Lib.hid hn
  clear ht hat hn
  by_cases h0 : 2000 < n
  · clear h
    have k1 : 2000 < (n : Int) := by omega
    go_enter Tryd.func7, Tryd.ntmps7
    go_wp2_with (go_at_call 17; refine (awake11_any _ HT.out).mono ?_; rintro e w1 ⟨rfl, hb1⟩)
    go_ret
    exact ⟨rfl, hb1⟩
  · have k1 : ¬ 2000 < (n : Int) := by omega
    by_cases h1 : at_ < 0
    · clear h
      go_enter Tryd.func7, Tryd.ntmps7
      go_wp2_with (go_at_call 17; refine (awake11_any _ HT.out).mono ?_; rintro e w1 ⟨rfl, hb1⟩)
      go_ret
      exact ⟨rfl, hb1⟩
    · by_cases h2 : 8 * (n : Int) ≤ at_
      · clear h
        go_enter Tryd.func7, Tryd.ntmps7
        go_wp2_with (go_at_call 17; refine (awake11_any _ HT.out).mono ?_; rintro e w1 ⟨rfl, hb1⟩)
        go_ret
        exact ⟨rfl, hb1⟩
      · obtain rfl : bits = 0#32 := by
          rcases h with h | h | h | h
          · exact absurd h h0
          · exact absurd h h1
          · exact absurd h h2
          · exact h
        clear h
        have hz : (((0#32).toNat : Int)) = 0 := rfl
        rw [hz]
        go_enter Tryd.func7, Tryd.ntmps7
        go_wp2_with (go_at_call 17; refine (awake11_any _ HT.out).mono ?_; rintro e w1 ⟨rfl, hb1⟩)
        go_ret
        exact ⟨rfl, hb1⟩
theorem crcBursts_law (v : Value) (at_ : Int) (bits : R) (bs : List (BitVec 8)) (w : World) (hv : IsBytes w v bs) (hat : -9223372036854775808 ≤ at_ ∧ at_ ≤ 9223372036854775807) (ht : Tab w) :
    Calls Tryd.prog 7 #[v, .int .i64 at_, .int .u32 bits.toNat] w fun e w' => e = .returned (.bool true) ∧ Below w.heap.size w w' := by
  have hlm := hv.length_le
  by_cases h : 2000 < bs.length ∨ at_ < 0 ∨ 8 * (bs.length : Int) ≤ at_ ∨ bits = 0#32
  · obtain ⟨a, n, cap, rfl, rfl, _⟩ := hv
    exact crcBursts_out a bs.length cap at_ bits w hlm h hat ht
  · have h1 : ¬ 2000 < bs.length := fun e => h (.inl e)
    have h2 : ¬ at_ < 0 := fun e => h (.inr (.inl e))
    have h3 : ¬ 8 * (bs.length : Int) ≤ at_ := fun e => h (.inr (.inr (.inl e)))
    have h4 : ¬ bits = 0#32 := fun e => h (.inr (.inr (.inr e)))
    obtain ⟨m, rfl⟩ := Int.eq_ofNat_of_zero_le (by omega : 0 ≤ at_)
    have hv' := hv
    rcases hv'.open_ with ⟨rfl, a, cap, rfl, hm⟩ | ⟨hp, b, off, cap, rfl, hl, hm, hlt, hc⟩
    · simp only [List.length_nil] at h3; omega
    · exact crcBursts_in b off bs.length cap m bits bs w hv rfl (by omega) (by omega) h4 ht
end Go.Proofs.YtfbepdlahaefgaaDoor
