/- The walks of package frame, second part: fixed. -/
import Derived.Test.YtfbepdlahaefgaaDoorFrameW
namespace Go.Proofs.YtfbepdlahaefgaaDoor
open Go.RowKit
open Crc (R sum)
open Frm (le4 byteAt num4 head body frame fault fixed fixed_fault fixed_ok)

theorem begin_10 (w : World) :
    Calls Tryd.prog 40 #[.int .i64 1, .int .i64 0] w fun e w' => e = .returned (.agg #[.int .u8 82, .int .u8 71, .int .u8 1, .int .u8 1, .int .u8 0, .int .u8 0, .int .u8 0, .int .u8 0]) ∧ ∃ cs, w' = w.alloc (.cells cs 79) :=
  begin_any 1#8 0 w (by omega)
theorem fixed_empty (a : Option Addr) (cap : Nat) (w : World) :
    Calls Tryd.prog 43 #[.slice a 0 cap] w fun e w' => e = .returned (.int .i64 0) ∧ Below w.heap.size w w' := by
  go_enter Tryd.func43, Tryd.ntmps43
  go_wp2_with (go_at_call 40; refine (begin_10 _).mono ?_; rintro e w1 ⟨rfl, cs, rfl⟩)
  go_loop [4, 5, 13, 18, 28, 38] (fun _ _ i _ _ _ => i = .int .i64 0) (fun _ _ _ _ _ _ => 0)
  case atStart => rfl
  case round =>
    obtain rfl := hrel
    go_wp2
    go_ret
    exact ⟨rfl, ((Below.refl _ _).alloc (Nat.le_refl _) _).alloc (by simp) _⟩
theorem ne_byte {a : BitVec 8} (c : BitVec 8) (h : ¬ a = c) : ((a.toNat : Int) != (c.toNat : Int)) = true := ne8 h
theorem eq_byte {a : BitVec 8} (c : BitVec 8) (h : a = c) : ((a.toNat : Int) != (c.toNat : Int)) = false := eq8 h
theorem eqq_byte {a : BitVec 8} (c : BitVec 8) (h : a = c) : ((a.toNat : Int) == (c.toNat : Int)) = true := by subst h; simp
theorem neq_byte {a : BitVec 8} (c : BitVec 8) (h : ¬ a = c) : ((a.toNat : Int) == (c.toNat : Int)) = false := by
  rw [beq_eq_false_iff_ne]; intro e; exact h (BitVec.eq_of_toNat_eq (by omega))
set_option maxHeartbeats 8000000 in
theorem fixed_long (b off n cap : Nat) (bs : List (BitVec 8)) (w : World) (_hn0 : 0 < n) (h4 : 4 < n) (hn : bs.length = n) (hc : n ≤ cap) (_hm : cap ≤ maxLen) (hlt : b < w.heap.size) (hb : BytesAt w b off bs) :
    Calls Tryd.prog 43 #[.slice (some ⟨b, off, none⟩) n cap] w fun e w' => e = .returned (.int .i64 (fixed bs)) ∧ Below w.heap.size w w' := by
  have hm := _hm; unfold maxLen at hm
  have HB := Lib.hid hb
  have HN := Lib.hid hn
  have hc0 : ¬ cap = 0 := by omega
  have hg4 : (4 : Int) < (n : Int) := by omega
  have hmx : max (4 : Int) 0 = 4 := rfl
  have hmn : max (n : Int) 0 = n := by omega
  clear hb hn
  go_enter Tryd.func43, Tryd.ntmps43
  go_wp2_with (go_at_call 40; refine (begin_10 _).mono ?_; rintro e w1 ⟨rfl, cs, rfl⟩)
  go_loop [4, 5, 13, 18, 28, 38] (fun _ _ i _ _ _ => ∃ k : Nat, k ≤ 4 ∧ i = .int .i64 k ∧ Hid (∀ j, j < k → fault j (bs.getD j 0#8) = 0)) (fun _ _ i _ _ _ => 4 - (intOf i).toNat)
  case atStart => exact ⟨0, by omega, rfl, fun j hj => absurd hj (Nat.not_lt_zero j)⟩
  case round =>
    obtain ⟨k, hk, rfl, hok⟩ := hrel
    by_cases hkm : k < 4
    · have hkl : k < bs.length := by rw [HN.out]; omega
      have hck := (World.cell?_alloc_lt (w.alloc (.cells cs 79)) (.cells #[.int .u8 82, .int .u8 71, .int .u8 1, .int .u8 1, .int .u8 0, .int .u8 0, .int .u8 0, .int .u8 0] 79) ⟨b, off + k, none⟩ (by simp; omega)).trans ((World.cell?_alloc_lt w (.cells cs 79) ⟨b, off + k, none⟩ hlt).trans (HB.out k hkl))
      have HG := Lib.hid (show bs.getD k 0#8 = bs[k] by rw [List.getD_eq_getElem?_getD, List.getElem?_eq_getElem hkl]; rfl)
      have hcase : k = 0 ∨ k = 1 ∨ k = 2 ∨ k = 3 := by omega
      rcases hcase with rfl | rfl | rfl | rfl
      · rw [Nat.add_zero] at hck
        by_cases e : bs[0] = 82#8
        · have hq : ((bs[0].toNat : Int) != 82) = false := eq_byte (82#8) e
          have HE := Lib.hid e
          clear e
          go_wp2
          refine ⟨⟨0 + 1, by omega, rfl, fun j hj => ?_⟩, by simp [intOf]; try omega⟩
          by_cases hjk : j < 0
          · exact hok.out j hjk
          · have : j = 0 := by omega
            subst this
            rw [HG.out]; simp [fault, HE.out]
        · have hq : ((bs[0].toNat : Int) != 82) = true := ne_byte (82#8) e
          have HE := Lib.hid e
          clear e
          go_wp2
          go_ret
          have hf : fault 0 (bs.getD 0 0#8) = 131 := by rw [HG.out]; simp [fault, HE.out]
          refine ⟨?_, ((Below.refl _ _).alloc (Nat.le_refl _) _).alloc (by simp) _⟩
          show Ending.returned (Value.int .i64 131) = _
          rw [fixed_fault bs 0 hkl (by omega) hok.out (by rw [hf]; decide), hf]
      · by_cases e : bs[1] = 71#8
        · have hq : ((bs[1].toNat : Int) != 71) = false := eq_byte (71#8) e
          have HE := Lib.hid e
          clear e
          go_wp2
          refine ⟨⟨1 + 1, by omega, rfl, fun j hj => ?_⟩, by simp [intOf]; try omega⟩
          by_cases hjk : j < 1
          · exact hok.out j hjk
          · have : j = 1 := by omega
            subst this
            rw [HG.out]; simp [fault, HE.out]
        · have hq : ((bs[1].toNat : Int) != 71) = true := ne_byte (71#8) e
          have HE := Lib.hid e
          clear e
          go_wp2
          go_ret
          have hf : fault 1 (bs.getD 1 0#8) = 131 := by rw [HG.out]; simp [fault, HE.out]
          refine ⟨?_, ((Below.refl _ _).alloc (Nat.le_refl _) _).alloc (by simp) _⟩
          show Ending.returned (Value.int .i64 131) = _
          rw [fixed_fault bs 1 hkl (by omega) hok.out (by rw [hf]; decide), hf]
      · by_cases e : bs[2] = 1#8
        · have hq : ((bs[2].toNat : Int) != 1) = false := eq_byte (1#8) e
          have HE := Lib.hid e
          clear e
          go_wp2
          refine ⟨⟨2 + 1, by omega, rfl, fun j hj => ?_⟩, by simp [intOf]; try omega⟩
          by_cases hjk : j < 2
          · exact hok.out j hjk
          · have : j = 2 := by omega
            subst this
            rw [HG.out]; simp [fault, HE.out]
        · have hq : ((bs[2].toNat : Int) != 1) = true := ne_byte (1#8) e
          have HE := Lib.hid e
          clear e
          go_wp2
          go_ret
          have hf : fault 2 (bs.getD 2 0#8) = 132 := by rw [HG.out]; simp [fault, HE.out]
          refine ⟨?_, ((Below.refl _ _).alloc (Nat.le_refl _) _).alloc (by simp) _⟩
          show Ending.returned (Value.int .i64 132) = _
          rw [fixed_fault bs 2 hkl (by omega) hok.out (by rw [hf]; decide), hf]
      · by_cases e : bs[3] = 0#8
        · have hq : ((bs[3].toNat : Int) == 0) = true := eqq_byte (0#8) e
          have HE := Lib.hid e
          clear e
          go_wp2
          go_ret
          have hf : fault 3 (bs.getD 3 0#8) = 133 := by rw [HG.out]; simp [fault, HE.out]
          refine ⟨?_, ((Below.refl _ _).alloc (Nat.le_refl _) _).alloc (by simp) _⟩
          show Ending.returned (Value.int .i64 133) = _
          rw [fixed_fault bs 3 hkl (by omega) hok.out (by rw [hf]; decide), hf]
        · have hq : ((bs[3].toNat : Int) == 0) = false := neq_byte (0#8) e
          have HE := Lib.hid e
          clear e
          go_wp2
          refine ⟨⟨3 + 1, by omega, rfl, fun j hj => ?_⟩, by simp [intOf]; try omega⟩
          by_cases hjk : j < 3
          · exact hok.out j hjk
          · have : j = 3 := by omega
            subst this
            rw [HG.out]; simp [fault, HE.out]
    · have hkm' : k = 4 := by omega
      subst hkm'
      go_wp2
      go_ret
      exact ⟨by rw [fixed_ok bs (fun i hi => hok.out i (by have := HN.out; omega))]; rfl, ((Below.refl _ _).alloc (Nat.le_refl _) _).alloc (by simp) _⟩
set_option maxHeartbeats 8000000 in
theorem fixed_short (b off n cap : Nat) (bs : List (BitVec 8)) (w : World) (_hn0 : 0 < n) (h4 : n ≤ 4) (hn : bs.length = n) (hc : n ≤ cap) (_hm : cap ≤ maxLen) (hlt : b < w.heap.size) (hb : BytesAt w b off bs) :
    Calls Tryd.prog 43 #[.slice (some ⟨b, off, none⟩) n cap] w fun e w' => e = .returned (.int .i64 (fixed bs)) ∧ Below w.heap.size w w' := by
  have hm := _hm; unfold maxLen at hm
  have HB := Lib.hid hb
  have HN := Lib.hid hn
  have hc0 : ¬ cap = 0 := by omega
  have hg4 : ¬ (4 : Int) < (n : Int) := by omega
  have hmx : max (4 : Int) 0 = 4 := rfl
  have hmn : max (n : Int) 0 = n := by omega
  clear hb hn
  go_enter Tryd.func43, Tryd.ntmps43
  go_wp2_with (go_at_call 40; refine (begin_10 _).mono ?_; rintro e w1 ⟨rfl, cs, rfl⟩)
  go_loop [4, 5, 13, 18, 28, 38] (fun _ _ i _ _ _ => ∃ k : Nat, k ≤ n ∧ i = .int .i64 k ∧ Hid (∀ j, j < k → fault j (bs.getD j 0#8) = 0)) (fun _ _ i _ _ _ => n - (intOf i).toNat)
  case atStart => exact ⟨0, by omega, rfl, fun j hj => absurd hj (Nat.not_lt_zero j)⟩
  case round =>
    obtain ⟨k, hk, rfl, hok⟩ := hrel
    by_cases hkm : k < n
    · have hkl : k < bs.length := by rw [HN.out]; omega
      have hck := (World.cell?_alloc_lt (w.alloc (.cells cs 79)) (.cells #[.int .u8 82, .int .u8 71, .int .u8 1, .int .u8 1, .int .u8 0, .int .u8 0, .int .u8 0, .int .u8 0] 79) ⟨b, off + k, none⟩ (by simp; omega)).trans ((World.cell?_alloc_lt w (.cells cs 79) ⟨b, off + k, none⟩ hlt).trans (HB.out k hkl))
      have HG := Lib.hid (show bs.getD k 0#8 = bs[k] by rw [List.getD_eq_getElem?_getD, List.getElem?_eq_getElem hkl]; rfl)
      have hcase : k = 0 ∨ k = 1 ∨ k = 2 ∨ k = 3 := by omega
      rcases hcase with rfl | rfl | rfl | rfl
      · rw [Nat.add_zero] at hck
        by_cases e : bs[0] = 82#8
        · have hq : ((bs[0].toNat : Int) != 82) = false := eq_byte (82#8) e
          have HE := Lib.hid e
          clear e
          go_wp2
          refine ⟨⟨0 + 1, by omega, rfl, fun j hj => ?_⟩, by simp [intOf]; try omega⟩
          by_cases hjk : j < 0
          · exact hok.out j hjk
          · have : j = 0 := by omega
            subst this
            rw [HG.out]; simp [fault, HE.out]
        · have hq : ((bs[0].toNat : Int) != 82) = true := ne_byte (82#8) e
          have HE := Lib.hid e
          clear e
          go_wp2
          go_ret
          have hf : fault 0 (bs.getD 0 0#8) = 131 := by rw [HG.out]; simp [fault, HE.out]
          refine ⟨?_, ((Below.refl _ _).alloc (Nat.le_refl _) _).alloc (by simp) _⟩
          show Ending.returned (Value.int .i64 131) = _
          rw [fixed_fault bs 0 hkl (by omega) hok.out (by rw [hf]; decide), hf]
      · by_cases e : bs[1] = 71#8
        · have hq : ((bs[1].toNat : Int) != 71) = false := eq_byte (71#8) e
          have HE := Lib.hid e
          clear e
          go_wp2
          refine ⟨⟨1 + 1, by omega, rfl, fun j hj => ?_⟩, by simp [intOf]; try omega⟩
          by_cases hjk : j < 1
          · exact hok.out j hjk
          · have : j = 1 := by omega
            subst this
            rw [HG.out]; simp [fault, HE.out]
        · have hq : ((bs[1].toNat : Int) != 71) = true := ne_byte (71#8) e
          have HE := Lib.hid e
          clear e
          go_wp2
          go_ret
          have hf : fault 1 (bs.getD 1 0#8) = 131 := by rw [HG.out]; simp [fault, HE.out]
          refine ⟨?_, ((Below.refl _ _).alloc (Nat.le_refl _) _).alloc (by simp) _⟩
          show Ending.returned (Value.int .i64 131) = _
          rw [fixed_fault bs 1 hkl (by omega) hok.out (by rw [hf]; decide), hf]
      · by_cases e : bs[2] = 1#8
        · have hq : ((bs[2].toNat : Int) != 1) = false := eq_byte (1#8) e
          have HE := Lib.hid e
          clear e
          go_wp2
          refine ⟨⟨2 + 1, by omega, rfl, fun j hj => ?_⟩, by simp [intOf]; try omega⟩
          by_cases hjk : j < 2
          · exact hok.out j hjk
          · have : j = 2 := by omega
            subst this
            rw [HG.out]; simp [fault, HE.out]
        · have hq : ((bs[2].toNat : Int) != 1) = true := ne_byte (1#8) e
          have HE := Lib.hid e
          clear e
          go_wp2
          go_ret
          have hf : fault 2 (bs.getD 2 0#8) = 132 := by rw [HG.out]; simp [fault, HE.out]
          refine ⟨?_, ((Below.refl _ _).alloc (Nat.le_refl _) _).alloc (by simp) _⟩
          show Ending.returned (Value.int .i64 132) = _
          rw [fixed_fault bs 2 hkl (by omega) hok.out (by rw [hf]; decide), hf]
      · by_cases e : bs[3] = 0#8
        · have hq : ((bs[3].toNat : Int) == 0) = true := eqq_byte (0#8) e
          have HE := Lib.hid e
          clear e
          go_wp2
          go_ret
          have hf : fault 3 (bs.getD 3 0#8) = 133 := by rw [HG.out]; simp [fault, HE.out]
          refine ⟨?_, ((Below.refl _ _).alloc (Nat.le_refl _) _).alloc (by simp) _⟩
          show Ending.returned (Value.int .i64 133) = _
          rw [fixed_fault bs 3 hkl (by omega) hok.out (by rw [hf]; decide), hf]
        · have hq : ((bs[3].toNat : Int) == 0) = false := neq_byte (0#8) e
          have HE := Lib.hid e
          clear e
          go_wp2
          refine ⟨⟨3 + 1, by omega, rfl, fun j hj => ?_⟩, by simp [intOf]; try omega⟩
          by_cases hjk : j < 3
          · exact hok.out j hjk
          · have : j = 3 := by omega
            subst this
            rw [HG.out]; simp [fault, HE.out]
    · have hkm' : k = n := by omega
      subst hkm'
      go_wp2
      go_ret
      exact ⟨by rw [fixed_ok bs (fun i hi => hok.out i (by have := HN.out; omega))]; rfl, ((Below.refl _ _).alloc (Nat.le_refl _) _).alloc (by simp) _⟩
theorem fixed_any (v : Value) (bs : List (BitVec 8)) (w : World) (hv : IsBytes w v bs) :
    Calls Tryd.prog 43 #[v] w fun e w' => e = .returned (.int .i64 (fixed bs)) ∧ Below w.heap.size w w' := by
  rcases hv.open_ with ⟨rfl, a, cap, rfl, hm⟩ | ⟨h0, b, off, cap, rfl, hc, hm, hlt, hb⟩
  · exact fixed_empty a cap w
  · by_cases h4 : 4 < bs.length
    · exact fixed_long b off _ cap bs w h0 h4 rfl hc hm hlt hb
    · exact fixed_short b off _ cap bs w h0 (by omega) rfl hc hm hlt hb
end Go.Proofs.YtfbepdlahaefgaaDoor
