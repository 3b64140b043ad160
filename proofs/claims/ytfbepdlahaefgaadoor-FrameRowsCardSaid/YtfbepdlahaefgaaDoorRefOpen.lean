/- The document's Open of layer 13, walked: the first bytes. -/
import Derived.Test.YtfbepdlahaefgaaDoorLaw13S
namespace Go.Proofs.YtfbepdlahaefgaaDoor
open Go.RowKit
open Crc (R sum)
open Frm (le4 byteAt num4 head body frame fault fixed opened bad size fixed_fault fixed_ok)

theorem opened_fault {bs : List (BitVec 8)} {x : Int} (h : fixed bs = x) (h0 : x ≠ 0) : (opened bs).err = x := by
  unfold opened
  rw [h, if_pos h0]
  rfl
theorem opened_few {bs : List (BitVec 8)} (h : fixed bs = 0) (h0 : bs.length < 8) : (opened bs).err = 130 := by
  unfold opened
  rw [h, if_neg (by decide), if_pos h0]
  rfl
set_option maxRecDepth 4000 in
set_option maxHeartbeats 8000000 in
theorem refOpen_head (b off n cap : Nat) (bs : List (BitVec 8)) (w : World) (hn : bs.length = n) (hc : n ≤ cap) (hlt : b < w.heap.size) (hb : BytesAt w b off bs) (hn0 : 0 < n) (hx : fixed bs ≠ 0 ∨ n < 4) :
    Calls Tryd.prog 30 #[.slice (some ⟨b, off, none⟩) n cap] w fun e w' => e = .returned (.tuple #[.agg #[.int .i64 0, .slice none 0 0], .int .i64 0, .int .i64 (opened bs).err]) ∧ Below w.heap.size w w' := by
  have HB := Lib.hid hb
  have HN := Lib.hid hn
  have HX := Lib.hid hx
  have hc0 : ¬ cap = 0 := by omega
  clear hb hn hx
  go_enter Tryd.func30, Tryd.ntmps30
  go_wp2
  go_loop [3, 4, 5] (fun x y i => x = .int .i64 0 ∧ y = .int .i64 0 ∧ ∃ k : Nat, k ≤ 4 ∧ k ≤ n ∧ i = .int .i64 k ∧ Hid (∀ j, j < k → fault j (bs.getD j 0#8) = 0)) (fun _ _ i => 4 - (intOf i).toNat)
  case atStart => exact ⟨rfl, rfl, 0, by omega, by omega, rfl, fun j hj => absurd hj (Nat.not_lt_zero j)⟩
  case round =>
    obtain ⟨rfl, rfl, k, hk, hkn, rfl, hok⟩ := hrel
    by_cases hk4 : k = 4
    · subst hk4
      have hf : fixed bs = 0 := fixed_ok bs (fun i hi => hok.out i (by omega))
      rcases HX.out with h | h
      · exact absurd hf h
      · omega
    have hcase : k = 0 ∨ k = 1 ∨ k = 2 ∨ k = 3 := by omega
    by_cases hkm : n ≤ k
    · have hnk : n = k := by omega
      have hfew := opened_few (fixed_ok bs (fun i hi => hok.out i (by have := HN.out; omega))) (by rw [HN.out]; omega)
      have HF := Lib.hid hfew
      have hki : (n : Int) ≤ (k : Int) := by omega
      have hk4i : (k : Int) < 4 := by omega
      clear hfew hcase hk4
      subst hnk
      go_wp2
      refine bodyPost_ret (v := .tuple #[.agg #[.int .i64 0, .slice none 0 0], .int .i64 0, .int .i64 130]) (by simp [results, Tryd.results30, go_sem]) rfl ⟨by rw [HF.out], ?_⟩
      exact (Below.refl _ _).alloc (Nat.le_refl _) _
    · have hkl : k < bs.length := by rw [HN.out]; omega
      have hck := (World.cell?_alloc_lt w (.cells #[.int .i64 0, .slice none 0 0] 50) ⟨b, off + k, none⟩ hlt).trans (HB.out k hkl)
      have HG := Lib.hid (show bs.getD k 0#8 = bs[k] by rw [List.getD_eq_getElem?_getD, List.getElem?_eq_getElem hkl]; rfl)
      have hki : (k : Int) < (n : Int) := by omega
      clear hk4
      rcases hcase with rfl | rfl | rfl | rfl
      · rw [Nat.add_zero] at hck
        by_cases e : bs[0] = 82#8
        · have hq : ((bs[0].toNat : Int) != 82) = false := eq_byte (82#8) e
          have HE := Lib.hid e
          clear e
          go_wp2
          refine ⟨⟨rfl, rfl, 0 + 1, by omega, by omega, rfl, fun j hj => ?_⟩, by simp [intOf]; try omega⟩
          by_cases hjk : j < 0
          · exact hok.out j hjk
          · have : j = 0 := by omega
            subst this
            rw [HG.out]; simp [fault, HE.out]
        · have hq : ((bs[0].toNat : Int) != 82) = true := ne_byte (82#8) e
          have HE := Lib.hid e
          clear e
          have hf : Hid (fault 0 (bs.getD 0 0#8) = 131) := by unfold Hid; rw [HG.out]; simp [fault, HE.out]
          have HF := Lib.hid (opened_fault (fixed_fault bs 0 hkl (by omega) hok.out (by rw [hf.out]; decide)) (by rw [hf.out]; decide))
          go_wp2
          refine bodyPost_ret (v := .tuple #[.agg #[.int .i64 0, .slice none 0 0], .int .i64 0, .int .i64 131]) (by simp [results, Tryd.results30, go_sem]) rfl ⟨by rw [HF.out, hf.out], ?_⟩
          exact (Below.refl _ _).alloc (Nat.le_refl _) _
      · by_cases e : bs[1] = 71#8
        · have hq : ((bs[1].toNat : Int) != 71) = false := eq_byte (71#8) e
          have HE := Lib.hid e
          clear e
          go_wp2
          refine ⟨⟨rfl, rfl, 1 + 1, by omega, by omega, rfl, fun j hj => ?_⟩, by simp [intOf]; try omega⟩
          by_cases hjk : j < 1
          · exact hok.out j hjk
          · have : j = 1 := by omega
            subst this
            rw [HG.out]; simp [fault, HE.out]
        · have hq : ((bs[1].toNat : Int) != 71) = true := ne_byte (71#8) e
          have HE := Lib.hid e
          clear e
          have hf : Hid (fault 1 (bs.getD 1 0#8) = 131) := by unfold Hid; rw [HG.out]; simp [fault, HE.out]
          have HF := Lib.hid (opened_fault (fixed_fault bs 1 hkl (by omega) hok.out (by rw [hf.out]; decide)) (by rw [hf.out]; decide))
          go_wp2
          refine bodyPost_ret (v := .tuple #[.agg #[.int .i64 0, .slice none 0 0], .int .i64 0, .int .i64 131]) (by simp [results, Tryd.results30, go_sem]) rfl ⟨by rw [HF.out, hf.out], ?_⟩
          exact (Below.refl _ _).alloc (Nat.le_refl _) _
      · by_cases e : bs[2] = 1#8
        · have hq : ((bs[2].toNat : Int) != 1) = false := eq_byte (1#8) e
          have HE := Lib.hid e
          clear e
          go_wp2
          refine ⟨⟨rfl, rfl, 2 + 1, by omega, by omega, rfl, fun j hj => ?_⟩, by simp [intOf]; try omega⟩
          by_cases hjk : j < 2
          · exact hok.out j hjk
          · have : j = 2 := by omega
            subst this
            rw [HG.out]; simp [fault, HE.out]
        · have hq : ((bs[2].toNat : Int) != 1) = true := ne_byte (1#8) e
          have HE := Lib.hid e
          clear e
          have hf : Hid (fault 2 (bs.getD 2 0#8) = 132) := by unfold Hid; rw [HG.out]; simp [fault, HE.out]
          have HF := Lib.hid (opened_fault (fixed_fault bs 2 hkl (by omega) hok.out (by rw [hf.out]; decide)) (by rw [hf.out]; decide))
          go_wp2
          refine bodyPost_ret (v := .tuple #[.agg #[.int .i64 0, .slice none 0 0], .int .i64 0, .int .i64 132]) (by simp [results, Tryd.results30, go_sem]) rfl ⟨by rw [HF.out, hf.out], ?_⟩
          exact (Below.refl _ _).alloc (Nat.le_refl _) _
      · by_cases e : bs[3] = 0#8
        · have hq : ((bs[3].toNat : Int) == 0) = true := eqq_byte (0#8) e
          have HE := Lib.hid e
          clear e
          have hf : Hid (fault 3 (bs.getD 3 0#8) = 133) := by unfold Hid; rw [HG.out]; simp [fault, HE.out]
          have HF := Lib.hid (opened_fault (fixed_fault bs 3 hkl (by omega) hok.out (by rw [hf.out]; decide)) (by rw [hf.out]; decide))
          go_wp2
          refine bodyPost_ret (v := .tuple #[.agg #[.int .i64 0, .slice none 0 0], .int .i64 0, .int .i64 133]) (by simp [results, Tryd.results30, go_sem]) rfl ⟨by rw [HF.out, hf.out], ?_⟩
          exact (Below.refl _ _).alloc (Nat.le_refl _) _
        · have hq : ((bs[3].toNat : Int) == 0) = false := neq_byte (0#8) e
          have HE := Lib.hid e
          clear e
          go_wp2
          refine ⟨⟨rfl, rfl, 3 + 1, by omega, by omega, rfl, fun j hj => ?_⟩, by simp [intOf]; try omega⟩
          by_cases hjk : j < 3
          · exact hok.out j hjk
          · have : j = 3 := by omega
            subst this
            rw [HG.out]; simp [fault, HE.out]
end Go.Proofs.YtfbepdlahaefgaaDoor
