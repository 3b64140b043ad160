/- The law PackLimits, walked. -/
import Derived.Test.YtajnhmkkgngbhaaLaw12A
import Derived.Deep.OwnRows
namespace Go.Proofs.Ytajnhmkkgngbhaa
open Go.RowKit
open Pack (form formT room)

theorem packLimits_out (n : Int) (w : World) (h : n < 1048568 ∨ 1048578 < n) :
    Calls Try.prog 3 #[.int .i64 n] w fun e w' => e = .returned (.bool true) ∧ Below w.heap.size w w' := by
  by_cases h1 : n < 1048568
  · have g1 : decide (n < 1048568) = true := decide_eq_true h1
    clear h h1
    go_enter Try.func3, Try.ntmps3
    go_wp2_with (go_at_call 9; refine (awake12_any _).mono ?_; rintro e w1 ⟨rfl, HB1⟩; have HB2 := Lib.hid HB1; clear HB1)
    go_ret
    exact ⟨rfl, HB2.out⟩
  · have g1 : decide (n < 1048568) = false := decide_eq_false h1
    have g2 : decide (1048578 < n) = true := decide_eq_true (by omega)
    clear h h1
    go_enter Try.func3, Try.ntmps3
    go_wp2_with (go_at_call 9; refine (awake12_any _).mono ?_; rintro e w1 ⟨rfl, HB1⟩; have HB2 := Lib.hid HB1; clear HB1)
    go_ret
    exact ⟨rfl, HB2.out⟩
theorem form_three (n : Nat) (h1 : 16384 ≤ n) (h2 : n < 2097152) : (form n).length = 3 := by
  unfold form
  rw [Pack.formTo_step 8 n (by omega), List.length_cons, Pack.formTo_step 7 (n / 128) (by omega), List.length_cons, Pack.formTo_last _ _ (by omega)]
  rfl
theorem room_lim (n : Nat) (h1 : 1048568 ≤ n) (h2 : n ≤ 1048578) : room ([], false) (formT (List.replicate n 0#8)) = if n + 3 ≤ 1048576 then (formT (List.replicate n 0#8), false) else ([], true) := by
  have hl : (formT (List.replicate n 0#8)).length = n + 3 := by
    unfold formT
    rw [List.length_append, List.length_replicate, form_three n (by omega) (by omega)]; omega
  unfold room
  rw [if_neg (by simp), hl]
  by_cases h : n + 3 ≤ 1048576
  · rw [if_pos h, if_neg (by simp; omega)]; rfl
  · rw [if_neg h, if_pos (by simp; omega)]
theorem formT_rep (n : Nat) (h1 : 1048568 ≤ n) (h2 : n ≤ 1048578) : (formT (List.replicate n 0#8)).length = n + 3 := by
  unfold formT
  rw [List.length_append, List.length_replicate, form_three n (by omega) (by omega)]; omega
set_option maxRecDepth 100000 in
set_option maxHeartbeats 1000000 in
theorem packLimits_in (n : Nat) (w : World) (h1 : 1048568 ≤ n) (h2 : n ≤ 1048578) :
    Calls Try.prog 3 #[.int .i64 n] w fun e w' => e = .returned (.bool true) ∧ Below w.heap.size w w' := by
  have HR := Lib.hid (room_lim n h1 h2)
  have HF := Lib.hid (formT_rep n h1 h2)
  have g1 : decide ((n : Int) < 1048568) = false := decide_eq_false (by omega)
  have g2 : decide ((1048578 : Int) < n) = false := decide_eq_false (by omega)
  have hmk := run_make_row' (P := Try.prog) 24 5 (.int .u8 0) 1 Try.underlying24 info8 rfl .i64 .i64 n (by omega) (by omega)
  have HM := Lib.hid (show n ≤ 2000000 by omega)
  have part : n + 3 ≤ 1048576 ∨ ¬ n + 3 ≤ 1048576 := by omega
  have hw3 : IntKind.i64.wrap ((n : Int) + 3) = (n : Int) + 3 := by rw [IntKind.wrap_i64]; omega
  clear h1 h2
  go_enter Try.func3, Try.ntmps3
  go_wp2_with (go_at_call 9; refine (awake12_any _).mono ?_; rintro e w1 ⟨rfl, HB1⟩; have HB2 := Lib.hid HB1; clear HB1)
  refine (wr_bytes (some w1.heap.size) _ (List.replicate n 0#8) _ _ (WrIs.below (WrIs.new rfl) ((Below.refl _ _).alloc (Nat.le_refl _) _)) (made_bytes (by simp) (by have := HM.out; unfold maxLen; omega)) (by rw [List.length_replicate]; exact HM.out)).mono ?_
  rintro e w2 ⟨⟨r, rfl⟩, h2, b2⟩
  rw [HR.out] at h2
  have B2 : Hid (Below w.heap.size w w2) := ((HB2.out.alloc HB2.out.size _).alloc (by have := HB2.out.size; simp; omega) _).trans (b2.mono HB2.out.size)
  clear b2 hmk g1 g2
  rcases part with hp | hp
  · rw [if_pos hp] at h2
    have H2 := Lib.hid h2
    have gp : (n : Int) + 3 ≤ 1048576 := by omega
    clear h2 hp
    go_wp2_with fail
    refine (done_st _ _ w2 H2.out).mono ?_
    rintro e w3 ⟨a3, m3, c3, rfl, h3, b3⟩
    have B3 : Hid (Below w.heap.size w w3) := B2.out.trans (b3.mono B2.out.size)
    have hm3 : m3 = n + 3 := by
      obtain ⟨_, _, _, he, hl, _⟩ := h3
      injection he with _ he
      rw [he, hl, HF.out]
    have ht : ((m3 : Int) == (n : Int) + 3) = true := by rw [beq_iff_eq]; omega
    clear h3 b3 hm3
    go_wp2_with fail
    go_ret
    exact ⟨rfl, B3.out⟩
  · rw [if_neg hp] at h2
    have H2 := Lib.hid h2
    have gp : decide ((n : Int) + 3 ≤ 1048576) = false := decide_eq_false (by omega)
    clear h2 hp
    go_wp2_with fail
    refine (done_full _ _ w2 H2.out).mono ?_
    rintro e w3 ⟨rfl, rfl⟩
    go_wp2_with fail
    refine (wr_uint (some w1.heap.size) _ 1 _ H2.out (by omega)).mono ?_
    rintro e w3 ⟨⟨r, rfl⟩, h3, b3⟩
    have hr3 : room (([], true) : List (BitVec 8) × Bool) (form 1) = ([], true) := rfl
    rw [hr3] at h3
    have H3 := Lib.hid h3
    have B3 : Hid (Below w.heap.size w w3) := B2.out.trans (b3.mono HB2.out.size)
    clear b3 h3 hr3
    go_wp2_with fail
    refine (done_full _ _ w3 H3.out).mono ?_
    rintro e w4 ⟨rfl, rfl⟩
    go_wp2_with fail
    go_ret
    exact ⟨rfl, B3.out⟩
theorem packLimits_law (n : Int) (w : World) :
    Calls Try.prog 3 #[.int .i64 n] w fun e w' => e = .returned (.bool true) ∧ Below w.heap.size w w' := by
  by_cases h : n < 1048568 ∨ 1048578 < n
  · exact packLimits_out n w h
  · obtain ⟨m, rfl⟩ : ∃ m : Nat, (m : Int) = n := ⟨n.toNat, by omega⟩
    exact packLimits_in m w (by omega) (by omega)
end Go.Proofs.Ytajnhmkkgngbhaa
