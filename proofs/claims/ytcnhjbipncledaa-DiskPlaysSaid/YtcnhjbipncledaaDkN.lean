/- A disk that is none: nil, or of no blocks. Its functions, walked. -/
import Derived.Test.YtcnhjbipncledaaDk9
namespace Go.Proofs.Ytcnhjbipncledaa
open Go.RowKit

/-- The value is no disk: asked, it says so. -/
def NoDisk (w : World) (v : Value) : Prop := v = .pointer none ∨ ∃ D, v = .pointer (some ⟨D, 0, none⟩) ∧ w.cell? ⟨D, 0, none⟩ = some (.int .i64 0)
theorem is_none (w : World) (v : Value) (h : NoDisk w v) : Calls Try.prog 39 #[v] w fun e w' => e = .returned (.bool false) ∧ w' = w := by
  rcases h with rfl | ⟨D, rfl, h0⟩
  · go_enter Try.func39, Try.ntmps39
    go_wp2
    go_ret
    exact ⟨rfl, rfl⟩
  · go_enter Try.func39, Try.ntmps39
    go_wp2
    go_ret
    exact ⟨rfl, rfl⟩
theorem asked_none (w : World) (v : Value) (h : NoDisk w v) (i : Int) : Calls Try.prog 40 #[v, .int .i64 i] w fun e w' => e = .returned (.int .i64 1) ∧ w' = w := by
  have HI := Lib.hid (is_none w v h)
  clear h
  go_enter Try.func40, Try.ntmps40
  go_wp2_with (go_at_call 39; refine HI.out.mono ?_; rintro e w1 ⟨rfl, rfl⟩)
  go_ret
  exact ⟨rfl, rfl⟩
theorem blocks_none (w : World) (v : Value) (h : NoDisk w v) : Calls Try.prog 26 #[v] w fun e w' => e = .returned (.int .i64 0) ∧ w' = w := by
  have HI := Lib.hid (is_none w v h)
  clear h
  go_enter Try.func26, Try.ntmps26
  go_wp2_with (go_at_call 39; refine HI.out.mono ?_; rintro e w1 ⟨rfl, rfl⟩)
  go_ret
  exact ⟨rfl, rfl⟩
theorem down_none (w : World) (v : Value) (h : NoDisk w v) : Calls Try.prog 17 #[v] w fun e w' => e = .returned (.bool false) ∧ w' = w := by
  have HI := Lib.hid (is_none w v h)
  clear h
  go_enter Try.func17, Try.ntmps17
  go_wp2_with (go_at_call 39; refine HI.out.mono ?_; rintro e w1 ⟨rfl, rfl⟩)
  go_ret
  exact ⟨rfl, rfl⟩
theorem arm_none (w : World) (v : Value) (h : NoDisk w v) (n : Int) : Calls Try.prog 14 #[v, .int .i64 n] w fun e w' => e = .returned (.tuple #[]) ∧ w' = w := by
  have HI := Lib.hid (is_none w v h)
  clear h
  go_enter Try.func14, Try.ntmps14
  go_wp2_with (go_at_call 39; refine HI.out.mono ?_; rintro e w1 ⟨rfl, rfl⟩)
  go_end0
  exact ⟨rfl, rfl⟩
theorem under_none (w : World) (v : Value) (h : NoDisk w v) : Calls Try.prog 20 #[v] w fun e w' => e = .returned (.slice none 0 0) ∧ w' = w := by
  have HI := Lib.hid (is_none w v h)
  clear h
  go_enter Try.func20, Try.ntmps20
  go_wp2_with (go_at_call 39; refine HI.out.mono ?_; rintro e w1 ⟨rfl, rfl⟩)
  go_ret
  exact ⟨rfl, rfl⟩
theorem write_none (w : World) (v : Value) (h : NoDisk w v) (i : Int) (va : Option Addr) (vn vc : Nat) : Calls Try.prog 15 #[v, .int .i64 i, .slice va vn vc] w fun e w' => e = .returned (.int .i64 1) ∧ w' = w := by
  have HI := Lib.hid (asked_none w v h i)
  clear h
  go_enter Try.func15, Try.ntmps15
  go_wp2_with (go_at_call 40; refine HI.out.mono ?_; rintro e w1 ⟨rfl, rfl⟩)
  go_ret
  exact ⟨rfl, rfl⟩
theorem flush_none (w : World) (v : Value) (h : NoDisk w v) : Calls Try.prog 16 #[v] w fun e w' => e = .returned (.int .i64 1) ∧ w' = w := by
  have HI := Lib.hid (asked_none w v h 0)
  clear h
  go_enter Try.func16, Try.ntmps16
  go_wp2_with (go_at_call 40; refine HI.out.mono ?_; rintro e w1 ⟨rfl, rfl⟩)
  go_ret
  exact ⟨rfl, rfl⟩
theorem crash_none (w : World) (v : Value) (h : NoDisk w v) (fa : Option Addr) (fn fc : Nat) : Calls Try.prog 18 #[v, .slice fa fn fc] w fun e w' => e = .returned (.int .i64 1) ∧ w' = w := by
  have HI := Lib.hid (is_none w v h)
  clear h
  go_enter Try.func18, Try.ntmps18
  go_wp2_with (go_at_call 39; refine HI.out.mono ?_; rintro e w1 ⟨rfl, rfl⟩)
  go_ret
  exact ⟨rfl, rfl⟩
theorem read_none (w : World) (v : Value) (h : NoDisk w v) (i : Int) : Calls Try.prog 21 #[v, .int .i64 i] w fun e w' => e = .returned (.tuple #[.slice none 0 0, .int .i64 1]) ∧ w' = w := by
  have HI := Lib.hid (asked_none w v h i)
  clear h
  go_enter Try.func21, Try.ntmps21
  go_wp2_with (go_at_call 40; refine HI.out.mono ?_; rintro e w1 ⟨rfl, rfl⟩)
  go_ret2
  exact ⟨rfl, rfl⟩
theorem safe_none (w : World) (v : Value) (h : NoDisk w v) (i : Int) : Calls Try.prog 23 #[v, .int .i64 i] w fun e w' => e = .returned (.tuple #[.slice none 0 0, .int .i64 1]) ∧ w' = w := by
  have HI := Lib.hid (is_none w v h)
  clear h
  go_enter Try.func23, Try.ntmps23
  go_wp2_with (go_at_call 39; refine HI.out.mono ?_; rintro e w1 ⟨rfl, rfl⟩)
  go_ret2
  exact ⟨rfl, rfl⟩
end Go.Proofs.Ytcnhjbipncledaa
