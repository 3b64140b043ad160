/- The things of chapter 12's statements: a thing is written. -/
import Derived.Test.YtajnhmkkgngbhaaThing
namespace Go.Proofs.Ytajnhmkkgngbhaa
open Go.RowKit
open Pack (form zig leB un eight formI formT formL room)

/-- A thing's form, by the document. -/
def formOf (t : Th) : List (BitVec 8) :=
  if t.kind = 1 then form t.u else if t.kind = 2 then formI t.n else if t.kind = 3 then eight t.x else if t.kind = 4 then formT t.b else if t.kind = 5 then formL formI t.l else if t.kind = 6 then formL eight t.f else []
/-- What a writer has behind a thing. -/
def wOf (st : List (BitVec 8) × Bool) (t : Th) : List (BitVec 8) × Bool := if 1 ≤ t.kind ∧ t.kind ≤ 6 then room st (formOf t) else st
theorem WPost.of {p k : Option Nat} {st st0 : List (BitVec 8) × Bool} {w w1 : World} {x : Ending} {w' : World} (h : WPost p k st w1 x w') (hp : WPre p k st0 w) (hb : Below w.heap.size w w1) : WPost p k st w x w' := by
  obtain ⟨hr, h⟩ := h
  refine ⟨hr, ?_⟩
  cases p with
  | none => exact hb.trans (Below.mono h hb.size)
  | some W => exact ⟨h.1, (hb.mono (Nat.le_of_lt (WrAt.lt hp).1)).trans h.2.1, (Chg.of_below hb).trans h.2.2⟩
theorem WPost.same {p k : Option Nat} {st : List (BitVec 8) × Bool} {w w1 : World} {r : Value} (hp : WPre p k st w) (hb : Below w.heap.size w w1) : WPost p k st w (.returned r) w1 := by
  refine ⟨⟨_, rfl⟩, ?_⟩
  cases p with
  | none => exact hb
  | some W => exact ⟨(WrAt.below hp hb).is, hb.mono (Nat.le_of_lt (WrAt.lt hp).1), Chg.of_below hb⟩
/-- Neither very long nor many. -/
def MidT (t : Th) : Prop := t.b.length ≤ 2000 ∧ t.l.length ≤ 2000 ∧ t.f.length ≤ 2000
theorem few_le {t : Th} (h : fewT t = true) : t.b.length ≤ 300 ∧ t.l.length ≤ 100 ∧ t.f.length ≤ 100 := by
  unfold fewT at h
  simpa [and_assoc] using h
theorem few_mid {t : Th} (h : fewT t = true) : MidT t := by
  have := few_le h
  unfold MidT
  omega

set_option maxHeartbeats 1000000 in
theorem write_1 (p k : Option Nat) (st : List (BitVec 8) × Bool) (t : Th) (pb pl pf : Option Addr) (nb cb nl cl nf cf : Nat) (w : World) (hW : WPre p k st w) (ht : ThIs w (.slice pb nb cb) (.slice pl nl cl) (.slice pf nf cf) t) (hf : MidT t) (hk : t.kind = 1) :
    Calls Try.prog 14 #[.agg #[.int .i64 1, .int .u64 t.u, .int .i64 t.n, .int .i64 t.x, .slice pb nb cb, .slice pl nl cl, .slice pf nf cf], ptrOf p] w (WPost p k (wOf st t) w) := by
  have hb0 : Below w.heap.size w (w.alloc (.cells #[.int .i64 1, .int .u64 t.u, .int .i64 t.n, .int .i64 t.x, .slice pb nb cb, .slice pl nl cl, .slice pf nf cf] 40)) := (Below.refl _ w).alloc (Nat.le_refl _) _
  have hfew : t.b.length ≤ 2000 ∧ t.l.length ≤ 2000 ∧ t.f.length ≤ 2000 := hf
  have ht' := ht.below hb0
  have hww : wOf st t = room st (form t.u) := by unfold wOf formOf; rw [if_pos (by omega), if_pos (by omega)]
  have HH := Lib.hid ((wr_uint p k st t.u _ (hW.below hb0) ht.u).mono fun x w' h => WPost.of h hW hb0)
  rw [hww]
  clear hww hb0 ht' ht hfew hf hk hW
  obtain ⟨q, hq⟩ : ∃ q, ptrOf p = .pointer q := ⟨_, rfl⟩
  rw [hq]
  rw [hq] at HH
  clear hq
  go_enter Try.func14, Try.ntmps14
  go_wp2_with fail
  refine HH.out.mono ?_
  intro e w2 hp
  obtain ⟨r, rfl⟩ := hp.1
  have HP := Lib.hid hp
  clear hp
  go_wp2_with fail
  go_end0
  exact ⟨⟨_, rfl⟩, HP.out.2⟩

set_option maxHeartbeats 1000000 in
theorem write_2 (p k : Option Nat) (st : List (BitVec 8) × Bool) (t : Th) (pb pl pf : Option Addr) (nb cb nl cl nf cf : Nat) (w : World) (hW : WPre p k st w) (ht : ThIs w (.slice pb nb cb) (.slice pl nl cl) (.slice pf nf cf) t) (hf : MidT t) (hk : t.kind = 2) :
    Calls Try.prog 14 #[.agg #[.int .i64 2, .int .u64 t.u, .int .i64 t.n, .int .i64 t.x, .slice pb nb cb, .slice pl nl cl, .slice pf nf cf], ptrOf p] w (WPost p k (wOf st t) w) := by
  have hb0 : Below w.heap.size w (w.alloc (.cells #[.int .i64 2, .int .u64 t.u, .int .i64 t.n, .int .i64 t.x, .slice pb nb cb, .slice pl nl cl, .slice pf nf cf] 40)) := (Below.refl _ w).alloc (Nat.le_refl _) _
  have hfew : t.b.length ≤ 2000 ∧ t.l.length ≤ 2000 ∧ t.f.length ≤ 2000 := hf
  have ht' := ht.below hb0
  have hww : wOf st t = room st (formI t.n) := by unfold wOf formOf; rw [if_pos (by omega), if_neg (by omega), if_pos (by omega)]
  have HH := Lib.hid ((wr_int p k st t.n _ (hW.below hb0) ht.n).mono fun x w' h => WPost.of h hW hb0)
  rw [hww]
  clear hww hb0 ht' ht hfew hf hk hW
  obtain ⟨q, hq⟩ : ∃ q, ptrOf p = .pointer q := ⟨_, rfl⟩
  rw [hq]
  rw [hq] at HH
  clear hq
  go_enter Try.func14, Try.ntmps14
  go_wp2_with fail
  refine HH.out.mono ?_
  intro e w2 hp
  obtain ⟨r, rfl⟩ := hp.1
  have HP := Lib.hid hp
  clear hp
  go_wp2_with fail
  go_end0
  exact ⟨⟨_, rfl⟩, HP.out.2⟩

set_option maxHeartbeats 1000000 in
theorem write_3 (p k : Option Nat) (st : List (BitVec 8) × Bool) (t : Th) (pb pl pf : Option Addr) (nb cb nl cl nf cf : Nat) (w : World) (hW : WPre p k st w) (ht : ThIs w (.slice pb nb cb) (.slice pl nl cl) (.slice pf nf cf) t) (hf : MidT t) (hk : t.kind = 3) :
    Calls Try.prog 14 #[.agg #[.int .i64 3, .int .u64 t.u, .int .i64 t.n, .int .i64 t.x, .slice pb nb cb, .slice pl nl cl, .slice pf nf cf], ptrOf p] w (WPost p k (wOf st t) w) := by
  have hb0 : Below w.heap.size w (w.alloc (.cells #[.int .i64 3, .int .u64 t.u, .int .i64 t.n, .int .i64 t.x, .slice pb nb cb, .slice pl nl cl, .slice pf nf cf] 40)) := (Below.refl _ w).alloc (Nat.le_refl _) _
  have hfew : t.b.length ≤ 2000 ∧ t.l.length ≤ 2000 ∧ t.f.length ≤ 2000 := hf
  have ht' := ht.below hb0
  have hww : wOf st t = room st (eight t.x) := by unfold wOf formOf; rw [if_pos (by omega), if_neg (by omega), if_neg (by omega), if_pos (by omega)]
  have HH := Lib.hid ((wr_fix p k st t.x _ (hW.below hb0)).mono fun x w' h => WPost.of h hW hb0)
  rw [hww]
  clear hww hb0 ht' ht hfew hf hk hW
  obtain ⟨q, hq⟩ : ∃ q, ptrOf p = .pointer q := ⟨_, rfl⟩
  rw [hq]
  rw [hq] at HH
  clear hq
  go_enter Try.func14, Try.ntmps14
  go_wp2_with fail
  refine HH.out.mono ?_
  intro e w2 hp
  obtain ⟨r, rfl⟩ := hp.1
  have HP := Lib.hid hp
  clear hp
  go_wp2_with fail
  go_end0
  exact ⟨⟨_, rfl⟩, HP.out.2⟩

set_option maxHeartbeats 1000000 in
theorem write_4 (p k : Option Nat) (st : List (BitVec 8) × Bool) (t : Th) (pb pl pf : Option Addr) (nb cb nl cl nf cf : Nat) (w : World) (hW : WPre p k st w) (ht : ThIs w (.slice pb nb cb) (.slice pl nl cl) (.slice pf nf cf) t) (hf : MidT t) (hk : t.kind = 4) :
    Calls Try.prog 14 #[.agg #[.int .i64 4, .int .u64 t.u, .int .i64 t.n, .int .i64 t.x, .slice pb nb cb, .slice pl nl cl, .slice pf nf cf], ptrOf p] w (WPost p k (wOf st t) w) := by
  have hb0 : Below w.heap.size w (w.alloc (.cells #[.int .i64 4, .int .u64 t.u, .int .i64 t.n, .int .i64 t.x, .slice pb nb cb, .slice pl nl cl, .slice pf nf cf] 40)) := (Below.refl _ w).alloc (Nat.le_refl _) _
  have hfew : t.b.length ≤ 2000 ∧ t.l.length ≤ 2000 ∧ t.f.length ≤ 2000 := hf
  have ht' := ht.below hb0
  have hww : wOf st t = room st (formT t.b) := by unfold wOf formOf; rw [if_pos (by omega), if_neg (by omega), if_neg (by omega), if_neg (by omega), if_pos (by omega)]
  have HH := Lib.hid ((wr_bytes p k st t.b _ _ (hW.below hb0) ht'.b (by omega)).mono fun x w' h => WPost.of h hW hb0)
  rw [hww]
  clear hww hb0 ht' ht hfew hf hk hW
  obtain ⟨q, hq⟩ : ∃ q, ptrOf p = .pointer q := ⟨_, rfl⟩
  rw [hq]
  rw [hq] at HH
  clear hq
  go_enter Try.func14, Try.ntmps14
  go_wp2_with fail
  refine HH.out.mono ?_
  intro e w2 hp
  obtain ⟨r, rfl⟩ := hp.1
  have HP := Lib.hid hp
  clear hp
  go_wp2_with fail
  go_end0
  exact ⟨⟨_, rfl⟩, HP.out.2⟩

set_option maxHeartbeats 1000000 in
theorem write_5 (p k : Option Nat) (st : List (BitVec 8) × Bool) (t : Th) (pb pl pf : Option Addr) (nb cb nl cl nf cf : Nat) (w : World) (hW : WPre p k st w) (ht : ThIs w (.slice pb nb cb) (.slice pl nl cl) (.slice pf nf cf) t) (hf : MidT t) (hk : t.kind = 5) :
    Calls Try.prog 14 #[.agg #[.int .i64 5, .int .u64 t.u, .int .i64 t.n, .int .i64 t.x, .slice pb nb cb, .slice pl nl cl, .slice pf nf cf], ptrOf p] w (WPost p k (wOf st t) w) := by
  have hb0 : Below w.heap.size w (w.alloc (.cells #[.int .i64 5, .int .u64 t.u, .int .i64 t.n, .int .i64 t.x, .slice pb nb cb, .slice pl nl cl, .slice pf nf cf] 40)) := (Below.refl _ w).alloc (Nat.le_refl _) _
  have hfew : t.b.length ≤ 2000 ∧ t.l.length ≤ 2000 ∧ t.f.length ≤ 2000 := hf
  have ht' := ht.below hb0
  have hww : wOf st t = room st (formL formI t.l) := by unfold wOf formOf; rw [if_pos (by omega), if_neg (by omega), if_neg (by omega), if_neg (by omega), if_neg (by omega), if_pos (by omega)]
  have HH := Lib.hid ((wr_Ints p k st t.l _ _ (hW.below hb0) ht'.li (by omega) ht.l).mono fun x w' h => WPost.of h hW hb0)
  rw [hww]
  clear hww hb0 ht' ht hfew hf hk hW
  obtain ⟨q, hq⟩ : ∃ q, ptrOf p = .pointer q := ⟨_, rfl⟩
  rw [hq]
  rw [hq] at HH
  clear hq
  go_enter Try.func14, Try.ntmps14
  go_wp2_with fail
  refine HH.out.mono ?_
  intro e w2 hp
  obtain ⟨r, rfl⟩ := hp.1
  have HP := Lib.hid hp
  clear hp
  go_wp2_with fail
  go_end0
  exact ⟨⟨_, rfl⟩, HP.out.2⟩

set_option maxHeartbeats 1000000 in
theorem write_6 (p k : Option Nat) (st : List (BitVec 8) × Bool) (t : Th) (pb pl pf : Option Addr) (nb cb nl cl nf cf : Nat) (w : World) (hW : WPre p k st w) (ht : ThIs w (.slice pb nb cb) (.slice pl nl cl) (.slice pf nf cf) t) (hf : MidT t) (hk : t.kind = 6) :
    Calls Try.prog 14 #[.agg #[.int .i64 6, .int .u64 t.u, .int .i64 t.n, .int .i64 t.x, .slice pb nb cb, .slice pl nl cl, .slice pf nf cf], ptrOf p] w (WPost p k (wOf st t) w) := by
  have hb0 : Below w.heap.size w (w.alloc (.cells #[.int .i64 6, .int .u64 t.u, .int .i64 t.n, .int .i64 t.x, .slice pb nb cb, .slice pl nl cl, .slice pf nf cf] 40)) := (Below.refl _ w).alloc (Nat.le_refl _) _
  have hfew : t.b.length ≤ 2000 ∧ t.l.length ≤ 2000 ∧ t.f.length ≤ 2000 := hf
  have ht' := ht.below hb0
  have hww : wOf st t = room st (formL eight t.f) := by unfold wOf formOf; rw [if_pos (by omega), if_neg (by omega), if_neg (by omega), if_neg (by omega), if_neg (by omega), if_neg (by omega), if_pos (by omega)]
  have HH := Lib.hid ((wr_Fixes p k st t.f _ _ (hW.below hb0) ht'.fi (by omega)).mono fun x w' h => WPost.of h hW hb0)
  rw [hww]
  clear hww hb0 ht' ht hfew hf hk hW
  obtain ⟨q, hq⟩ : ∃ q, ptrOf p = .pointer q := ⟨_, rfl⟩
  rw [hq]
  rw [hq] at HH
  clear hq
  go_enter Try.func14, Try.ntmps14
  go_wp2_with fail
  refine HH.out.mono ?_
  intro e w2 hp
  obtain ⟨r, rfl⟩ := hp.1
  have HP := Lib.hid hp
  clear hp
  go_wp2_with fail
  go_end0
  exact ⟨⟨_, rfl⟩, HP.out.2⟩

set_option maxHeartbeats 1000000 in
theorem write_other (p k : Option Nat) (st : List (BitVec 8) × Bool) (t : Th) (pb pl pf : Option Addr) (nb cb nl cl nf cf : Nat) (w : World) (hW : WPre p k st w) (hk : ¬ (1 ≤ t.kind ∧ t.kind ≤ 6)) :
    Calls Try.prog 14 #[.agg #[.int .i64 t.kind, .int .u64 t.u, .int .i64 t.n, .int .i64 t.x, .slice pb nb cb, .slice pl nl cl, .slice pf nf cf], ptrOf p] w (WPost p k (wOf st t) w) := by
  have hww : wOf st t = st := by unfold wOf; rw [if_neg hk]
  rw [hww]
  obtain ⟨kd, hkk⟩ : ∃ kd, t.kind = kd := ⟨_, rfl⟩
  rw [hkk] at hk ⊢
  have g1 : (kd == 1) = false := by rw [beq_eq_false_iff_ne]; omega
  have g2 : (kd == 2) = false := by rw [beq_eq_false_iff_ne]; omega
  have g3 : (kd == 3) = false := by rw [beq_eq_false_iff_ne]; omega
  have g4 : (kd == 4) = false := by rw [beq_eq_false_iff_ne]; omega
  have g5 : (kd == 5) = false := by rw [beq_eq_false_iff_ne]; omega
  have g6 : (kd == 6) = false := by rw [beq_eq_false_iff_ne]; omega
  have HW := Lib.hid hW
  clear hww hk hkk hW
  obtain ⟨q, hq⟩ : ∃ q, ptrOf p = .pointer q := ⟨_, rfl⟩
  rw [hq]
  clear hq
  go_enter Try.func14, Try.ntmps14
  go_wp2_with fail
  go_end0
  exact WPost.same HW.out ((Below.refl _ w).alloc (Nat.le_refl _) _)
theorem write_any (p k : Option Nat) (st : List (BitVec 8) × Bool) (t : Th) (pb pl pf : Option Addr) (nb cb nl cl nf cf : Nat) (w : World) (hW : WPre p k st w) (ht : ThIs w (.slice pb nb cb) (.slice pl nl cl) (.slice pf nf cf) t) (hf : MidT t) :
    Calls Try.prog 14 #[.agg #[.int .i64 t.kind, .int .u64 t.u, .int .i64 t.n, .int .i64 t.x, .slice pb nb cb, .slice pl nl cl, .slice pf nf cf], ptrOf p] w (WPost p k (wOf st t) w) := by
  by_cases h : 1 ≤ t.kind ∧ t.kind ≤ 6
  · have hc : t.kind = 1 ∨ t.kind = 2 ∨ t.kind = 3 ∨ t.kind = 4 ∨ t.kind = 5 ∨ t.kind = 6 := by omega
    rcases hc with hk | hk | hk | hk | hk | hk
    · rw [hk]; exact write_1 p k st t pb pl pf nb cb nl cl nf cf w hW ht hf hk
    · rw [hk]; exact write_2 p k st t pb pl pf nb cb nl cl nf cf w hW ht hf hk
    · rw [hk]; exact write_3 p k st t pb pl pf nb cb nl cl nf cf w hW ht hf hk
    · rw [hk]; exact write_4 p k st t pb pl pf nb cb nl cl nf cf w hW ht hf hk
    · rw [hk]; exact write_5 p k st t pb pl pf nb cb nl cl nf cf w hW ht hf hk
    · rw [hk]; exact write_6 p k st t pb pl pf nb cb nl cl nf cf w hW ht hf hk
  · exact write_other p k st t pb pl pf nb cb nl cl nf cf w hW h
end Go.Proofs.Ytajnhmkkgngbhaa
