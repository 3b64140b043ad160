/- regattalaw15.step, walked: Flush, Arm, Crash, and what is no act. -/
import Derived.Test.YtcnhjbipncledaaRkW6
import Derived.Test.YtcnhjbipncledaaFates15
import Derived.Test.YtcnhjbipncledaaOpsM
namespace Go.Proofs.Ytcnhjbipncledaa
open Go.RowKit

/-- Both disks, of one state, apart from one another and above B. -/
def Both (w : World) (B D R : Nat) (s : Dk) : Prop := ∃ F, DiskF w D F s ∧ RkIs w B F R s ∧ ∀ x ∈ F, B ≤ x
def Dk.act (s : Dk) (t : DOp) : Dk :=
  if t.kind = 1 then (s.write t.i t.b).1 else if t.kind = 3 then s.flush.1 else if t.kind = 4 then s.arm t.i else if t.kind = 5 then s.crash t.fs else s
theorem Off.mono {B : Nat} {F F' : List Nat} {a b : World} (h : Off B F a b) (hs : ∀ x ∈ F', x ∈ F) : Off B F' a b :=
  ⟨h.os, h.tape, h.output, h.size, fun k hk hn => h.block k hk (by rcases hn with h | h; exact .inl h; exact .inr (hs k h))⟩
theorem RkIs.drop {w : World} {B : Nat} {F F' : List Nat} {R : Nat} {s : Dk} (h : RkIs w B F R s) (hs : ∀ x ∈ F', x ∈ F) : RkIs w B F' R s := h.turn (Chg.refl _ _) (fun x hx => .inl (hs x hx))
theorem RkIs.size {w : World} {B : Nat} {F : List Nat} {R : Nat} {s : Dk} (h : RkIs w B F R s) : B ≤ w.heap.size := by
  obtain ⟨vb, vu, h⟩ := h
  exact h.lt.2
theorem Both.below {w w' : World} {B D R : Nat} {s : Dk} (h : Both w B D R s) (hb : Below w.heap.size w w') : Both w' B D R s := by
  obtain ⟨F, h1, h2, h3⟩ := h
  exact ⟨F, h1.below hb, h2.below hb, h3⟩
theorem Both.size {w : World} {B D R : Nat} {s : Dk} (h : Both w B D R s) : B ≤ w.heap.size := by
  obtain ⟨F, h1, h2, h3⟩ := h
  exact h2.size
/-- Where an act was given: its bytes and its fates lie below B, and stay. -/
structure ActIn (B : Nat) (w : World) (pb : Option Addr) (nb cb : Nat) (pf : Option Addr) (nf cf : Nat) (t : DOp) : Prop where
  bytes : ∀ w', Below B w w' → IsBytes w' (.slice pb nb cb) t.b
  fates : ∀ w', Below B w w' → IsFates w' (.slice pf nf cf) t.fs
  low : ∀ b c n, Value.slice pf nf cf = .slice (some b) n c → t.fs ≠ [] → b.block < B
  num : -9223372036854775808 ≤ t.i ∧ t.i ≤ 9223372036854775807
theorem ActIn.of {w0 w : World} {pb pf : Option Addr} {nb cb nf cf : Nat} {t : DOp} (hb : Below w0.heap.size w0 w) (h1 : IsBytes w0 (.slice pb nb cb) t.b) (h2 : IsFates w0 (.slice pf nf cf) t.fs) (h3 : -9223372036854775808 ≤ t.i ∧ t.i ≤ 9223372036854775807) : ActIn w0.heap.size w pb nb cb pf nf cf t :=
  ⟨fun _ h => h1.below (hb.trans h), fun _ h => h2.below (hb.trans h), fun b c n e h0 => h2.lt h0 b c n e, h3⟩
set_option maxRecDepth 100000 in
set_option maxHeartbeats 4000000 in
theorem step15_flush (w : World) (B D R : Nat) (s : Dk) (ti : Int) (tb : List B8) (tf : List (Int × Int)) (pb pf : Option Addr) (nb cb nf cf : Nat) (h : Both w B D R s) (hu : s.under.length ≤ 1000000) :
    Calls Try.prog 27 #[.pointer (some ⟨D, 0, none⟩), .pointer (some ⟨R, 0, none⟩), .agg #[.int .i64 3, .int .i64 ti, .slice pb nb cb, .slice pf nf cf]] w fun e w' => e = .returned (.bool true) ∧ Both w' B D R (s.act ⟨3, ti, tb, tf⟩) ∧ Below B w w' := by
  obtain ⟨F, hd, hr, hF⟩ := h
  have HD := Lib.hid hd
  have HR := Lib.hid hr
  have HF := Lib.hid hF
  have HU := Lib.hid hu
  clear hd hr hF hu
  go_enter Try.func27, Try.ntmps27
  go_wp2_with fail
  refine (flush_rk _ B F R s (HR.out.below ((Below.refl _ _).alloc (Nat.le_refl _) _)) HU.out).mono ?_
  rintro e w2 ⟨rfl, hr2, ho2⟩
  have hw2 : Off B F w w2 := (Off.of_below ((Below.refl _ _).alloc (Nat.le_refl _) _)).trans ho2
  have HO2 := Lib.hid hw2
  have HR2 := Lib.hid hr2
  have HD2 := Lib.hid (HD.out.off hw2)
  clear hw2 hr2 ho2
  go_wp2_with fail
  refine (flushF _ D F s HD2.out).mono ?_
  rintro e w3 ⟨rfl, ⟨F3, hd3, gr3⟩, hc3⟩
  have FIN : Hid (Both w3 B D R s.flush.1 ∧ Below B w w3) := by
    refine ⟨⟨F3, hd3, HR2.out.turn hc3 gr3, gr3.above (Nat.le_trans HR.out.size HO2.out.size) HF.out⟩, (HO2.out.below HR.out.size).trans (hc3.below (Nat.le_trans HR.out.size HO2.out.size) HF.out)⟩
  clear hd3 gr3 hc3
  go_wp2
  go_ret
  exact ⟨rfl, FIN.out⟩
set_option maxRecDepth 100000 in
set_option maxHeartbeats 4000000 in
theorem step15_arm (w : World) (B D R : Nat) (s : Dk) (ti : Int) (tb : List B8) (tf : List (Int × Int)) (pb pf : Option Addr) (nb cb nf cf : Nat) (h : Both w B D R s) (hi : -9223372036854775808 ≤ ti ∧ ti ≤ 9223372036854775807) :
    Calls Try.prog 27 #[.pointer (some ⟨D, 0, none⟩), .pointer (some ⟨R, 0, none⟩), .agg #[.int .i64 4, .int .i64 ti, .slice pb nb cb, .slice pf nf cf]] w fun e w' => e = .returned (.bool true) ∧ Both w' B D R (s.act ⟨4, ti, tb, tf⟩) ∧ Below B w w' := by
  obtain ⟨F, hd, hr, hF⟩ := h
  have HD := Lib.hid hd
  have HR := Lib.hid hr
  have HF := Lib.hid hF
  have HI := Lib.hid hi
  clear hd hr hF hi
  go_enter Try.func27, Try.ntmps27
  go_wp2_with fail
  refine (armF _ D F s (HD.out.alloc _) ti HI.out.2).mono ?_
  rintro e w2 ⟨rfl, hd2, hc2⟩
  have hb1 : Below w.heap.size w (w.alloc (.cells #[.int .i64 4, .int .i64 ti, .slice pb nb cb, .slice pf nf cf] 44)) := (Below.refl _ _).alloc (Nat.le_refl _) _
  have k1 : w2.cell? ⟨w.heap.size, 1, none⟩ = some (.int .i64 ti) := (hc2.cell _ 1 (by simp) (fun hx => by have := HD.out.lt _ hx; omega)).trans ((cell_of_row _ _ 1 #[.int .i64 4, .int .i64 ti, .slice pb nb cb, .slice pf nf cf] _ (0, 0) (heap_alloc_new w _)).trans rfl)
  have HR2 : Hid (RkIs w2 B F R s) := (HR.out.below hb1).turn hc2 (Grow.refl _ _)
  have HB2 : Hid (Below B w w2) := (hb1.mono HR.out.size).trans (hc2.below (Nat.le_trans HR.out.size hb1.size) HF.out)
  have HD2 := Lib.hid hd2
  clear hd2 hc2 hb1
  go_wp2_with fail
  refine (arm_rk w2 B F R s HR2.out ti HI.out).mono ?_
  rintro e w3 ⟨rfl, hr3, ho3⟩
  have FIN : Hid (Both w3 B D R (s.arm ti) ∧ Below B w w3) := ⟨⟨F, HD2.out.off ho3, hr3, HF.out⟩, HB2.out.trans (ho3.below HR2.out.size)⟩
  clear hr3 ho3 k1
  go_wp2
  go_ret
  exact ⟨rfl, FIN.out⟩
set_option maxRecDepth 100000 in
set_option maxHeartbeats 4000000 in
theorem step15_crash (w : World) (B D R : Nat) (s : Dk) (ti : Int) (tb : List B8) (tf : List (Int × Int)) (pb pf : Option Addr) (nb cb nf cf : Nat) (h : Both w B D R s) (ha : ActIn B w pb nb cb pf nf cf ⟨5, ti, tb, tf⟩) (hu : s.under.length ≤ 1000000) (hl : tf.length ≤ 1000000) :
    Calls Try.prog 27 #[.pointer (some ⟨D, 0, none⟩), .pointer (some ⟨R, 0, none⟩), .agg #[.int .i64 5, .int .i64 ti, .slice pb nb cb, .slice pf nf cf]] w fun e w' => e = .returned (.bool true) ∧ Both w' B D R (s.act ⟨5, ti, tb, tf⟩) ∧ Below B w w' := by
  obtain ⟨F, hd, hr, hF⟩ := h
  have HD := Lib.hid hd
  have HR := Lib.hid hr
  have HF := Lib.hid hF
  have HA := Lib.hid ha
  have HU := Lib.hid hu
  have HL := Lib.hid hl
  clear hd hr hF ha hu hl
  go_enter Try.func27, Try.ntmps27
  go_wp2_with fail
  have hb1 : Below w.heap.size w (w.alloc (.cells #[.int .i64 5, .int .i64 ti, .slice pb nb cb, .slice pf nf cf] 44)) := (Below.refl _ _).alloc (Nat.le_refl _) _
  refine (crashF _ D F s (HD.out.alloc _) _ tf (HA.out.fates _ (hb1.mono HR.out.size)) (fun b c n e h0 hx => by have h1 := HA.out.low b c n e h0; have h2 := HF.out _ hx; omega)).mono ?_
  rintro e w2 ⟨rfl, ⟨F2, hd2, gr2⟩, hc2⟩
  have k1 : w2.cell? ⟨w.heap.size, 3, none⟩ = some (.slice pf nf cf) := (hc2.cell _ 3 (by simp) (fun hx => by have := HD.out.lt _ hx; omega)).trans ((cell_of_row _ _ 3 #[.int .i64 5, .int .i64 ti, .slice pb nb cb, .slice pf nf cf] _ (0, 0) (heap_alloc_new w _)).trans rfl)
  have HR2 : Hid (RkIs w2 B F2 R s) := (HR.out.below hb1).turn hc2 gr2
  have HB2 : Hid (Below B w w2) := (hb1.mono HR.out.size).trans (hc2.below (Nat.le_trans HR.out.size hb1.size) HF.out)
  have HF2 : Hid (∀ x ∈ F2, B ≤ x) := gr2.above (Nat.le_trans HR.out.size hb1.size) HF.out
  have HD2 := Lib.hid hd2
  clear hd2 hc2 hb1 gr2
  go_wp2_with fail
  refine (fates15_any _ tf w2 (HA.out.fates _ HB2.out) HL.out).mono ?_
  rintro e w3 ⟨v3, rfl, hp3, hb3⟩
  obtain ⟨hf3, hbk⟩ := hp3.fates
  obtain ⟨za, zn, zc, rfl⟩ : ∃ a n c, v3 = .slice a n c := (by obtain ⟨a, c, h⟩ := hp3.form_; exact ⟨a, _, c, h⟩)
  have hown : ∀ y, (Value.slice za zn zc).ownBlock = some y → w2.heap.size ≤ y ∧ y < w3.heap.size := fun y hy => by
    cases za with
    | none => cases hy
    | some b => injection hy with hy; subst hy; exact hbk b zn zc rfl
  have HR3 : Hid (RkIs w3 B ((Value.slice za zn zc).ownBlock.toList ++ F2) R s) := HR2.out.turn (Chg.of_below hb3) (fun y hy => by
    rcases List.mem_append.1 hy with hy | hy
    · exact .inr (hown y (by simpa using hy)).1
    · exact .inl hy)
  have HD3 := Lib.hid (HD2.out.below hb3)
  have HB3 : Hid (Below B w w3) := HB2.out.trans (hb3.mono HR2.out.size)
  have HX : Hid (∀ x ∈ (Value.slice za zn zc).ownBlock.toList ++ F2, x < w3.heap.size) := fun x hx => by
    rcases List.mem_append.1 hx with hx | hx
    · exact (hown x (by simpa using hx)).2
    · exact HD3.out.lt x hx
  have HF3 := Lib.hid hf3
  clear hp3 hb3 hbk hown hf3 k1
  go_wp2_with fail
  refine (crash_rk w3 B _ R s HR3.out HX.out _ tf HF3.out (fun b c n e _ => .inr (by
    injection e with e _ _
    subst e
    simp [Value.ownBlock])) HU.out).mono ?_
  rintro e w4 ⟨rfl, hr4, ho4⟩
  have FIN : Hid (Both w4 B D R (s.crash tf) ∧ Below B w w4) := ⟨⟨F2, HD3.out.off (ho4.mono (fun x hx => List.mem_append.2 (.inr hx))), hr4.drop (fun x hx => List.mem_append.2 (.inr hx)), HF2.out⟩, HB3.out.trans (ho4.below HR3.out.size)⟩
  clear hr4 ho4
  go_wp2
  go_ret
  exact ⟨rfl, FIN.out⟩
set_option maxRecDepth 100000 in
set_option maxHeartbeats 4000000 in
theorem step15_none (w : World) (B D R : Nat) (s : Dk) (t : DOp) (pb pf : Option Addr) (nb cb nf cf : Nat) (h : Both w B D R s) (h1 : t.kind ≠ 1) (h2 : t.kind ≠ 2) (h3 : t.kind ≠ 3) (h4 : t.kind ≠ 4) (h5 : t.kind ≠ 5) (h6 : t.kind ≠ 6) (h7 : t.kind ≠ 7) :
    Calls Try.prog 27 #[.pointer (some ⟨D, 0, none⟩), .pointer (some ⟨R, 0, none⟩), .agg #[.int .i64 t.kind, .int .i64 t.i, .slice pb nb cb, .slice pf nf cf]] w fun e w' => e = .returned (.bool true) ∧ Both w' B D R (s.act t) ∧ Below B w w' := by
  have e : s.act t = s := by unfold Dk.act; rw [if_neg h1, if_neg h3, if_neg h4, if_neg h5]
  rw [e]
  have FIN := Lib.hid (And.intro (h.below ((Below.refl _ w).alloc (Nat.le_refl _) (.cells #[.int .i64 t.kind, .int .i64 t.i, .slice pb nb cb, .slice pf nf cf] 44))) ((Below.refl B w).alloc h.size (.cells #[.int .i64 t.kind, .int .i64 t.i, .slice pb nb cb, .slice pf nf cf] 44)))
  have k1 : (t.kind == 1) = false := by rw [beq_eq_false_iff_ne]; exact h1
  have k2 : (t.kind == 2) = false := by rw [beq_eq_false_iff_ne]; exact h2
  have k3 : (t.kind == 3) = false := by rw [beq_eq_false_iff_ne]; exact h3
  have k4 : (t.kind == 4) = false := by rw [beq_eq_false_iff_ne]; exact h4
  have k5 : (t.kind == 5) = false := by rw [beq_eq_false_iff_ne]; exact h5
  have k6 : (t.kind == 6) = false := by rw [beq_eq_false_iff_ne]; exact h6
  have k7 : (t.kind == 7) = false := by rw [beq_eq_false_iff_ne]; exact h7
  clear h h1 h2 h3 h4 h5 h6 h7 e
  go_enter Try.func27, Try.ntmps27
  go_wp2
  go_ret
  exact ⟨rfl, FIN.out⟩
end Go.Proofs.Ytcnhjbipncledaa
