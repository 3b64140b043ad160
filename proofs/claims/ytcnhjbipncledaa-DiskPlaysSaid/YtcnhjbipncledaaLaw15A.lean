/- The chapter's example of layer 15, walked: regattalaw15.awake returns true. -/
import Derived.Test.YtcnhjbipncledaaDkF
import Derived.Test.YtcnhjbipncledaaFull
namespace Go.Proofs.Ytcnhjbipncledaa
open Go.RowKit

def d15 : Dk := (((Dk.fresh 2).lay 0 [97#8, 98#8]).flushed.lay 0 [120#8, 121#8, 122#8]).crash [(2, 1)]
theorem d15_read : d15.read 0 = (full [120#8, 98#8], 0) := by decide +kernel
theorem fates_one {w : World} {k n : Int} {x : Nat} {t : TypeId} (hx : w.heap.size = x) : IsFates (w.alloc (.cells #[.int .i64 k, .int .i64 n] t)) (.slice (some ⟨x, 0, none⟩) 1 1) [(k, n)] := by
  subst hx
  refine ⟨_, 1, rfl, Nat.le_refl _, by decide, .inr ⟨_, _, rfl, by simp, fun i k' n' hi => ?_⟩⟩
  match i, hi with
  | 0, hi =>
    simp at hi
    obtain ⟨rfl, rfl⟩ := hi
    constructor <;> simp
set_option maxRecDepth 10000 in
set_option maxHeartbeats 2000000 in
theorem awake15_any (w : World) :
    Calls Try.prog 12 #[] w fun e w' => e = .returned (.bool true) ∧ Below w.heap.size w w' := by
  have kc := fun (w : World) (C : Array Value) (n c : Nat) => conv0 (P := Try.prog) (t := 30) (e := 5) Try.underlying30 Try.underlying5 w C n c
  go_enter Try.func12, Try.ntmps12
  go_wp2_with fail
  refine (newF w 2 (by decide) (by decide)).mono ?_
  rintro e w1 ⟨rfl, ⟨F1, h1, g1⟩, b1⟩
  have H1 := Lib.hid h1
  have G1 := Lib.hid g1
  have B1 := Lib.hid b1
  clear h1 g1 b1
  go_wp2_with fail
  refine (writeF _ _ F1 (Dk.fresh 2) (H1.out.below ?_) 0 _ 2 2 [97#8, 98#8] (IsBytes.new rfl _ _ _ _ 2 rfl (by omega) rfl) (by decide)).mono ?_
  · exact (Below.refl _ _).alloc (Nat.le_refl _) _
  rintro e w2 ⟨rfl, ⟨F2, h2, gr2⟩, c2⟩
  rw [Dk.write_ok rfl (by decide) (by decide) (by decide) rfl] at h2 ⊢
  have B2 : Hid (Below w.heap.size w w2) := (B1.out.alloc B1.out.size _).trans (c2.below (by have := B1.out.size; simp; omega) G1.out)
  have G2 : Hid (∀ x ∈ F2, w.heap.size ≤ x) := gr2.above (by have := B1.out.size; simp; omega) G1.out
  have H2 := Lib.hid h2
  clear h2 gr2 c2 H1 G1
  go_wp2_with fail
  refine (flushF _ _ F2 _ H2.out).mono ?_
  rintro e w3 ⟨rfl, ⟨F3, h3, gr3⟩, c3⟩
  rw [Dk.flush_ok rfl rfl] at h3 ⊢
  have B3 : Hid (Below w.heap.size w w3) := B2.out.trans (c3.below B2.out.size G2.out)
  have G3 : Hid (∀ x ∈ F3, w.heap.size ≤ x) := gr3.above B2.out.size G2.out
  have H3 := Lib.hid h3
  clear h3 gr3 c3 H2 G2 B2
  go_wp2_with fail
  refine (writeF _ _ F3 _ (H3.out.below ?_) 0 _ 3 3 [120#8, 121#8, 122#8] (IsBytes.new rfl _ _ _ _ 3 rfl (by omega) rfl) (by decide)).mono ?_
  · exact (Below.refl _ _).alloc (Nat.le_refl _) _
  rintro e w4 ⟨rfl, ⟨F4, h4, gr4⟩, c4⟩
  rw [Dk.write_ok rfl (by decide) (by decide) (by decide) rfl] at h4 ⊢
  have B4 : Hid (Below w.heap.size w w4) := (B3.out.alloc B3.out.size _).trans (c4.below (by have := B3.out.size; simp; omega) G3.out)
  have G4 : Hid (∀ x ∈ F4, w.heap.size ≤ x) := gr4.above (by have := B3.out.size; simp; omega) G3.out
  have H4 := Lib.hid h4
  clear h4 gr4 c4 H3 G3 B3
  go_wp2_with fail
  refine (crashF _ _ F4 _ (H4.out.below ?_) _ [(2, 1)] (fates_one ?_) (fun b c n he _ hx => ?_)).mono ?_
  · exact (Below.refl _ _).alloc (Nat.le_refl _) _
  · rfl
  · injection he with he; injection he with he; subst he; have := H4.out.lt _ hx; simp at this
  rintro e w5 ⟨rfl, ⟨F5, h5, gr5⟩, c5⟩
  have B5 : Hid (Below w.heap.size w w5) := (B4.out.alloc B4.out.size _).trans (c5.below (by have := B4.out.size; simp; omega) G4.out)
  have H5 : Hid (DiskF w5 _ F5 d15) := h5
  clear h5 gr5 c5 H4 G4 B4
  go_wp2_with fail
  refine (readF _ _ F5 _ H5.out 0).mono ?_
  rintro e w6 ⟨v, rfl, hown, b6⟩
  rw [d15_read] at hown ⊢
  have HV6 : Hid (IsBytes w6 v (full [120#8, 98#8])) := hown.reads.bytes
  have B6 : Hid (Below w.heap.size w w6) := B5.out.trans (b6.mono B5.out.size)
  obtain ⟨va, vn, vc, rfl⟩ : ∃ a n c, v = .slice a n c := by obtain ⟨a, n, c, h, _⟩ := hown.form_; exact ⟨a, n, c, h⟩
  clear hown b6 H5 B5
  go_wp2_with fail
  refine (full_any _ [120#8, 98#8] _ (IsBytes.new rfl _ _ _ _ 2 rfl (by omega) rfl) (by decide)).mono ?_
  rintro e w7 ⟨v7, rfl, hown, b7⟩
  have HV7 : Hid (IsBytes w7 v7 (full [120#8, 98#8])) := hown.reads.bytes
  have HW7 : Hid (IsBytes w7 (.slice va vn vc) (full [120#8, 98#8])) := (HV6.out.alloc _).below b7
  have B7 : Hid (Below w.heap.size w w7) := (B6.out.alloc B6.out.size _).trans (b7.mono (by have := B6.out.size; simp; omega))
  obtain ⟨ua, un, uc, rfl⟩ : ∃ a n c, v7 = .slice a n c := by obtain ⟨a, n, c, h, _⟩ := hown.form_; exact ⟨a, n, c, h⟩
  clear hown b7 B6 HV6
  go_wp2_with fail
  refine (same_any _ _ (full [120#8, 98#8]) (full [120#8, 98#8]) _ HW7.out HV7.out).mono ?_
  rintro e w8 ⟨rfl, n8, rfl⟩
  rw [decide_eq_true rfl]
  go_wp2
  go_ret
  exact ⟨rfl, below_drewN B7.out _⟩
end Go.Proofs.Ytcnhjbipncledaa
