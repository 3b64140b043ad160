/- The chapter's example of layer 12, walked: regattalaw12.awake returns true. -/
import Derived.Test.YtajnhmkkgngbhaaPackX
import Derived.Test.YtajnhmkkgngbhaaPackT
namespace Go.Proofs.Ytajnhmkkgngbhaa
open Go.RowKit
open Pack (Got cnt form formI room)

theorem WrAt.new {w : World} {k : Nat} (hk : w.heap.size = k) : WrAt (w.alloc (.cells #[.slice none 0 0, .bool false] 26)) k none ([], false) := by
  subst hk
  exact ⟨none, 0, 0, rfl, ⟨by simp, by simp, by simp, by simp, by simp⟩, Own.nil_ (by simp), rfl, by omega⟩
theorem WrIs.ptr (W : Nat) : ptrOf (some W) = .pointer (some ⟨W, 0, none⟩) := rfl
def e12 : List (BitVec 8) := [172#8, 2#8, 1#8]
theorem e12_is : room (room ([], false) (form 300)) (formI (-1)) = (e12, false) := by decide +kernel
theorem c12_is : cnt [128#8, 0#8] = .no 121 := by rfl
set_option maxRecDepth 4000 in
set_option maxHeartbeats 1000000 in
theorem awake12_any (w : World) :
    Calls Try.prog 9 #[] w fun e w' => e = .returned (.bool true) ∧ Below w.heap.size w w' := by
  go_enter Try.func9, Try.ntmps9
  go_wp2_with fail
  refine (wr_uint (some w.heap.size) none _ 300 _ (WrAt.new rfl) (by omega)).mono ?_
  rintro e w1 ⟨⟨r, rfl⟩, h1, b1, _⟩
  obtain ⟨k1, hk1⟩ := h1.at_
  have HK1 := Lib.hid hk1
  have H1 := Lib.hid h1
  have B1 : Hid (Below w.heap.size w w1) := ((Below.refl _ w).alloc (Nat.le_refl _) _).trans b1
  have hs1 : w.heap.size < w1.heap.size := h1.lt
  clear h1 b1 hk1
  go_wp2_with fail
  refine (wr_int (some w.heap.size) k1 _ (-1) _ HK1.out (by omega)).mono ?_
  rintro e w2 ⟨⟨r2, rfl⟩, h2, b2, _⟩
  rw [e12_is] at h2
  have H2 := Lib.hid h2
  have B2 : Hid (Below w.heap.size w w2) := B1.out.trans b2
  clear h2 b2
  go_wp2_with fail
  refine (done_st w.heap.size e12 w2 H2.out).mono ?_
  rintro e w3 ⟨a3, m3, c3, rfl, h3, b3⟩
  have H3 := Lib.hid h3
  have AG : Hid (∀ p n c, Value.slice a3 m3 c3 = .slice (some p) n c → p.block < w3.heap.size) := fun p n c he => IsBytes.block_lt h3 (by decide) he
  have B3 : Hid (Below w.heap.size w w3) := B2.out.trans (b3.mono B2.out.size)
  clear h3 b3
  go_wp2_with fail
  refine (read_is _ [128#8, 0#8] _ (IsBytes.new rfl _ _ _ _ 2 rfl (by omega) rfl) (by decide)).mono ?_
  rintro e w4 ⟨R, rfl, hr4, hge, b4, -⟩
  have B4 : Hid (Below w.heap.size w w4) := (B3.out.alloc B3.out.size _).trans (b4.mono (by have := B3.out.size; simp; omega))
  have H4 : Hid (IsBytes w4 (.slice a3 m3 c3) e12) := (H3.out.alloc _).below b4
  have R4 := Lib.hid hr4
  have HGE : Hid (w.heap.size < R) := by unfold Hid; have := B3.out.size; simp at hge; omega
  have AGE : Hid (∀ p n c, Value.slice a3 m3 c3 = .slice (some p) n c → p.block < R) := fun p n c he => by have := AG.out p n c he; simp at hge; omega
  clear hr4 b4 hge
  go_wp2_with fail
  refine (rd_U R _ w4 R4.out).mono ?_
  intro e w5 h5
  rw [c12_is] at h5
  obtain ⟨rfl, hr5, c5⟩ := h5
  have R5 := Lib.hid hr5
  have hR : w.heap.size < R := HGE.out
  have B5 : Hid (Below w.heap.size w w5) := B4.out.trans (c5.below B4.out.size (by simp; omega))
  have H5 : Hid (IsBytes w5 (.slice a3 m3 c3) e12) := H4.out.chg c5 (by intro p n c he hx; simp at hx; have := AGE.out p n c he; omega)
  clear c5 hr5
  go_wp2_with fail
  refine (same_any _ _ e12 e12 _ (H5.out.alloc _) (IsBytes.new rfl _ _ _ _ 3 rfl (by omega) rfl)).mono ?_
  rintro e w6 ⟨rfl, q, rfl⟩
  rw [decide_eq_true (rfl : e12 = e12)]
  go_wp2_with fail
  refine (error_is R 121 _ (R5.out.keep' ((Chg.refl [] _).alloc _ |>.drewN q))).mono ?_
  rintro e w6 ⟨rfl, rfl⟩
  go_wp2_with fail
  go_ret
  exact ⟨rfl, below_drewN (B5.out.alloc B5.out.size _) q⟩
end Go.Proofs.Ytajnhmkkgngbhaa
