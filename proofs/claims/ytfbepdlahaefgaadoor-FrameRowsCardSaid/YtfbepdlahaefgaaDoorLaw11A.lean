/- The chapter's example of layer 11, walked: regattalaw11.awake returns true. -/
import Derived.Test.YtfbepdlahaefgaaDoorRefW3
namespace Go.Proofs.YtfbepdlahaefgaaDoor
open Go.RowKit
open Crc (R sum upN moreSum)

theorem Tab.alloc {w : World} (h : Tab w) (o : Obj) : Tab (w.alloc o) := h.below ((Below.refl _ _).alloc (Nat.le_refl _) o)
def t1234 : List (BitVec 8) := [49#8, 50#8, 51#8, 52#8]
def t56789 : List (BitVec 8) := [53#8, 54#8, 55#8, 56#8, 57#8]
def t123456789 : List (BitVec 8) := [49#8, 50#8, 51#8, 52#8, 53#8, 54#8, 55#8, 56#8, 57#8]
theorem of_one (v : Value) (bs : List (BitVec 8)) (w : World) (hv : IsParts w v [bs]) (ht : Tab w) :
    Calls Tryd.prog 18 #[v] w fun e w' => e = .returned (.int .u32 (sum bs).toNat) ∧ w = w' := by
  have := of_any v [bs] w hv ht
  rw [List.flatten_cons, List.flatten_nil, List.append_nil] at this
  exact this
def s1234 : R := sum t1234
def s56789 : R := sum t56789
def s9 : R := sum t123456789
theorem of_1234 (v : Value) (w : World) (hv : IsParts w v [t1234]) (ht : Tab w) :
    Calls Tryd.prog 18 #[v] w fun e w' => e = .returned (.int .u32 s1234.toNat) ∧ w = w' := of_one v t1234 w hv ht
theorem of_56789 (v : Value) (w : World) (hv : IsParts w v [t56789]) (ht : Tab w) :
    Calls Tryd.prog 18 #[v] w fun e w' => e = .returned (.int .u32 s56789.toNat) ∧ w = w' := of_one v t56789 w hv ht
theorem of_9 (v : Value) (w : World) (hv : IsParts w v [t123456789]) (ht : Tab w) :
    Calls Tryd.prog 18 #[v] w fun e w' => e = .returned (.int .u32 s9.toNat) ∧ w = w' := of_one v t123456789 w hv ht
def j9 : R := x32 (upN (8 * 5) s1234) s56789
theorem s9_is : ((s9.toNat : Int) == 3421780262) = true := by decide +kernel
theorem j9_is : ((j9.toNat : Int) == 3421780262) = true := by decide +kernel
theorem join_5 (w : World) (ht : Tab w) : Calls Tryd.prog 22 #[.int .u32 s1234.toNat, .int .u32 s56789.toNat, .int .i64 5] w fun e w' => e = .returned (.tuple #[.int .u32 j9.toNat, .int .i64 0]) ∧ w = w' :=
  join_any s1234 s56789 5 w (by omega) ht
set_option maxHeartbeats 1000000 in
theorem awake11_any (w : World) (ht : Tab w) :
    Calls Tryd.prog 17 #[] w fun e w' => e = .returned (.bool true) ∧ Below w.heap.size w w' := by
  have HT := Lib.hid ht
  have HS := Lib.hid s9_is
  clear ht
  have c0 := conv0 (P := Tryd.prog) (t := 24) (e := 5) Tryd.underlying24 Tryd.underlying5
  have c2 := conv2 (P := Tryd.prog) (t := 24) (e := 5) Tryd.underlying24 Tryd.underlying5
  have c4 := conv4 (P := Tryd.prog) (t := 24) (e := 5) Tryd.underlying24 Tryd.underlying5
  go_enter Tryd.func17, Tryd.ntmps17
  go_wp2_with fail
  refine (of_1234 _ _ (IsParts.one (by simp) _ _ _ (IsBytes.new rfl _ _ _ _ 4 rfl (by omega) rfl)) ((HT.out.alloc _).alloc _)).mono ?_
  rintro e w1 ⟨rfl, rfl⟩
  go_wp2_with fail
  refine (of_56789 _ _ (IsParts.one (by simp) _ _ _ (IsBytes.new (by simp) _ _ _ _ 5 rfl (by omega) rfl)) ((((HT.out.alloc _).alloc _).alloc _).alloc _)).mono ?_
  rintro e w1 ⟨rfl, rfl⟩
  go_wp2_with fail
  refine (join_5 _ ((((HT.out.alloc _).alloc _).alloc _).alloc _)).mono ?_
  rintro e w1 ⟨rfl, rfl⟩
  go_wp2_with fail
  refine (of_9 _ _ (IsParts.one (by simp) _ _ _ (IsBytes.new (by simp) _ _ _ _ 9 rfl (by omega) rfl)) ((((((HT.out.alloc _).alloc _).alloc _).alloc _).alloc _).alloc _)).mono ?_
  rintro e w1 ⟨rfl, rfl⟩
  have h9 := s9_is
  have hj := j9_is
  go_wp2
  go_ret
  refine ⟨rfl, ?_⟩
  repeat (first | exact Below.refl _ _ | refine Below.alloc ?_ (by simp <;> omega) _)
end Go.Proofs.YtfbepdlahaefgaaDoor
