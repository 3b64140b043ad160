/- The document's Four, Seal of layer 13, walked. -/
import Derived.Test.YtfbepdlahaefgaaDoorLaw13B
namespace Go.Proofs.YtfbepdlahaefgaaDoor
open Go.RowKit
open Crc (R sum moreSum)
open Frm (le4 byteAt num4 head body frame fault fixed opened bad size)

theorem refFour_any (x : R) (w : World) :
    Calls Tryd.prog 42 #[.int .u32 x.toNat] w fun e w' => ∃ a n c, e = .returned (.slice a n c) ∧ Hid (IsBytes w' (.slice a n c) (le4 x)) ∧ Hid (Below w.heap.size w w') := by
  go_enter Tryd.func42, Tryd.ntmps42
  go_wp2
  go_ret
  refine ⟨_, _, _, rfl, IsBytes.new rfl _ _ (0, 0) (le4 x) 4 rfl (by omega) ?_, (Below.refl _ _).alloc (Nat.le_refl _) _⟩
  have h0 : (x.toNat : Int) % 256 = ((byteAt x 0).toNat : Int) := by rw [← shr_byte x 0]; simp
  have h1 : (x.toNat : Int) / 256 % 256 = ((byteAt x 1).toNat : Int) := shr_byte x 1
  have h2 : (x.toNat : Int) / 65536 % 256 = ((byteAt x 2).toNat : Int) := shr_byte x 2
  have h3 : (x.toNat : Int) / 16777216 = ((byteAt x 3).toNat : Int) := by
    rw [← shr_byte x 3, show (2 : Int) ^ (8 * 3) = 16777216 from rfl]
    have := x.isLt
    omega
  rw [h0, h1, h2, h3]
  rfl
theorem Own.new {w : World} {base k n : Nat} {e : TypeId} (hk : w.heap.size = k) (h : base ≤ k) (cs : Array Value) (xs : List Value) (hx : cs.toList = xs) (hn : xs.length = n) (hm : n ≤ 1000000) : Own (w.alloc (.cells cs e)) base e (.slice (some ⟨k, 0, none⟩) n n) xs := by
  subst hk hx hn
  have hs : cs.size = cs.toList.length := by simp
  exact ⟨⟨by simp, .inr ⟨w.heap.size, cs.toList.length, cs, rfl, h, heap_alloc_new w _, Nat.le_refl _, by unfold maxLen; omega, by simp, by rw [Nat.mul_one, List.take_of_length_le (Nat.le_refl _)]⟩⟩, by simp; omega⟩
theorem refFour_len (n : Nat) (w : World) (hn : n < 4294967296) :
    Calls Tryd.prog 42 #[.int .u32 n] w fun e w' => ∃ a m c, e = .returned (.slice a m c) ∧ Hid (IsBytes w' (.slice a m c) (le4 (BitVec.ofNat 32 n))) ∧ Hid (Below w.heap.size w w') := by
  have := refFour_any (BitVec.ofNat 32 n) w
  rwa [BitVec.toNat_ofNat, Nat.mod_eq_of_lt (by omega)] at this
theorem refSum_any (v : Value) (bs : List (BitVec 8)) (w : World) (hv : IsBytes w v bs) (hn : bs.length ≤ 100000) :
    Calls Tryd.prog 21 #[.int .u32 0, v] w fun e w' => e = .returned (.int .u32 (sum bs).toNat) ∧ Hid (Below w.heap.size w w') :=
  refMore_any 0#32 v bs w hv hn
set_option maxHeartbeats 1000000 in
theorem refSeal_any (kind : BitVec 8) (v : Value) (p : List (BitVec 8)) (w : World) (hv : IsBytes w v p) (hp : p.length ≤ 65536) :
    Calls Tryd.prog 28 #[.int .i64 kind.toNat, v] w fun e w' => ∃ a m c, e = .returned (.slice a m c) ∧ Hid (IsBytes w' (.slice a m c) (frame kind p)) ∧ Hid (Below w.heap.size w w') := by
  have hv' := hv
  obtain ⟨pa, pn, pc, rfl, hpn, _, _, _⟩ := hv'
  have HV := Lib.hid hv
  have HN := Lib.hid hpn
  have hkm : ((kind.toNat : Nat) : Int) % 256 = (kind.toNat : Nat) := by have := kind.isLt; omega
  have hpm : ((pn : Nat) : Int) % 4294967296 = (pn : Nat) := by omega
  have hpl : pn ≤ 65536 := by omega
  clear hv hpn hp
  have h4 : ([.int .u8 82, .int .u8 71, .int .u8 1, .int .u8 kind.toNat] : List Value) = ([0x52#8, 0x47#8, 1#8, kind] : List (BitVec 8)).map byteV := rfl
  have H4 := Lib.hid h4
  clear h4
  go_enter Tryd.func28, Tryd.ntmps28
  go_wp2_with fail
  have hown0 : Hid (Own (w.alloc (.cells #[.int .u8 82, .int .u8 71, .int .u8 1, .int .u8 kind.toNat] 5)) w.heap.size 5 (.slice (some ⟨w.heap.size, 0, none⟩) 4 4) (([0x52#8, 0x47#8, 1#8, kind] : List (BitVec 8)).map byteV)) := Own.new rfl (Nat.le_refl _) _ _ H4.out rfl (by omega)
  have hb0 : Hid (Below w.heap.size w (w.alloc (.cells #[.int .u8 82, .int .u8 71, .int .u8 1, .int .u8 kind.toNat] 5))) := (Below.refl _ _).alloc (Nat.le_refl _) _
  refine (refFour_len pn _ (by omega)).mono ?_
  rintro e w2 ⟨a2, m2, c2, rfl, H2, HB2⟩
  have own2 : Hid (Own w2 w.heap.size 5 (.slice (some ⟨w.heap.size, 0, none⟩) 4 4) (([0x52#8, 0x47#8, 1#8, kind] : List (BitVec 8)).map byteV)) := hown0.out.below HB2.out
  have bw2 : Hid (Below w.heap.size w w2) := hb0.out.trans (HB2.out.mono (by simp))
  have e4 : Hid ((([0x52#8, 0x47#8, 1#8, kind] : List (BitVec 8)).map byteV).length = 4) := rfl
  have f4 : Hid (((le4 (BitVec.ofNat 32 pn)).map byteV).length = 4) := rfl
  have p4 : Hid ((p.map byteV).length = pn) := by unfold Hid; rw [List.length_map]; exact HN.out.symm
  clear hown0 hb0 HB2
  go_wp2_with (first
    | (at_builtin
       refine wpl_append rfl (.tmp 9) (.tmp 13) _ rfl elemU8 rfl own2.out rfl H2.out.reads one_byteV (by rw [e4.out, f4.out]; omega) (by rw [e4.out, f4.out]; simp [maxLen]) ?_
       intro v3 w3 hown3 hg3 hat3
       have bw3 : Hid (Below w.heap.size w w3) := below_grown bw2.out own2.out hg3 (Nat.le_refl _)
       have O3 := Lib.hid hown3
       clear hg3 hat3 hown3)
    | (at_builtin
       refine wpl_append rfl (.tmp 15) (.tmp 16) _ rfl elemU8 rfl O3.out rfl (HV.out.below bw3.out).reads one_byteV (by rw [List.length_append, e4.out, f4.out, p4.out]; omega) (by rw [List.length_append, e4.out, f4.out, p4.out]; unfold maxLen; omega) ?_
       intro v4 w4 hown4 hg4 hat4
       have bw4 : Hid (Below w.heap.size w w4) := below_grown bw3.out O3.out hg4 (Nat.le_refl _)
       obtain ⟨ra, rn, rc, rfl, hrn⟩ := hown4.form_
       have hb4 : (([0x52#8, 0x47#8, 1#8, kind] : List (BitVec 8)).map byteV ++ (le4 (BitVec.ofNat 32 pn)).map byteV) ++ p.map byteV = (body kind p).map byteV := by
         rw [← List.map_append, ← List.map_append, HN.out]; rfl
       rw [hb4] at hown4
       have O4 := Lib.hid hown4
       have H4' := Lib.hid hown4.reads.bytes
       clear hg4 hat4 hown4 hb4))
  have bl : Hid ((body kind p).length = 8 + pn) := by unfold Hid; rw [Frm.body_length, HN.out]
  refine (refSum_any _ (body kind p) w4 H4'.out (by rw [bl.out]; omega)).mono ?_
  rintro e w5 ⟨rfl, HB5⟩
  have own5 : Hid (Own w5 w.heap.size 5 (.slice ra rn rc) ((body kind p).map byteV)) := O4.out.below HB5.out
  have bw5 : Hid (Below w.heap.size w w5) := bw4.out.trans (HB5.out.mono bw4.out.size)
  go_wp2_with fail
  refine (refFour_any (sum (body kind p)) w5).mono ?_
  rintro e w6 ⟨a6, m6, c6, rfl, H6, HB6⟩
  have own6 : Hid (Own w6 w.heap.size 5 (.slice ra rn rc) ((body kind p).map byteV)) := own5.out.below HB6.out
  have bw6 : Hid (Below w.heap.size w w6) := bw5.out.trans (HB6.out.mono bw5.out.size)
  have bl' : Hid (((body kind p).map byteV).length = 8 + pn) := by unfold Hid; rw [List.length_map]; exact bl.out
  have f4' : Hid (((le4 (sum (body kind p))).map byteV).length = 4) := rfl
  go_wp2_with (at_builtin; refine wpl_append rfl (.tmp 18) (.tmp 21) _ rfl elemU8 rfl own6.out rfl H6.out.reads one_byteV (by rw [bl'.out, f4'.out]; omega) (by rw [bl'.out, f4'.out]; unfold maxLen; omega) ?_; intro v7 w7 hown7 hg7 hat7; have bw7 : Hid (Below w.heap.size w w7) := below_grown bw6.out own6.out hg7 (Nat.le_refl _); obtain ⟨ta, tn, tc, rfl, htn⟩ := hown7.form_; rw [← List.map_append] at hown7; have H7 := Lib.hid hown7.reads.bytes; clear hown7 hg7 hat7)
  go_ret
  exact ⟨_, _, _, rfl, H7.out, bw7.out⟩
end Go.Proofs.YtfbepdlahaefgaaDoor
