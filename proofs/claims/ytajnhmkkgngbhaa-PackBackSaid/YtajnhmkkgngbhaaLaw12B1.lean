/- The statements of chapter 12: is a thing read as it is? -/
import Derived.Test.YtajnhmkkgngbhaaLaw12O
namespace Go.Proofs.Ytajnhmkkgngbhaa
open Go.RowKit
open Pack (Got cnt whole fixed text ints fixes form formI eight formT formL okI okN OneForm Bad)

theorem drew_chg (S : List Nat) (w : World) : Chg S w w.drew := ⟨rfl, rfl, rfl, Nat.le_refl _, fun _ _ _ => rfl⟩

set_option maxHeartbeats 1000000 in
theorem again_1 (p : Option Addr) (C : List Nat) (Q : World → Prop) (u : Nat) (n x : Int) (pb pl pf : Option Addr) (nb cb nl cl nf cf : Nat) (y : Nat) (w : World) (hC : ∀ z ∈ C, z < w.heap.size)
    (hcall : ∀ w1, Chg [] w w1 → Calls Try.prog 23 #[.pointer p] w1 fun e w' => e = .returned (.int .u64 y) ∧ Q w' ∧ Chg C w1 w') :
    Calls Try.prog 22 #[.agg #[.int .i64 1, .int .u64 u, .int .i64 n, .int .i64 x, .slice pb nb cb, .slice pl nl cl, .slice pf nf cf], .pointer p] w fun e w' => (∃ r, e = .returned (.bool r) ∧ (y = u → r = true)) ∧ Q w' ∧ Chg C w w' := by
  obtain ⟨wa, hwa⟩ : ∃ wa, wa = w.alloc (.cells #[.int .i64 1, .int .u64 u, .int .i64 n, .int .i64 x, .slice pb nb cb, .slice pl nl cl, .slice pf nf cf] 40) := ⟨_, rfl⟩
  obtain ⟨T, hT⟩ : ∃ T, T = w.heap.size := ⟨_, rfl⟩
  have HA : Hid (Below w.heap.size w wa) := by unfold Hid; rw [hwa]; exact (Below.refl _ _).alloc (Nat.le_refl _) _
  have hc1 : wa.cell? ⟨T, 1, none⟩ = some (.int .u64 (u : Int)) := by rw [hwa, hT]; simp
  have HC := Lib.hid hc1
  have HT : Hid (T < wa.heap.size ∧ T ∉ C) := ⟨by rw [hwa, hT]; simp, fun h => by have := hC _ h; omega⟩
  have HCALL := Lib.hid (hcall wa.drew ((Chg.of_below HA.out).trans (drew_chg [] wa)))
  clear hcall hC
  go_enter Try.func22, Try.ntmps22
  go_wp2_with fail
  rw [← hwa, ← hT]
  clear hwa hT
  go_region_with (go_at_call 23; refine HCALL.out.mono ?_; rintro e w5 ⟨rfl, hst, hc⟩; have HST := Lib.hid hst; have HC5 : Hid (Chg C w w5) := ((Chg.of_below HA.out).trans ((drew_chg C wa).trans hc)); have hc5 : w5.cell? ⟨T, 1, none⟩ = some (.int .u64 (u : Int)) := (((drew_chg C wa).trans hc).cell T 1 HT.out.1 HT.out.2).trans HC.out; clear hst hc)
  all_goals (go_wp2_with fail; go_ret; exact ⟨⟨_, rfl, fun h => by rw [h]; simp⟩, HST.out, HC5.out⟩)

set_option maxHeartbeats 1000000 in
theorem again_2 (p : Option Addr) (C : List Nat) (Q : World → Prop) (u : Nat) (n x : Int) (pb pl pf : Option Addr) (nb cb nl cl nf cf : Nat) (y : Int) (w : World) (hC : ∀ z ∈ C, z < w.heap.size)
    (hcall : ∀ w1, Chg [] w w1 → Calls Try.prog 24 #[.pointer p] w1 fun e w' => e = .returned (.int .i64 y) ∧ Q w' ∧ Chg C w1 w') :
    Calls Try.prog 22 #[.agg #[.int .i64 2, .int .u64 u, .int .i64 n, .int .i64 x, .slice pb nb cb, .slice pl nl cl, .slice pf nf cf], .pointer p] w fun e w' => (∃ r, e = .returned (.bool r) ∧ (y = n → r = true)) ∧ Q w' ∧ Chg C w w' := by
  obtain ⟨wa, hwa⟩ : ∃ wa, wa = w.alloc (.cells #[.int .i64 2, .int .u64 u, .int .i64 n, .int .i64 x, .slice pb nb cb, .slice pl nl cl, .slice pf nf cf] 40) := ⟨_, rfl⟩
  obtain ⟨T, hT⟩ : ∃ T, T = w.heap.size := ⟨_, rfl⟩
  have HA : Hid (Below w.heap.size w wa) := by unfold Hid; rw [hwa]; exact (Below.refl _ _).alloc (Nat.le_refl _) _
  have hc2 : wa.cell? ⟨T, 2, none⟩ = some (.int .i64 n) := by rw [hwa, hT]; simp
  have HC := Lib.hid hc2
  have HT : Hid (T < wa.heap.size ∧ T ∉ C) := ⟨by rw [hwa, hT]; simp, fun h => by have := hC _ h; omega⟩
  have HCALL := Lib.hid (hcall wa.drew ((Chg.of_below HA.out).trans (drew_chg [] wa)))
  clear hcall hC
  go_enter Try.func22, Try.ntmps22
  go_wp2_with fail
  rw [← hwa, ← hT]
  clear hwa hT
  go_region_with (go_at_call 24; refine HCALL.out.mono ?_; rintro e w5 ⟨rfl, hst, hc⟩; have HST := Lib.hid hst; have HC5 : Hid (Chg C w w5) := ((Chg.of_below HA.out).trans ((drew_chg C wa).trans hc)); have hc5 : w5.cell? ⟨T, 2, none⟩ = some (.int .i64 n) := (((drew_chg C wa).trans hc).cell T 2 HT.out.1 HT.out.2).trans HC.out; clear hst hc)
  all_goals (go_wp2_with fail; go_ret; exact ⟨⟨_, rfl, fun h => by rw [h]; simp⟩, HST.out, HC5.out⟩)

set_option maxHeartbeats 1000000 in
theorem again_3 (p : Option Addr) (C : List Nat) (Q : World → Prop) (u : Nat) (n x : Int) (pb pl pf : Option Addr) (nb cb nl cl nf cf : Nat) (y : Int) (w : World) (hC : ∀ z ∈ C, z < w.heap.size)
    (hcall : ∀ w1, Chg [] w w1 → Calls Try.prog 25 #[.pointer p] w1 fun e w' => e = .returned (.int .i64 y) ∧ Q w' ∧ Chg C w1 w') :
    Calls Try.prog 22 #[.agg #[.int .i64 3, .int .u64 u, .int .i64 n, .int .i64 x, .slice pb nb cb, .slice pl nl cl, .slice pf nf cf], .pointer p] w fun e w' => (∃ r, e = .returned (.bool r) ∧ (y = x → r = true)) ∧ Q w' ∧ Chg C w w' := by
  obtain ⟨wa, hwa⟩ : ∃ wa, wa = w.alloc (.cells #[.int .i64 3, .int .u64 u, .int .i64 n, .int .i64 x, .slice pb nb cb, .slice pl nl cl, .slice pf nf cf] 40) := ⟨_, rfl⟩
  obtain ⟨T, hT⟩ : ∃ T, T = w.heap.size := ⟨_, rfl⟩
  have HA : Hid (Below w.heap.size w wa) := by unfold Hid; rw [hwa]; exact (Below.refl _ _).alloc (Nat.le_refl _) _
  have hc3 : wa.cell? ⟨T, 3, none⟩ = some (.int .i64 x) := by rw [hwa, hT]; simp
  have HC := Lib.hid hc3
  have HT : Hid (T < wa.heap.size ∧ T ∉ C) := ⟨by rw [hwa, hT]; simp, fun h => by have := hC _ h; omega⟩
  have HCALL := Lib.hid (hcall wa.drew ((Chg.of_below HA.out).trans (drew_chg [] wa)))
  clear hcall hC
  go_enter Try.func22, Try.ntmps22
  go_wp2_with fail
  rw [← hwa, ← hT]
  clear hwa hT
  go_region_with (go_at_call 25; refine HCALL.out.mono ?_; rintro e w5 ⟨rfl, hst, hc⟩; have HST := Lib.hid hst; have HC5 : Hid (Chg C w w5) := ((Chg.of_below HA.out).trans ((drew_chg C wa).trans hc)); have hc5 : w5.cell? ⟨T, 3, none⟩ = some (.int .i64 x) := (((drew_chg C wa).trans hc).cell T 3 HT.out.1 HT.out.2).trans HC.out; clear hst hc)
  all_goals (go_wp2_with fail; go_ret; exact ⟨⟨_, rfl, fun h => by rw [h]; simp⟩, HST.out, HC5.out⟩)

set_option maxHeartbeats 2000000 in
theorem again_4 (p : Option Addr) (C : List Nat) (Q : World → Prop) (u : Nat) (n x : Int) (pb pl pf : Option Addr) (nb cb nl cl nf cf : Nat) (ys bs : List (BitVec 8)) (w0 w : World) (h0 : Below w0.heap.size w0 w) (hlo : ∀ z ∈ C, w0.heap.size ≤ z) (hC : ∀ z ∈ C, z < w.heap.size) (hQ : ∀ w1 w2, Q w1 → Chg [] w1 w2 → Q w2) (hv : IsBytes w0 (.slice pb nb cb) bs)
    (hcall : ∀ w1, Chg [] w w1 → Calls Try.prog 26 #[.pointer p] w1 fun e w' => ∃ p5 n5 c5, e = .returned (.slice p5 n5 c5) ∧ Own w' w1.heap.size 5 (.slice p5 n5 c5) (ys.map byteV) ∧ Q w' ∧ Chg C w1 w') :
    Calls Try.prog 22 #[.agg #[.int .i64 4, .int .u64 u, .int .i64 n, .int .i64 x, .slice pb nb cb, .slice pl nl cl, .slice pf nf cf], .pointer p] w fun e w' => (∃ r, e = .returned (.bool r) ∧ (ys = bs → r = true)) ∧ Q w' ∧ Chg C w w' := by
  have HLOW : Hid (∀ w', Chg C w w' → IsBytes w' (.slice pb nb cb) bs) := fun w' hc => hv.below (h0.trans (hc.below h0.size hlo))
  have HQ := Lib.hid hQ
  clear hv h0 hlo hQ
  obtain ⟨wa, hwa⟩ : ∃ wa, wa = w.alloc (.cells #[.int .i64 4, .int .u64 u, .int .i64 n, .int .i64 x, .slice pb nb cb, .slice pl nl cl, .slice pf nf cf] 40) := ⟨_, rfl⟩
  obtain ⟨T, hT⟩ : ∃ T, T = w.heap.size := ⟨_, rfl⟩
  have HA : Hid (Below w.heap.size w wa) := by unfold Hid; rw [hwa]; exact (Below.refl _ _).alloc (Nat.le_refl _) _
  have hc4 : wa.cell? ⟨T, 4, none⟩ = some (.slice pb nb cb) := by rw [hwa, hT]; simp
  have HC := Lib.hid hc4
  have HT : Hid (T < wa.heap.size ∧ T ∉ C) := ⟨by rw [hwa, hT]; simp, fun h => by have := hC _ h; omega⟩
  have HCALL := Lib.hid (hcall wa.drew ((Chg.of_below HA.out).trans (drew_chg [] wa)))
  clear hcall hC
  go_enter Try.func22, Try.ntmps22
  go_wp2_with fail
  rw [← hwa, ← hT]
  clear hwa hT
  go_region_with (first | (go_at_call 26; refine HCALL.out.mono ?_; rintro e w5 ⟨p5, n5, c5, rfl, hown, hst, hc⟩; have HST := Lib.hid hst; have HO := Lib.hid hown; have HC5 : Hid (Chg C w w5) := ((Chg.of_below HA.out).trans ((drew_chg C wa).trans hc)); have hc5 : w5.cell? ⟨T, 4, none⟩ = some (.slice pb nb cb) := (((drew_chg C wa).trans hc).cell T 4 HT.out.1 HT.out.2).trans HC.out; have HB5 : Hid (IsBytes w5 (.slice pb nb cb) bs) := HLOW.out w5 HC5.out; clear hst hc hown) | (go_at_call 15; refine (same_any _ _ _ _ _ HO.out.reads.bytes HB5.out).mono ?_; rintro e w6 ⟨rfl, q, rfl⟩))
  all_goals (go_wp2_with fail; go_ret; exact ⟨⟨_, rfl, fun h => by simp [h]⟩, HQ.out _ _ HST.out ((Chg.refl [] _).drewN q), HC5.out.drewN q⟩)

set_option maxHeartbeats 4000000 in
theorem again_5 (p : Option Addr) (C : List Nat) (Q : World → Prop) (u : Nat) (n x : Int) (pb pl pf : Option Addr) (nb cb nl cl nf cf : Nat) (zs ys : List Int) (w0 w : World) (h0 : Below w0.heap.size w0 w) (hlo : ∀ z ∈ C, w0.heap.size ≤ z) (hC : ∀ z ∈ C, z < w.heap.size) (hQ : ∀ w1 w2, Q w1 → Chg [] w1 w2 → Q w2) (hv : Reads w0 (.slice pl nl cl) (ys.map intV)) (hy : ys.length ≤ 2000000) (hz : zs.length ≤ 2000000)
    (hcall : ∀ w1, Chg [] w w1 → Calls Try.prog 27 #[.pointer p] w1 fun e w' => ∃ p5 n5 c5, e = .returned (.slice p5 n5 c5) ∧ Own w' w1.heap.size 3 (.slice p5 n5 c5) (zs.map intV) ∧ Q w' ∧ Chg C w1 w') :
    Calls Try.prog 22 #[.agg #[.int .i64 5, .int .u64 u, .int .i64 n, .int .i64 x, .slice pb nb cb, .slice pl nl cl, .slice pf nf cf], .pointer p] w fun e w' => (∃ r, e = .returned (.bool r) ∧ (zs = ys → r = true)) ∧ Q w' ∧ Chg C w w' := by
  have HY := Lib.hid hy
  have HZ := Lib.hid hz
  have HLOW : Hid (∀ w', Chg C w w' → Reads w' (.slice pl nl cl) (ys.map intV)) := fun w' hc => hv.below (h0.trans (hc.below h0.size hlo))
  have HQ := Lib.hid hQ
  clear hv h0 hlo hy hz hQ
  obtain ⟨wa, hwa⟩ : ∃ wa, wa = w.alloc (.cells #[.int .i64 5, .int .u64 u, .int .i64 n, .int .i64 x, .slice pb nb cb, .slice pl nl cl, .slice pf nf cf] 40) := ⟨_, rfl⟩
  obtain ⟨T, hT⟩ : ∃ T, T = w.heap.size := ⟨_, rfl⟩
  have HA : Hid (Below w.heap.size w wa) := by unfold Hid; rw [hwa]; exact (Below.refl _ _).alloc (Nat.le_refl _) _
  have hc5 : wa.cell? ⟨T, 5, none⟩ = some (.slice pl nl cl) := by rw [hwa, hT]; simp
  have HC := Lib.hid hc5
  have HT : Hid (T < wa.heap.size ∧ T ∉ C) := ⟨by rw [hwa, hT]; simp, fun h => by have := hC _ h; omega⟩
  have HCALL := Lib.hid (hcall wa.drew ((Chg.of_below HA.out).trans (drew_chg [] wa)))
  clear hcall hC
  go_enter Try.func22, Try.ntmps22
  go_wp2_with fail
  rw [← hwa, ← hT]
  clear hwa hT
  go_region_with (first | (go_at_call 27; refine HCALL.out.mono ?_; rintro e w5 ⟨p5, n5, c5, rfl, hown, hst, hc⟩; have HST := Lib.hid hst; have HO := Lib.hid hown; have HC5 : Hid (Chg C w w5) := ((Chg.of_below HA.out).trans ((drew_chg C wa).trans hc)); have hc5 : w5.cell? ⟨T, 5, none⟩ = some (.slice pl nl cl) := (((drew_chg C wa).trans hc).cell T 5 HT.out.1 HT.out.2).trans HC.out; clear hst hc hown) | (go_at_call_of 42 p5; refine (wide_any _ _ _ HO.out.reads HZ.out).mono ?_; rintro e w6 ⟨p6, n6, c6, rfl, hown6, hb6⟩; have HO6 := Lib.hid hown6; have HC6 : Hid (Chg C w w6) := HC5.out.trans (Chg.of_below hb6); have hc6 : w6.cell? ⟨T, 5, none⟩ = some (.slice pl nl cl) := (hb6.cell (p := ⟨T, 5, none⟩) (cell_lt hc5)).trans hc5; have HST6 : Hid (Q w6) := HQ.out _ _ HST.out (Chg.of_below hb6); have HR6 : Hid (Reads w6 (.slice pl nl cl) (ys.map intV)) := HLOW.out w6 HC6.out; clear hown6 hb6) | (go_at_call 42; refine (wide_any _ _ _ HR6.out HY.out).mono ?_; rintro e w7 ⟨p7, n7, c7, rfl, hown7, hb7⟩; have HO7 := Lib.hid hown7; have HC7 : Hid (Chg C w w7) := HC6.out.trans (Chg.of_below hb7); have HST7 : Hid (Q w7) := HQ.out _ _ HST6.out (Chg.of_below hb7); have HR7 : Hid (Reads w7 (.slice p6 n6 c6) (zs.map intV)) := HO6.out.reads.below hb7; clear hown7 hb7) | (go_at_call 41; refine (same04_any _ _ _ _ _ HR7.out HO7.out.reads).mono ?_; rintro e w8 ⟨rfl, q, rfl⟩))
  all_goals (go_wp2_with fail; go_ret; exact ⟨⟨_, rfl, fun h => by simp [h]⟩, HQ.out _ _ HST7.out ((Chg.refl [] _).drewN q), HC7.out.drewN q⟩)

set_option maxHeartbeats 4000000 in
theorem again_6 (p : Option Addr) (C : List Nat) (Q : World → Prop) (u : Nat) (n x : Int) (pb pl pf : Option Addr) (nb cb nl cl nf cf : Nat) (zs ys : List Int) (w0 w : World) (h0 : Below w0.heap.size w0 w) (hlo : ∀ z ∈ C, w0.heap.size ≤ z) (hC : ∀ z ∈ C, z < w.heap.size) (hQ : ∀ w1 w2, Q w1 → Chg [] w1 w2 → Q w2) (hv : Reads w0 (.slice pf nf cf) (ys.map intV)) (hy : ys.length ≤ 2000000) (hz : zs.length ≤ 2000000)
    (hcall : ∀ w1, Chg [] w w1 → Calls Try.prog 28 #[.pointer p] w1 fun e w' => ∃ p5 n5 c5, e = .returned (.slice p5 n5 c5) ∧ Own w' w1.heap.size 36 (.slice p5 n5 c5) (zs.map intV) ∧ Q w' ∧ Chg C w1 w') :
    Calls Try.prog 22 #[.agg #[.int .i64 6, .int .u64 u, .int .i64 n, .int .i64 x, .slice pb nb cb, .slice pl nl cl, .slice pf nf cf], .pointer p] w fun e w' => (∃ r, e = .returned (.bool r) ∧ (zs = ys → r = true)) ∧ Q w' ∧ Chg C w w' := by
  have HY := Lib.hid hy
  have HZ := Lib.hid hz
  have HLOW : Hid (∀ w', Chg C w w' → Reads w' (.slice pf nf cf) (ys.map intV)) := fun w' hc => hv.below (h0.trans (hc.below h0.size hlo))
  have HQ := Lib.hid hQ
  clear hv h0 hlo hy hz hQ
  obtain ⟨wa, hwa⟩ : ∃ wa, wa = w.alloc (.cells #[.int .i64 6, .int .u64 u, .int .i64 n, .int .i64 x, .slice pb nb cb, .slice pl nl cl, .slice pf nf cf] 40) := ⟨_, rfl⟩
  obtain ⟨T, hT⟩ : ∃ T, T = w.heap.size := ⟨_, rfl⟩
  have HA : Hid (Below w.heap.size w wa) := by unfold Hid; rw [hwa]; exact (Below.refl _ _).alloc (Nat.le_refl _) _
  have hc6 : wa.cell? ⟨T, 6, none⟩ = some (.slice pf nf cf) := by rw [hwa, hT]; simp
  have HC := Lib.hid hc6
  have HT : Hid (T < wa.heap.size ∧ T ∉ C) := ⟨by rw [hwa, hT]; simp, fun h => by have := hC _ h; omega⟩
  have HCALL := Lib.hid (hcall wa.drew ((Chg.of_below HA.out).trans (drew_chg [] wa)))
  clear hcall hC
  go_enter Try.func22, Try.ntmps22
  go_wp2_with fail
  rw [← hwa, ← hT]
  clear hwa hT
  go_region_with (first | (go_at_call 28; refine HCALL.out.mono ?_; rintro e w5 ⟨p5, n5, c5, rfl, hown, hst, hc⟩; have HST := Lib.hid hst; have HO := Lib.hid hown; have HC5 : Hid (Chg C w w5) := ((Chg.of_below HA.out).trans ((drew_chg C wa).trans hc)); have hc5 : w5.cell? ⟨T, 6, none⟩ = some (.slice pf nf cf) := (((drew_chg C wa).trans hc).cell T 6 HT.out.1 HT.out.2).trans HC.out; clear hst hc hown) | (go_at_call_of 44 p5; refine (plain_any _ _ _ HO.out.reads HZ.out).mono ?_; rintro e w6 ⟨p6, n6, c6, rfl, hown6, hb6⟩; have HO6 := Lib.hid hown6; have HC6 : Hid (Chg C w w6) := HC5.out.trans (Chg.of_below hb6); have hc6 : w6.cell? ⟨T, 6, none⟩ = some (.slice pf nf cf) := (hb6.cell (p := ⟨T, 6, none⟩) (cell_lt hc5)).trans hc5; have HST6 : Hid (Q w6) := HQ.out _ _ HST.out (Chg.of_below hb6); have HR6 : Hid (Reads w6 (.slice pf nf cf) (ys.map intV)) := HLOW.out w6 HC6.out; clear hown6 hb6) | (go_at_call 44; refine (plain_any _ _ _ HR6.out HY.out).mono ?_; rintro e w7 ⟨p7, n7, c7, rfl, hown7, hb7⟩; have HO7 := Lib.hid hown7; have HC7 : Hid (Chg C w w7) := HC6.out.trans (Chg.of_below hb7); have HST7 : Hid (Q w7) := HQ.out _ _ HST6.out (Chg.of_below hb7); have HR7 : Hid (Reads w7 (.slice p6 n6 c6) (zs.map intV)) := HO6.out.reads.below hb7; clear hown7 hb7) | (go_at_call 41; refine (same04_any _ _ _ _ _ HR7.out HO7.out.reads).mono ?_; rintro e w8 ⟨rfl, q, rfl⟩))
  all_goals (go_wp2_with fail; go_ret; exact ⟨⟨_, rfl, fun h => by simp [h]⟩, HQ.out _ _ HST7.out ((Chg.refl [] _).drewN q), HC7.out.drewN q⟩)

set_option maxHeartbeats 1000000 in
theorem again_O (kd : Int) (p : Option Addr) (u : Nat) (n x : Int) (pb pl pf : Option Addr) (nb cb nl cl nf cf : Nat) (w : World) (h : ¬ (1 ≤ kd ∧ kd ≤ 6)) :
    Calls Try.prog 22 #[.agg #[.int .i64 kd, .int .u64 u, .int .i64 n, .int .i64 x, .slice pb nb cb, .slice pl nl cl, .slice pf nf cf], .pointer p] w fun e w' => e = .returned (.bool true) ∧ Below w.heap.size w w' := by
  have g1 : (kd == 1) = false := by rw [beq_eq_false_iff_ne]; omega
  have g2 : (kd == 2) = false := by rw [beq_eq_false_iff_ne]; omega
  have g3 : (kd == 3) = false := by rw [beq_eq_false_iff_ne]; omega
  have g4 : (kd == 4) = false := by rw [beq_eq_false_iff_ne]; omega
  have g5 : (kd == 5) = false := by rw [beq_eq_false_iff_ne]; omega
  have g6 : (kd == 6) = false := by rw [beq_eq_false_iff_ne]; omega
  clear h
  go_enter Try.func22, Try.ntmps22
  go_wp2_with fail
  go_ret
  exact ⟨rfl, (Below.refl _ w).alloc (Nat.le_refl _) _⟩
end Go.Proofs.Ytajnhmkkgngbhaa
