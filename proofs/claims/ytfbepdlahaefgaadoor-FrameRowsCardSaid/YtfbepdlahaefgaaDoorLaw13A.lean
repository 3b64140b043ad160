/- The chapter's example of layer 13, walked: regattalaw13.awake returns true. -/
import Derived.Test.YtfbepdlahaefgaaDoorFrameW3
import Derived.Laws.IdiomStrings
namespace Go.Proofs.YtfbepdlahaefgaaDoor
open Go.RowKit
open Crc (R sum)
open Frm (le4 byteAt num4 head body frame fault fixed opened bad size)

theorem Tab.below' {w w' : World} (h : Tab w) (hb : Below w.heap.size w w') : Tab w' := h.below hb
/-- What Open tells, its bytes and its error known. -/
theorem open_is (v : Value) (bs : List (BitVec 8)) (k : Int) (p : List (BitVec 8)) (n : Nat) (x : Int) (w : World) (hv : IsBytes w v bs) (ht : Tab w) (ho : opened bs = ⟨k, p, n, x⟩) :
    Calls Tryd.prog 29 #[v] w fun e w' => ∃ a m c, e = .returned (.tuple #[.agg #[.int .i64 k, .slice a m c], .int .i64 n, .int .i64 x]) ∧ IsBytes w' (.slice a m c) p ∧ Below w.heap.size w w' := by
  have := open_any v bs w hv ht
  rw [ho] at this
  exact this
theorem seal_is (kind : Nat) (v : Value) (p : List (BitVec 8)) (w : World) (h1 : 1 ≤ kind) (h2 : kind ≤ 255) (hv : IsBytes w v p) (hp : p.length ≤ 65536) (ht : Tab w) :
    Calls Tryd.prog 26 #[.int .i64 kind, v] w fun e w' => ∃ a m c, e = .returned (.tuple #[.slice a m c, .int .i64 0]) ∧ Own w' w.heap.size 5 (.slice a m c) ((frame (BitVec.ofNat 8 kind) p).map byteV) ∧ Below w.heap.size w w' := by
  have hk : (BitVec.ofNat 8 kind).toNat = kind := by rw [BitVec.toNat_ofNat, Nat.mod_eq_of_lt (by omega)]
  have := seal_any (BitVec.ofNat 8 kind) v p w (fun e => by have := congrArg BitVec.toNat e; rw [hk] at this; simp at this; omega) hv hp ht
  rwa [hk] at this
theorem opened_a : opened (frame 1#8 [97#8]) = ⟨1, [97#8], 13, 0⟩ := by
  have := Frm.opened_frame 1#8 [97#8] [] (by decide) (by decide)
  rw [List.append_nil] at this
  exact this
theorem fixed_rh : fixed [82#8, 72#8] = 131 := by decide
theorem opened_rh : opened [82#8, 72#8] = ⟨0, [], 0, 131⟩ := by
  unfold opened
  rw [fixed_rh, if_pos (by decide)]
  rfl
/-- A slice of some bytes, opened. -/
theorem IsBytes.some_ {w : World} {a : Option Addr} {n cap : Nat} {bs : List (BitVec 8)} (h : IsBytes w (.slice a n cap) bs) (hp : 0 < bs.length) : ∃ b off, a = some ⟨b, off, none⟩ ∧ n = bs.length ∧ n ≤ cap ∧ cap ≤ 9223372036854775807 ∧ b < w.heap.size ∧ BytesAt w b off bs := by
  obtain ⟨a', n', cap', he, hn, hc, hm, hb⟩ := h
  injection he with h1 h2 h3
  subst h1 h2 h3
  rcases hb with rfl | ⟨b, off, ha, hlt, hb⟩
  · simp at hp
  · exact ⟨b, off, ha, hn, hc, by unfold maxLen at hm; omega, hlt, hb⟩
theorem open_rh (w : World) (k : Nat) (hk : w.heap.size = k) (ht : Tab w) :
    Calls Tryd.prog 29 #[.slice (some ⟨k, 0, none⟩) 2 2] (w.alloc (.cells #[.int .u8 82, .int .u8 72] 5)) fun e w' => ∃ a m c, e = .returned (.tuple #[.agg #[.int .i64 0, .slice a m c], .int .i64 0, .int .i64 131]) ∧ Below w.heap.size w w' := by
  have hb : IsBytes (w.alloc (.cells #[.int .u8 82, .int .u8 72] 5)) (.slice (some ⟨k, 0, none⟩) 2 2) [82#8, 72#8] := IsBytes.new hk #[.int .u8 82, .int .u8 72] 5 (0, 0) [82#8, 72#8] 2 rfl (by decide) rfl
  refine (open_is _ [82#8, 72#8] 0 [] 0 131 _ hb (ht.alloc _) opened_rh).mono ?_
  rintro e w' ⟨a, m, c, rfl, _, hbel⟩
  exact ⟨a, m, c, rfl, ((Below.refl _ _).alloc (Nat.le_refl _) _).trans (hbel.mono (by simp))⟩
theorem seal_a (w : World) (ht : Tab w) :
    Calls Tryd.prog 26 #[.int .i64 1, .slice (some ⟨w.heap.size, 0, none⟩) 1 1] (w.alloc (.cells #[.int .u8 97] 5 (1, 2))) fun e w' => ∃ b off c, e = .returned (.tuple #[.slice (some ⟨b, off, none⟩) 13 c, .int .i64 0]) ∧ Hid (13 ≤ c) ∧ w'.cell? ⟨b, off + 8, none⟩ = some (.int .u8 97) ∧ Hid (b < w'.heap.size) ∧ Hid (IsBytes w' (.slice (some ⟨b, off, none⟩) 13 c) (frame 1#8 [97#8])) ∧ Hid (Below w.heap.size w w') := by
  have hb : IsBytes (w.alloc (.cells #[.int .u8 97] 5 (1, 2))) (.slice (some ⟨w.heap.size, 0, none⟩) 1 1) [97#8] := IsBytes.new rfl #[.int .u8 97] 5 (1, 2) [97#8] 1 rfl (by decide) rfl
  refine (seal_is 1 _ [97#8] _ (by decide) (by decide) hb (by decide) (ht.alloc _)).mono ?_
  rintro e w' ⟨a, m, c, rfl, hown, hbel⟩
  have hby := hown.reads.bytes
  have hl : (frame 1#8 [97#8]).length = 13 := Frm.frame_length _ _
  obtain ⟨b, off, rfl, hm, hc, _, hlt, hat⟩ := hby.some_ (by rw [hl]; omega)
  rw [hl] at hm
  subst hm
  refine ⟨b, off, c, rfl, hc, ?_, hlt, hby, ((Below.refl _ _).alloc (Nat.le_refl _) _).trans (hbel.mono (by simp))⟩
  rw [hat 8 (by rw [hl]; omega)]
  rfl
theorem open_a (v : Value) (w : World) (hv : IsBytes w v (frame 1#8 [97#8])) (ht : Tab w) :
    Calls Tryd.prog 29 #[v] w fun e w' => ∃ b off c, e = .returned (.tuple #[.agg #[.int .i64 1, .slice (some ⟨b, off, none⟩) 1 c], .int .i64 13, .int .i64 0]) ∧ Hid (1 ≤ c) ∧ w'.cell? ⟨b, off, none⟩ = some (.int .u8 97) ∧ Hid (b < w'.heap.size) ∧ Hid (Below w.heap.size w w') := by
  refine (open_is v _ 1 [97#8] 13 0 _ hv ht opened_a).mono ?_
  rintro e w' ⟨a, m, c, rfl, hby, hbel⟩
  obtain ⟨b, off, rfl, hm, hc, _, hlt, hat⟩ := hby.some_ (by decide)
  have hm : m = 1 := hm
  subst hm
  exact ⟨b, off, c, rfl, hc, hat 0 (by decide), hlt, hbel⟩
theorem string_a {P : Program} {t e u : TypeId} (hs : P.underlying t = some (.slice e)) (he : P.underlying e = some (.int .u8)) (hu : P.underlying u = some .string) (b o c : Nat) (w : World) (h : w.cell? ⟨b, o, none⟩ = some (.int .u8 97)) :
    (convert t u (.slice (some ⟨b, o, none⟩) 1 c)).run P w = .ok (.string ⟨#[97]⟩) w :=
  run_convert_bytes_back w t u e ⟨b, o, none⟩ c [97] hs he hu fun j hj => by
    obtain rfl : j = 0 := by simp at hj; omega
    exact h
theorem cell_up' {w2 w3 : World} {o o' : Obj} (h : Below (w2.alloc o).heap.size (w2.alloc o) w3) (p : Addr) (hp : p.block < (w2.alloc o).heap.size) : (w3.alloc o').cell? p = (w2.alloc o).cell? p :=
  (World.cell?_alloc_lt _ _ _ (Nat.lt_of_lt_of_le hp h.size)).trans (h.cell hp)
theorem cell_up {w2 w3 : World} {o o' : Obj} (h : Below (w2.alloc o).heap.size (w2.alloc o) w3) (p : Addr) (hp : p.block < w2.heap.size) : (w3.alloc o').cell? p = w2.cell? p :=
  (cell_up' h p (by simp; omega)).trans (World.cell?_alloc_lt _ _ _ hp)
set_option maxRecDepth 4000 in
set_option maxHeartbeats 400000 in
theorem awake13_any (w : World) (ht : Tab w) :
    Calls Tryd.prog 25 #[] w fun e w' => e = .returned (.bool true) ∧ Below w.heap.size w w' := by
  have HT := Lib.hid ht
  clear ht
  have c0 := conv0 (P := Tryd.prog) (t := 24) (e := 5) Tryd.underlying24 Tryd.underlying5
  go_enter Tryd.func25, Tryd.ntmps25
  go_wp2_with (go_at_call 26; refine (seal_a _ HT.out).mono ?_; rintro e w1 ⟨b1, o1, k1, rfl, hk1, hc1, hl1, H1, HB1⟩; have h13 : 13 ≤ k1 := hk1.out)
  refine (open_a _ _ H1.out (HT.out.below HB1.out)).mono ?_
  rintro e w2 ⟨b2, o2, k2, rfl, hk2, hc2, hl2, HB2⟩
  have h1k : 1 ≤ k2 := hk2.out
  go_wp2_with fail
  refine (open_rh _ _ (by simp) ((HT.out.below (HB1.out.trans (HB2.out.mono HB1.out.size))).alloc _)).mono ?_
  rintro e w3 ⟨a3, m3, k3, rfl, hb3⟩
  have q1 := (cell_up (o' := .cells #[.int .i64 0, .slice a3 m3 k3] 47) hb3 ⟨b1, o1 + 8, none⟩ (Nat.lt_of_lt_of_le hl1.out HB2.out.size)).trans ((HB2.out.cell (p := ⟨b1, o1 + 8, none⟩) hl1.out).trans hc1)
  have q2 := (cell_up (o' := .cells #[.int .i64 0, .slice a3 m3 k3] 47) hb3 ⟨b2, o2, none⟩ hl2.out).trans hc2
  have q3 := (cell_up' (o' := .cells #[.int .i64 0, .slice a3 m3 k3] 47) hb3 ⟨w2.heap.size, 0, none⟩ (by simp)).trans (show _ = some (.int .i64 1) by simp)
  have q4 := (cell_up' (o' := .cells #[.int .i64 0, .slice a3 m3 k3] 47) hb3 ⟨w2.heap.size, 1, none⟩ (by simp)).trans (show _ = some (.slice (some ⟨b2, o2, none⟩) 1 k2) by simp)
  have HB3 := Lib.hid hb3
  clear hb3 hc1 hc2
  have qs := string_a (Tryd.underlying24) (Tryd.underlying5) (Tryd.underlying9) b2 o2 k2 _ q2
  go_wp2_with fail
  go_ret
  have hs12 : w.heap.size ≤ w2.heap.size := Nat.le_trans HB1.out.size HB2.out.size
  have b2' : Below w.heap.size w w2 := HB1.out.trans (HB2.out.mono HB1.out.size)
  have b3' : Below w.heap.size w w3 := (b2'.alloc hs12 _).trans (HB3.out.mono (by simp; omega))
  exact ⟨rfl, b3'.alloc b3'.size _⟩
end Go.Proofs.YtfbepdlahaefgaaDoor
