/- The law FrameOpens, walked. -/
import Derived.Test.YtfbepdlahaefgaaDoorRefOpen3
namespace Go.Proofs.YtfbepdlahaefgaaDoor
open Go.RowKit
open Crc (R sum)
open Frm (le4 byteAt num4 head body frame fault fixed opened bad size)

theorem refOpen_empty (a : Option Addr) (cap : Nat) (w : World) :
    Calls Tryd.prog 30 #[.slice a 0 cap] w fun e w' => e = .returned (.tuple #[.agg #[.int .i64 0, .slice none 0 0], .int .i64 0, .int .i64 130]) ∧ Below w.heap.size w w' := by
  go_enter Tryd.func30, Tryd.ntmps30
  go_wp2
  go_loop [3, 4, 5] (fun x y i => x = .int .i64 0 ∧ y = .int .i64 0 ∧ i = .int .i64 0) (fun _ _ _ => 0)
  case atStart => exact ⟨rfl, rfl, rfl⟩
  case round =>
    obtain ⟨rfl, rfl, rfl⟩ := hrel
    go_wp2
    refine bodyPost_ret (v := .tuple #[.agg #[.int .i64 0, .slice none 0 0], .int .i64 0, .int .i64 130]) (by simp [results, Tryd.results30, go_sem]) rfl ⟨rfl, ?_⟩
    exact (Below.refl _ _).alloc (Nat.le_refl _) _
theorem refOpen_new (v : Value) (bs : List (BitVec 8)) (w : World) (hv : IsBytes w v bs) :
    Calls Tryd.prog 30 #[v] w fun e w' => ∃ a m c, e = .returned (.tuple #[.agg #[.int .i64 (opened bs).kind, .slice a m c], .int .i64 ((opened bs).n : Nat), .int .i64 (opened bs).err]) ∧ Bit w.heap.size w' (.slice a m c) (opened bs).payload ∧ Below w.heap.size w w' := by
  have early : ∀ (u : Value) (x : Int), opened bs = bad x → (Calls Tryd.prog 30 #[u] w fun e w' => e = .returned (.tuple #[.agg #[.int .i64 0, .slice none 0 0], .int .i64 0, .int .i64 x]) ∧ Below w.heap.size w w') →
      Calls Tryd.prog 30 #[u] w fun e w' => ∃ a m c, e = .returned (.tuple #[.agg #[.int .i64 (opened bs).kind, .slice a m c], .int .i64 ((opened bs).n : Nat), .int .i64 (opened bs).err]) ∧ Bit w.heap.size w' (.slice a m c) (opened bs).payload ∧ Below w.heap.size w w' := by
    intro u x hx h
    refine h.mono ?_
    rintro e w' ⟨rfl, hb⟩
    rw [hx]
    exact ⟨none, 0, 0, rfl, ⟨_, _, _, rfl, rfl, Nat.le_refl _, by decide, .inl rfl⟩, hb⟩
  rcases hv.open_ with ⟨rfl, a, cap, rfl, hm⟩ | ⟨hp, b, off, cap, rfl, hc, hm, hlt, hat⟩
  · exact early _ 130 (by unfold opened; rw [if_neg (by decide), if_pos (by decide)]) (refOpen_empty a cap w)
  · unfold maxLen at hm
    obtain ⟨n, hn⟩ : ∃ n, bs.length = n := ⟨_, rfl⟩
    rw [hn] at hc hp ⊢
    by_cases hf : fixed bs = 0 ∧ 4 ≤ n
    · obtain ⟨hf, h4⟩ := hf
      by_cases h8 : n < 8
      · exact early _ 130 (by unfold opened; rw [if_neg (by rw [hf]; simp), if_pos (by omega)]) (refOpen_short b off n cap bs w hn hc hm hlt hat h4 hf h8)
      · obtain ⟨z, hz⟩ : ∃ z, (num4 (bs.drop 4)).toNat = z := ⟨_, rfl⟩
        have hs : size bs = z := hz
        have hzb : z < 4294967296 := by rw [← hz]; exact (num4 (bs.drop 4)).isLt
        by_cases hzl : 65536 < z
        · exact early _ 134 (by unfold opened; rw [if_neg (by rw [hf]; simp), if_neg (by omega), if_pos (by omega)]) (refOpen_size b off n cap bs w hn hc hm hlt hat h4 hf (by omega) z hz hzl hzb)
        · by_cases hnl : n < z + 12
          · exact early _ 130 (by unfold opened; rw [if_neg (by rw [hf]; simp), if_neg (by omega), if_neg (by omega), if_pos (by omega)]) (refOpen_cut b off n cap bs w hn hc hm hlt hat h4 hf (by omega) z hz (by omega) hnl)
          · have hfull := refOpen_full b off n cap bs w hn hc hm hlt hat h4 hf (by omega) z hz (by omega) (by omega)
            by_cases hq : num4 (bs.drop (z + 8)) = sum (bs.take (z + 8))
            · have ho : opened bs = ⟨(bs.getD 3 0#8).toNat, (bs.drop 8).take z, z + 12, 0⟩ := by
                unfold opened
                rw [if_neg (by rw [hf]; simp), if_neg (by omega), if_neg (by omega), if_neg (by omega), hs, if_neg (fun h => h hq)]
              refine hfull.mono ?_
              rintro e w' ⟨_, h, hb⟩
              obtain ⟨a, m, c, rfl, hp⟩ := h hq
              rw [ho]
              exact ⟨a, m, c, rfl, hp, hb⟩
            · refine early _ 135 (by unfold opened; rw [if_neg (by rw [hf]; simp), if_neg (by omega), if_neg (by omega), if_neg (by omega), hs, if_pos hq]) (hfull.mono ?_)
              rintro e w' ⟨h, _, hb⟩
              exact ⟨h hq, hb⟩
    · have hx : fixed bs ≠ 0 ∨ n < 4 := by
        by_cases h : fixed bs = 0
        · right
          rcases Nat.lt_or_ge n 4 with h' | h'
          · exact h'
          · exact absurd ⟨h, h'⟩ hf
        · exact .inl h
      have hbad : opened bs = bad (opened bs).err := by
        unfold opened
        by_cases h : fixed bs = 0
        · rw [if_neg (by rw [h]; simp), if_pos (by rcases hx with h' | h' <;> first | exact absurd h h' | omega)]; rfl
        · rw [if_pos h]; rfl
      exact early _ _ hbad (refOpen_head b off n cap bs w hn hc hlt hat hp hx)
theorem refOpen_any (v : Value) (bs : List (BitVec 8)) (w : World) (hv : IsBytes w v bs) :
    Calls Tryd.prog 30 #[v] w fun e w' => ∃ a m c, e = .returned (.tuple #[.agg #[.int .i64 (opened bs).kind, .slice a m c], .int .i64 ((opened bs).n : Nat), .int .i64 (opened bs).err]) ∧ IsBytes w' (.slice a m c) (opened bs).payload ∧ Below w.heap.size w w' :=
  (refOpen_new v bs w hv).mono fun _ _ ⟨a, m, c, h1, h2, h3⟩ => ⟨a, m, c, h1, h2.bytes, h3⟩
theorem like_any (k : Int) (a b : Option Addr) (n m c d : Nat) (p : List (BitVec 8)) (w : World) (hu : IsBytes w (.slice a n c) p) (hv : IsBytes w (.slice b m d) p) :
    Calls Tryd.prog 31 #[.agg #[.int .i64 k, .slice a n c], .agg #[.int .i64 k, .slice b m d]] w fun e w' => e = .returned (.bool true) ∧ Hid (Below w.heap.size w w') := by
  have X1 : Hid (IsBytes ((w.alloc (.cells #[.int .i64 k, .slice a n c] 47)).alloc (.cells #[.int .i64 k, .slice b m d] 50)) (.slice a n c) p) := (hu.alloc _).alloc _
  have X2 : Hid (IsBytes ((w.alloc (.cells #[.int .i64 k, .slice a n c] 47)).alloc (.cells #[.int .i64 k, .slice b m d] 50)) (.slice b m d) p) := (hv.alloc _).alloc _
  have hk : (k == k) = true := by simp
  clear hu hv
  go_enter Tryd.func31, Tryd.ntmps31
  go_wp2_with (go_at_call 27; refine (same_any _ _ p p _ X1.out X2.out).mono ?_; rintro e w4 ⟨rfl, q, rfl⟩; rw [decide_eq_true (rfl : p = p)])
  go_ret
  exact ⟨rfl, below_drewN (((Below.refl _ _).alloc (Nat.le_refl _) _).alloc (by simp) _) q⟩
theorem frameOpens_in (a : Option Addr) (n cp : Nat) (p : List (BitVec 8)) (w : World) (hu : IsBytes w (.slice a n cp) p) (hn2 : n ≤ 3000) (ht : Tab w) :
    Calls Tryd.prog 10 #[.slice a n cp] w fun e w' => e = .returned (.bool true) ∧ Below w.heap.size w w' := by
  have HU := Lib.hid hu
  have HT := Lib.hid ht
  clear hu ht
  have g3 : ¬ (3000 : Int) < (n : Int) := by omega
  obtain ⟨x, hx⟩ : ∃ x, opened p = x := ⟨_, rfl⟩
  obtain ⟨kk, pp, nn, ee⟩ := x
  have HX := Lib.hid hx
  clear hx
  go_enter Tryd.func10, Tryd.ntmps10
  go_wp2_with (go_at_call 25; refine (awake13_at _ HT.out).mono ?_; rintro e w1 ⟨rfl, HB1⟩)
  refine (open_is _ p kk pp nn ee w1 (HU.out.below HB1.out) (HT.out.below HB1.out) HX.out).mono ?_
  rintro e w2 ⟨a2, m2, c2, rfl, H2, hb2⟩
  have bw2 : Hid (Below w.heap.size w w2) := HB1.out.trans (hb2.mono HB1.out.size)
  have H2 := Lib.hid H2
  clear hb2
  go_wp2_with fail
  have href := refOpen_any _ p _ ((HU.out.below bw2.out).alloc (.cells #[.int .i64 kk, .slice a2 m2 c2] 47))
  rw [HX.out] at href
  refine href.mono ?_
  rintro e w3 ⟨a3, m3, c3, rfl, H3, hb3⟩
  have HB3 := Lib.hid hb3
  have q1 := (cell_up' (o' := .cells #[.int .i64 kk, .slice a3 m3 c3] 50) hb3 ⟨w2.heap.size, 0, none⟩ (by simp)).trans (show _ = some (.int .i64 kk) by simp)
  have q2 := (cell_up' (o' := .cells #[.int .i64 kk, .slice a3 m3 c3] 50) hb3 ⟨w2.heap.size, 1, none⟩ (by simp)).trans (show _ = some (.slice a2 m2 c2) by simp)
  have b23 : Hid (Below w2.heap.size w2 w3) := below_box HB3
  have X1 : Hid (IsBytes (w3.alloc (.cells #[.int .i64 kk, .slice a3 m3 c3] 50)) (.slice a2 m2 c2) pp) := (H2.out.below b23.out).alloc _
  have X2 : Hid (IsBytes (w3.alloc (.cells #[.int .i64 kk, .slice a3 m3 c3] 50)) (.slice a3 m3 c3) pp) := IsBytes.alloc H3 _
  have bw3 : Hid (Below w.heap.size w w3) := bw2.out.trans (b23.out.mono bw2.out.size)
  have en : ((nn : Int) == (nn : Int)) = true := by simp
  have eq : (ee == ee) = true := by simp
  clear href H3 hb3
  go_wp2_with fail
  refine (like_any kk a2 a3 m2 m3 c2 c3 pp _ X1.out X2.out).mono ?_
  rintro e w4 ⟨rfl, HB4⟩
  go_wp2_with fail
  go_ret
  exact ⟨rfl, (bw3.out.alloc bw3.out.size _).trans (HB4.out.mono (by simp; exact Nat.le_succ_of_le bw3.out.size))⟩
theorem frameOpens_law (u : Value) (p : List (BitVec 8)) (w : World) (hu : IsBytes w u p) (ht : Tab w) :
    Calls Tryd.prog 10 #[u] w fun e w' => e = .returned (.bool true) ∧ Below w.heap.size w w' := by
  have hu' := hu
  obtain ⟨a, n, cp, rfl, hn, _⟩ := hu'
  by_cases h : 3000 < n
  · have g3 : (3000 : Int) < (n : Int) := by omega
    have HT := Lib.hid ht
    clear hu ht hn h
    go_enter Tryd.func10, Tryd.ntmps10
    go_wp2_with (go_at_call 25; refine (awake13_at _ HT.out).mono ?_; rintro e w1 ⟨rfl, HB1⟩)
    go_ret
    exact ⟨rfl, HB1.out⟩
  · exact frameOpens_in a n cp p w hu (by omega) ht
end Go.Proofs.YtfbepdlahaefgaaDoor
