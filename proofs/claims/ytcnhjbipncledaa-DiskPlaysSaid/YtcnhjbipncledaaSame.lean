/- The walk of regattaref11.Same: two texts. -/
import Derived.Test.YtcnhjbipncledaaApp2
import Derived.Test.YtcnhjbipncledaaProg
namespace Go.Proofs.Ytcnhjbipncledaa
open Go.RowKit
theorem elemU8 : Elem Try.prog 30 5 1 := Elem.mk_ Try.underlying30 (z := .int .u8 0) (by kernel_rfl) rfl
theorem same_take (xs bs : List (BitVec 8)) (k : Nat) (ha : k < xs.length) (hb : k < bs.length) (h : xs.take k = bs.take k) (e : xs[k] = bs[k]) : xs.take (k + 1) = bs.take (k + 1) := by
  rw [take_snoc xs k ha, take_snoc bs k hb, h, e]
theorem drewN2 {w : World} {a b : Nat} : ∃ n, (w.drewN a).drewN b = w.drewN n := ⟨a + b, World.drewN_drewN ..⟩
theorem ne8 {a b : BitVec 8} (h : ¬ a = b) : ((a.toNat : Int) != (b.toNat : Int)) = true := by
  rw [bne_iff_ne]; intro e; exact h (BitVec.eq_of_toNat_eq (by omega))
theorem eq8 {a b : BitVec 8} (h : a = b) : ((a.toNat : Int) != (b.toNat : Int)) = false := by
  subst h; simp
theorem same_empty (a a2 : Option Addr) (cap cap2 : Nat) (w : World) :
    Calls Try.prog 24 #[.slice a 0 cap, .slice a2 0 cap2] w fun e w' => e = .returned (.bool true) ∧ ∃ n, w' = w.drewN n := by
  go_enter Try.func24, Try.ntmps24
  go_wp2
  go_loop [5] (fun i => i = .int .i64 0) (fun _ => 0)
  case atStart => rfl
  case round =>
    obtain rfl := hrel
    go_wp2
    go_ret
    exact ⟨rfl, 0, rfl⟩
theorem same_unlike (a a2 : Option Addr) (n m cap cap2 : Nat) (w : World) (h : n ≠ m) :
    Calls Try.prog 24 #[.slice a n cap, .slice a2 m cap2] w fun e w' => e = .returned (.bool false) ∧ ∃ n, w' = w.drewN n := by
  have hne : ((n : Int) != (m : Int)) = true := by rw [bne_iff_ne]; omega
  go_enter Try.func24, Try.ntmps24
  go_wp2
  go_ret
  exact ⟨rfl, 0, rfl⟩
set_option maxHeartbeats 400000 in
theorem same_long (b off b2 off2 n cap cap2 : Nat) (xs bs : List (BitVec 8)) (w : World) (ha : xs.length = n) (hb : bs.length = n) (hn : n ≤ 9223372036854775807)
    (hca : BytesAt w b off xs) (hcb : BytesAt w b2 off2 bs) :
    Calls Try.prog 24 #[.slice (some ⟨b, off, none⟩) n cap, .slice (some ⟨b2, off2, none⟩) n cap2] w fun e w' => e = .returned (.bool (decide (xs = bs))) ∧ ∃ n, w' = w.drewN n := by
  have hne : ((n : Int) != (n : Int)) = false := by simp
  have HA := Lib.hid ha
  have HB := Lib.hid hb
  have HCA := Lib.hid hca
  have HCB := Lib.hid hcb
  clear ha hb hca hcb
  go_enter Try.func24, Try.ntmps24
  go_wp2
  go_loopw [5] (fun i wr => ∃ k : Nat, k ≤ n ∧ i = .int .i64 k ∧ Hid (xs.take k = bs.take k) ∧ ∃ d, wr = w.drewN d) (fun i _ => n - (intOf i).toNat)
  case atStart => exact ⟨0, by omega, rfl, (rfl : xs.take 0 = bs.take 0), 0, rfl⟩
  case round =>
    obtain ⟨k, hk, rfl, hs, d, rfl⟩ := hrel
    by_cases hlt : k < n
    · have hka : k < xs.length := by rw [HA.out]; exact hlt
      have hkb : k < bs.length := by rw [HB.out]; exact hlt
      have h1 := HCA.out k hka
      have h2 := HCB.out k hkb
      have i1 : (0 : Int) ≤ (k : Int) ∧ (k : Int) < (n : Int) := by omega
      by_cases he : xs[k] = bs[k]
      · have hne := eq8 he
        have HE := Lib.hid he
        clear he
        go_wp2
        go_quiet (fail)
        go_wp2
        go_roundw
        case rel => exact ⟨k + 1, by omega, by go_num, same_take xs bs k hka hkb hs HE.out, _, rfl⟩
        case measure => simp [intOf]; omega
      · have hne := ne8 he
        have HE := Lib.hid he
        clear he
        go_wp2
        go_quiet (fail)
        go_wp2
        go_ret
        refine ⟨?_, drewN2⟩
        have : ¬ xs = bs := fun e => HE.out (by simp only [e])
        rw [decide_eq_false this]
        rfl
    · go_wp2
      go_ret
      refine ⟨?_, _, rfl⟩
      have hs := hs.out
      rw [List.take_of_length_le (by rw [HA.out]; omega), List.take_of_length_le (by rw [HB.out]; omega)] at hs
      rw [decide_eq_true hs]
      rfl
theorem same_any (u v : Value) (xs bs : List (BitVec 8)) (w : World) (hu : IsBytes w u xs) (hv : IsBytes w v bs) :
    Calls Try.prog 24 #[u, v] w fun e w' => e = .returned (.bool (decide (xs = bs))) ∧ ∃ n, w' = w.drewN n := by
  by_cases hl : xs.length = bs.length
  · rcases hu.open_ with ⟨rfl, a, cap, rfl, hm⟩ | ⟨hp, b, off, cap, rfl, hc, hm, hlt, hb⟩
    · obtain rfl : bs = [] := List.eq_nil_of_length_eq_zero hl.symm
      obtain ⟨a2, len2, cap2, rfl, rfl, _⟩ := hv
      exact same_empty a a2 cap cap2 w
    · rcases hv.open_ with ⟨rfl, a, cap2, rfl, hm2⟩ | ⟨hp2, b2, off2, cap2, rfl, hc2, hm2, hlt2, hb2⟩
      · simp only [List.length_nil] at hl; omega
      · have hx := hv.length_le
        rw [hl]
        exact same_long b off b2 off2 bs.length cap cap2 xs bs w hl rfl hx hb hb2
  · obtain ⟨a, len, cap, rfl, rfl, _⟩ := hu
    obtain ⟨a2, len2, cap2, rfl, rfl, _⟩ := hv
    rw [decide_eq_false (fun e => hl (by rw [e]))]
    exact same_unlike a a2 _ _ cap cap2 w hl

theorem info8 : (Try.prog.info? 5).map (fun i => (i.zero, i.size, i.bytes)) = some (some (.int .u8 0), 1, 1) := by kernel_rfl
theorem made_bytes {w : World} {k n : Nat} (hk : w.heap.size = k) (hn : n ≤ maxLen) : IsBytes (w.alloc (.cells (madeCells #[.int .u8 0] n) 5)) (.slice (some ⟨k, 0, none⟩) n n) (List.replicate n 0#8) := by
  have h := (made_own (e := 5) hk hn (.int .u8 0)).1.reads
  have e : List.replicate n (Value.int .u8 0) = (List.replicate n 0#8).map byteV := by rw [List.map_replicate]; rfl
  rw [e, List.length_map, List.length_replicate] at h
  exact h.bytes
end Go.Proofs.Ytcnhjbipncledaa
