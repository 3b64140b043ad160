/- The disk's contracts once more, by the blocks that its calls may turn: one list for all of them. -/
import Derived.Test.YtcnhjbipncledaaDk9
namespace Go.Proofs.Ytcnhjbipncledaa
open Go.RowKit

/-- A disk at D; its calls turn the blocks of F alone. -/
def DiskF (w : World) (D : Nat) (F : List Nat) (s : Dk) : Prop := ∃ M u, F = fp D M u ∧ DiskAt w D M u s
/-- What F has become: its own blocks, and new ones. -/
def Grow (w : World) (F F' : List Nat) : Prop := ∀ x ∈ F', x ∈ F ∨ w.heap.size ≤ x
theorem Grow.refl (w : World) (F : List Nat) : Grow w F F := fun _ h => .inl h
theorem Grow.trans {w w' : World} {F F' F'' : List Nat} (h : Grow w F F') (h' : Grow w' F' F'') (hs : w.heap.size ≤ w'.heap.size) : Grow w F F'' := fun x hx => by
  rcases h' x hx with h1 | h1
  · exact h x h1
  · exact .inr (Nat.le_trans hs h1)
theorem Grow.above {w : World} {F F' : List Nat} {B : Nat} (h : Grow w F F') (hB : B ≤ w.heap.size) (hF : ∀ x ∈ F, B ≤ x) : ∀ x ∈ F', B ≤ x := fun x hx => by
  rcases h x hx with h1 | h1
  · exact hF x h1
  · omega
theorem Grow.apart {w : World} {F F' G : List Nat} (h : Grow w F F') (hF : ∀ x ∈ G, x ∉ F) (hG : ∀ x ∈ G, x < w.heap.size) : ∀ x ∈ G, x ∉ F' := fun x hx hx' => by
  rcases h x hx' with h1 | h1
  · exact hF x hx h1
  · have := hG x hx; omega
theorem DiskF.lt {w : World} {D : Nat} {F : List Nat} {s : Dk} (h : DiskF w D F s) : ∀ x ∈ F, x < w.heap.size := by
  obtain ⟨M, u, rfl, h⟩ := h
  intro x hx
  have := h.lt
  simp [fp] at hx
  rcases hx with rfl | rfl | hx
  · exact this.1
  · exact this.2.1
  · exact this.2.2 x hx
theorem DiskF.mem {w : World} {D : Nat} {F : List Nat} {s : Dk} (h : DiskF w D F s) : D ∈ F := by
  obtain ⟨M, u, rfl, h⟩ := h
  simp [fp]
theorem DiskF.ok {w : World} {D : Nat} {F : List Nat} {s : Dk} (h : DiskF w D F s) : s.Ok := by
  obtain ⟨M, u, rfl, h⟩ := h
  exact h.ok
theorem DiskF.chg {w w' : World} {D : Nat} {F S : List Nat} {s : Dk} (h : DiskF w D F s) (hc : Chg S w w') (hs : ∀ x ∈ F, x ∉ S) : DiskF w' D F s := by
  obtain ⟨M, u, rfl, h⟩ := h
  exact ⟨M, u, rfl, h.chg hc hs⟩
theorem DiskF.below {w w' : World} {D : Nat} {F : List Nat} {s : Dk} (h : DiskF w D F s) (hb : Below w.heap.size w w') : DiskF w' D F s := h.chg (S := []) (Chg.of_below hb) (by simp)
theorem DiskF.alloc {w : World} {D : Nat} {F : List Nat} {s : Dk} (h : DiskF w D F s) (o : Obj) : DiskF (w.alloc o) D F s := h.below ((Below.refl _ _).alloc (Nat.le_refl _) o)
theorem DiskF.drewN {w : World} {D : Nat} {F : List Nat} {s : Dk} (h : DiskF w D F s) (n : Nat) : DiskF (w.drewN n) D F s := h.below (below_drewN (Below.refl _ _) n)
theorem fp_mono {D M : Nat} {u : Value} : ∀ x, x ∈ [D, M] → x ∈ fp D M u := fun x hx => by simp [fp] at hx ⊢; rcases hx with h | h <;> simp [h]
theorem newF (w : World) (n : Int) (h1 : 1 ≤ n) (h2 : n ≤ 16384) : Calls Try.prog 13 #[.int .i64 n] w fun e w' => e = .returned (.tuple #[.pointer (some ⟨w.heap.size + 1, 0, none⟩), .int .i64 0]) ∧ (∃ F, DiskF w' (w.heap.size + 1) F (Dk.fresh n) ∧ ∀ x ∈ F, w.heap.size ≤ x) ∧ Below w.heap.size w w' :=
  (new_any w n h1 h2).mono fun e w' ⟨he, hd, hb⟩ => ⟨he, ⟨_, ⟨_, _, rfl, hd⟩, fun x hx => by simp [fp, Value.ownBlock] at hx; omega⟩, hb⟩
theorem writeF (w : World) (D : Nat) (F : List Nat) (s : Dk) (h : DiskF w D F s) (i : Int) (va : Option Addr) (vn vc : Nat) (b : List B8) (hv : IsBytes w (.slice va vn vc) b) (hu : s.under.length ≤ 1000000) :
    Calls Try.prog 15 #[.pointer (some ⟨D, 0, none⟩), .int .i64 i, .slice va vn vc] w fun e w' => e = .returned (.int .i64 (s.write i b).2) ∧ (∃ F', DiskF w' D F' (s.write i b).1 ∧ Grow w F F') ∧ Chg F w w' := by
  obtain ⟨M, u, rfl, h⟩ := h
  refine (write_any w D M u s h i va vn vc b hv hu).mono ?_
  rintro e w' ⟨he, ⟨u', hd, hu'⟩, hc⟩
  refine ⟨he, ⟨_, ⟨M, u', rfl, hd⟩, fun x hx => ?_⟩, hc⟩
  simp [fp] at hx ⊢
  rcases hx with h | h | h
  · exact .inl (.inl h)
  · exact .inl (.inr (.inl h))
  · rcases hu' x h with h | h
    · exact .inl (.inr (.inr h))
    · exact .inr h
theorem flushF (w : World) (D : Nat) (F : List Nat) (s : Dk) (h : DiskF w D F s) :
    Calls Try.prog 16 #[.pointer (some ⟨D, 0, none⟩)] w fun e w' => e = .returned (.int .i64 s.flush.2) ∧ (∃ F', DiskF w' D F' s.flush.1 ∧ Grow w F F') ∧ Chg F w w' := by
  obtain ⟨M, u, rfl, h⟩ := h
  refine (flush_any w D M u s h).mono ?_
  rintro e w' ⟨he, ⟨u', hd, hu'⟩, hc⟩
  refine ⟨he, ⟨_, ⟨M, u', rfl, hd⟩, fun x hx => ?_⟩, hc.mono fp_mono⟩
  rcases hu' with rfl | rfl
  · exact .inl hx
  · simp [fp, Value.ownBlock] at hx ⊢
    rcases hx with h | h <;> simp [h]
theorem armF (w : World) (D : Nat) (F : List Nat) (s : Dk) (h : DiskF w D F s) (n : Int) (hn : n ≤ 9223372036854775807) :
    Calls Try.prog 14 #[.pointer (some ⟨D, 0, none⟩), .int .i64 n] w fun e w' => e = .returned (.tuple #[]) ∧ DiskF w' D F (s.arm n) ∧ Chg F w w' := by
  obtain ⟨M, u, rfl, h⟩ := h
  exact (arm_any w D M u s h n hn).mono fun e w' ⟨he, hd, hc⟩ => ⟨he, ⟨M, u, rfl, hd⟩, hc.mono fun x hx => fp_mono x (by simp at hx; simp [hx])⟩
theorem crashF (w : World) (D : Nat) (F : List Nat) (s : Dk) (h : DiskF w D F s) (v : Value) (fs : List (Int × Int)) (hf : IsFates w v fs) (hfp : ∀ b c n, v = .slice (some b) n c → fs ≠ [] → b.block ∉ F) :
    Calls Try.prog 18 #[.pointer (some ⟨D, 0, none⟩), v] w fun e w' => e = .returned (.int .i64 0) ∧ (∃ F', DiskF w' D F' (s.crash fs) ∧ Grow w F F') ∧ Chg F w w' := by
  obtain ⟨M, u, rfl, h⟩ := h
  refine (crash_any w D M u s h v fs hf hfp).mono ?_
  rintro e w' ⟨he, hd, hc⟩
  refine ⟨he, ⟨_, ⟨M, _, rfl, hd⟩, fun x hx => ?_⟩, hc.mono fp_mono⟩
  simp [fp, Value.ownBlock] at hx ⊢
  rcases hx with h | h <;> simp [h]
theorem readF (w : World) (D : Nat) (F : List Nat) (s : Dk) (h : DiskF w D F s) (i : Int) : Calls Try.prog 21 #[.pointer (some ⟨D, 0, none⟩), .int .i64 i] w fun e w' => ∃ v, e = .returned (.tuple #[v, .int .i64 (s.read i).2]) ∧ Own w' w.heap.size 5 v ((s.read i).1.map byteV) ∧ Below w.heap.size w w' := by
  obtain ⟨M, u, rfl, h⟩ := h
  exact read_any w D M u s h i
theorem safeF (w : World) (D : Nat) (F : List Nat) (s : Dk) (h : DiskF w D F s) (i : Int) : Calls Try.prog 23 #[.pointer (some ⟨D, 0, none⟩), .int .i64 i] w fun e w' => ∃ v, e = .returned (.tuple #[v, .int .i64 (s.safe i).2]) ∧ Own w' w.heap.size 5 v ((s.safe i).1.map byteV) ∧ Below w.heap.size w w' := by
  obtain ⟨M, u, rfl, h⟩ := h
  exact safe_any w D M u s h i
theorem downF (w : World) (D : Nat) (F : List Nat) (s : Dk) (h : DiskF w D F s) : Calls Try.prog 17 #[.pointer (some ⟨D, 0, none⟩)] w fun e w' => e = .returned (.bool s.down) ∧ w' = w := by
  obtain ⟨M, u, rfl, h⟩ := h
  exact down_any w D M u s h
theorem blocksF (w : World) (D : Nat) (F : List Nat) (s : Dk) (h : DiskF w D F s) : Calls Try.prog 26 #[.pointer (some ⟨D, 0, none⟩)] w fun e w' => e = .returned (.int .i64 s.blocks) ∧ w' = w := by
  obtain ⟨M, u, rfl, h⟩ := h
  exact blocks_any w D M u s h
theorem underF (w : World) (D : Nat) (F : List Nat) (s : Dk) (h : DiskF w D F s) (hu : s.under.length ≤ 1000000) : Calls Try.prog 20 #[.pointer (some ⟨D, 0, none⟩)] w fun e w' => ∃ v, e = .returned v ∧ Own w' w.heap.size 3 v (s.under.map fun x => .int .i64 x.1) ∧ Below w.heap.size w w' := by
  obtain ⟨M, u, rfl, h⟩ := h
  exact under_any w D M u s h hu
/-! ### What the calls come to -/
theorem Dk.spend_un {s : Dk} (h : s.armed = false) : s.spend = (s, true) := by unfold Dk.spend; rw [if_neg (by simp [h])]
theorem Dk.spend_last {s : Dk} (h : s.armed = true) (h0 : s.left = 0) : s.spend = ({ s with down := true }, false) := by unfold Dk.spend; rw [if_pos h, if_pos h0]
theorem Dk.spend_more {s : Dk} (h : s.armed = true) (h0 : s.left ≠ 0) : s.spend = ({ s with left := s.left - 1 }, true) := by unfold Dk.spend; rw [if_pos h, if_neg h0]
theorem Dk.asked_ok {s : Dk} {i : Int} (hd : s.down = false) (h0 : 0 ≤ i) (h1 : i < s.blocks) : s.asked i = 0 := by unfold Dk.asked; rw [if_neg (by simp [hd]), if_neg (by omega)]
theorem Dk.asked_down {s : Dk} {i : Int} (hd : s.down = true) : s.asked i = 150 := by unfold Dk.asked; rw [if_pos hd]
theorem Dk.write_eq {s t : Dk} {i : Int} {b : List B8} {ok : Bool} (he : s.asked i = 0) (hb : b.length ≤ 128) (h : (s.lay i b).spend = (t, ok)) : s.write i b = (t, if ok then 0 else 150) := by
  unfold Dk.write
  rw [if_neg (by simp [he]), if_neg (by omega), h]
theorem Dk.write_no {s : Dk} {i e : Int} {b : List B8} (he : s.asked i = e) (h0 : e ≠ 0) : s.write i b = (s, e) := by
  unfold Dk.write
  rw [if_pos (by rw [he]; exact h0), he]
theorem Dk.write_big {s : Dk} {i : Int} {b : List B8} (he : s.asked i = 0) (hb : 128 < b.length) : s.write i b = (s, 3) := by
  unfold Dk.write
  rw [if_neg (by simp [he]), if_pos hb]
theorem Dk.flush_yes {s t : Dk} (hd : s.down = false) (h : s.spend = (t, true)) : s.flush = (t.flushed, 0) := by
  unfold Dk.flush
  rw [if_neg (by simp [hd]), h]; rfl
theorem Dk.flush_no {s t : Dk} (hd : s.down = false) (h : s.spend = (t, false)) : s.flush = (t, 150) := by
  unfold Dk.flush
  rw [if_neg (by simp [hd]), h]; rfl
theorem Dk.flush_down {s : Dk} (hd : s.down = true) : s.flush = (s, 150) := by
  unfold Dk.flush
  rw [if_pos hd]
theorem Dk.flushed_same (s : Dk) : s.flushed.blocks = s.blocks ∧ s.flushed.armed = s.armed ∧ s.flushed.left = s.left ∧ s.flushed.down = s.down ∧ s.flushed.under = [] := by
  have p := Dk.puts_same s.under s
  exact ⟨p.2.2.2.2, p.2.1, p.2.2.1, p.2.2.2.1, rfl⟩
theorem Dk.write_ok {s : Dk} {i : Int} {b : List B8} (hd : s.down = false) (h0 : 0 ≤ i) (h1 : i < s.blocks) (hb : b.length ≤ 128) (ha : s.armed = false) : s.write i b = (s.lay i b, 0) := by
  have e : s.asked i = 0 := by unfold Dk.asked; rw [if_neg (by simp [hd]), if_neg (by omega)]
  unfold Dk.write
  rw [if_neg (by simp [e]), if_neg (by omega)]
  have : (s.lay i b).spend = (s.lay i b, true) := by unfold Dk.spend; rw [if_neg (by simp [Dk.lay, ha])]
  rw [this]; rfl
theorem Dk.flush_ok {s : Dk} (hd : s.down = false) (ha : s.armed = false) : s.flush = (s.flushed, 0) := by
  unfold Dk.flush
  have : s.spend = (s, true) := by unfold Dk.spend; rw [if_neg (by simp [ha])]
  rw [if_neg (by simp [hd]), this]; rfl
theorem Dk.spend_under (s : Dk) : s.spend.1.under = s.under := by
  unfold Dk.spend
  split
  · split <;> rfl
  · rfl
theorem Dk.write_under (s : Dk) (i : Int) (b : List B8) : (s.write i b).1.under.length ≤ s.under.length + 1 := by
  unfold Dk.write
  split
  · simp
  · split
    · simp
    · have : (s.lay i b).spend.1.under = (s.lay i b).under := Dk.spend_under _
      show (s.lay i b).spend.1.under.length ≤ _
      rw [this]
      simp [Dk.lay]
end Go.Proofs.Ytcnhjbipncledaa
