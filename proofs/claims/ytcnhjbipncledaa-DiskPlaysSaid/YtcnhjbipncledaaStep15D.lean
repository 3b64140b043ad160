/- regattalaw15.step: any act; what an act leaves of the disk's numbers. -/
import Derived.Test.YtcnhjbipncledaaStep15C
import Derived.Test.YtcnhjbipncledaaDkP
namespace Go.Proofs.Ytcnhjbipncledaa
open Go.RowKit

theorem step15_any (w : World) (B D R : Nat) (s : Dk) (t : DOp) (pb pf : Option Addr) (nb cb nf cf : Nat) (h : Both w B D R s) (ha : ActIn B w pb nb cb pf nf cf t) (hu : s.under.length ≤ 1000000) (hl : t.b.length ≤ 1000) (hf : t.fs.length ≤ 1000000) :
    Calls Try.prog 27 #[.pointer (some ⟨D, 0, none⟩), .pointer (some ⟨R, 0, none⟩), .agg #[.int .i64 t.kind, .int .i64 t.i, .slice pb nb cb, .slice pf nf cf]] w fun e w' => e = .returned (.bool true) ∧ Both w' B D R (s.act t) ∧ Below B w w' := by
  obtain ⟨k, ti, tb, tf⟩ := t
  by_cases h1 : k = 1
  · subst h1; exact step15_write w B D R s ti tb tf pb pf nb cb nf cf h ha hu hl
  by_cases h2 : k = 2
  · subst h2; exact step15_read w B D R s ti tb tf pb pf nb cb nf cf h hu
  by_cases h3 : k = 3
  · subst h3; exact step15_flush w B D R s ti tb tf pb pf nb cb nf cf h hu
  by_cases h4 : k = 4
  · subst h4; exact step15_arm w B D R s ti tb tf pb pf nb cb nf cf h ha.num
  by_cases h5 : k = 5
  · subst h5; exact step15_crash w B D R s ti tb tf pb pf nb cb nf cf h ha hu hf
  by_cases h6 : k = 6
  · subst h6; exact step15_safe w B D R s ti tb tf pb pf nb cb nf cf h
  by_cases h7 : k = 7
  · subst h7; exact step15_under w B D R s ti tb tf pb pf nb cb nf cf h hu
  exact step15_none w B D R s ⟨k, ti, tb, tf⟩ pb pf nb cb nf cf h h1 h2 h3 h4 h5 h6 h7
theorem Dk.act_same (s : Dk) (t : DOp) : (s.act t).blocks = s.blocks ∧ (s.act t).under.length ≤ s.under.length + 1 := by
  unfold Dk.act
  split
  · exact ⟨(s.write_same _ _).2.1, s.write_under _ _⟩
  · split
    · obtain ⟨h, hb⟩ := s.flush_same
      refine ⟨hb, ?_⟩
      rcases h with ⟨-, h⟩ | ⟨-, h⟩
      · rw [h]; omega
      · rw [h]; simp
    · split
      · exact ⟨rfl, Nat.le_succ _⟩
      · split
        · exact ⟨(Dk.strikes_same _ s).2, Nat.zero_le _⟩
        · exact ⟨rfl, Nat.le_succ _⟩
theorem Own.lower {w : World} {B B' : Nat} {e : TypeId} {v : Value} {xs : List Value} (h : Own w B e v xs) (hB : B' ≤ B) : Own w B' e v xs := by
  obtain ⟨⟨h0, h⟩, h2⟩ := h
  refine ⟨⟨h0, ?_⟩, Nat.le_trans hB h2⟩
  rcases h with h | ⟨g, cap, cur, h1, h2, h3⟩
  · exact .inl h
  · exact .inr ⟨g, cap, cur, h1, Nat.le_trans hB h2, h3⟩
theorem Pay.lower {w : World} {B B' : Nat} {Y : List Nat} {a : Option Addr} {m c : Nat} {p : List (BitVec 8)} (h : Pay w B Y a m c p) (hB : B' ≤ B) : Pay w B' Y a m c p := by
  obtain ⟨h1, h2, h3, h4⟩ := h
  refine ⟨h1, h2, h3, ?_⟩
  rcases h4 with h | ⟨b, off, q1, q2, q3⟩
  · exact .inl h
  · exact .inr ⟨b, off, q1, Nat.le_trans hB q2, q3⟩
theorem Frs.lower {w : World} {B B' : Nat} {e : TypeId} {v : Value} {fs : List (Int × List (BitVec 8))} {X : List Nat} (h : Frs w B e v fs X) (hB : B' ≤ B) : Frs w B' e v fs X := by
  obtain ⟨h1, h2, xs, ⟨h3, h4⟩, h5⟩ := h
  refine ⟨Nat.le_trans hB h1, h2, xs, ⟨h3, ?_⟩, fun i k p hi => ?_⟩
  · rcases h4 with h | ⟨g, cap, cur, q1, q2, q3⟩
    · exact .inl h
    · exact .inr ⟨g, cap, cur, q1, Nat.le_trans hB q2, q3⟩
  · obtain ⟨a, m, c, q1, q2, q3⟩ := h5 i k p hi
    exact ⟨a, m, c, q1, q2, q3.lower hB⟩
theorem RkIs.lower {w : World} {B B' : Nat} {F : List Nat} {R : Nat} {s : Dk} (h : RkIs w B F R s) (hB : B' ≤ B) : RkIs w B' F R s := by
  obtain ⟨vb, vu, h⟩ := h
  refine ⟨vb, vu, ⟨⟨Nat.le_trans hB h.lo.1, h.lo.2⟩, h.c0, h.c1, h.c2, h.c3, h.c4, h.fz, ?_, h.und.lower hB, h.out, h.ins, h.ok⟩⟩
  obtain ⟨bs, h1, h2, h3⟩ := h.blks
  exact ⟨bs, h1.lower hB, h2, fun i u hu => by obtain ⟨a, m, c, q1, q2⟩ := h3 i u hu; exact ⟨a, m, c, q1, q2.lower hB⟩⟩
theorem newF_no (w : World) (n : Int) (h : n < 1 ∨ 16384 < n) : Calls Try.prog 13 #[.int .i64 n] w fun e w' => e = .returned (.tuple #[.pointer none, .int .i64 2]) ∧ w' = w := by
  by_cases h1 : n < 1
  · clear h
    go_enter Try.func13, Try.ntmps13
    go_wp2
    go_ret2
    exact ⟨rfl, rfl⟩
  · have h2 : 16384 < n := by omega
    clear h
    go_enter Try.func13, Try.ntmps13
    go_wp2
    go_ret2
    exact ⟨rfl, rfl⟩
end Go.Proofs.Ytcnhjbipncledaa
