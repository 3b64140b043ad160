/- The law DiskArms, walked. -/
import Derived.Test.YtcnhjbipncledaaLaw15A
namespace Go.Proofs.Ytcnhjbipncledaa
open Go.RowKit

def Armed (n : Int) (k : Nat) (s : Dk) : Prop := s.blocks = 4 ∧ s.armed = true ∧ s.under.length ≤ k ∧ (((k : Int) ≤ n ∧ s.down = false ∧ s.left = n - k) ∨ (n < k ∧ s.down = true))
theorem Armed.write {n : Int} {k : Nat} {s : Dk} (h : Armed n k s) : (s.write 0 [1#8]).2 = (if (k : Int) < n then 0 else 150) ∧ Armed n (k + 1) (s.write 0 [1#8]).1 ∧ (s.write 0 [1#8]).1.down = decide (n ≤ k) := by
  obtain ⟨h1, h2, h3, h4⟩ := h
  have hl : (s.lay 0 [1#8]).under.length ≤ k + 1 := by simp [Dk.lay]; omega
  rcases h4 with ⟨hk, hd, hlf⟩ | ⟨hk, hd⟩
  · by_cases h0 : s.left = 0
    · rw [Dk.write_eq (Dk.asked_ok hd (Int.le_refl _) (by omega)) (by decide) (Dk.spend_last (s := s.lay 0 [1#8]) h2 h0), if_neg (show ¬ (k : Int) < n by omega), decide_eq_true (show n ≤ k by omega)]
      exact ⟨rfl, ⟨h1, h2, hl, .inr ⟨by omega, rfl⟩⟩, rfl⟩
    · rw [Dk.write_eq (Dk.asked_ok hd (Int.le_refl _) (by omega)) (by decide) (Dk.spend_more (s := s.lay 0 [1#8]) h2 h0), if_pos (show (k : Int) < n by omega), decide_eq_false (show ¬ n ≤ k by omega)]
      exact ⟨rfl, ⟨h1, h2, hl, .inl ⟨by omega, hd, by show s.left - 1 = _; omega⟩⟩, hd⟩
  · rw [Dk.write_no (Dk.asked_down hd) (by decide), if_neg (show ¬ (k : Int) < n by omega), decide_eq_true (show n ≤ k by omega)]
    exact ⟨rfl, ⟨h1, h2, by show s.under.length ≤ _; omega, .inr ⟨by omega, hd⟩⟩, hd⟩
theorem Armed.flush {n : Int} {k : Nat} {s : Dk} (h : Armed n k s) : s.flush.2 = (if (k : Int) < n then 0 else 150) ∧ Armed n (k + 1) s.flush.1 ∧ s.flush.1.down = decide (n ≤ k) := by
  obtain ⟨h1, h2, h3, h4⟩ := h
  rcases h4 with ⟨hk, hd, hlf⟩ | ⟨hk, hd⟩
  · by_cases h0 : s.left = 0
    · rw [Dk.flush_no hd (Dk.spend_last h2 h0), if_neg (show ¬ (k : Int) < n by omega), decide_eq_true (show n ≤ k by omega)]
      exact ⟨rfl, ⟨h1, h2, by show s.under.length ≤ _; omega, .inr ⟨by omega, rfl⟩⟩, rfl⟩
    · obtain ⟨p1, p2, p3, p4, p5⟩ := Dk.flushed_same { s with left := s.left - 1 }
      rw [Dk.flush_yes hd (Dk.spend_more h2 h0), if_pos (show (k : Int) < n by omega), decide_eq_false (show ¬ n ≤ k by omega)]
      exact ⟨rfl, ⟨p1.trans h1, p2.trans h2, by show (Dk.flushed _).under.length ≤ _; rw [p5]; simp, .inl ⟨by omega, p4.trans hd, p3.trans (by show s.left - 1 = _; omega)⟩⟩, p4.trans hd⟩
  · rw [Dk.flush_down hd, if_neg (show ¬ (k : Int) < n by omega), decide_eq_true (show n ≤ k by omega)]
    exact ⟨rfl, ⟨h1, h2, by show s.under.length ≤ _; omega, .inr ⟨by omega, hd⟩⟩, hd⟩
theorem Armed.start {n : Int} (h : 0 ≤ n) : Armed n 0 ((Dk.fresh 4).arm n) := by
  refine ⟨rfl, by simp [Dk.arm]; exact h, Nat.le_refl _, .inl ⟨by omega, rfl, ?_⟩⟩
  show (if n < 0 then 0 else n) = _
  rw [if_neg (by omega)]; simp
theorem crash_then (s : Dk) : (s.crash []).flush.2 = 0 ∧ (s.crash []).down = false := by
  constructor
  · rw [Dk.flush_ok rfl rfl]
  · rfl
theorem fates_nil (w : World) : IsFates w (.slice none 0 0) [] := ⟨none, 0, rfl, Nat.le_refl _, by decide, .inl rfl⟩
theorem ints_cell {w : World} {v : Value} {xs : List Int} (h : Reads w v (xs.map intV)) (k : Nat) (hk : k < xs.length) : ∃ B off c, v = .slice (some ⟨B, off, none⟩) xs.length c ∧ B < w.heap.size ∧ w.cell? ⟨B, off + k, none⟩ = some (.int .i64 xs[k]) := by
  obtain ⟨a, len, cap, hv, hl, hc, hm, hb⟩ := h
  rcases hb with h0 | ⟨B, off, rfl, hlt, hcell⟩
  · rw [List.map_eq_nil_iff] at h0; subst h0; simp at hk
  · refine ⟨B, off, cap, by rw [hv, hl, List.length_map], hlt, ?_⟩
    rw [hcell k (by simpa using hk), List.getElem_map]; rfl
set_option maxRecDepth 10000 in
set_option maxHeartbeats 2000000 in
theorem diskArms_law (n : Int) (v : Value) (xs : List Int) (w : World) (hn : n ≤ 9223372036854775807) (hv : Reads w v (xs.map intV)) :
    Calls Try.prog 3 #[.int .i64 n, v] w fun e w' => e = .returned (.bool true) ∧ Below w.heap.size w w' := by
  obtain ⟨va, vn, vc, rfl, hvn⟩ : ∃ a m c, v = .slice a m c ∧ m = xs.length := by obtain ⟨a, m, c, h, hl, _⟩ := hv; exact ⟨a, m, c, h, by rw [hl, List.length_map]⟩
  have HN := Lib.hid hn
  have HV := Lib.hid hv
  have HVN := Lib.hid hvn
  clear hn hv hvn
  by_cases h0 : n < 0
  · have g0 : decide (n < 0) = true := decide_eq_true h0
    clear h0
    go_enter Try.func3, Try.ntmps3
    go_wp2_with (go_at_call 12; refine (awake15_any _).mono ?_; rintro e w1 ⟨rfl, HB1⟩; have HB2 := Lib.hid HB1; clear HB1)
    go_ret
    exact ⟨rfl, HB2.out⟩
  · have g0 : decide (n < 0) = false := decide_eq_false h0
    by_cases h1 : 60 < vn
    · have g1 : decide (60 < (vn : Int)) = true := decide_eq_true (by omega)
      clear h0
      go_enter Try.func3, Try.ntmps3
      go_wp2_with (go_at_call 12; refine (awake15_any _).mono ?_; rintro e w1 ⟨rfl, HB1⟩; have HB2 := Lib.hid HB1; clear HB1)
      go_ret
      exact ⟨rfl, HB2.out⟩
    · have g1 : decide (60 < (vn : Int)) = false := decide_eq_false (by omega)
      have H0 := Lib.hid h0
      have H1 := Lib.hid h1
      clear h0 h1
      go_enter Try.func3, Try.ntmps3
      go_wp2_with (go_at_call 12; refine (awake15_any _).mono ?_; rintro e w1 ⟨rfl, HB1⟩; have HB2 := Lib.hid HB1; clear HB1)
      refine (newF w1 4 (by decide) (by decide)).mono ?_
      rintro e w2 ⟨rfl, ⟨F2, h2, gr2⟩, b2⟩
      have B2 : Hid (Below w.heap.size w w2) := HB2.out.trans (b2.mono HB2.out.size)
      have G2 : Hid (∀ x ∈ F2, w.heap.size ≤ x) := fun x hx => Nat.le_trans HB2.out.size (gr2 x hx)
      have H2 := Lib.hid h2
      clear h2 gr2 b2 HB2
      go_wp2_with fail
      refine (armF _ _ F2 _ H2.out n HN.out).mono ?_
      rintro e w3 ⟨rfl, h3, c3⟩
      have B3 : Hid (Below w.heap.size w w3) := B2.out.trans (c3.below B2.out.size G2.out)
      have H3 : Hid (DiskF w3 (w1.heap.size + 1) F2 ((Dk.fresh 4).arm n)) := h3
      clear h3 c3 H2 B2
      go_wp2
      go_loopw [30] (fun i wr => ∃ (k : Nat) (F : List Nat) (s : Dk), k ≤ vn ∧ i = .int .i64 k ∧ Hid (DiskF wr (w1.heap.size + 1) F s) ∧ Hid (Armed n k s) ∧ Hid (∀ x ∈ F, w.heap.size ≤ x) ∧ Hid (Below w.heap.size w wr)) (fun i _ => vn - (intOf i).toNat)
      case atStart => exact ⟨0, F2, _, Nat.zero_le _, rfl, H3.out, Armed.start (by have := H0.out; omega), G2.out, B3.out⟩
      case round =>
        obtain ⟨k, F, s, hk, rfl, hd, har, hF, hbl⟩ := hrel
        by_cases hlt : k < vn
        · obtain ⟨B, off, c, he, hBl, hcell⟩ := ints_cell HV.out k (by rw [← HVN.out]; exact hlt)
          injection he with e1 e2 e3
          subst e1
          have hcell' := (World.cell?_of_block (a := ⟨B, off + k, none⟩) (hbl.out.block B hBl)).trans hcell
          have i1 : (0 : Int) ≤ (k : Int) ∧ (k : Int) < (vn : Int) := by omega
          have HU : Hid (s.under.length ≤ 1000000) := by have := har.out.2.2.1; have := H1.out; unfold Hid; omega
          obtain ⟨x, hx⟩ : ∃ x, x = xs[k]'(by rw [← HVN.out]; exact hlt) := ⟨_, rfl⟩
          rw [← hx] at hcell'
          clear hcell e2 e3 hx
          have kb : (k : Int) ≤ 60 := by have := H1.out; omega
          have HC := Lib.hid hcell'
          clear hcell'
          by_cases hp : x.tmod 2 = 0
          · have p0 : (x.tmod 2 == 0) = true := by simp [hp]
            obtain ⟨a1, a2, a3⟩ := har.out.write
            have A2 := Lib.hid a2
            have hcell' := HC.out
            by_cases hkn : (k : Int) < n
            · rw [if_pos hkn] at a1
              have g1 : decide ((k : Int) < n) = true := decide_eq_true hkn
              have g2 : decide (n ≤ (k : Int)) = false := decide_eq_false (by omega)
              rw [g2] at a3
              have A1 := Lib.hid a1
              have A3 := Lib.hid a3
              clear a1 a2 a3 hp hkn HC
              go_wp2_with fail
              refine (writeF _ _ F s (hd.out.alloc _) 0 _ 1 1 [1#8] (IsBytes.new rfl _ _ _ _ 1 rfl (by omega) rfl) HU.out).mono ?_
              rintro e w4 ⟨rfl, ⟨F4, h4, gr4⟩, c4⟩
              have B4 : Hid (Below w.heap.size w w4) := (hbl.out.alloc hbl.out.size _).trans (c4.below (by have := hbl.out.size; simp; omega) hF.out)
              have G4 : Hid (∀ x ∈ F4, w.heap.size ≤ x) := gr4.above (by have := hbl.out.size; simp; omega) hF.out
              have H4 := Lib.hid h4
              clear h4 gr4 c4
              rw [A1.out]
              go_wp2_with fail
              refine (downF _ _ F4 _ H4.out).mono ?_
              rintro e w5 ⟨rfl, rfl⟩
              rw [A3.out]
              go_wp2
              go_roundw
              case rel => exact ⟨k + 1, F4, _, hlt, by go_num, H4.out, A2.out, G4.out, B4.out⟩
              case measure => simp [intOf]; omega
            · rw [if_neg hkn] at a1
              have g1 : decide ((k : Int) < n) = false := decide_eq_false hkn
              have g2 : decide (n ≤ (k : Int)) = true := decide_eq_true (by omega)
              rw [g2] at a3
              have A1 := Lib.hid a1
              have A3 := Lib.hid a3
              clear a1 a2 a3 hp hkn HC
              go_wp2_with fail
              refine (writeF _ _ F s (hd.out.alloc _) 0 _ 1 1 [1#8] (IsBytes.new rfl _ _ _ _ 1 rfl (by omega) rfl) HU.out).mono ?_
              rintro e w4 ⟨rfl, ⟨F4, h4, gr4⟩, c4⟩
              have B4 : Hid (Below w.heap.size w w4) := (hbl.out.alloc hbl.out.size _).trans (c4.below (by have := hbl.out.size; simp; omega) hF.out)
              have G4 : Hid (∀ x ∈ F4, w.heap.size ≤ x) := gr4.above (by have := hbl.out.size; simp; omega) hF.out
              have H4 := Lib.hid h4
              clear h4 gr4 c4
              rw [A1.out]
              go_wp2_with fail
              refine (downF _ _ F4 _ H4.out).mono ?_
              rintro e w5 ⟨rfl, rfl⟩
              rw [A3.out]
              go_wp2
              go_roundw
              case rel => exact ⟨k + 1, F4, _, hlt, by go_num, H4.out, A2.out, G4.out, B4.out⟩
              case measure => simp [intOf]; omega
          · have p0 : (x.tmod 2 == 0) = false := by simp [hp]
            obtain ⟨a1, a2, a3⟩ := har.out.flush
            have A2 := Lib.hid a2
            have hcell' := HC.out
            by_cases hkn : (k : Int) < n
            · rw [if_pos hkn] at a1
              have g1 : decide ((k : Int) < n) = true := decide_eq_true hkn
              have g2 : decide (n ≤ (k : Int)) = false := decide_eq_false (by omega)
              rw [g2] at a3
              have A1 := Lib.hid a1
              have A3 := Lib.hid a3
              clear a1 a2 a3 hp hkn HC
              go_wp2_with fail
              refine (flushF _ _ F s hd.out).mono ?_
              rintro e w4 ⟨rfl, ⟨F4, h4, gr4⟩, c4⟩
              have B4 : Hid (Below w.heap.size w w4) := hbl.out.trans (c4.below hbl.out.size hF.out)
              have G4 : Hid (∀ x ∈ F4, w.heap.size ≤ x) := gr4.above hbl.out.size hF.out
              have H4 := Lib.hid h4
              clear h4 gr4 c4
              rw [A1.out]
              go_wp2_with fail
              refine (downF _ _ F4 _ H4.out).mono ?_
              rintro e w5 ⟨rfl, rfl⟩
              rw [A3.out]
              go_wp2
              go_roundw
              case rel => exact ⟨k + 1, F4, _, hlt, by go_num, H4.out, A2.out, G4.out, B4.out⟩
              case measure => simp [intOf]; omega
            · rw [if_neg hkn] at a1
              have g1 : decide ((k : Int) < n) = false := decide_eq_false hkn
              have g2 : decide (n ≤ (k : Int)) = true := decide_eq_true (by omega)
              rw [g2] at a3
              have A1 := Lib.hid a1
              have A3 := Lib.hid a3
              clear a1 a2 a3 hp hkn HC
              go_wp2_with fail
              refine (flushF _ _ F s hd.out).mono ?_
              rintro e w4 ⟨rfl, ⟨F4, h4, gr4⟩, c4⟩
              have B4 : Hid (Below w.heap.size w w4) := hbl.out.trans (c4.below hbl.out.size hF.out)
              have G4 : Hid (∀ x ∈ F4, w.heap.size ≤ x) := gr4.above hbl.out.size hF.out
              have H4 := Lib.hid h4
              clear h4 gr4 c4
              rw [A1.out]
              go_wp2_with fail
              refine (downF _ _ F4 _ H4.out).mono ?_
              rintro e w5 ⟨rfl, rfl⟩
              rw [A3.out]
              go_wp2
              go_roundw
              case rel => exact ⟨k + 1, F4, _, hlt, by go_num, H4.out, A2.out, G4.out, B4.out⟩
              case measure => simp [intOf]; omega
        · have hkv : k = vn := by omega
          clear hlt
          go_wp2_with fail
          refine (crashF _ _ F s hd.out _ [] (fates_nil _) (fun b c n he _ hx => by cases he)).mono ?_
          rintro e w4 ⟨rfl, ⟨F4, h4, gr4⟩, c4⟩
          have B4 : Hid (Below w.heap.size w w4) := hbl.out.trans (c4.below hbl.out.size hF.out)
          have G4 : Hid (∀ x ∈ F4, w.heap.size ≤ x) := gr4.above hbl.out.size hF.out
          have H4 := Lib.hid h4
          clear h4 gr4 c4
          go_wp2_with fail
          refine (downF _ _ F4 _ H4.out).mono ?_
          rintro e w5 ⟨rfl, rfl⟩
          rw [(crash_then s).2]
          go_wp2_with fail
          refine (flushF _ _ F4 _ H4.out).mono ?_
          rintro e w6 ⟨rfl, -, c6⟩
          rw [(crash_then s).1]
          go_wp2
          go_ret
          exact ⟨rfl, B4.out.trans (c6.below B4.out.size G4.out)⟩
end Go.Proofs.Ytcnhjbipncledaa
