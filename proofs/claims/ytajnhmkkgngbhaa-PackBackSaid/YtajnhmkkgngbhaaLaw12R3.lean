/- The law PackReads, walked. -/
import Derived.Test.YtajnhmkkgngbhaaLaw12R2
import Derived.Test.YtajnhmkkgngbhaaLaw12A
import Derived.Deep.RegionWith
namespace Go.Proofs.Ytajnhmkkgngbhaa
open Go.RowKit

theorem bits_x8k (a : BitVec 8) : bits .xor .u8 (a.toNat : Int) 255 = ((a ^^^ 255#8).toNat : Int) := by
  revert a; decide +kernel
theorem Joint.err {lo R S : Nat} {all : List (BitVec 8)} {w : World} (h : Joint lo R S all w) : ∃ e, ReaderEnd w R e ∧ w.cell? ⟨S, 2, none⟩ = some (.int .i64 e) := by
  rcases h with ⟨n, h1, h2⟩ | ⟨e, n, he, h1, h2⟩
  · exact ⟨0, ⟨h1.lt, h1.made, h1.err⟩, h2.err⟩
  · exact ⟨e, h1, h2.err⟩
theorem Own.pair {w : World} {base : Nat} {e : TypeId} {p : Option Addr} {n c : Nat} {xs : List Value} (h : Own w base e (.slice p n c) xs) : n = xs.length := by
  obtain ⟨a, cap, he, _⟩ := h.len
  injection he
/-- The place of the list, and whether it may turn. -/
def blocksOf (p : Option Addr) : List Nat := (p.map (·.block)).toList
set_option maxRecDepth 100000 in
set_option maxHeartbeats 2000000 in
theorem packReads_law (u v : Value) (bs : List (BitVec 8)) (ks : List Int) (w : World) (hu : IsBytes w u bs) (hv : Reads w v (ks.map intV)) :
    Calls Try.prog 5 #[u, v] w fun e w' => e = .returned (.bool true) ∧ Below w.heap.size w w' := by
  have HU := Lib.hid hu
  have HV := Lib.hid hv
  obtain ⟨ua, un, uc, rfl, hul, huc, hum, hub⟩ := hu
  obtain ⟨va, vn, vc, rfl, hvl, hvc, hvm, hvb⟩ := hv
  rw [List.length_map] at hvl
  have HUL := Lib.hid hul
  have HVL := Lib.hid hvl
  clear hub hvb hul hvl
  by_cases h : 1000 < un ∨ 60 < vn
  · go_enter Try.func5, Try.ntmps5
    go_wp2_with fail
    refine (awake12_any w).mono ?_
    rintro e w1 ⟨rfl, hb1⟩
    have HB1 := Lib.hid hb1
    clear hb1
    by_cases h1 : (1000 : Int) < (un : Int)
    · go_wp2_with fail
      go_ret
      exact ⟨rfl, HB1.out⟩
    · have h2 : (60 : Int) < (vn : Int) := by omega
      clear h
      go_wp2_with fail
      go_ret
      exact ⟨rfl, HB1.out⟩
  · have h1 : ¬ (1000 : Int) < (un : Int) := by omega
    have h2 : ¬ (60 : Int) < (vn : Int) := by omega
    have hun : un ≤ 1000 := by omega
    have hvn : vn ≤ 60 := by omega
    clear h
    go_enter Try.func5, Try.ntmps5
    go_wp2_with fail
    refine (awake12_any w).mono ?_
    rintro e w1 ⟨rfl, hb1⟩
    have HB1 := Lib.hid hb1
    have HU1 : Hid (IsBytes w1 (.slice ua un uc) bs) := HU.out.below hb1
    clear hb1
    go_wp2_with (at_builtin; refine wpl_append rfl (.tmp 21) (.tmp 22) _ rfl elemU8 rfl (Own.empty_ (base := w1.heap.size) rfl (Nat.le_refl _)) rfl (HU1.out.reads.alloc _) one_byteV (by have := HUL.out; rw [List.length_map, List.length_nil]; omega) (by have := HUL.out; rw [List.length_map, List.length_nil]; unfold maxLen; omega) ?_; intro v' w2 hown2 hg1 hat1; rw [List.nil_append] at hown2; obtain ⟨ga, gn, gc, rfl, hgn⟩ := hown2.form_; have hb2 : Hid (Below w.heap.size w w2) := below_grown (HB1.out.alloc HB1.out.size _) (Own.empty_ (base := w1.heap.size) rfl (Nat.le_refl _)) hg1 HB1.out.size; have H2 := Lib.hid hown2; have H12 : Hid (w1.heap.size ≤ w2.heap.size) := Nat.le_trans (by simp) hg1.size; clear hg1 hat1 hown2 hgn)
    refine (read_is _ bs w2 H2.out.reads.bytes (by have := HUL.out; omega)).mono ?_
    rintro e w3 ⟨R, rfl, hr3, hge, hb3, hk3⟩
    obtain ⟨w4, hw4⟩ : ∃ w4, w4 = w3.alloc (.cells #[.slice ua un uc, .int .i64 0, .int .i64 0] 48) := ⟨_, rfl⟩
    obtain ⟨S, hS⟩ : ∃ S, S = w3.heap.size := ⟨_, rfl⟩
    have HB3 : Hid (Below w.heap.size w w3) := hb2.trans (hb3.mono hb2.size)
    have hc34 : Chg [] w3 w4 := by rw [hw4]; exact (Chg.refl _ _).alloc _
    have HRS : Hid (w.heap.size ≤ w1.heap.size ∧ w1.heap.size ≤ w2.heap.size ∧ w2.heap.size < R ∧ R < S) := ⟨HB1.out.size, H12.out, hge, by rw [hS]; exact hr3.lt⟩
    have HB4 : Hid (Below w.heap.size w w4) := by unfold Hid; rw [hw4]; exact HB3.out.alloc HB3.out.size _
    have HS4 : Hid (RefIs w.heap.size w4 S bs 0 0) := by
      have hby := HU.out
      obtain ⟨a, l, c, he, hl, hlc, hcm, hb⟩ := hby
      injection he with e1 e2 e3
      subst e1 e2 e3
      refine ⟨by rw [hw4, hS]; simp, ⟨ua, uc, by rw [← hl]; exact huc, by unfold maxLen at hum; omega, by rw [hw4, hS, ← hl]; simp, ?_⟩, by rw [hw4, hS]; simp, by rw [hw4, hS]; simp, by rw [hw4, hS]; simp, by rw [hw4, hS]; simp, Nat.zero_le _⟩
      rcases hb with h | ⟨b, off, rfl, hb, hat⟩
      · exact .inl h
      · exact .inr ⟨b, off, rfl, by have := HRS.out; omega, hat.keep (HB4.out.block b hb)⟩
    have HO4 : Hid (Own w4 w1.heap.size 5 (.slice ga gn gc) (bs.map byteV)) := (H2.out.below hb3).chg hc34 (by simp)
    have HK4 : Hid (∀ C w5, Chg C w4 w5 → (∀ x ∈ C, x < w2.heap.size) → ReaderIs w5 R bs 0) := fun C w5 hc hx => hk3 C w5 ((hc34.mono (by simp)).trans hc) hx
    have HBLK : Hid (∀ k, (Value.slice ga gn gc).ownBlock = some k → w1.heap.size ≤ k ∧ k < w2.heap.size) := fun k hk => H2.out.block_ge k hk
    have HGN : Hid (gn = bs.length) := by unfold Hid; rw [H2.out.pair, List.length_map]
    have hgn : gn ≤ 1000 := by have := HGN.out; have := HUL.out; omega
    clear hr3 hge hb3 hk3 hc34 hb2
    go_wp2_with fail
    rw [← hS, ← hw4]
    clear hS hw4
    go_loopw [8, 31] (fun _ i wr => ∃ (k : Nat) (ds : List (BitVec 8)), i = .int .i64 k ∧ k ≤ gn ∧ Hid (ds.length = gn) ∧ Hid (Own wr w1.heap.size 5 (.slice ga gn gc) (ds.map byteV)) ∧ Hid (Chg (Value.slice ga gn gc).ownBlock.toList w4 wr)) (fun _ i _ => gn - (intOf i).toNat)
    case atStart => exact ⟨0, bs, rfl, Nat.zero_le _, HGN.out.symm, HO4.out, Chg.refl _ _⟩
    case round =>
      obtain ⟨k, ds, rfl, hk, hds, hown, hch⟩ := hrel
      by_cases hlt : k < gn
      · obtain ⟨g, cap, he, hat⟩ := hown.out.at_ (by rw [List.length_map, hds.out]; omega)
        injection he with e1 e2 e3
        subst e1 e3
        have hkd : k < ds.length := by rw [hds.out]; exact hlt
        have hc0 : wr.cell? ⟨g, k, none⟩ = some (.int .u8 ((ds[k]'hkd).toNat : Int)) := by rw [hat.cell k (by rw [List.length_map]; exact hkd), List.getElem_map]; rfl
        obtain ⟨x, hx⟩ : ∃ x, x = ds[k]'hkd := ⟨_, rfl⟩
        rw [← hx] at hc0
        have hfr : wr.frozen? ⟨g, k, none⟩ = false := hat.frozen _
        have hx255 := x.isLt
        have hX : ∃ y : BitVec 8, bits .xor .u8 (x.toNat : Int) 255 = (y.toNat : Int) := ⟨x ^^^ 255#8, bits_x8k x⟩
        obtain ⟨y, hy⟩ := hX
        clear hx
        have HO2 : Hid (Own (wr.setCell ⟨g, k, none⟩ (.int .u8 (y.toNat : Int))) w1.heap.size 5 (.slice (some ⟨g, 0, none⟩) gn gc) ((ds.set k y).map byteV)) := by
          have h := (hat.set_ k (byteV y)).1
          rw [← List.map_set] at h
          rw [show ((ds.set k y).map byteV).length = gn by rw [List.length_map, List.length_set, hds.out]] at h
          exact h
        go_wp2_with fail
        exact ⟨⟨k + 1, ds.set k y, by go_num, by omega, by unfold Hid; rw [List.length_set]; exact hds.out, HO2.out, hch.out.setCell _ _ (by simp [Value.ownBlock])⟩, by simp [intOf]; omega⟩
      · have HR5 : Hid (ReaderIs wr R bs 0) := HK4.out _ wr hch.out (fun x hx => (HBLK.out x (by simpa using hx)).2)
        have HS5 : Hid (RefIs w.heap.size wr S bs 0 0) := HS4.out.beside hch.out (fun x hx => by have := HBLK.out x (by simpa using hx); have := HRS.out; omega)
        have HJ5 : Hid (Joint w.heap.size R S bs wr) := .inl ⟨0, HR5.out, HS5.out⟩
        have HB5 : Hid (Below w.heap.size w wr) := HB4.out.trans (hch.out.below HB4.out.size (fun x hx => Nat.le_trans HRS.out.1 (HBLK.out x (by simpa using hx)).1))
        clear hds hown hch HO4 HR5 HS5
        go_wp2_with fail
        clear hlt hk
        go_loopw [10, 43] (fun _ i wx => ∃ j : Nat, i = .int .i64 j ∧ j ≤ vn ∧ Hid (Joint w.heap.size R S bs wx) ∧ Hid (Below w.heap.size w wx)) (fun _ i _ => vn - (intOf i).toNat)
        case atStart => exact ⟨0, rfl, Nat.zero_le _, HJ5.out, HB5.out⟩
        case round =>
          obtain ⟨j, rfl, hj, hJ, hB⟩ := hrel
          by_cases hlt : j < vn
          · obtain ⟨b, off, rfl, x, hc0⟩ : ∃ b off, va = some ⟨b, off, none⟩ ∧ ∃ x, wr.cell? ⟨b, off + j, none⟩ = some (.int .i64 x) := by
              obtain ⟨a, n, c, he, hn, _, _, hcells⟩ := HV.out
              injection he with e1 e2 e3
              subst e1 e2 e3
              rw [List.length_map] at hn
              rcases hcells with h | ⟨b, off, rfl, hb, h⟩
              · have : ks.length = 0 := by simpa using congrArg List.length h
                omega
              · exact ⟨b, off, rfl, ks[j]'(by omega), (hB.out.cell (p := ⟨b, off + j, none⟩) hb).trans (by rw [h j (by rw [List.length_map]; omega), List.getElem_map]; rfl)⟩
            go_wp2_with fail
            have hks : ks.length ≤ 60 := by have := HVL.out; omega
            have H12' : Hid (w.heap.size ≤ R ∧ R < S ∧ bs.length ≤ 2000000) := by unfold Hid; have := HRS.out; have := HUL.out; omega
            have H0 := Lib.hid ((read_joint x w.heap.size R S bs wr.drew H12'.out.1 H12'.out.2.1 (hJ.out.chg ⟨rfl, rfl, rfl, Nat.le_refl _, fun _ _ _ => rfl⟩) H12'.out.2.2).mono (R' := fun e wz => e = .returned (.bool true) ∧ Hid (Joint w.heap.size R S bs wz) ∧ Hid (Below w.heap.size w wz)) (fun e wz ⟨h1, h2, h3⟩ => ⟨h1, h2, hB.out.drew.trans (h3.below hB.out.drew.size (by intro y hy; simp at hy; have := H12'.out; omega))⟩))
            go_region_with (first | (go_at_call 18; refine H0.out.mono ?_; rintro e wz ⟨rfl, HJ6, HB6⟩; obtain ⟨ee, hE, hcE⟩ := HJ6.out.err; have HE := Lib.hid hE; clear hE) | (go_at_call 19; refine (error_is R _ _ HE.out).mono ?_; rintro e wz' ⟨rfl, rfl⟩))
            all_goals (go_wp2_with fail)
            all_goals exact ⟨⟨j + 1, rfl, by omega, HJ6.out, HB6.out⟩, by simp [intOf]; omega⟩
          · obtain rfl : j = vn := by omega
            clear hlt hj
            go_wp2_with fail
            rcases hJ.out with ⟨n, hr, hs⟩ | ⟨e, n, he, hr, hs⟩
            · obtain ⟨m, hm⟩ : ∃ m : Int, (if (bs.drop n).length = 0 then 0 else 122) = m := ⟨_, rfl⟩
              refine (rdone_is R _ _ hr).mono ?_
              rintro e wy ⟨rfl, rfl⟩
              rw [hm]
              go_wp2_with fail
              refine (rf_done S bs n _ hs).mono ?_
              rintro e wy ⟨rfl, q, rfl⟩
              rw [hm]
              clear hm
              go_wp2_with fail
              go_ret
              exact ⟨by simp, below_drewN hB.out q⟩
            · refine (rdone_shut _ e _ (.bad R e hr he)).mono ?_
              rintro x wy ⟨rfl, rfl⟩
              go_wp2_with fail
              refine (rf_done_end S e _ ⟨hs.err, he⟩).mono ?_
              rintro e wy ⟨rfl, q, rfl⟩
              go_wp2_with fail
              go_ret
              exact ⟨by simp, below_drewN hB.out q⟩
end Go.Proofs.Ytajnhmkkgngbhaa
