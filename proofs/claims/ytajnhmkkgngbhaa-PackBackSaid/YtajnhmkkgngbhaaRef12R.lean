/- The walks of the reference's package regattaref12: what is read. -/
import Derived.Test.YtajnhmkkgngbhaaPackT
namespace Go.Proofs.Ytajnhmkkgngbhaa
open Go.RowKit
open Pack (Got cnt cntTo whole fixed sizeOf_ text many ints fixes unzig signed64 le)
variable {lo : Nat}

/-- The reference's reader in memory: all bytes, the place, the error's number. -/
structure RefIs (lo : Nat) (w : World) (S : Nat) (bs : List (BitVec 8)) (at_ : Nat) (e : Int) : Prop where
  lt : S < w.heap.size
  all : ∃ p c, bs.length ≤ c ∧ c ≤ 9223372036854775807 ∧ w.cell? ⟨S, 0, none⟩ = some (.slice p bs.length c) ∧ (bs = [] ∨ ∃ b off, p = some ⟨b, off, none⟩ ∧ b < min lo S ∧ BytesAt w b off bs)
  place : w.cell? ⟨S, 1, none⟩ = some (.int .i64 at_)
  err : w.cell? ⟨S, 2, none⟩ = some (.int .i64 e)
  f1 : w.frozen? ⟨S, 1, none⟩ = false
  f2 : w.frozen? ⟨S, 2, none⟩ = false
  le_ : at_ ≤ bs.length
theorem RefIs.chg {C : List Nat} {w w' : World} {S : Nat} {bs : List (BitVec 8)} {at_ : Nat} {e : Int} (h : RefIs lo w S bs at_ e) (hc : Chg C w w') (hS : ∀ x ∈ C, S < x) : RefIs lo w' S bs at_ e := by
  obtain ⟨hlt, ⟨p, c, h1, h2, h3, h4⟩, h5, h6, f1, f2, h7⟩ := h
  have n1 : S ∉ C := fun h => by have := hS S h; omega
  refine ⟨Nat.lt_of_lt_of_le hlt hc.size, ⟨p, c, h1, h2, (hc.cell S 0 hlt n1).trans h3, ?_⟩, (hc.cell S 1 hlt n1).trans h5, (hc.cell S 2 hlt n1).trans h6, (hc.frozen S 1 hlt n1).trans f1, (hc.frozen S 2 hlt n1).trans f2, h7⟩
  rcases h4 with h | ⟨b, off, hp, hb, hat⟩
  · exact .inl h
  · exact .inr ⟨b, off, hp, hb, hat.chg hc (by omega) (fun h => by have := hS b h; omega)⟩
theorem RefIs.setAt {w : World} {S : Nat} {bs : List (BitVec 8)} {at_ : Nat} {e : Int} (h : RefIs lo w S bs at_ e) (n : Nat) (hn : n ≤ bs.length) : RefIs lo (w.setCell ⟨S, 1, none⟩ (.int .i64 n)) S bs n e := by
  obtain ⟨hlt, ⟨p, c, h1, h2, h3, h4⟩, h5, h6, f1, f2, h7⟩ := h
  refine ⟨by simpa [World.setCell] using hlt, ⟨p, c, h1, h2, (World.cell?_setCell_other _ _ _ _ (fun h => by simp at h)).trans h3, ?_⟩, World.cell?_setCell_same _ _ _ h5, (World.cell?_setCell_other _ _ _ _ (fun h => by simp at h)).trans h6, by rw [World.frozen?_setCell]; exact f1, by rw [World.frozen?_setCell]; exact f2, hn⟩
  rcases h4 with h | ⟨b, off, hp, hb, hat⟩
  · exact .inl h
  · exact .inr ⟨b, off, hp, hb, hat.keep (Below.heap_setCell w ⟨S, 1, none⟩ _ b (fun h => by simp at h; omega))⟩
theorem RefIs.setErr {w : World} {S : Nat} {bs : List (BitVec 8)} {at_ : Nat} {e : Int} (h : RefIs lo w S bs at_ e) (n : Int) : RefIs lo (w.setCell ⟨S, 2, none⟩ (.int .i64 n)) S bs at_ n := by
  obtain ⟨hlt, ⟨p, c, h1, h2, h3, h4⟩, h5, h6, f1, f2, h7⟩ := h
  refine ⟨by simpa [World.setCell] using hlt, ⟨p, c, h1, h2, (World.cell?_setCell_other _ _ _ _ (fun h => by simp at h)).trans h3, ?_⟩, (World.cell?_setCell_other _ _ _ _ (fun h => by simp at h)).trans h5, World.cell?_setCell_same _ _ _ h6, by rw [World.frozen?_setCell]; exact f1, by rw [World.frozen?_setCell]; exact f2, h7⟩
  rcases h4 with h | ⟨b, off, hp, hb, hat⟩
  · exact .inl h
  · exact .inr ⟨b, off, hp, hb, hat.keep (Below.heap_setCell w ⟨S, 2, none⟩ _ b (fun h => by simp at h; omega))⟩
/-- How the reference's reading ends. -/
def RfPost (lo : Nat) {α : Type} (zero : Value) (is : World → α → Value → Prop) (S : Nat) (bs : List (BitVec 8)) (w : World) (g : Got α) (x : Ending) (w' : World) : Prop :=
  match g with
  | .no e => x = .returned zero ∧ (∃ n, RefIs lo w' S bs n e) ∧ Chg [S] w w'
  | .yes a r => (∃ v, x = .returned v ∧ is w' a v) ∧ (∃ n, RefIs lo w' S bs n 0 ∧ bs.drop n = r) ∧ Chg [S] w w'
theorem RfPost.no {α : Type} {zero : Value} {is : World → α → Value → Prop} {S : Nat} {bs : List (BitVec 8)} {w w' : World} {g : Got α} {e : Int} {n : Nat} (hg : g = .no e) (hr : RefIs lo w' S bs n e) (hc : Chg [S] w w') : RfPost lo zero is S bs w g (.returned zero) w' := by
  subst hg; exact ⟨rfl, ⟨_, hr⟩, hc⟩
theorem RfPost.yes {α : Type} {zero : Value} {is : World → α → Value → Prop} {S : Nat} {bs : List (BitVec 8)} {w w' : World} {g : Got α} {a : α} {v : Value} {n : Nat} (hg : g = .yes a (bs.drop n)) (hi : is w' a v) (hr : RefIs lo w' S bs n 0) (hc : Chg [S] w w') : RfPost lo zero is S bs w g (.returned v) w' := by
  subst hg; exact ⟨⟨_, rfl, hi⟩, ⟨_, hr, rfl⟩, hc⟩
theorem RfPost.part {α : Type} {zero : Value} {is : World → α → Value → Prop} {S : Nat} {bs : List (BitVec 8)} {w w' : World} {g : Got α} {x : Ending} (h : RfPost lo zero is S bs w g x w') :
    (∃ e n, g = .no e ∧ x = .returned zero ∧ RefIs lo w' S bs n e ∧ Chg [S] w w') ∨ ∃ a v n, g = .yes a (bs.drop n) ∧ x = .returned v ∧ is w' a v ∧ RefIs lo w' S bs n 0 ∧ Chg [S] w w' := by
  cases g with
  | no e => obtain ⟨h1, ⟨n, h2⟩, h3⟩ := h; exact .inl ⟨e, n, rfl, h1, h2, h3⟩
  | yes a r => obtain ⟨⟨v, h1, h2⟩, ⟨n, h3, rfl⟩, h4⟩ := h; exact .inr ⟨a, v, n, rfl, h1, h2, h3, h4⟩
theorem rfail_any (S : Nat) (bs : List (BitVec 8)) (at_ : Nat) (e : Int) (w : World) (hS : RefIs lo w S bs at_ 0) :
    Calls Try.prog 70 #[.pointer (some ⟨S, 0, none⟩), .int .i64 e] w fun x w' => (∃ r, x = .returned r) ∧ RefIs lo w' S bs at_ e ∧ Chg [S] w w' := by
  have HS := Lib.hid hS
  obtain ⟨_, _, _, c2, _, f2, _⟩ := hS
  go_enter Try.func70, Try.ntmps70
  go_wp2
  go_end0
  exact ⟨⟨_, rfl⟩, HS.out.setErr e, (Chg.refl _ _).setCell _ _ (by simp)⟩
theorem drop_cons {l : List (BitVec 8)} {n : Nat} (h : n < l.length) : l.drop n = l[n] :: l.drop (n + 1) := List.drop_eq_getElem_cons h
theorem rem_add (n k : Nat) (c : BitVec 8) (hk : k ≤ 9) (hn : n < 2 ^ (7 * k)) (h9 : k = 9 → c.toNat ≤ 1) :
    IntKind.u64.wrap ((n : Int) + IntKind.u64.wrap ((c.toNat : Int) % 128 * 2 ^ (7 * k))) = ((n + c.toNat % 128 * 2 ^ (7 * k) : Nat) : Int) := by
  have hc := c.isLt
  have hb : n + c.toNat % 128 * 2 ^ (7 * k) < 2 ^ 64 := by
    rcases Nat.lt_or_ge k 9 with h | h
    · have h1 : c.toNat % 128 * 2 ^ (7 * k) ≤ 127 * 2 ^ (7 * k) := Nat.mul_le_mul_right _ (by omega)
      have h2 : 2 ^ (7 * k) ≤ 2 ^ 56 := Nat.pow_le_pow_right (by omega) (by omega)
      omega
    · obtain rfl : k = 9 := by omega
      have := h9 rfl
      have : c.toNat % 128 * 2 ^ (7 * 9) ≤ 1 * 2 ^ (7 * 9) := Nat.mul_le_mul_right _ (by omega)
      omega
  have e : ((c.toNat : Int) % 128 * 2 ^ (7 * k)) = ((c.toNat % 128 * 2 ^ (7 * k) : Nat) : Int) := by push_cast; rfl
  rw [e, IntKind.wrap_u64, IntKind.wrap_u64]
  omega
set_option maxRecDepth 100000 in
set_option maxHeartbeats 2000000 in
theorem rf_uint (S : Nat) (bs : List (BitVec 8)) (a0 : Nat) (w : World) (hS : RefIs lo w S bs a0 0) :
    Calls Try.prog 36 #[.pointer (some ⟨S, 0, none⟩)] w (RfPost lo (.int .u64 0) isU64 S bs w (cnt (bs.drop a0))) := by
  have HS := Lib.hid hS
  clear hS
  go_enter Try.func36, Try.ntmps36
  go_wp2_with fail
  go_loopw [3, 4] (fun u i wr => ∃ (k n at_ : Nat), u = .int .u64 n ∧ i = .int .i64 k ∧ k ≤ 9 ∧ Hid (n < 2 ^ (7 * k)) ∧ Hid (cntTo (10 - k) k n (bs.drop at_) = cnt (bs.drop a0)) ∧ Hid (RefIs lo wr S bs at_ 0) ∧ Hid (Chg [S] w wr)) (fun _ i _ => 10 - (intOf i).toNat)
  case atStart => exact ⟨0, 0, a0, rfl, rfl, by omega, by unfold Hid; omega, rfl, HS.out, Chg.refl _ _⟩
  case round =>
    obtain ⟨k, n, at_, rfl, rfl, hk, hn, hc, hR, hch⟩ := hrel
    have hR' := hR.out
    obtain ⟨_, ⟨p, c, hlc, hcm, c0, hbs⟩, c1, c2, f1, f2, hle⟩ := hR'
    obtain ⟨m, hm⟩ : ∃ m, bs.length = m := ⟨_, rfl⟩
    rw [hm] at hlc c0 hle
    have HM := Lib.hid hm
    clear hm
    by_cases hend : m ≤ at_
    · have hd : bs.drop at_ = [] := List.drop_of_length_le (by have := HM.out; omega)
      have HG : Hid (cnt (bs.drop a0) = .no 120) := by unfold Hid; rw [← hc.out, hd, show 10 - k = (9 - k) + 1 by omega]; rfl
      have hme : (m : Int) ≤ (at_ : Int) := by omega
      clear hbs hc hd hn hend
      go_wp2_with fail
      go_quiet (fail)
      go_wp2_with fail
      refine (rfail_any S bs at_ 120 _ (hR.out.chg ((Chg.refl [] _).drewN _) (by simp))).mono ?_
      rintro e w1 ⟨⟨r, rfl⟩, hr, hc1⟩
      have HR1 := Lib.hid hr
      have HC1 : Hid (Chg [S] w w1) := (hch.out.drewN _).trans hc1
      clear hr hc1
      go_wp2_with fail
      go_ret
      exact RfPost.no HG.out HR1.out HC1.out
    · have hat : at_ < bs.length := by have := HM.out; omega
      obtain ⟨b, off, rfl, hb, hby⟩ : ∃ b off, p = some ⟨b, off, none⟩ ∧ b < min lo S ∧ BytesAt wr b off bs := by
        rcases hbs with h | h
        · rw [h] at hat; simp at hat
        · exact h
      have hc0 := hby at_ hat
      have HD := Lib.hid (drop_cons hat)
      obtain ⟨x, hx⟩ : ∃ x, x = bs[at_]'hat := ⟨_, rfl⟩
      have hc0' : wr.cell? ⟨b, off + at_, none⟩ = some (.int .u8 (x.toNat : Int)) := by rw [hx]; exact hc0
      have HD' : Hid (bs.drop at_ = x :: bs.drop (at_ + 1)) := by unfold Hid; rw [hx]; exact HD.out
      have hxb : x.toNat < 256 := x.isLt
      have HC : Hid ((if k = 9 ∧ 1 < x.toNat then Got.no 121 else if x.toNat < 128 then (if x.toNat = 0 ∧ 0 < k then .no 121 else .yes (n + x.toNat % 128 * 2 ^ (7 * k)) (bs.drop (at_ + 1))) else cntTo (9 - k) (k + 1) (n + x.toNat % 128 * 2 ^ (7 * k)) (bs.drop (at_ + 1))) = cnt (bs.drop a0)) := by
        have h := hc.out
        rw [HD'.out, show 10 - k = (9 - k) + 1 by omega, Pack.cntTo_cons] at h
        exact h
      have HA : Hid (at_ + 1 ≤ bs.length) := hat
      have HR1 : Hid (∀ q, RefIs lo ((wr.drewN q).setCell ⟨S, 1, none⟩ (.int .i64 ((at_ : Int) + 1))) S bs (at_ + 1) 0) := fun q => (hR.out.chg ((Chg.refl [] _).drewN q) (by simp)).setAt (at_ + 1) HA.out
      have HCH1 : Hid (∀ q, Chg [S] w ((wr.drewN q).setCell ⟨S, 1, none⟩ (.int .i64 ((at_ : Int) + 1)))) := fun q => (hch.out.drewN q).setCell _ _ (by simp)
      have hat2 : at_ + 1 ≤ m := by omega
      have hix : (0 : Int) ≤ (at_ : Int) ∧ (at_ : Int) < (m : Int) := by have := HM.out; omega
      have hne : ¬ (m : Int) ≤ (at_ : Int) := by omega
      clear hc hbs hby hc0 HD hx hat hend
      by_cases h9 : k = 9 ∧ 1 < x.toNat
      · have H := HC.out
        rw [if_pos h9] at H
        have HH := Lib.hid H
        have g9 : ((k : Int) == 9) = true := by rw [beq_iff_eq]; omega
        have g1 : (1 : Int) < (x.toNat : Int) := by omega
        clear HC h9 H
        go_wp2_with fail
        go_quiet (fail)
        go_wp2_with fail
        go_quiet (fail)
        go_wp2_with fail
        refine (rfail_any S bs (at_ + 1) 121 _ (HR1.out _)).mono ?_
        rintro e w1 ⟨⟨r, rfl⟩, hr, hc1⟩
        have HR2 := Lib.hid hr
        have HC2 : Hid (Chg [S] w w1) := (HCH1.out _).trans hc1
        clear hr hc1
        go_wp2_with fail
        go_ret
        exact RfPost.no HH.out.symm HR2.out HC2.out
      · have h9' : k = 9 → x.toNat ≤ 1 := fun h => by omega
        have HOR := Lib.hid (rem_add n k x hk hn.out h9')
        have HST := Lib.hid (Pack.cnt_step_lt k n (x.toNat % 128) hn.out (Nat.mod_lt _ (by omega)))
        have H := HC.out
        rw [if_neg h9] at H
        have part : ((k : Int) == 9) = false ∨ (((k : Int) == 9) = true ∧ ¬ (1 : Int) < (x.toNat : Int)) := by
          by_cases hk9 : k = 9
          · exact .inr ⟨by rw [beq_iff_eq]; omega, by have := h9' hk9; omega⟩
          · exact .inl (by rw [beq_eq_false_iff_ne]; omega)
        have H9 := Lib.hid h9'
        clear HC h9 h9' hn
        by_cases h128 : x.toNat < 128
        · rw [if_pos h128] at H
          have g128 : (x.toNat : Int) < 128 := by omega
          by_cases h0 : x.toNat = 0 ∧ 0 < k
          · rw [if_pos h0] at H
            have HH := Lib.hid H
            have g0 : ((x.toNat : Int) == 0) = true := by rw [beq_iff_eq]; omega
            have g1 : (0 : Int) < (k : Int) := by omega
            clear H h0
            rcases part with gk | ⟨gk, gc⟩
            all_goals
              go_wp2_with fail
              go_quiet (fail)
              go_wp2_with fail
              go_quiet (fail)
              go_wp2_with fail
              refine (rfail_any S bs (at_ + 1) 121 _ (HR1.out _)).mono ?_
              rintro e w1 ⟨⟨r, rfl⟩, hr, hc1⟩
              have HR2 := Lib.hid hr
              have HC2 : Hid (Chg [S] w w1) := (HCH1.out _).trans hc1
              clear hr hc1
              go_wp2_with fail
              go_ret
              exact RfPost.no HH.out.symm HR2.out HC2.out
          · rw [if_neg h0] at H
            have HH := Lib.hid H
            have part2 : ((x.toNat : Int) == 0) = false ∨ (((x.toNat : Int) == 0) = true ∧ ¬ (0 : Int) < (k : Int)) := by
              by_cases hk9 : x.toNat = 0
              · exact .inr ⟨by rw [beq_iff_eq]; omega, by omega⟩
              · exact .inl (by rw [beq_eq_false_iff_ne]; omega)
            clear H h0
            rcases part with gk | ⟨gk, gc⟩ <;> rcases part2 with g0 | ⟨g0, g00⟩
            all_goals
              go_wp2_with fail
              go_quiet (fail)
              go_wp2_with fail
              go_quiet (fail)
              go_wp2_with fail
              go_ret
              exact RfPost.yes HH.out.symm (by show Value.int .u64 _ = Value.int .u64 _; rw [← HOR.out]) (HR1.out _) (HCH1.out _)
        · rw [if_neg h128] at H
          have HH := Lib.hid H
          have g128 : ¬ (x.toNat : Int) < 128 := by omega
          clear H
          rcases part with gk | ⟨gk, gc⟩
          · go_wp2_with fail
            go_quiet (fail)
            go_wp2_with fail
            go_quiet (fail)
            go_wp2_with fail
            refine ⟨⟨k + 1, _, at_ + 1, by rw [HOR.out], by go_num, by have := beq_eq_false_iff_ne.1 gk; omega, HST.out, by unfold Hid; rw [← HH.out, show 10 - (k + 1) = 9 - k by omega], HR1.out _, HCH1.out _⟩, by simp [intOf]; omega⟩
          · omega
end Go.Proofs.Ytajnhmkkgngbhaa
