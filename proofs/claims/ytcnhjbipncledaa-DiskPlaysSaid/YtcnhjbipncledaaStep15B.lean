/- regattalaw15.step, walked: Write, Read. -/
import Derived.Test.YtcnhjbipncledaaStep15A
namespace Go.Proofs.Ytcnhjbipncledaa
open Go.RowKit

def flip (c : B8) : B8 := c ^^^ 255#8
theorem bits_x8 (a : B8) : bits .xor .u8 (a.toNat : Int) 255 = ((flip a).toNat : Int) := by
  have h8 : BitVec.ofInt 8 (a.toNat : Int) = a := by rw [BitVec.ofInt_natCast]; apply BitVec.eq_of_toNat_eq; rw [BitVec.toNat_ofNat, Nat.mod_eq_of_lt a.isLt]
  show IntKind.wrap .u8 (((BitVec.ofInt 8 (a.toNat : Int)) ^^^ (BitVec.ofInt 8 255)).toNat : Int) = _
  rw [h8]
  show IntKind.wrap .u8 ((flip a).toNat : Int) = _
  rw [IntKind.wrap_u8']
  have := (flip a).isLt
  omega
/-- A text of one's own that lies apart from the disks, while it is spoilt. -/
structure Spoils (w : World) (base B : Nat) (F : List Nat) (D R : Nat) (v : Value) (s : Dk) (xs : List B8) (wb : World) : Prop where
  own : Own w base 5 v (xs.map byteV)
  disk : DiskF w D F s
  rk : RkIs w B (v.ownBlock.toList ++ F) R s
  low : B ≤ base
  hF : ∀ x ∈ F, B ≤ x
  out : ∀ k, v.ownBlock = some k → k ∉ F
  below : Below B wb w
theorem Spoils.set {w wb : World} {base B : Nat} {F : List Nat} {D R g n cap : Nat} {s : Dk} {xs : List B8} (h : Spoils w base B F D R (.slice (some ⟨g, 0, none⟩) n cap) s xs wb) (hp : 0 < xs.length) (k : Nat) (c : B8) : Spoils (w.setCell ⟨g, k, none⟩ (byteV c)) base B F D R (.slice (some ⟨g, 0, none⟩) n cap) s (xs.set k c) wb := by
  have hc : Chg [g] w (w.setCell ⟨g, k, none⟩ (byteV c)) := (Chg.refl _ _).setCell _ _ (.inl (by simp))
  obtain ⟨g', cap', e, hat⟩ := h.own.at_ (by rw [List.length_map]; exact hp)
  injection e with e1 e2 e3
  injection e1 with e1
  injection e1 with e1
  subst e1 e2 e3
  have hg := hat.lt
  refine ⟨?_, h.disk.chg hc (fun x hx hx' => by simp at hx'; subst hx'; exact h.out _ rfl hx), h.rk.turn (hc.mono (by simp [Value.ownBlock])) (Grow.refl _ _), h.low, h.hF, h.out, h.below.trans (hc.below (Nat.le_trans h.low (Nat.le_trans hg.1 (Nat.le_of_lt hg.2.1))) (fun _ hx => by simp at hx; have := h.low; omega))⟩
  have := (hat.set_ k (byteV c)).1
  rw [List.length_set] at this
  rw [List.map_set]
  exact this
theorem Spoils.both {w wb : World} {base B : Nat} {F : List Nat} {D R : Nat} {v : Value} {s : Dk} {xs : List B8} (h : Spoils w base B F D R v s xs wb) : Both w B D R s ∧ Below B wb w :=
  ⟨⟨F, h.disk, h.rk.drop (fun _ hx => List.mem_append.2 (.inr hx)), h.hF⟩, h.below⟩
set_option maxRecDepth 100000 in
set_option maxHeartbeats 8000000 in
theorem step15_write (w : World) (B D R : Nat) (s : Dk) (ti : Int) (tb : List B8) (tf : List (Int × Int)) (pb pf : Option Addr) (nb cb nf cf : Nat) (h : Both w B D R s) (ha : ActIn B w pb nb cb pf nf cf ⟨1, ti, tb, tf⟩) (hu : s.under.length ≤ 1000000) (hl : tb.length ≤ 1000) :
    Calls Try.prog 27 #[.pointer (some ⟨D, 0, none⟩), .pointer (some ⟨R, 0, none⟩), .agg #[.int .i64 1, .int .i64 ti, .slice pb nb cb, .slice pf nf cf]] w fun e w' => e = .returned (.bool true) ∧ Both w' B D R (s.act ⟨1, ti, tb, tf⟩) ∧ Below B w w' := by
  obtain ⟨F, hd, hr, hF⟩ := h
  have HD := Lib.hid hd
  have HR := Lib.hid hr
  have HF := Lib.hid hF
  have HA := Lib.hid ha
  have HU := Lib.hid hu
  have HL := Lib.hid hl
  have hb1 : Below w.heap.size w (w.alloc (.cells #[.int .i64 1, .int .i64 ti, .slice pb nb cb, .slice pf nf cf] 44)) := (Below.refl _ _).alloc (Nat.le_refl _) _
  have HB1 := Lib.hid hb1
  have HQ : Hid (IsBytes ((w.alloc (.cells #[.int .i64 1, .int .i64 ti, .slice pb nb cb, .slice pf nf cf] 44)).alloc (.cells #[] 5)) (.slice pb nb cb) tb) := ha.bytes _ ((hb1.mono hr.size).alloc (Nat.le_trans hr.size hb1.size) _)
  clear hd hr hF ha hu hl hb1
  go_enter Try.func27, Try.ntmps27
  go_wp2_with (at_builtin; refine wpl_append rfl (.tmp 28) (.tmp 30) 30 rfl elemU8 rfl (Own.empty_ (base := w.heap.size + 1) (k := w.heap.size + 1) (by simp) (Nat.le_refl _)) rfl HQ.out.reads one_byteV (by have := HL.out; simp only [List.length_map, List.length_nil]; omega) (by have := HL.out; simp only [List.length_map, List.length_nil]; unfold maxLen; omega) ?_; intro v7 w7 hown7 hg7 _; have hb7 : Below (w.heap.size + 1) (w.alloc (.cells #[.int .i64 1, .int .i64 ti, .slice pb nb cb, .slice pf nf cf] 44)) w7 := below_grown (((Below.refl _ _)).alloc (by simp) _) (Own.empty_ (base := w.heap.size + 1) (k := w.heap.size + 1) (by simp) (Nat.le_refl _)) hg7 (Nat.le_refl _); rw [List.nil_append] at hown7; have HB7 := Lib.hid hb7; have HO7 := Lib.hid hown7; have k1 : w7.cell? ⟨w.heap.size, 1, none⟩ = some (.int .i64 ti) := (hb7.cell (p := ⟨w.heap.size, 1, none⟩) (by simp)).trans (by simp); have k2 : w7.cell? ⟨w.heap.size, 2, none⟩ = some (.slice pb nb cb) := (hb7.cell (p := ⟨w.heap.size, 2, none⟩) (by simp)).trans (by simp); clear hb7 hown7 hg7)
  obtain ⟨va, vn, vc, rfl, hvn⟩ : ∃ a n c, v7 = .slice a n c ∧ n = tb.length := (by obtain ⟨a, c, h, _⟩ := HO7.out.len; exact ⟨a, _, c, h, by rw [List.length_map]⟩)
  have VNB : Hid (vn ≤ 1000) := by unfold Hid; rw [hvn]; exact HL.out
  have LEN : Hid (tb.length = vn) := hvn.symm
  have hb7 : Below w.heap.size w w7 := HB1.out.trans (HB7.out.mono (by simp))
  have hog : ∀ y, (Value.slice va vn vc).ownBlock = some y → w.heap.size + 1 ≤ y ∧ y < w7.heap.size := HO7.out.block_ge
  have HR7 : Hid (RkIs w7 B (w.heap.size :: ((Value.slice va vn vc).ownBlock.toList ++ F)) R s) := HR.out.turn (Chg.of_below hb7) (fun y hy => by
    rcases List.mem_cons.1 hy with rfl | hy
    · exact .inr (Nat.le_refl _)
    · rcases List.mem_append.1 hy with hy | hy
      · exact .inr (Nat.le_of_lt (hog y (by simpa using hy)).1)
      · exact .inl hy)
  have HD7 := Lib.hid (HD.out.below hb7)
  have HX : Hid (∀ x ∈ w.heap.size :: ((Value.slice va vn vc).ownBlock.toList ++ F), x < w7.heap.size) := fun x hx => by
    rcases List.mem_cons.1 hx with rfl | hx
    · exact cell_lt k1
    · rcases List.mem_append.1 hx with hx | hx
      · exact (hog x (by simpa using hx)).2
      · exact HD7.out.lt x hx
  have HOG := Lib.hid hog
  have HQ7 : Hid (IsBytes w7 (.slice pb nb cb) tb) := HA.out.bytes _ (hb7.mono HR.out.size)
  have HB7' := Lib.hid hb7
  clear hvn hb7 hog
  refine (write_rk w7 B _ R s HR7.out HX.out ti pb nb cb tb HQ7.out HU.out).mono ?_
  rintro e w8 ⟨rfl, hr8, ho8⟩
  have hsz := HR.out.size
  have hsz7 := HB7'.out.size
  have hoF : Off B F w7 w8 := ho8.mono (fun x hx => List.mem_cons_of_mem _ (List.mem_append.2 (.inr hx)))
  have HD8 : Hid (DiskF w8 D F s) := HD7.out.off hoF
  have HO8 : Hid (Own w8 (w.heap.size + 1) 5 (.slice va vn vc) (tb.map byteV)) := HO7.out.keep ho8.size (fun k hk => ho8.block k (HOG.out k hk).2 (.inr (List.mem_cons_of_mem _ (List.mem_append.2 (.inl (by simp [hk]))))))
  have kb8 : w8.heap[w.heap.size]? = w7.heap[w.heap.size]? := ho8.block _ (cell_lt k1) (.inr (by simp))
  have k1' : w8.cell? ⟨w.heap.size, 1, none⟩ = some (.int .i64 ti) := (World.cell?_of_block (a := ⟨w.heap.size, 1, none⟩) kb8).trans k1
  have HR8 := Lib.hid hr8
  have HBW8 : Hid (Below B w w8) := (HB7'.out.mono hsz).trans (ho8.below (Nat.le_trans hsz hsz7))
  have HSZ8 : Hid (w7.heap.size ≤ w8.heap.size) := ho8.size
  clear hr8 ho8 hoF k1 k2 kb8
  go_wp2_with fail
  refine (writeF w8 D F s HD8.out ti va vn vc tb HO8.out.reads.bytes HU.out).mono ?_
  rintro e w9 ⟨rfl, ⟨F9, hd9, gr9⟩, hc9⟩
  have hog := HOG.out
  have hoF8 : ∀ k, (Value.slice va vn vc).ownBlock = some k → k ∉ F := fun k hk hx => by have := HD.out.lt k hx; have := (hog k hk).1; omega
  have hF9 : ∀ k, (Value.slice va vn vc).ownBlock = some k → k ∉ F9 := fun k hk hx => by
    rcases gr9 k hx with h | h
    · exact hoF8 k hk h
    · have := (hog k hk).2; have := HSZ8.out; omega
  have hBw8 : B ≤ w8.heap.size := by have := HSZ8.out; omega
  have SP : Hid (Spoils w9 (w.heap.size + 1) B F9 D R (.slice va vn vc) (s.write ti tb).1 tb w) := by
    refine ⟨HO8.out.keep hc9.size (fun k hk => hc9.block k (Nat.lt_of_lt_of_le (hog k hk).2 HSZ8.out) (hoF8 k hk)), hd9, ?_, by omega, gr9.above hBw8 HF.out, hF9, HBW8.out.trans (hc9.below hBw8 HF.out)⟩
    refine (HR8.out.turn (F' := w.heap.size :: ((Value.slice va vn vc).ownBlock.toList ++ F9)) (hc9.mono (fun x hx => List.mem_cons_of_mem _ (List.mem_append.2 (.inr hx)))) (fun y hy => ?_)).drop (fun x hx => List.mem_cons_of_mem _ hx)
    rcases List.mem_cons.1 hy with rfl | hy
    · exact .inl (by simp)
    · rcases List.mem_append.1 hy with hy | hy
      · exact .inl (List.mem_cons_of_mem _ (List.mem_append.2 (.inl hy)))
      · rcases gr9 y hy with h | h
        · exact .inl (List.mem_cons_of_mem _ (List.mem_append.2 (.inr h)))
        · exact .inr h
  obtain ⟨ss, hss⟩ : ∃ ss, ss = (s.write ti tb).1 := ⟨_, rfl⟩
  rw [← hss] at SP
  have HSS : Hid (ss = s.act ⟨1, ti, tb, tf⟩) := by rw [hss]; rfl
  obtain ⟨er, her⟩ : ∃ er, er = (s.write ti tb).2 := ⟨_, rfl⟩
  rw [← her]
  obtain ⟨wbase, hwb⟩ : ∃ wbase, wbase = w.heap.size + 1 := ⟨_, rfl⟩
  rw [← hwb] at SP
  clear hd9 gr9 hc9 hog hoF8 hF9 hBw8 hss her hsz hsz7 k1' hwb
  go_wp2
  go_loopw [45] (fun i wr => ∃ (k : Nat) (xs : List B8), k ≤ vn ∧ i = .int .i64 k ∧ Hid (xs.length = vn) ∧ Hid (Spoils wr wbase B F9 D R (.slice va vn vc) ss xs w)) (fun i _ => vn - (intOf i).toNat)
  case atStart => exact ⟨0, _, Nat.zero_le _, rfl, LEN.out, SP.out⟩
  case round =>
    obtain ⟨k, xs, hk, rfl, hxl, hsp⟩ := hrel
    have kb : (k : Int) ≤ 1000 := by have := VNB.out; omega
    by_cases hlt : k < vn
    · have i1 : (0 : Int) ≤ (k : Int) ∧ (k : Int) < (vn : Int) := by omega
      have hkx : k < xs.length := by rw [hxl.out]; exact hlt
      obtain ⟨g, cap, e, hat⟩ := hsp.out.own.at_ (by rw [List.length_map]; omega)
      injection e with e1 e2 e3
      subst e1 e3
      obtain ⟨c, hcx⟩ : ∃ c, c = xs[k] := ⟨_, rfl⟩
      have hcell : wr.cell? ⟨g, k, none⟩ = some (.int .u8 (c.toNat : Int)) := by rw [hat.cell k (by rw [List.length_map]; exact hkx), List.getElem_map, hcx]; rfl
      have hfz := hat.frozen k
      have hbx := bits_x8 c
      have HS := Lib.hid (hsp.out.set (by omega) k (flip c))
      clear hkx hcx hat e2
      go_wp2
      refine ⟨⟨k + 1, xs.set k (flip c), hlt, by go_num, by unfold Hid; rw [List.length_set]; exact hxl.out, HS.out⟩, by simp [intOf]; omega⟩
    · have FIN := Lib.hid hsp.out.both
      go_wp2
      go_ret
      rw [← HSS.out]
      exact ⟨rfl, FIN.out⟩
set_option maxRecDepth 100000 in
set_option maxHeartbeats 8000000 in
theorem step15_read (w : World) (B D R : Nat) (s : Dk) (ti : Int) (tb : List B8) (tf : List (Int × Int)) (pb pf : Option Addr) (nb cb nf cf : Nat) (h : Both w B D R s) (hu : s.under.length ≤ 1000000) :
    Calls Try.prog 27 #[.pointer (some ⟨D, 0, none⟩), .pointer (some ⟨R, 0, none⟩), .agg #[.int .i64 2, .int .i64 ti, .slice pb nb cb, .slice pf nf cf]] w fun e w' => e = .returned (.bool true) ∧ Both w' B D R (s.act ⟨2, ti, tb, tf⟩) ∧ Below B w w' := by
  obtain ⟨F, hd, hr, hF⟩ := h
  have hsz := hr.size
  have hb1 : Below w.heap.size w (w.alloc (.cells #[.int .i64 2, .int .i64 ti, .slice pb nb cb, .slice pf nf cf] 44)) := (Below.refl _ _).alloc (Nat.le_refl _) _
  have HR := Lib.hid (hr.below hb1)
  have HD := Lib.hid (hd.below hb1)
  have HB := Lib.hid hb1
  have HSZ := Lib.hid hsz
  have HF := Lib.hid hF
  have HU := Lib.hid hu
  clear hd hr hF hu hb1 hsz
  go_enter Try.func27, Try.ntmps27
  go_wp2_with fail
  refine (readF _ D F s HD.out ti).mono ?_
  rintro e w2 ⟨v, rfl, hown, hb2⟩
  have hlb : (s.read ti).1.length ≤ 1000 := (by have := s.cur_len HD.out.ok ti _ HD.out.ok.under; unfold Dk.read; split <;> simp_all)
  have hlw : (w.alloc (.cells #[.int .i64 2, .int .i64 ti, .slice pb nb cb, .slice pf nf cf] 44)).heap.size = w.heap.size + 1 := by simp
  obtain ⟨va, vn, vc, rfl, hvn⟩ : ∃ a n c, v = .slice a n c ∧ n = (s.read ti).1.length := (by obtain ⟨a, c, h, _⟩ := hown.len; exact ⟨a, _, c, h, by rw [List.length_map]⟩)
  have VNB : Hid (vn ≤ 1000) := by unfold Hid; rw [hvn]; exact hlb
  have LEN : Hid ((s.read ti).1.length = vn) := hvn.symm
  rw [hlw] at hown hb2
  have HO2 := Lib.hid hown
  have HB2 := Lib.hid hb2
  have HR2 : Hid (RkIs w2 B ((Value.slice va vn vc).ownBlock.toList ++ F) R s) := HR.out.turn (Chg.of_below (by rw [hlw]; exact hb2)) (fun y hy => by
    rcases List.mem_append.1 hy with hy | hy
    · exact .inr (by rw [hlw]; exact (hown.block_ge y (by simpa using hy)).1)
    · exact .inl hy)
  have HD2 : Hid (DiskF w2 D F s) := HD.out.below (by rw [hlw]; exact hb2)
  have k1 : w2.cell? ⟨w.heap.size, 1, none⟩ = some (.int .i64 ti) := (hb2.cell (p := ⟨w.heap.size, 1, none⟩) (by simp)).trans (by simp)
  have HF2 : Hid (∀ k, (Value.slice va vn vc).ownBlock = some k → k ∉ F) := fun k hk hx => by have := HD.out.lt k hx; rw [hlw] at this; have := (hown.block_ge k hk).1; omega
  clear hvn hown hb2 hlb
  go_wp2_with fail
  refine (read_rk w2 B _ R s HR2.out ti HU.out).mono ?_
  rintro e w3 ⟨xa, xn, xc, rfl, hx, rfl⟩
  have HX := Lib.hid hx
  clear hx
  go_wp2_with fail
  refine (same_any _ _ _ _ _ HO2.out.reads.bytes HX.out).mono ?_
  rintro e w4 ⟨rfl, nd, rfl⟩
  rw [decide_eq_true rfl]
  have SP : Hid (Spoils (w3.drewN nd) (w.heap.size + 1) B F D R (.slice va vn vc) s (s.read ti).1 w) := by
    have hbd : Below w3.heap.size w3 (w3.drewN nd) := below_drewN (Below.refl _ _) _
    exact ⟨HO2.out.below hbd, HD2.out.below hbd, HR2.out.below hbd, by have := HSZ.out; omega, HF.out, HF2.out, ((HB.out.mono HSZ.out).trans (HB2.out.mono (by have := HSZ.out; omega))).trans (hbd.mono (by have := HR2.out.size; omega))⟩
  obtain ⟨wbase, hwb⟩ : ∃ wbase, wbase = w.heap.size + 1 := ⟨_, rfl⟩
  rw [← hwb] at SP
  obtain ⟨w5, hw5⟩ : ∃ w5, w5 = w3.drewN nd := ⟨_, rfl⟩
  rw [← hw5] at SP ⊢
  have HSS : Hid (s = s.act ⟨2, ti, tb, tf⟩) := rfl
  clear k1 hlw hwb hw5
  go_wp2
  go_loopw [84] (fun i wr => ∃ (k : Nat) (xs : List B8), k ≤ vn ∧ i = .int .i64 k ∧ Hid (xs.length = vn) ∧ Hid (Spoils wr wbase B F D R (.slice va vn vc) s xs w)) (fun i _ => vn - (intOf i).toNat)
  case atStart => exact ⟨0, _, Nat.zero_le _, rfl, LEN.out, SP.out⟩
  case round =>
    obtain ⟨k, xs, hk, rfl, hxl, hsp⟩ := hrel
    have kb : (k : Int) ≤ 1000 := by have := VNB.out; omega
    by_cases hlt : k < vn
    · have i1 : (0 : Int) ≤ (k : Int) ∧ (k : Int) < (vn : Int) := by omega
      have hkx : k < xs.length := by rw [hxl.out]; exact hlt
      obtain ⟨g, cap, e, hat⟩ := hsp.out.own.at_ (by rw [List.length_map]; omega)
      injection e with e1 e2 e3
      subst e1 e3
      obtain ⟨c, hcx⟩ : ∃ c, c = xs[k] := ⟨_, rfl⟩
      have hcell : wr.cell? ⟨g, k, none⟩ = some (.int .u8 (c.toNat : Int)) := by rw [hat.cell k (by rw [List.length_map]; exact hkx), List.getElem_map, hcx]; rfl
      have hfz := hat.frozen k
      have hbx := bits_x8 c
      have HS := Lib.hid (hsp.out.set (by omega) k (flip c))
      clear hkx hcx hat e2
      go_wp2
      refine ⟨⟨k + 1, xs.set k (flip c), hlt, by go_num, by unfold Hid; rw [List.length_set]; exact hxl.out, HS.out⟩, by simp [intOf]; omega⟩
    · have FIN := Lib.hid hsp.out.both
      go_wp2
      go_ret
      rw [← HSS.out]
      exact ⟨rfl, FIN.out⟩
end Go.Proofs.Ytcnhjbipncledaa
