/- The walks of package pack, the writer: put and the methods over the writer's state. -/
import Derived.Test.YtajnhmkkgngbhaaPackV
import Derived.Shelf.Abstract
namespace Go.Proofs.Ytajnhmkkgngbhaa
open Go.RowKit
open Pack (form zig leB un eight formI formT formL room)

/-- A writer in memory: what was written, and whether room was missed. -/
def WrIs (w : World) (W : Nat) (st : List (BitVec 8) × Bool) : Prop := ∃ a n c, WriterIs w W (.slice a n c) st.2 ∧ Own w (W + 1) 5 (.slice a n c) (st.1.map byteV) ∧ st.1.length = n ∧ n ≤ 1048576
/-- The same, its row's block named. -/
def WrAt (w : World) (W : Nat) (k : Option Nat) (st : List (BitVec 8) × Bool) : Prop := ∃ a n c, (Value.slice a n c).ownBlock = k ∧ WriterIs w W (.slice a n c) st.2 ∧ Own w (W + 1) 5 (.slice a n c) (st.1.map byteV) ∧ st.1.length = n ∧ n ≤ 1048576
theorem WrIs.at_ {w : World} {W : Nat} {st : List (BitVec 8) × Bool} (h : WrIs w W st) : ∃ k, WrAt w W k st := by
  obtain ⟨a, n, c, h⟩ := h; exact ⟨_, a, n, c, rfl, h⟩
theorem WrAt.is {w : World} {W : Nat} {k : Option Nat} {st : List (BitVec 8) × Bool} (h : WrAt w W k st) : WrIs w W st := by
  obtain ⟨a, n, c, _, h⟩ := h; exact ⟨a, n, c, h⟩
theorem WrAt.lt {w : World} {W : Nat} {k : Option Nat} {st : List (BitVec 8) × Bool} (h : WrAt w W k st) : W < w.heap.size ∧ ∀ x ∈ k.toList, W < x ∧ x < w.heap.size := by
  obtain ⟨a, n, c, rfl, h1, h2, _⟩ := h
  refine ⟨h1.lt, fun x hx => ?_⟩
  have := h2.block_ge x (by simpa using hx)
  omega
theorem WriterIs.chg {S : List Nat} {w w' : World} {P : Nat} {u : Value} {over : Bool} (h : WriterIs w P u over) (hc : Chg S w w') (hs : P ∉ S) : WriterIs w' P u over :=
  h.keep hc.size (hc.block P h.lt hs)
theorem WrIs.below {w w' : World} {W : Nat} {st : List (BitVec 8) × Bool} (h : WrIs w W st) (hb : Below w.heap.size w w') : WrIs w' W st := by
  obtain ⟨a, n, c, h1, h2, h3, h4⟩ := h
  exact ⟨a, n, c, h1.keep hb.size (hb.block W h1.lt), h2.below hb, h3, h4⟩
theorem WrIs.lt {w : World} {W : Nat} {st : List (BitVec 8) × Bool} (h : WrIs w W st) : W < w.heap.size := by
  obtain ⟨a, n, c, h1, _⟩ := h; exact h1.lt
/-- What a writer's own turns leave as they are. -/
theorem WrIs.chg {S : List Nat} {w w' : World} {W : Nat} {st : List (BitVec 8) × Bool} (h : WrIs w W st) (hc : Chg S w w') (hs : ∀ x ∈ S, x < W) : WrIs w' W st := by
  obtain ⟨a, n, c, h1, h2, h3, h4⟩ := h
  exact ⟨a, n, c, h1.chg hc (fun hx => by have := hs W hx; omega), h2.chg hc (fun x hx => by have := hs x hx; omega), h3, h4⟩
theorem WrAt.below {w w' : World} {W : Nat} {k : Option Nat} {st : List (BitVec 8) × Bool} (h : WrAt w W k st) (hb : Below w.heap.size w w') : WrAt w' W k st := by
  obtain ⟨a, n, c, h0, h1, h2, h3, h4⟩ := h
  exact ⟨a, n, c, h0, h1.keep hb.size (hb.block W h1.lt), h2.below hb, h3, h4⟩
set_option maxHeartbeats 1000000 in
theorem put_room2 (P : Nat) (a : Option Addr) (n c : Nat) (bs xs : List (BitVec 8)) (v : Value) (w : World) (hW : WriterIs w P (.slice a n c) false) (ho : Own w (P + 1) 5 (.slice a n c) (bs.map byteV)) (hn : bs.length = n) (hv : IsBytes w v xs) (hr : n + xs.length ≤ 1048576) :
    Calls Try.prog 30 #[.pointer (some ⟨P, 0, none⟩), v] w fun e w' => (∃ r, e = .returned r) ∧ ∃ a' n' c', Hid (n' = n + xs.length) ∧ WriterIs w' P (.slice a' n' c') false ∧ Own w' (P + 1) 5 (.slice a' n' c') ((bs ++ xs).map byteV) ∧ Chg (P :: (Value.slice a n c).ownBlock.toList) w w' := by
  have hv' := hv
  obtain ⟨va, vn, vc, rfl, hvn, _, _, _⟩ := hv'
  obtain ⟨hlt, c0, c1, f0, f1⟩ := hW
  have HV := Lib.hid hv
  have HO := Lib.hid ho
  have HN := Lib.hid hn
  have HVN := Lib.hid hvn
  have g : ¬ (1048576 : Int) - (n : Int) < (vn : Int) := by omega
  have hwr : IntKind.i64.wrap ((1048576 : Int) - (n : Int)) = (1048576 : Int) - (n : Int) := by rw [IntKind.wrap_i64]; omega
  have HR := Lib.hid hr
  have HW : Hid (WriterIs w P (.slice a n c) false) := ⟨hlt, c0, c1, f0, f1⟩
  clear hv ho hn hvn hr
  go_enter Try.func30, Try.ntmps30
  go_wp2_with (at_builtin; refine wpl_append rfl (.tmp 28) (.tmp 29) _ rfl elemU8 rfl HO.out rfl HV.out.reads one_byteV (by have := HR.out; have := HN.out; have := HVN.out; rw [List.length_map, List.length_map]; omega) (by have := HR.out; have := HN.out; have := HVN.out; rw [List.length_map, List.length_map]; unfold maxLen; omega) ?_; intro v' w2 hown2 hg1 hat1; obtain ⟨ra, rn, rc, rfl, hrn⟩ := hown2.form_; have hb2 : Hid (Below (P + 1) w w2) := below_grown (Below.refl _ _) HO.out hg1 (Nat.le_refl _); have hc2 : Hid (Chg (Value.slice a n c).ownBlock.toList w w2) := Chg.of_grown hg1; have W2 : WriterIs w2 P (.slice a n c) false := HW.out.keep hb2.out.size (hb2.out.block P (by omega)); obtain ⟨hlt2, d0, d1, e0, e1⟩ := W2; have O2 := Lib.hid hown2; clear hg1 hat1 hown2)
  go_end0
  refine ⟨⟨_, rfl⟩, ra, rn, ?_, rc, ?_, ?_, ?_⟩
  · have h1 := hrn.out
    rw [List.length_append, List.length_map, List.length_map] at h1
    have h2 := HN.out
    show rn = n + xs.length
    omega
  · refine ⟨by simp [World.setCell]; exact hlt2, World.cell?_setCell_same _ _ _ d0, (World.cell?_setCell_other _ _ _ _ (fun e => by simp at e)).trans d1, ?_, ?_⟩
    · rw [World.frozen?_setCell]; exact e0
    · rw [World.frozen?_setCell]; exact e1
  · refine O2.out.keep (by simp [World.setCell]) fun k hk => ?_
    have hge := O2.out.block_ge k hk
    exact Below.heap_setCell _ ⟨P, 0, none⟩ _ k (fun e => by simp at e; omega)
  · exact (hc2.out.mono (by intro x hx; simp; exact .inr (by simpa using hx))).setCell _ _ (by simp)
theorem put_big2 (P : Nat) (a va : Option Addr) (n c vn vc : Nat) (w : World) (hW : WriterIs w P (.slice a n c) false) (hn : n ≤ 1048576) (hr : 1048576 < n + vn) :
    Calls Try.prog 30 #[.pointer (some ⟨P, 0, none⟩), .slice va vn vc] w fun e w' => (∃ r, e = .returned r) ∧ WriterIs w' P (.slice a n c) true ∧ Chg [P] w w' := by
  obtain ⟨hlt, c0, c1, f0, f1⟩ := hW
  have g : (1048576 : Int) - (n : Int) < (vn : Int) := by omega
  have hwr : IntKind.i64.wrap ((1048576 : Int) - (n : Int)) = (1048576 : Int) - (n : Int) := by rw [IntKind.wrap_i64]; omega
  clear hn hr
  go_enter Try.func30, Try.ntmps30
  go_wp2
  refine bodyPost_ret (results_none rfl _ _ _) rfl ?_
  refine ⟨⟨_, rfl⟩, ⟨by simp [World.setCell]; exact hlt, (World.cell?_setCell_other _ _ _ _ (fun e => by simp at e)).trans c0, World.cell?_setCell_same _ _ _ c1, ?_, ?_⟩, (Chg.refl _ _).setCell _ _ (by simp)⟩
  · rw [World.frozen?_setCell]; exact f0
  · rw [World.frozen?_setCell]; exact f1
theorem put_st (W : Nat) (k : Option Nat) (st : List (BitVec 8) × Bool) (xs : List (BitVec 8)) (v : Value) (w : World) (hW : WrAt w W k st) (hv : IsBytes w v xs) :
    Calls Try.prog 30 #[.pointer (some ⟨W, 0, none⟩), v] w fun e w' => (∃ r, e = .returned r) ∧ WrIs w' W (room st xs) ∧ Chg (W :: k.toList) w w' := by
  obtain ⟨a, n, c, rfl, h1, h2, h3, h4⟩ := hW
  obtain ⟨bs, over⟩ := st
  simp only at h1 h2 h3
  cases over with
  | true =>
    refine (put_over W _ v w h1).mono ?_
    rintro e w' ⟨hr, rfl⟩
    exact ⟨hr, ⟨a, n, c, h1, h2, h3, h4⟩, Chg.refl _ _⟩
  | false =>
    by_cases hb : 1048576 < n + xs.length
    · have hv' := hv
      obtain ⟨va, vn, vc, rfl, hvn, _, _, _⟩ := hv'
      refine (put_big2 W a va n c vn vc w h1 h4 (by omega)).mono ?_
      rintro e w' ⟨hr, hw, hc⟩
      have hroom : room (bs, false) xs = (bs, true) := by unfold room; rw [if_neg (by simp), if_pos (by simp only; omega)]
      rw [hroom]
      exact ⟨hr, ⟨a, n, c, hw, h2.chg hc (by simp), h3, h4⟩, hc.mono (by simp)⟩
    · refine (put_room2 W a n c bs xs v w h1 h2 h3 hv (by omega)).mono ?_
      rintro e w' ⟨hr, a', n', c', hn, hw, ho, hbl⟩
      have hroom : room (bs, false) xs = (bs ++ xs, false) := by unfold room; rw [if_neg (by simp), if_neg (by simp only; omega)]
      rw [hroom]
      have hn' := hn.out
      exact ⟨hr, ⟨a', n', c', hw, ho, by simp only [List.length_append]; omega, by omega⟩, hbl⟩
theorem done_st (W : Nat) (bs : List (BitVec 8)) (w : World) (hW : WrIs w W (bs, false)) :
    Calls Try.prog 11 #[.pointer (some ⟨W, 0, none⟩)] w fun e w' => ∃ a' m c', e = .returned (.tuple #[.slice a' m c', .int .i64 0]) ∧ IsBytes w' (.slice a' m c') bs ∧ Below w.heap.size w w' := by
  obtain ⟨a, n, c, h1, h2, h3, h4⟩ := hW
  refine (done_room W a n c bs w h1 h2 (by simp only at h3; omega)).mono ?_
  rintro e w' ⟨a', m, c', rfl, hb, hbl⟩
  exact ⟨a', m, c', rfl, hb.out, hbl.out⟩
theorem done_full (W : Nat) (bs : List (BitVec 8)) (w : World) (hW : WrIs w W (bs, true)) :
    Calls Try.prog 11 #[.pointer (some ⟨W, 0, none⟩)] w fun e w' => e = .returned (.tuple #[.slice none 0 0, .int .i64 3]) ∧ w = w' := by
  obtain ⟨a, n, c, h1, h2, h3, h4⟩ := hW
  exact done_over W _ w h1
/-- What a method of the writer comes to: the state behind it; of a writer that is none nothing. k: the block of its row ahead. -/
def WPost (p k : Option Nat) (st' : List (BitVec 8) × Bool) (w : World) (x : Ending) (w' : World) : Prop :=
  (∃ r, x = .returned r) ∧ match p with
    | none => Below w.heap.size w w'
    | some W => WrIs w' W st' ∧ Below W w w' ∧ Chg (W :: k.toList) w w'
def WPre (p k : Option Nat) (st : List (BitVec 8) × Bool) (w : World) : Prop :=
  match p with
  | none => True
  | some W => WrAt w W k st
def ptrOf (p : Option Nat) : Value := .pointer (p.map fun W => ⟨W, 0, none⟩)
theorem WPre.below {p k : Option Nat} {st : List (BitVec 8) × Bool} {w w' : World} (h : WPre p k st w) (hb : Below w.heap.size w w') : WPre p k st w' := by
  cases p with
  | none => trivial
  | some W => exact WrAt.below h hb
/-- 'put' behind anything that laid new memory alone. -/
theorem put_w (p k : Option Nat) (st : List (BitVec 8) × Bool) (xs : List (BitVec 8)) (v : Value) (w0 w : World) (hW : WPre p k st w0) (hb : Below w0.heap.size w0 w) (hv : IsBytes w v xs) :
    Calls Try.prog 30 #[ptrOf p, v] w (WPost p k (room st xs) w0) := by
  cases p with
  | none =>
    refine (put_none v w).mono ?_
    rintro e w' ⟨hr, rfl⟩
    exact ⟨hr, hb⟩
  | some W =>
    refine (put_st W k st xs v w (WrAt.below hW hb) hv).mono ?_
    rintro e w' ⟨hr, hw, hc⟩
    have hlt := WrAt.lt hW
    have hc0 : Chg (W :: k.toList) w0 w' := (Chg.of_below hb).trans hc
    exact ⟨hr, hw, hc0.below (Nat.le_of_lt hlt.1) (by intro x hx; rcases List.mem_cons.1 hx with rfl | h; exact Nat.le_refl _; exact Nat.le_of_lt (hlt.2 x h).1), hc0⟩
set_option maxHeartbeats 1000000 in
theorem wr_uint (p k : Option Nat) (st : List (BitVec 8) × Bool) (x : Nat) (w : World) (hW : WPre p k st w) (hx : x < 18446744073709551616) :
    Calls Try.prog 12 #[ptrOf p, .int .u64 x] w (WPost p k (room st (form x)) w) := by
  have HW := Lib.hid hW
  have HX := Lib.hid hx
  obtain ⟨q, hq⟩ : ∃ q, ptrOf p = .pointer q := ⟨_, rfl⟩
  have HQ := Lib.hid hq
  rw [hq]
  clear hW hx hq
  go_enter Try.func12, Try.ntmps12
  go_wp2_with fail
  refine (count_nil x w HX.out).mono ?_
  rintro e w1 ⟨a1, m1, c1, rfl, H1, HB1⟩
  go_wp2_with fail
  rw [← HQ.out]
  refine (put_w p k st (form x) _ w w1 HW.out HB1.out H1.out).mono ?_
  intro e w2 hp
  obtain ⟨r, rfl⟩ := hp.1
  have HP := Lib.hid hp
  clear hp
  go_wp2_with fail
  go_end0
  exact ⟨⟨_, rfl⟩, HP.out.2⟩
set_option maxHeartbeats 1000000 in
theorem wr_int (p k : Option Nat) (st : List (BitVec 8) × Bool) (x : Int) (w : World) (hW : WPre p k st w) (hx : -9223372036854775808 ≤ x ∧ x ≤ 9223372036854775807) :
    Calls Try.prog 29 #[ptrOf p, .int .i64 x] w (WPost p k (room st (formI x)) w) := by
  have HW := Lib.hid hW
  have HX := Lib.hid hx
  have HS := Lib.hid (sign_any x w hx.1 hx.2)
  obtain ⟨q, hq⟩ : ∃ q, ptrOf p = .pointer q := ⟨_, rfl⟩
  have HQ := Lib.hid hq
  rw [hq]
  clear hW hx hq
  go_enter Try.func29, Try.ntmps29
  go_wp2_with fail
  refine HS.out.mono ?_
  rintro e w0 ⟨rfl, rfl⟩
  go_wp2_with fail
  refine (count_nil (zig x) w (Pack.zig_lt x HX.out.1 HX.out.2)).mono ?_
  rintro e w1 ⟨a1, m1, c1, rfl, H1, HB1⟩
  go_wp2_with fail
  rw [← HQ.out]
  refine (put_w p k st (formI x) _ w w1 HW.out HB1.out H1.out).mono ?_
  intro e w2 hp
  obtain ⟨r, rfl⟩ := hp.1
  have HP := Lib.hid hp
  clear hp
  go_wp2_with fail
  go_end0
  exact ⟨⟨_, rfl⟩, HP.out.2⟩
set_option maxHeartbeats 1000000 in
theorem wr_fix (p k : Option Nat) (st : List (BitVec 8) × Bool) (x : Int) (w : World) (hW : WPre p k st w) :
    Calls Try.prog 32 #[ptrOf p, .int .i64 x] w (WPost p k (room st (eight x)) w) := by
  have HW := Lib.hid hW
  obtain ⟨q, hq⟩ : ∃ q, ptrOf p = .pointer q := ⟨_, rfl⟩
  have HQ := Lib.hid hq
  rw [hq]
  clear hW hq
  go_enter Try.func32, Try.ntmps32
  go_wp2_with fail
  refine (eight_any w.heap.size _ [] x w (Own.nil_ (Nat.le_refl _)) (by simp)).mono ?_
  rintro e w1 ⟨a1, m1, c1, rfl, ho, hb⟩
  rw [List.nil_append] at ho
  have H1 := Lib.hid ho.reads.bytes
  have HB1 := Lib.hid hb
  clear ho hb
  go_wp2_with fail
  rw [← HQ.out]
  refine (put_w p k st (eight x) _ w w1 HW.out HB1.out H1.out).mono ?_
  intro e w2 hp
  obtain ⟨r, rfl⟩ := hp.1
  have HP := Lib.hid hp
  clear hp
  go_wp2_with fail
  go_end0
  exact ⟨⟨_, rfl⟩, HP.out.2⟩
set_option maxHeartbeats 1000000 in
theorem wr_bytes (p k : Option Nat) (st : List (BitVec 8) × Bool) (bs : List (BitVec 8)) (v : Value) (w : World) (hW : WPre p k st w) (hv : IsBytes w v bs) (hl : bs.length ≤ 2000000) :
    Calls Try.prog 10 #[ptrOf p, v] w (WPost p k (room st (formT bs)) w) := by
  have HW := Lib.hid hW
  have HV := Lib.hid hv
  have HL := Lib.hid hl
  obtain ⟨va, vn, vc, rfl, hvn, _, _, _⟩ := hv
  have hx : IntKind.u64.wrap (vn : Int) = (vn : Int) := by rw [IntKind.wrap_u64]; omega
  have HVN := Lib.hid hvn
  obtain ⟨q, hq⟩ : ∃ q, ptrOf p = .pointer q := ⟨_, rfl⟩
  have HQ := Lib.hid hq
  rw [hq]
  clear hW hq hvn
  go_enter Try.func10, Try.ntmps10
  go_wp2_with fail
  refine (count_any w.heap.size _ [] vn w (Own.nil_ (Nat.le_refl _)) (by simp) (by have := HVN.out; have := HL.out; omega)).mono ?_
  rintro e w1 ⟨a1, m1, c1, rfl, ho, hb⟩
  rw [List.nil_append] at ho
  have HO := Lib.hid ho
  have HB1 := Lib.hid hb
  have H1 : Hid (IsBytes w1 (.slice va vn vc) bs) := HV.out.below hb
  clear ho hb
  go_wp2_with (at_builtin; refine wpl_append rfl (.tmp 8) (.tmp 9) _ rfl elemU8 rfl HO.out rfl H1.out.reads one_byteV (by have := HL.out; have := form_length vn; rw [List.length_map, List.length_map]; omega) (by have := HL.out; have := form_length vn; rw [List.length_map, List.length_map]; unfold maxLen; omega) ?_; intro v' w2 hown2 hg1 hat1; rw [← List.map_append] at hown2; obtain ⟨ra, rn, rc, rfl, hrn⟩ := hown2.form_; have HB2 : Hid (Below w.heap.size w w2) := below_grown HB1.out HO.out hg1 (Nat.le_refl _); have H2 := Lib.hid hown2.reads.bytes; clear hg1 hat1 hown2 hrn)
  rw [← HQ.out]
  refine (put_w p k st (formT bs) _ w w2 HW.out HB2.out (by unfold formT; have := H2.out; rwa [HVN.out] at this)).mono ?_
  intro e w2 hp
  obtain ⟨r, rfl⟩ := hp.1
  have HP := Lib.hid hp
  clear hp
  go_wp2_with fail
  go_end0
  exact ⟨⟨_, rfl⟩, HP.out.2⟩

set_option maxHeartbeats 1000000 in
theorem ints1_one (base : Nat) (v : Value) (ys : List Value) (x : Int) (w : World) (hx : -9223372036854775808 ≤ x ∧ x ≤ 9223372036854775807) (ho : Own w base 5 v ys) (hl : ys.length ≤ 1100000) :
    Calls Try.prog 65 #[v, .int .i64 x] w fun e w' => ∃ a m c, e = .returned (.slice a m c) ∧ Own w' base 5 (.slice a m c) (ys ++ (formI x).map byteV) ∧ Below base w w' := by
  have HO := Lib.hid ho
  have HX := Lib.hid hx
  have HL := Lib.hid hl
  have HS := Lib.hid (sign_any x w hx.1 hx.2)
  clear ho hx hl
  go_enter Try.func65, Try.ntmps65
  go_wp2_with fail
  refine HS.out.mono ?_
  rintro e w0 ⟨rfl, rfl⟩
  go_wp2_with fail
  refine (count_any base _ ys (zig x) w HO.out (by have := HL.out; omega) (Pack.zig_lt x HX.out.1 HX.out.2)).mono ?_
  rintro e w1 ⟨a1, m1, c1, rfl, ho, hb⟩
  have HO1 := Lib.hid ho
  have HB1 := Lib.hid hb
  clear ho hb
  go_wp2_with fail
  go_ret
  exact ⟨_, _, _, rfl, HO1.out, HB1.out⟩

set_option maxHeartbeats 1000000 in
theorem eachN (G : Nat) (f : Int → List (BitVec 8)) (xs : List Int) (v : Value) (w : World) (hG : ∀ args w, (callFunc G args).run Try.prog w = .ok (.enter G args) w) (hv : Reads w v (xs.map intV)) (hl : xs.length ≤ 100000) (hf : ∀ x ∈ xs, (f x).length ≤ 10)
    (hone : ∀ base v ys x w, x ∈ xs → Own w base 5 v ys → ys.length ≤ 1100000 → Calls Try.prog G #[v, .int .i64 x] w fun e w' => ∃ a m c, e = .returned (.slice a m c) ∧ Own w' base 5 (.slice a m c) (ys ++ (f x).map byteV) ∧ Below base w w') :
    Calls Try.prog 64 #[v, .func (.func G) #[] #[]] w fun e w' => ∃ a m c, e = .returned (.slice a m c) ∧ IsBytes w' (.slice a m c) (formL f xs) ∧ Below w.heap.size w w' := by
  have HV := Lib.hid hv
  have HL := Lib.hid hl
  have HF := Lib.hid hf
  have HONE := Lib.hid hone
  obtain ⟨va, vn, vc, rfl, hvn, _, _, hcells⟩ := hv
  rw [List.length_map] at hvn
  have hx : IntKind.u64.wrap (vn : Int) = (vn : Int) := by rw [IntKind.wrap_u64]; omega
  have hvb : vn ≤ 100000 := by omega
  have HVN := Lib.hid hvn
  have hcell : Hid (∀ k, k < vn → ∃ b off, va = some ⟨b, off, none⟩ ∧ b < w.heap.size ∧ w.cell? ⟨b, off + k, none⟩ = some (.int .i64 (xs.getD k 0))) := by
    intro k hk
    rcases hcells with h | ⟨b, off, rfl, hb, h⟩
    · have : xs.length = 0 := by simpa using congrArg List.length h
      omega
    · refine ⟨b, off, rfl, hb, ?_⟩
      rw [h k (by rw [List.length_map]; omega), List.getElem_map]
      simp [intV, List.getD, show k < xs.length by omega]
  have hsum : Hid (∀ k, k ≤ xs.length → ((xs.take k).flatMap f).length ≤ 10 * k) := by
    intro k
    induction k with
    | zero => intro _; simp
    | succ k ih =>
      intro hk
      have h1 := ih (by omega)
      have h2 := HF.out xs[k] (List.getElem_mem _)
      rw [take_snoc xs k (by omega), List.flatMap_append, List.length_append]
      simp only [List.flatMap_cons, List.flatMap_nil, List.append_nil]
      omega
  clear hvn hcells hf hl hone
  go_enter Try.func64, Try.ntmps64
  go_wp2_with fail
  refine (count_any w.heap.size _ [] vn w (Own.nil_ (Nat.le_refl _)) (by simp) (by omega)).mono ?_
  rintro e w1 ⟨a1, m1, c1, rfl, ho, hb⟩
  rw [List.nil_append] at ho
  have HO := Lib.hid ho
  have HB1 := Lib.hid hb
  clear ho hb
  go_wp2_with fail
  go_loopw [5, 7, 14] (fun u _ i wr => ∃ (k : Nat) (a : Option Addr) (m c : Nat), i = .int .i64 k ∧ k ≤ vn ∧ u = .slice a m c ∧ Hid (Own wr w.heap.size 5 (.slice a m c) ((form vn ++ (xs.take k).flatMap f).map byteV)) ∧ Hid (Below w.heap.size w wr)) (fun _ _ i _ => vn - (intOf i).toNat)
  case atStart => exact ⟨0, _, _, _, rfl, Nat.zero_le _, rfl, by unfold Hid; simpa using HO.out, HB1.out⟩
  case round =>
    obtain ⟨k, a, m, c, rfl, hk, rfl, hown, hbl⟩ := hrel
    have hlen : ((form vn ++ (xs.take k).flatMap f).map byteV).length ≤ 1000010 := by
      have h1 := form_length vn
      have h2 := hsum.out k (by have := HVN.out; omega)
      rw [List.length_map, List.length_append]; omega
    have hm : m ≤ 1048576 := by
      obtain ⟨a', n', c', he, hn'⟩ := hown.out.form_
      injection he with _ he
      have := hn'.out
      omega
    have HLEN := Lib.hid hlen
    clear hlen
    by_cases hlt : k < vn
    · obtain ⟨b, off, rfl, hb, hc0⟩ := hcell.out k hlt
      have hc1 : wr.cell? ⟨b, off + k, none⟩ = some (.int .i64 (xs.getD k 0)) := (hbl.out.cell (p := ⟨b, off + k, none⟩) hb).trans hc0
      have hmem : Hid (xs.getD k 0 ∈ xs) := by
        have : k < xs.length := by have := HVN.out; omega
        unfold Hid; rw [List.getD_eq_getElem?_getD, List.getElem?_eq_getElem this]; exact List.getElem_mem _
      have hsn : Hid ((xs.take (k + 1)).flatMap f = (xs.take k).flatMap f ++ f (xs.getD k 0)) := by
        have hk' : k < xs.length := by have := HVN.out; omega
        unfold Hid
        rw [take_snoc xs k hk', List.flatMap_append, List.getD_eq_getElem?_getD, List.getElem?_eq_getElem hk']
        simp
      obtain ⟨x, hx0⟩ : ∃ x, xs.getD k 0 = x := ⟨_, rfl⟩
      rw [hx0] at hc1 hmem hsn
      clear hc0 hx0
      go_wp2_with fail
      refine (HONE.out w.heap.size _ _ x _ hmem.out hown.out (by have := HLEN.out; omega)).mono ?_
      rintro e w2 ⟨a2, m2, c2, rfl, ho2, hb2⟩
      have HO2 := Lib.hid ho2
      have HB2 : Hid (Below w.heap.size w w2) := hbl.out.trans hb2
      clear ho2 hb2
      go_wp2_with fail
      refine ⟨⟨k + 1, a2, m2, c2, by go_num, by omega, rfl, ?_, HB2.out⟩, by simp [intOf]; omega⟩
      unfold Hid
      rw [hsn.out, ← List.append_assoc, List.map_append]
      exact HO2.out
    · obtain rfl : k = vn := by omega
      have ht : xs.take k = xs := List.take_of_length_le (by have := HVN.out; omega)
      have HT := Lib.hid ht
      clear hlt ht
      go_wp2_with fail
      go_ret
      refine ⟨_, _, _, rfl, ?_, hbl.out⟩
      have := hown.out.reads.bytes
      rw [HT.out] at this
      unfold formL
      rw [← HVN.out]
      exact this
set_option maxHeartbeats 1000000 in
theorem wr_Ints (p k : Option Nat) (st : List (BitVec 8) × Bool) (xs : List Int) (v : Value) (w : World) (hW : WPre p k st w) (hv : Reads w v (xs.map intV)) (hl : xs.length ≤ 100000) (hr : ∀ x ∈ xs, -9223372036854775808 ≤ x ∧ x ≤ 9223372036854775807) :
    Calls Try.prog 33 #[ptrOf p, v] w (WPost p k (room st (formL formI xs)) w) := by
  have HW := Lib.hid hW
  have HE := Lib.hid (eachN 65 formI xs v w (enters_of Try.func65 (by kernel_rfl) rfl) hv hl (fun x _ => form_length _) (fun base v ys x w hx ho hl => ints1_one base v ys x w (hr x hx) ho hl))
  obtain ⟨va, vn, vc, rfl, hvn, _, _, _⟩ := hv
  obtain ⟨q, hq⟩ : ∃ q, ptrOf p = .pointer q := ⟨_, rfl⟩
  have HQ := Lib.hid hq
  rw [hq]
  clear hW hq hl hvn
  go_enter Try.func33, Try.ntmps33
  go_wp2_with fail
  refine HE.out.mono ?_
  rintro e w1 ⟨a1, m1, c1, rfl, h1, hb1⟩
  have H1 := Lib.hid h1
  have HB1 := Lib.hid hb1
  clear h1 hb1
  go_wp2_with fail
  rw [← HQ.out]
  refine (put_w p k st _ _ w w1 HW.out HB1.out H1.out).mono ?_
  intro e w2 hp
  obtain ⟨r, rfl⟩ := hp.1
  have HP := Lib.hid hp
  clear hp
  go_wp2_with fail
  go_end0
  exact ⟨⟨_, rfl⟩, HP.out.2⟩

set_option maxHeartbeats 1000000 in
theorem eachX (G : Nat) (f : Int → List (BitVec 8)) (xs : List Int) (v : Value) (w : World) (hG : ∀ args w, (callFunc G args).run Try.prog w = .ok (.enter G args) w) (hv : Reads w v (xs.map intV)) (hl : xs.length ≤ 100000) (hf : ∀ x ∈ xs, (f x).length ≤ 10)
    (hone : ∀ base v ys x w, x ∈ xs → Own w base 5 v ys → ys.length ≤ 1100000 → Calls Try.prog G #[v, .int .i64 x] w fun e w' => ∃ a m c, e = .returned (.slice a m c) ∧ Own w' base 5 (.slice a m c) (ys ++ (f x).map byteV) ∧ Below base w w') :
    Calls Try.prog 66 #[v, .func (.func G) #[] #[]] w fun e w' => ∃ a m c, e = .returned (.slice a m c) ∧ IsBytes w' (.slice a m c) (formL f xs) ∧ Below w.heap.size w w' := by
  have HV := Lib.hid hv
  have HL := Lib.hid hl
  have HF := Lib.hid hf
  have HONE := Lib.hid hone
  obtain ⟨va, vn, vc, rfl, hvn, _, _, hcells⟩ := hv
  rw [List.length_map] at hvn
  have hx : IntKind.u64.wrap (vn : Int) = (vn : Int) := by rw [IntKind.wrap_u64]; omega
  have hvb : vn ≤ 100000 := by omega
  have HVN := Lib.hid hvn
  have hcell : Hid (∀ k, k < vn → ∃ b off, va = some ⟨b, off, none⟩ ∧ b < w.heap.size ∧ w.cell? ⟨b, off + k, none⟩ = some (.int .i64 (xs.getD k 0))) := by
    intro k hk
    rcases hcells with h | ⟨b, off, rfl, hb, h⟩
    · have : xs.length = 0 := by simpa using congrArg List.length h
      omega
    · refine ⟨b, off, rfl, hb, ?_⟩
      rw [h k (by rw [List.length_map]; omega), List.getElem_map]
      simp [intV, List.getD, show k < xs.length by omega]
  have hsum : Hid (∀ k, k ≤ xs.length → ((xs.take k).flatMap f).length ≤ 10 * k) := by
    intro k
    induction k with
    | zero => intro _; simp
    | succ k ih =>
      intro hk
      have h1 := ih (by omega)
      have h2 := HF.out xs[k] (List.getElem_mem _)
      rw [take_snoc xs k (by omega), List.flatMap_append, List.length_append]
      simp only [List.flatMap_cons, List.flatMap_nil, List.append_nil]
      omega
  clear hvn hcells hf hl hone
  go_enter Try.func66, Try.ntmps66
  go_wp2_with fail
  refine (count_any w.heap.size _ [] vn w (Own.nil_ (Nat.le_refl _)) (by simp) (by omega)).mono ?_
  rintro e w1 ⟨a1, m1, c1, rfl, ho, hb⟩
  rw [List.nil_append] at ho
  have HO := Lib.hid ho
  have HB1 := Lib.hid hb
  clear ho hb
  go_wp2_with fail
  go_loopw [5, 7, 14] (fun u _ i wr => ∃ (k : Nat) (a : Option Addr) (m c : Nat), i = .int .i64 k ∧ k ≤ vn ∧ u = .slice a m c ∧ Hid (Own wr w.heap.size 5 (.slice a m c) ((form vn ++ (xs.take k).flatMap f).map byteV)) ∧ Hid (Below w.heap.size w wr)) (fun _ _ i _ => vn - (intOf i).toNat)
  case atStart => exact ⟨0, _, _, _, rfl, Nat.zero_le _, rfl, by unfold Hid; simpa using HO.out, HB1.out⟩
  case round =>
    obtain ⟨k, a, m, c, rfl, hk, rfl, hown, hbl⟩ := hrel
    have hlen : ((form vn ++ (xs.take k).flatMap f).map byteV).length ≤ 1000010 := by
      have h1 := form_length vn
      have h2 := hsum.out k (by have := HVN.out; omega)
      rw [List.length_map, List.length_append]; omega
    have hm : m ≤ 1048576 := by
      obtain ⟨a', n', c', he, hn'⟩ := hown.out.form_
      injection he with _ he
      have := hn'.out
      omega
    have HLEN := Lib.hid hlen
    clear hlen
    by_cases hlt : k < vn
    · obtain ⟨b, off, rfl, hb, hc0⟩ := hcell.out k hlt
      have hc1 : wr.cell? ⟨b, off + k, none⟩ = some (.int .i64 (xs.getD k 0)) := (hbl.out.cell (p := ⟨b, off + k, none⟩) hb).trans hc0
      have hmem : Hid (xs.getD k 0 ∈ xs) := by
        have : k < xs.length := by have := HVN.out; omega
        unfold Hid; rw [List.getD_eq_getElem?_getD, List.getElem?_eq_getElem this]; exact List.getElem_mem _
      have hsn : Hid ((xs.take (k + 1)).flatMap f = (xs.take k).flatMap f ++ f (xs.getD k 0)) := by
        have hk' : k < xs.length := by have := HVN.out; omega
        unfold Hid
        rw [take_snoc xs k hk', List.flatMap_append, List.getD_eq_getElem?_getD, List.getElem?_eq_getElem hk']
        simp
      obtain ⟨x, hx0⟩ : ∃ x, xs.getD k 0 = x := ⟨_, rfl⟩
      rw [hx0] at hc1 hmem hsn
      clear hc0 hx0
      go_wp2_with fail
      refine (HONE.out w.heap.size _ _ x _ hmem.out hown.out (by have := HLEN.out; omega)).mono ?_
      rintro e w2 ⟨a2, m2, c2, rfl, ho2, hb2⟩
      have HO2 := Lib.hid ho2
      have HB2 : Hid (Below w.heap.size w w2) := hbl.out.trans hb2
      clear ho2 hb2
      go_wp2_with fail
      refine ⟨⟨k + 1, a2, m2, c2, by go_num, by omega, rfl, ?_, HB2.out⟩, by simp [intOf]; omega⟩
      unfold Hid
      rw [hsn.out, ← List.append_assoc, List.map_append]
      exact HO2.out
    · obtain rfl : k = vn := by omega
      have ht : xs.take k = xs := List.take_of_length_le (by have := HVN.out; omega)
      have HT := Lib.hid ht
      clear hlt ht
      go_wp2_with fail
      go_ret
      refine ⟨_, _, _, rfl, ?_, hbl.out⟩
      have := hown.out.reads.bytes
      rw [HT.out] at this
      unfold formL
      rw [← HVN.out]
      exact this
set_option maxHeartbeats 1000000 in
theorem wr_Fixes (p k : Option Nat) (st : List (BitVec 8) × Bool) (xs : List Int) (v : Value) (w : World) (hW : WPre p k st w) (hv : Reads w v (xs.map intV)) (hl : xs.length ≤ 100000) :
    Calls Try.prog 34 #[ptrOf p, v] w (WPost p k (room st (formL eight xs)) w) := by
  have HW := Lib.hid hW
  have HE := Lib.hid (eachX 63 eight xs v w (enters_of Try.func63 (by kernel_rfl) rfl) hv hl (fun x _ => by unfold eight; rw [Pack.leB_length]; omega) (fun base v ys x w _ ho hl => eight_any base v ys x w ho (by omega)))
  obtain ⟨va, vn, vc, rfl, hvn, _, _, _⟩ := hv
  obtain ⟨q, hq⟩ : ∃ q, ptrOf p = .pointer q := ⟨_, rfl⟩
  have HQ := Lib.hid hq
  rw [hq]
  clear hW hq hl hvn
  go_enter Try.func34, Try.ntmps34
  go_wp2_with fail
  refine HE.out.mono ?_
  rintro e w1 ⟨a1, m1, c1, rfl, h1, hb1⟩
  have H1 := Lib.hid h1
  have HB1 := Lib.hid hb1
  clear h1 hb1
  go_wp2_with fail
  rw [← HQ.out]
  refine (put_w p k st _ _ w w1 HW.out HB1.out H1.out).mono ?_
  intro e w2 hp
  obtain ⟨r, rfl⟩ := hp.1
  have HP := Lib.hid hp
  clear hp
  go_wp2_with fail
  go_end0
  exact ⟨⟨_, rfl⟩, HP.out.2⟩
end Go.Proofs.Ytajnhmkkgngbhaa
