/- The walks of package pack, the reader: its methods; Done. -/
import Derived.Test.YtajnhmkkgngbhaaPackL
namespace Go.Proofs.Ytajnhmkkgngbhaa
open Go.RowKit
open Pack (Got cnt whole fixed sizeOf_ text many ints fixes unzig signed64 le)
/-- A text, numbers that were read, as they lie in memory. -/
def isBytesV (w : World) (bs : List (BitVec 8)) (v : Value) : Prop := ∃ p n c, v = .slice p n c ∧ IsBytes w v bs
def isIntsV (w : World) (xs : List Int) (v : Value) : Prop := ∃ p n c, v = .slice p n c ∧ Reads w v (xs.map intV)
theorem Own.lower {w : World} {base base' : Nat} {e : TypeId} {v : Value} {xs : List Value} (h : Own w base e v xs) (hb : base' ≤ base) : Own w base' e v xs := by
  obtain ⟨⟨h1, h⟩, hs⟩ := h
  refine ⟨⟨h1, ?_⟩, Nat.le_trans hb hs⟩
  rcases h with h | ⟨g, cap, cur, hv, hg, r⟩
  · exact .inl h
  · exact .inr ⟨g, cap, cur, hv, Nat.le_trans hb hg, r⟩
theorem CtPost.imp {α : Type} {zero : Value} {is is' : World → α → Value → Prop} {R : Nat} {w0 w w' : World} {g : Got α} {x : Ending} (h : CtPost zero is R w g x w') (h0 : Chg [R] w0 w) (hi : ∀ w a v, is w a v → is' w a v) : CtPost zero is' R w0 g x w' := by
  cases g with
  | no e => obtain ⟨h1, h2, h3⟩ := h; exact ⟨h1, h2, h0.trans h3⟩
  | yes a r => obtain ⟨⟨v, h1, h1'⟩, h2, h3⟩ := h; exact ⟨⟨v, h1, hi _ _ _ h1'⟩, h2, h0.trans h3⟩
theorem CtPost.part {α : Type} {zero : Value} {is : World → α → Value → Prop} {R : Nat} {w w' : World} {g : Got α} {x : Ending} (h : CtPost zero is R w g x w') : ∃ v, x = .returned v ∧ CtPost zero is R w g (.returned v) w' ∧ (v = zero ∨ ∃ a, is w' a v) := by
  cases g with
  | no e => obtain ⟨h1, h2, h3⟩ := h; exact ⟨_, h1, ⟨rfl, h2, h3⟩, .inl rfl⟩
  | yes a r => obtain ⟨⟨v, h1, h1'⟩, h2, h3⟩ := h; exact ⟨v, h1, ⟨⟨v, rfl, h1'⟩, h2, h3⟩, .inr ⟨a, h1'⟩⟩

set_option maxHeartbeats 1000000 in
theorem rd_U (R : Nat) (bs : List (BitVec 8)) (w : World) (hR : ReaderIs w R bs 0) :
    Calls Try.prog 23 #[.pointer (some ⟨R, 0, none⟩)] w (CtPost (.int .u64 0) isU64 R w (cnt bs)) := by
  have H := Lib.hid (caughtU R 47 #[.pointer (some ⟨R, 0, none⟩)] #[] bs isU64 (cnt bs) w (enters_of Try.func47 (by kernel_rfl) rfl) hR (Pack.bad_cnt bs).ne (fun w1 hc _ => rcount_any R bs w1 (hR.chg hc (by simp))) (fun _ _ _ _ h => h) (fun _ _ _ h => ⟨_, h⟩))
  clear hR
  have hmf : ∀ (fn : Fn) (first cap : Array Value) (w : World), (Instr.makeFunc fn first cap).run Try.prog w = .ok (.func fn first cap) w := fun _ _ _ _ => rfl
  go_enter Try.func23, Try.ntmps23
  go_wp2_with fail
  refine H.out.mono ?_
  intro x w1 hq
  obtain ⟨v, rfl, hq, hv⟩ := hq.part
  have HQ := Lib.hid hq
  clear hq
  obtain ⟨n, rfl⟩ : ∃ n, v = .int .u64 n := by rcases hv with rfl | ⟨a, h⟩; exact ⟨_, rfl⟩; exact ⟨_, h⟩
  clear hv
  go_wp2_with fail
  go_ret
  exact HQ.out

set_option maxHeartbeats 1000000 in
theorem rd_N (R : Nat) (bs : List (BitVec 8)) (w : World) (hR : ReaderIs w R bs 0) :
    Calls Try.prog 24 #[.pointer (some ⟨R, 0, none⟩)] w (CtPost (.int .i64 0) isI64 R w (whole bs)) := by
  have H := Lib.hid (caughtN R 49 #[.pointer (some ⟨R, 0, none⟩)] #[] bs isI64 (whole bs) w (enters_of Try.func49 (by kernel_rfl) rfl) hR (Pack.bad_whole bs).ne (fun w1 hc _ => whole_any R bs w1 (hR.chg hc (by simp))) (fun _ _ _ _ h => h) (fun _ _ _ h => ⟨_, h⟩))
  clear hR
  have hmf : ∀ (fn : Fn) (first cap : Array Value) (w : World), (Instr.makeFunc fn first cap).run Try.prog w = .ok (.func fn first cap) w := fun _ _ _ _ => rfl
  go_enter Try.func24, Try.ntmps24
  go_wp2_with fail
  refine H.out.mono ?_
  intro x w1 hq
  obtain ⟨v, rfl, hq, hv⟩ := hq.part
  have HQ := Lib.hid hq
  clear hq
  obtain ⟨n, rfl⟩ : ∃ n, v = .int .i64 n := by rcases hv with rfl | ⟨a, h⟩; exact ⟨_, rfl⟩; exact ⟨_, h⟩
  clear hv
  go_wp2_with fail
  go_ret
  exact HQ.out

set_option maxHeartbeats 1000000 in
theorem rd_X (R : Nat) (bs : List (BitVec 8)) (w : World) (hR : ReaderIs w R bs 0) :
    Calls Try.prog 25 #[.pointer (some ⟨R, 0, none⟩)] w (CtPost (.int .i64 0) isI64 R w (fixed bs)) := by
  have H := Lib.hid (caughtX R 51 #[.pointer (some ⟨R, 0, none⟩)] #[] bs isI64 (fixed bs) w (enters_of Try.func51 (by kernel_rfl) rfl) hR (Pack.bad_fixed bs).ne (fun w1 hc _ => fixed_rd R bs w1 (hR.chg hc (by simp))) (fun _ _ _ _ h => h) (fun _ _ _ h => ⟨_, h⟩))
  clear hR
  have hmf : ∀ (fn : Fn) (first cap : Array Value) (w : World), (Instr.makeFunc fn first cap).run Try.prog w = .ok (.func fn first cap) w := fun _ _ _ _ => rfl
  go_enter Try.func25, Try.ntmps25
  go_wp2_with fail
  refine H.out.mono ?_
  intro x w1 hq
  obtain ⟨v, rfl, hq, hv⟩ := hq.part
  have HQ := Lib.hid hq
  clear hq
  obtain ⟨n, rfl⟩ : ∃ n, v = .int .i64 n := by rcases hv with rfl | ⟨a, h⟩; exact ⟨_, rfl⟩; exact ⟨_, h⟩
  clear hv
  go_wp2_with fail
  go_ret
  exact HQ.out

theorem rd_U_shut (p : Option Addr) (e : Int) (w : World) (h : Shut w p e) :
    Calls Try.prog 23 #[.pointer p] w fun x w' => x = .returned (.int .u64 0) ∧ Below w.heap.size w w' := by
  have HS := Lib.hid h
  clear h
  have hmf : ∀ (fn : Fn) (first cap : Array Value) (w : World), (Instr.makeFunc fn first cap).run Try.prog w = .ok (.func fn first cap) w := fun _ _ _ _ => rfl
  go_enter Try.func23, Try.ntmps23
  go_wp2_with fail
  refine (caughtU_shut p e _ _ _ _ HS.out).mono ?_
  rintro x w1 ⟨rfl, hb⟩
  have HB : Hid (Below w.heap.size w w1) := hb
  clear hb
  go_wp2_with fail
  go_ret
  exact ⟨rfl, HB.out⟩

theorem rd_N_shut (p : Option Addr) (e : Int) (w : World) (h : Shut w p e) :
    Calls Try.prog 24 #[.pointer p] w fun x w' => x = .returned (.int .i64 0) ∧ Below w.heap.size w w' := by
  have HS := Lib.hid h
  clear h
  have hmf : ∀ (fn : Fn) (first cap : Array Value) (w : World), (Instr.makeFunc fn first cap).run Try.prog w = .ok (.func fn first cap) w := fun _ _ _ _ => rfl
  go_enter Try.func24, Try.ntmps24
  go_wp2_with fail
  refine (caughtN_shut p e _ _ _ _ HS.out).mono ?_
  rintro x w1 ⟨rfl, hb⟩
  have HB : Hid (Below w.heap.size w w1) := hb
  clear hb
  go_wp2_with fail
  go_ret
  exact ⟨rfl, HB.out⟩

theorem rd_X_shut (p : Option Addr) (e : Int) (w : World) (h : Shut w p e) :
    Calls Try.prog 25 #[.pointer p] w fun x w' => x = .returned (.int .i64 0) ∧ Below w.heap.size w w' := by
  have HS := Lib.hid h
  clear h
  have hmf : ∀ (fn : Fn) (first cap : Array Value) (w : World), (Instr.makeFunc fn first cap).run Try.prog w = .ok (.func fn first cap) w := fun _ _ _ _ => rfl
  go_enter Try.func25, Try.ntmps25
  go_wp2_with fail
  refine (caughtX_shut p e _ _ _ _ HS.out).mono ?_
  rintro x w1 ⟨rfl, hb⟩
  have HB : Hid (Below w.heap.size w w1) := hb
  clear hb
  go_wp2_with fail
  go_ret
  exact ⟨rfl, HB.out⟩

theorem Ints1_any (R B : Nat) (bs : List (BitVec 8)) (w : World) (hR : ReaderIs w R bs 0) (hB : w.cell? ⟨B, 0, none⟩ = some (.pointer (some ⟨R, 0, none⟩))) (_ : B ≠ R) (hl : bs.length ≤ 2000000) :
    Calls Try.prog 57 #[.pointer (some ⟨B, 0, none⟩)] w (RdPost (isInts 3 w.heap.size) R w (ints bs)) := by
  have H := Lib.hid (listN R 1 49 whole bs w (enters_of Try.func49 (by kernel_rfl) rfl) hR (.inl rfl) hl (fun b x h => whole_any R b x h))
  clear hR hl
  have hmf : ∀ (fn : Fn) (first cap : Array Value) (w : World), (Instr.makeFunc fn first cap).run Try.prog w = .ok (.func fn first cap) w := fun _ _ _ _ => rfl
  go_enter Try.func57, Try.ntmps57
  go_wp2_with fail
  refine H.out.mono ?_
  intro x w1 hq
  rcases hq.part with ⟨e, rest, hg, rfl, hr, hc⟩ | ⟨n, v, rest, hg, rfl, hi, hr, hc⟩
  · have HR := Lib.hid hr
    have HC := Lib.hid hc
    have HG : Hid (ints bs = .no e) := hg
    clear hq hr hc hg H
    simp only [thrown]
    go_wp2_with fail
    exact ⟨rfl, RdPost.no HG.out HR.out HC.out⟩
  · have HR := Lib.hid hr
    have HC := Lib.hid hc
    have HG : Hid (ints bs = .yes n rest) := hg
    have HI := Lib.hid hi
    obtain ⟨p, m, c, rfl, _⟩ := hi
    clear hq hr hc hg H
    go_wp2_with fail
    go_ret
    exact RdPost.yes HG.out HI.out HR.out HC.out

theorem Fixes1_any (R B : Nat) (bs : List (BitVec 8)) (w : World) (hR : ReaderIs w R bs 0) (hB : w.cell? ⟨B, 0, none⟩ = some (.pointer (some ⟨R, 0, none⟩))) (_ : B ≠ R) (hl : bs.length ≤ 2000000) :
    Calls Try.prog 60 #[.pointer (some ⟨B, 0, none⟩)] w (RdPost (isInts 36 w.heap.size) R w (fixes bs)) := by
  have H := Lib.hid (listX R 8 51 fixed bs w (enters_of Try.func51 (by kernel_rfl) rfl) hR (.inr rfl) hl (fun b x h => fixed_rd R b x h))
  clear hR hl
  have hmf : ∀ (fn : Fn) (first cap : Array Value) (w : World), (Instr.makeFunc fn first cap).run Try.prog w = .ok (.func fn first cap) w := fun _ _ _ _ => rfl
  go_enter Try.func60, Try.ntmps60
  go_wp2_with fail
  refine H.out.mono ?_
  intro x w1 hq
  rcases hq.part with ⟨e, rest, hg, rfl, hr, hc⟩ | ⟨n, v, rest, hg, rfl, hi, hr, hc⟩
  · have HR := Lib.hid hr
    have HC := Lib.hid hc
    have HG : Hid (fixes bs = .no e) := hg
    clear hq hr hc hg H
    simp only [thrown]
    go_wp2_with fail
    exact ⟨rfl, RdPost.no HG.out HR.out HC.out⟩
  · have HR := Lib.hid hr
    have HC := Lib.hid hc
    have HG : Hid (fixes bs = .yes n rest) := hg
    have HI := Lib.hid hi
    obtain ⟨p, m, c, rfl, _⟩ := hi
    clear hq hr hc hg H
    go_wp2_with fail
    go_ret
    exact RdPost.yes HG.out HI.out HR.out HC.out

theorem bytes1_any (R B : Nat) (bs : List (BitVec 8)) (w : World) (hR : ReaderIs w R bs 0) (hB : w.cell? ⟨B, 0, none⟩ = some (.pointer (some ⟨R, 0, none⟩))) (hBR : B ≠ R) (hl : bs.length ≤ 2000000) :
    Calls Try.prog 53 #[.pointer (some ⟨B, 0, none⟩)] w (RdPost (isText w.heap.size) R w (text bs)) := by
  cases hg : sizeOf_ 1 bs with
  | no e => exact bytes1_no R B e bs w hR hB hg
  | yes n rest => exact bytes1_yes R B n bs rest w hR hB hBR hg hl

set_option maxHeartbeats 1000000 in
theorem rd_B (R : Nat) (bs : List (BitVec 8)) (w : World) (hR : ReaderIs w R bs 0) (hl : bs.length ≤ 2000000) :
    Calls Try.prog 26 #[.pointer (some ⟨R, 0, none⟩)] w (CtPost (.slice none 0 0) (isText w.heap.size) R w (text bs)) := by
  have hRl := hR.lt
  obtain ⟨w0, hw0⟩ : ∃ w0, w0 = w.alloc (.cells #[.pointer (some ⟨R, 0, none⟩)] 44) := ⟨_, rfl⟩
  have hb : w0.cell? ⟨w.heap.size, 0, none⟩ = some (.pointer (some ⟨R, 0, none⟩)) := by rw [hw0]; simp
  have h0 : Chg [R] w w0 := by rw [hw0]; exact (Chg.refl _ _).alloc _
  have hs0 : w0.heap.size = w.heap.size + 1 := by rw [hw0]; simp
  have hR0 : ReaderIs w0 R bs 0 := by rw [hw0]; exact hR.alloc _
  have H := Lib.hid ((caughtB R 53 #[] #[.pointer (some ⟨w.heap.size, 0, none⟩)] bs (isText (w0.heap.size + 3)) (text bs) w0 (enters_of Try.func53 (by kernel_rfl) rfl) hR0 (Pack.bad_text bs).ne
    (fun w1 hc hs => by rw [← hs]; exact bytes1_any R w.heap.size bs w1 (hR0.chg hc (by simp)) ((hc.cell _ _ (by omega) (by simp)).trans hb) (by omega) hl)
    (fun w1 a v u h => by obtain ⟨p, n, c, rfl, ho⟩ := h; exact ⟨p, n, c, rfl, ho.chg (S := [w0.heap.size + 1]) ((Chg.refl _ _).setCell _ _ (by simp)) (by simp)⟩)
    (fun _ _ _ h => by obtain ⟨p, n, c, rfl, _⟩ := h; exact ⟨p, n, c, rfl⟩)).mono fun x w' h => h.imp (is' := (isText w.heap.size)) h0 (fun w a v h => by obtain ⟨p, n, c, rfl, ho⟩ := h; exact ⟨p, n, c, rfl, ho.lower (by omega)⟩))
  clear hR hR0 hl hb h0 hs0
  have hmf : ∀ (fn : Fn) (first cap : Array Value) (w : World), (Instr.makeFunc fn first cap).run Try.prog w = .ok (.func fn first cap) w := fun _ _ _ _ => rfl
  go_enter Try.func26, Try.ntmps26
  go_wp2_with fail
  rw [← hw0]
  refine H.out.mono ?_
  intro x w1 hq
  obtain ⟨v, rfl, hq, hv⟩ := hq.part
  have HQ := Lib.hid hq
  clear hq hw0 H
  obtain ⟨p, n, c, rfl⟩ : ∃ p n c, v = .slice p n c := by rcases hv with rfl | ⟨a, p, n, c, rfl, _⟩; exact ⟨_, _, _, rfl⟩; exact ⟨_, _, _, rfl⟩
  clear hv
  go_wp2_with fail
  go_ret
  exact HQ.out

set_option maxHeartbeats 1000000 in
theorem rd_L (R : Nat) (bs : List (BitVec 8)) (w : World) (hR : ReaderIs w R bs 0) (hl : bs.length ≤ 2000000) :
    Calls Try.prog 27 #[.pointer (some ⟨R, 0, none⟩)] w (CtPost (.slice none 0 0) (isInts 3 w.heap.size) R w (ints bs)) := by
  have hRl := hR.lt
  obtain ⟨w0, hw0⟩ : ∃ w0, w0 = w.alloc (.cells #[.pointer (some ⟨R, 0, none⟩)] 44) := ⟨_, rfl⟩
  have hb : w0.cell? ⟨w.heap.size, 0, none⟩ = some (.pointer (some ⟨R, 0, none⟩)) := by rw [hw0]; simp
  have h0 : Chg [R] w w0 := by rw [hw0]; exact (Chg.refl _ _).alloc _
  have hs0 : w0.heap.size = w.heap.size + 1 := by rw [hw0]; simp
  have hR0 : ReaderIs w0 R bs 0 := by rw [hw0]; exact hR.alloc _
  have H := Lib.hid ((caughtL R 57 #[] #[.pointer (some ⟨w.heap.size, 0, none⟩)] bs (isInts 3 (w0.heap.size + 3)) (ints bs) w0 (enters_of Try.func57 (by kernel_rfl) rfl) hR0 (Pack.bad_ints bs).ne
    (fun w1 hc hs => by rw [← hs]; exact Ints1_any R w.heap.size bs w1 (hR0.chg hc (by simp)) ((hc.cell _ _ (by omega) (by simp)).trans hb) (by omega) hl)
    (fun w1 a v u h => by obtain ⟨p, n, c, rfl, ho⟩ := h; exact ⟨p, n, c, rfl, ho.chg (S := [w0.heap.size + 1]) ((Chg.refl _ _).setCell _ _ (by simp)) (by simp)⟩)
    (fun _ _ _ h => by obtain ⟨p, n, c, rfl, _⟩ := h; exact ⟨p, n, c, rfl⟩)).mono fun x w' h => h.imp (is' := (isInts 3 w.heap.size)) h0 (fun w a v h => by obtain ⟨p, n, c, rfl, ho⟩ := h; exact ⟨p, n, c, rfl, ho.lower (by omega)⟩))
  clear hR hR0 hl hb h0 hs0
  have hmf : ∀ (fn : Fn) (first cap : Array Value) (w : World), (Instr.makeFunc fn first cap).run Try.prog w = .ok (.func fn first cap) w := fun _ _ _ _ => rfl
  go_enter Try.func27, Try.ntmps27
  go_wp2_with fail
  rw [← hw0]
  refine H.out.mono ?_
  intro x w1 hq
  obtain ⟨v, rfl, hq, hv⟩ := hq.part
  have HQ := Lib.hid hq
  clear hq hw0 H
  obtain ⟨p, n, c, rfl⟩ : ∃ p n c, v = .slice p n c := by rcases hv with rfl | ⟨a, p, n, c, rfl, _⟩; exact ⟨_, _, _, rfl⟩; exact ⟨_, _, _, rfl⟩
  clear hv
  go_wp2_with fail
  go_ret
  exact HQ.out

set_option maxHeartbeats 1000000 in
theorem rd_F (R : Nat) (bs : List (BitVec 8)) (w : World) (hR : ReaderIs w R bs 0) (hl : bs.length ≤ 2000000) :
    Calls Try.prog 28 #[.pointer (some ⟨R, 0, none⟩)] w (CtPost (.slice none 0 0) (isInts 36 w.heap.size) R w (fixes bs)) := by
  have hRl := hR.lt
  obtain ⟨w0, hw0⟩ : ∃ w0, w0 = w.alloc (.cells #[.pointer (some ⟨R, 0, none⟩)] 44) := ⟨_, rfl⟩
  have hb : w0.cell? ⟨w.heap.size, 0, none⟩ = some (.pointer (some ⟨R, 0, none⟩)) := by rw [hw0]; simp
  have h0 : Chg [R] w w0 := by rw [hw0]; exact (Chg.refl _ _).alloc _
  have hs0 : w0.heap.size = w.heap.size + 1 := by rw [hw0]; simp
  have hR0 : ReaderIs w0 R bs 0 := by rw [hw0]; exact hR.alloc _
  have H := Lib.hid ((caughtF R 60 #[] #[.pointer (some ⟨w.heap.size, 0, none⟩)] bs (isInts 36 (w0.heap.size + 3)) (fixes bs) w0 (enters_of Try.func60 (by kernel_rfl) rfl) hR0 (Pack.bad_fixes bs).ne
    (fun w1 hc hs => by rw [← hs]; exact Fixes1_any R w.heap.size bs w1 (hR0.chg hc (by simp)) ((hc.cell _ _ (by omega) (by simp)).trans hb) (by omega) hl)
    (fun w1 a v u h => by obtain ⟨p, n, c, rfl, ho⟩ := h; exact ⟨p, n, c, rfl, ho.chg (S := [w0.heap.size + 1]) ((Chg.refl _ _).setCell _ _ (by simp)) (by simp)⟩)
    (fun _ _ _ h => by obtain ⟨p, n, c, rfl, _⟩ := h; exact ⟨p, n, c, rfl⟩)).mono fun x w' h => h.imp (is' := (isInts 36 w.heap.size)) h0 (fun w a v h => by obtain ⟨p, n, c, rfl, ho⟩ := h; exact ⟨p, n, c, rfl, ho.lower (by omega)⟩))
  clear hR hR0 hl hb h0 hs0
  have hmf : ∀ (fn : Fn) (first cap : Array Value) (w : World), (Instr.makeFunc fn first cap).run Try.prog w = .ok (.func fn first cap) w := fun _ _ _ _ => rfl
  go_enter Try.func28, Try.ntmps28
  go_wp2_with fail
  rw [← hw0]
  refine H.out.mono ?_
  intro x w1 hq
  obtain ⟨v, rfl, hq, hv⟩ := hq.part
  have HQ := Lib.hid hq
  clear hq hw0 H
  obtain ⟨p, n, c, rfl⟩ : ∃ p n c, v = .slice p n c := by rcases hv with rfl | ⟨a, p, n, c, rfl, _⟩; exact ⟨_, _, _, rfl⟩; exact ⟨_, _, _, rfl⟩
  clear hv
  go_wp2_with fail
  go_ret
  exact HQ.out

theorem rd_B_shut (p : Option Addr) (e : Int) (w : World) (h : Shut w p e) :
    Calls Try.prog 26 #[.pointer p] w fun x w' => x = .returned (.slice none 0 0) ∧ Below w.heap.size w w' := by
  have HS := Lib.hid h
  clear h
  have hmf : ∀ (fn : Fn) (first cap : Array Value) (w : World), (Instr.makeFunc fn first cap).run Try.prog w = .ok (.func fn first cap) w := fun _ _ _ _ => rfl
  go_enter Try.func26, Try.ntmps26
  go_wp2_with fail
  have hb0 : Below w.heap.size w (w.alloc (.cells #[.pointer p] 44)) := (Below.refl _ w).alloc (Nat.le_refl _) _
  refine (caughtB_shut p e _ _ _ _ (HS.out.chg hb0)).mono ?_
  rintro x w1 ⟨rfl, hb⟩
  have HB : Hid (Below w.heap.size w w1) := hb0.trans (hb.mono hb0.size)
  clear hb
  go_wp2_with fail
  go_ret
  exact ⟨rfl, HB.out⟩

theorem rd_L_shut (p : Option Addr) (e : Int) (w : World) (h : Shut w p e) :
    Calls Try.prog 27 #[.pointer p] w fun x w' => x = .returned (.slice none 0 0) ∧ Below w.heap.size w w' := by
  have HS := Lib.hid h
  clear h
  have hmf : ∀ (fn : Fn) (first cap : Array Value) (w : World), (Instr.makeFunc fn first cap).run Try.prog w = .ok (.func fn first cap) w := fun _ _ _ _ => rfl
  go_enter Try.func27, Try.ntmps27
  go_wp2_with fail
  have hb0 : Below w.heap.size w (w.alloc (.cells #[.pointer p] 44)) := (Below.refl _ w).alloc (Nat.le_refl _) _
  refine (caughtL_shut p e _ _ _ _ (HS.out.chg hb0)).mono ?_
  rintro x w1 ⟨rfl, hb⟩
  have HB : Hid (Below w.heap.size w w1) := hb0.trans (hb.mono hb0.size)
  clear hb
  go_wp2_with fail
  go_ret
  exact ⟨rfl, HB.out⟩

theorem rd_F_shut (p : Option Addr) (e : Int) (w : World) (h : Shut w p e) :
    Calls Try.prog 28 #[.pointer p] w fun x w' => x = .returned (.slice none 0 0) ∧ Below w.heap.size w w' := by
  have HS := Lib.hid h
  clear h
  have hmf : ∀ (fn : Fn) (first cap : Array Value) (w : World), (Instr.makeFunc fn first cap).run Try.prog w = .ok (.func fn first cap) w := fun _ _ _ _ => rfl
  go_enter Try.func28, Try.ntmps28
  go_wp2_with fail
  have hb0 : Below w.heap.size w (w.alloc (.cells #[.pointer p] 44)) := (Below.refl _ w).alloc (Nat.le_refl _) _
  refine (caughtF_shut p e _ _ _ _ (HS.out.chg hb0)).mono ?_
  rintro x w1 ⟨rfl, hb⟩
  have HB : Hid (Below w.heap.size w w1) := hb0.trans (hb.mono hb0.size)
  clear hb
  go_wp2_with fail
  go_ret
  exact ⟨rfl, HB.out⟩

theorem rdone_is (R : Nat) (bs : List (BitVec 8)) (w : World) (hR : ReaderIs w R bs 0) :
    Calls Try.prog 20 #[.pointer (some ⟨R, 0, none⟩)] w fun x w' => x = .returned (.int .i64 (if bs.length = 0 then 0 else 122)) ∧ w = w' := by
  have H := Lib.hid (error_is R 0 w ⟨hR.lt, hR.made, hR.err⟩)
  obtain ⟨_, _, ⟨b, off, c, hb, hlc, hcm, c1, _⟩, _, _, _⟩ := hR
  by_cases h : bs.length = 0
  · rw [if_pos h]
    rw [h] at c1
    clear h hlc
    go_enter Try.func20, Try.ntmps20
    go_wp2_with fail
    refine H.out.mono ?_
    rintro x w1 ⟨rfl, rfl⟩
    go_wp2_with fail
    go_ret
    exact ⟨rfl, rfl⟩
  · rw [if_neg h]
    have h0 : (0 : Int) < (bs.length : Int) := by omega
    clear h
    go_enter Try.func20, Try.ntmps20
    go_wp2_with fail
    refine H.out.mono ?_
    rintro x w1 ⟨rfl, rfl⟩
    go_wp2_with fail
    go_ret
    exact ⟨rfl, rfl⟩
theorem rdone_shut (p : Option Addr) (e : Int) (w : World) (h : Shut w p e) :
    Calls Try.prog 20 #[.pointer p] w fun x w' => x = .returned (.int .i64 e) ∧ w = w' := by
  have H := Lib.hid (error_shut p e w h)
  have he : (e == 0) = false := by rw [beq_eq_false_iff_ne]; exact h.ne
  clear h
  go_enter Try.func20, Try.ntmps20
  go_wp2_with fail
  refine H.out.mono ?_
  rintro x w1 ⟨rfl, rfl⟩
  go_wp2_with fail
  go_ret
  exact ⟨rfl, rfl⟩
end Go.Proofs.Ytajnhmkkgngbhaa
