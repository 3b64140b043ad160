/- The walks of package pack, third part: Uint, Done of a writer. -/
import Derived.Test.YtajnhmkkgngbhaaPackW2
namespace Go.Proofs.Ytajnhmkkgngbhaa
open Go.RowKit
open Pack (form formTo)

theorem form_length (n : Nat) : (form n).length ≤ 10 := (Pack.formTo_length 9 n).2
theorem count_nil (x : Nat) (w : World) (hx : x < 18446744073709551616) :
    Calls Try.prog 31 #[.slice none 0 0, .int .u64 x] w fun e w' => ∃ a m c, e = .returned (.slice a m c) ∧ Hid (IsBytes w' (.slice a m c) (form x)) ∧ Hid (Below w.heap.size w w') := by
  refine (count_any w.heap.size _ [] x w (Own.nil_ (Nat.le_refl _)) (by simp) hx).mono ?_
  rintro e w' ⟨a, m, c, rfl, ho, hb⟩
  rw [List.nil_append] at ho
  exact ⟨a, m, c, rfl, ho.reads.bytes, hb⟩
theorem uint_room (P : Nat) (a : Option Addr) (n c x : Nat) (bs : List (BitVec 8)) (w : World) (hW : WriterIs w P (.slice a n c) false) (ho : Own w (P + 1) 5 (.slice a n c) (bs.map byteV)) (hn : bs.length = n) (hx : x < 18446744073709551616) (hr : n + 10 ≤ 1048576) :
    Calls Try.prog 12 #[.pointer (some ⟨P, 0, none⟩), .int .u64 x] w fun e w' => (∃ r, e = .returned r) ∧ ∃ a' n' c', WriterIs w' P (.slice a' n' c') false ∧ Own w' (P + 1) 5 (.slice a' n' c') ((bs ++ form x).map byteV) ∧ Below P w w' := by
  have HW := Lib.hid hW
  have HO := Lib.hid ho
  have HN := Lib.hid hn
  have HX := Lib.hid hx
  have HR := Lib.hid hr
  clear hW ho hn hx hr
  go_enter Try.func12, Try.ntmps12
  go_wp2_with fail
  refine (count_nil x w HX.out).mono ?_
  rintro e w1 ⟨a1, m1, c1, rfl, H1, HB1⟩
  have W1 : Hid (WriterIs w1 P (.slice a n c) false) := HW.out.keep HB1.out.size (HB1.out.block P HW.out.lt)
  have O1 := Lib.hid (HO.out.below HB1.out)
  go_wp2_with fail
  refine (put_room P a n c bs (form x) _ w1 W1.out O1.out HN.out H1.out (by have := HR.out; have := form_length x; omega)).mono ?_
  rintro e w2 ⟨⟨r, rfl⟩, a', n', c', _, hW2, hO2, hb2⟩
  have W2 := Lib.hid hW2
  have O2 := Lib.hid hO2
  have B2 : Hid (Below P w w2) := (HB1.out.mono (Nat.le_of_lt HW.out.lt)).trans hb2
  clear hW2 hO2 hb2
  go_wp2_with fail
  go_end0
  refine ⟨⟨_, rfl⟩, a', n', c', W2.out, ?_, B2.out⟩
  first | exact O2.out | (have := O2.out; simpa using this)
theorem done_nil (w : World) :
    Calls Try.prog 11 #[.pointer none] w fun e w' => e = .returned (.tuple #[.slice none 0 0, .int .i64 1]) ∧ w = w' := by
  go_enter Try.func11, Try.ntmps11
  go_wp2_with fail
  go_ret2
  exact ⟨rfl, rfl⟩
theorem done_over (P : Nat) (u : Value) (w : World) (hW : WriterIs w P u true) :
    Calls Try.prog 11 #[.pointer (some ⟨P, 0, none⟩)] w fun e w' => e = .returned (.tuple #[.slice none 0 0, .int .i64 3]) ∧ w = w' := by
  obtain ⟨hlt, c0, c1, f0, f1⟩ := hW
  go_enter Try.func11, Try.ntmps11
  go_wp2_with fail
  go_ret2
  exact ⟨rfl, rfl⟩
theorem done_room (P : Nat) (a : Option Addr) (n c : Nat) (bs : List (BitVec 8)) (w : World) (hW : WriterIs w P (.slice a n c) false) (ho : Own w (P + 1) 5 (.slice a n c) (bs.map byteV)) (hr : bs.length ≤ 1048576) :
    Calls Try.prog 11 #[.pointer (some ⟨P, 0, none⟩)] w fun e w' => ∃ a' m c', e = .returned (.tuple #[.slice a' m c', .int .i64 0]) ∧ Hid (IsBytes w' (.slice a' m c') bs) ∧ Hid (Below w.heap.size w w') := by
  obtain ⟨hlt, c0, c1, f0, f1⟩ := hW
  have HB := Lib.hid ho.reads
  have HR := Lib.hid hr
  clear ho hr
  go_enter Try.func11, Try.ntmps11
  go_wp2_with (at_builtin; refine wpl_append rfl (.tmp 12) (.tmp 16) _ rfl elemU8 rfl (Own.empty_ (base := w.heap.size) rfl (Nat.le_refl _)) rfl (HB.out.alloc _) one_byteV (by have := HR.out; rw [List.length_map, List.length_nil]; omega) (by have := HR.out; rw [List.length_map, List.length_nil]; unfold maxLen; omega) ?_; intro v' w2 hown2 hg1 hat1; rw [List.nil_append] at hown2; obtain ⟨ra, rn, rc, rfl, hrn⟩ := hown2.form_; have hb2 : Hid (Below w.heap.size w w2) := below_grown ((Below.refl _ _).alloc (Nat.le_refl _) _) (Own.empty_ (base := w.heap.size) rfl (Nat.le_refl _)) hg1 (Nat.le_refl _); have H2 := Lib.hid hown2.reads.bytes; clear hg1 hat1 hown2)
  go_ret2
  exact ⟨_, _, _, rfl, H2.out, hb2.out⟩
end Go.Proofs.Ytajnhmkkgngbhaa
