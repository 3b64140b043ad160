/- The walks of package pack, the reader: Read. -/
import Derived.Test.YtajnhmkkgngbhaaPackW3
namespace Go.Proofs.Ytajnhmkkgngbhaa
open Go.RowKit

theorem read_any (v : Value) (bs : List (BitVec 8)) (w : World) (hv : IsBytes w v bs) (hr : bs.length ≤ 1048576) :
    Calls Try.prog 17 #[v] w fun e w' => ∃ B a n c, e = .returned (.pointer (some ⟨B, 0, none⟩)) ∧ Hid (w.heap.size ≤ B ∧ B < w'.heap.size) ∧ w'.cell? ⟨B, 0, none⟩ = some (.bool true) ∧ w'.cell? ⟨B, 1, none⟩ = some (.slice a n c) ∧ w'.cell? ⟨B, 2, none⟩ = some (.int .i64 0) ∧ Hid (IsBytes w' (.slice a n c) bs) ∧ Hid (Below w.heap.size w w') := by
  have hv' := hv
  obtain ⟨va, vn, vc, rfl, _, _, _, _⟩ := hv'
  have HV := Lib.hid hv
  have HR := Lib.hid hr
  clear hv hr
  go_enter Try.func17, Try.ntmps17
  go_wp2_with (at_builtin; refine wpl_append rfl (.tmp 3) (.tmp 4) _ rfl elemU8 rfl (Own.empty_ (base := w.heap.size) rfl (Nat.le_refl _)) rfl (HV.out.reads.alloc _) one_byteV (by have := HR.out; rw [List.length_map, List.length_nil]; omega) (by have := HR.out; rw [List.length_map, List.length_nil]; unfold maxLen; omega) ?_; intro v' w2 hown2 hg1 hat1; rw [List.nil_append] at hown2; obtain ⟨ra, rn, rc, rfl, hrn⟩ := hown2.form_; have hb2 : Hid (Below w.heap.size w w2) := below_grown ((Below.refl _ _).alloc (Nat.le_refl _) _) (Own.empty_ (base := w.heap.size) rfl (Nat.le_refl _)) hg1 (Nat.le_refl _); have H2 := Lib.hid hown2.reads.bytes; clear hg1 hat1 hown2)
  go_ret
  exact ⟨_, _, _, _, rfl, ⟨hb2.out.size, by simp⟩, by simp, by simp, by simp, H2.out.alloc _, hb2.out.alloc hb2.out.size _⟩
end Go.Proofs.Ytajnhmkkgngbhaa
