/- The disk's Under, walked. -/
import Derived.Test.YtcnhjbipncledaaDk8
namespace Go.Proofs.Ytcnhjbipncledaa
open Go.RowKit

theorem elemIntD : Elem Try.prog 22 3 8 := Elem.mk_ Try.underlying22 (z := .int .i64 0) (by kernel_rfl) rfl
set_option maxRecDepth 10000 in
set_option maxHeartbeats 2000000 in
theorem under_any (w : World) (D M : Nat) (u : Value) (s : Dk) (h : DiskAt w D M u s) (hu : s.under.length ≤ 1000000) : Calls Try.prog 20 #[.pointer (some ⟨D, 0, none⟩)] w fun e w' => ∃ v, e = .returned v ∧ Own w' w.heap.size 3 v (s.under.map fun x => .int .i64 x.1) ∧ Below w.heap.size w w' := by
  have HD := Lib.hid h
  have HI := Lib.hid (is_any w D M u s h)
  obtain ⟨ua, uc, rfl, hul, hum⟩ := h.len
  have c2 := h.c2
  have HUL := Lib.hid hul
  have HUM := Lib.hid hum
  have HU := Lib.hid hu
  obtain ⟨n, hn⟩ : ∃ n, n = s.under.length := ⟨_, rfl⟩
  rw [← hn] at c2 HD
  have HN := Lib.hid hn
  clear h hul hum hn hu
  go_enter Try.func20, Try.ntmps20
  go_wp2_with (go_at_call 39; refine HI.out.mono ?_; rintro e w1 ⟨rfl, rfl⟩; clear HI)
  go_loopw [3, 5, 14] (fun v _ k wr => ∃ (j : Nat) (pa : Option Addr) (pn pc : Nat), k = .int .i64 j ∧ j ≤ n ∧ v = .slice pa pn pc ∧ Hid (Own wr w1.heap.size 3 (.slice pa pn pc) ((s.under.take j).map fun x => .int .i64 x.1)) ∧ Hid (Below w1.heap.size w1 wr)) (fun _ _ k _ => n - (intOf k).toNat)
  case atStart => exact ⟨0, none, 0, 0, rfl, Nat.zero_le _, rfl, Own.nil_ (Nat.le_refl _), Below.refl _ _⟩
  case round =>
    obtain ⟨j, pa, pn, pc, rfl, hj, rfl, how, hbl⟩ := hrel
    by_cases hlt : j < n
    · have hg : (j : Int) < (n : Int) := by omega
      obtain ⟨x, hx⟩ : ∃ x, s.under[j]? = some x := ⟨_, List.getElem?_eq_getElem (by have := HN.out; omega)⟩
      obtain ⟨g, cap, hue, _, _, hgl, hrg⟩ := (HD.out.below hbl.out).wr j x hx
      injection hue with u1 u2 u3
      subst u1
      have HRG := Lib.hid hrg
      have HXL : Hid (x.2.length = 128) := HD.out.ok.under x (List.mem_of_getElem? hx)
      have HX := Lib.hid hx
      clear u2 u3 hrg hx
      obtain ⟨wb, hwb⟩ : ∃ wb, wb = wr.alloc (.cells (wrC x).toArray 94) := ⟨_, rfl⟩
      have hk0 : wb.cell? ⟨wr.heap.size, 0, none⟩ = some (.int .i64 x.1) := by
        have := range_new wr (wrC x) 94 0 _ rfl
        rw [hwb]; exact this
      have HBB : Hid (Below w1.heap.size w1 wb) := by unfold Hid; rw [hwb]; exact hbl.out.alloc hbl.out.size _
      have HOB : Hid (Own wb w1.heap.size 3 (.slice pa pn pc) ((s.under.take j).map fun x => .int .i64 x.1)) := by unfold Hid; rw [hwb]; exact how.out.alloc _
      have HJL : Hid (((s.under.take j).map fun x => (Value.int .i64 x.1)).length ≤ 1000000) := by unfold Hid; have := HU.out; simp; omega
      have HWB := Lib.hid hwb
      have hw : wrap64 ((j : Int) + 1) = ((j + 1 : Nat) : Int) := by
        have h1 := HN.out
        have h2 := HU.out
        unfold wrap64
        omega
      have HW := Lib.hid hw
      clear hwb hw
      go_wp2_with (first
        | (have hgo := HRG.out; clear hgo; refine wpl_load_wr rfl (.tmp 16) rfl g (j * 129) rfl x HXL.out HRG.out ?_; clear HRG)
        | (have hgo := HXL.out; clear hgo; refine wpl_store_last rfl 94 129 (.tmp 5) (.tmp 17) rfl _ _ rfl rfl sizeWr size_zc (size_wr x HXL.out) (one_wr x) ?_; rw [← HWB.out]; clear HXL)
        | (at_builtin; refine wpl_append rfl (.tmp 18) (.tmp 21) 22 rfl elemIntD rfl (HOB.out.alloc _) rfl (Reads.one _ _ _) one_int (by have := HJL.out; simp only [List.length_singleton]; omega) (by have := HJL.out; simp only [List.length_singleton]; unfold maxLen; omega) ?_; intro v' w6 hown6 hg6 _; have HB6 : Hid (Below w1.heap.size w1 w6) := below_grown (HBB.out.alloc HBB.out.size _) (HOB.out.alloc _) hg6 (Nat.le_refl _); obtain ⟨pa', pn', pc', rfl, _⟩ := hown6.form_; have HO6 := Lib.hid hown6; clear hown6 hg6))
      rw [HW.out]
      refine ⟨⟨j + 1, pa', pn', pc', rfl, hlt, rfl, ?_, HB6.out⟩, by simp [intOf]; omega⟩
      unfold Hid
      rw [List.take_add_one, HX.out, show (some x).toList = [x] from rfl, List.map_append]
      exact HO6.out
    · have hg : ¬ (j : Int) < (n : Int) := by omega
      have e : s.under.take j = s.under := List.take_of_length_le (by have := HN.out; omega)
      rw [e] at how
      go_wp2
      go_ret
      exact ⟨_, rfl, how.out, hbl.out⟩
end Go.Proofs.Ytcnhjbipncledaa
