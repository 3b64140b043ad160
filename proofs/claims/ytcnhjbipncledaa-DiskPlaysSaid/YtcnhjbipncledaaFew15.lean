/- The walk of regattalaw15.few: acts that a play goes through with. -/
import Derived.Test.YtcnhjbipncledaaOpsM
import Derived.Test.YtcnhjbipncledaaProg
namespace Go.Proofs.Ytcnhjbipncledaa
open Go.RowKit
set_option maxHeartbeats 1000000 in
theorem few15_any (v : Value) (ts : List DOp) (w : World) (hv : OpsIs w v ts) :
    Calls Try.prog 22 #[v] w fun e w' => e = .returned (.bool (fewD 80 300 100 ts)) ∧ Below w.heap.size w w' := by
  have H := Lib.hid hv
  obtain ⟨a, len, cap, rfl, hl, hc, hm, _⟩ := hv
  have HL := Lib.hid hl
  clear hl
  by_cases h40 : 80 < len
  · have hf : fewD 80 300 100 ts = false := by unfold fewD; rw [decide_eq_false (by have := HL.out; omega)]; rfl
    have HF := Lib.hid hf
    clear hf
    go_enter Try.func22, Try.ntmps22
    go_wp2
    go_ret
    exact ⟨by rw [HF.out]; rfl, Below.refl _ _⟩
  · go_enter Try.func22, Try.ntmps22
    go_wp2
    go_loopw [4, 10] (fun _ i wr => ∃ k : Nat, i = .int .i64 k ∧ k ≤ len ∧ Hid ((ts.take k).all (fewO 300 100) = true) ∧ Hid (Below w.heap.size w wr)) (fun _ i _ => len - (intOf i).toNat)
    case atStart => exact ⟨0, rfl, Nat.zero_le _, rfl, Below.refl _ _⟩
    case round =>
      obtain ⟨k, rfl, hk, hall, hb⟩ := hrel
      by_cases hlt : k < len
      · obtain ⟨b, off, t, rfl, htk, hat⟩ := H.out.at_ k hlt
        have hat' := hat.below hb.out
        obtain ⟨pb, pf, nb, cb, nf, cf, h0, h1, h2, h3, h4, h5, _⟩ := hat'
        have HLN := Lib.hid (op_lens h4 h5)
        have HTK := Lib.hid htk
        clear h4 h5 hat htk
        go_wp2
        all_goals
          have HLN := HLN.out
          first
            | (go_ret
               refine ⟨?_, hb.out.alloc hb.out.size _⟩
               rw [fewD_no HTK.out (fewO_no (by omega))]
               rfl)
            | exact ⟨⟨k + 1, by go_num, by omega, by unfold Hid; rw [op_snoc? HTK.out, List.all_append, hall.out, List.all_cons, fewO_yes (by omega)]; rfl, hb.out.alloc hb.out.size _⟩, by simp [intOf]; omega⟩
      · have hkl : k = ts.length := by have := HL.out; omega
        have hf : fewD 80 300 100 ts = true := by
          have := hall.out
          rw [hkl, List.take_length] at this
          unfold fewD
          rw [this, decide_eq_true (by omega)]; rfl
        have HF := Lib.hid hf
        clear hkl hf
        go_wp2
        go_ret
        exact ⟨by rw [HF.out]; rfl, hb.out⟩
end Go.Proofs.Ytcnhjbipncledaa
