/- The walks of package pack, the reader's guard: what is thrown is caught. -/
import Derived.Test.YtajnhmkkgngbhaaPackR3
import Derived.Recover
namespace Go.Proofs.Ytajnhmkkgngbhaa
open Go.RowKit
open Pack (Got)

theorem catch_thrown (B R : Nat) (e z : Int) (w : World) (hB : w.cell? ⟨B, 0, none⟩ = some (.pointer (some ⟨R, 0, none⟩))) (h2 : w.cell? ⟨R, 2, none⟩ = some (.int .i64 z)) (f2 : w.frozen? ⟨R, 2, none⟩ = false) :
    CallsD Try.prog 79 #[.pointer (some ⟨B, 0, none⟩)] (.panicking [{ v := faultV e, recovered := false }]) w fun x u' w' =>
      x = .returned (.tuple #[]) ∧ u' = .panicking [{ v := faultV e, recovered := true }] ∧ ∃ n, w' = (w.setCell ⟨R, 2, none⟩ (.int .i64 e)).drewN n := by
  refine callsD_of_wpS Try.func79 rfl fun c₀ cs hu => ?_
  apply wpS_seq
  apply wpS_region
  simp [wpOpsS, go_sem, recoverD, hu, Try.ntmps79, Exit.thenS]
  refine wpS_of_wp ?_
  simp only [Array.replicate_succ, Array.replicate_zero, List.push_toArray, List.append_toArray, List.nil_append, List.cons_append, List.setIfInBounds_toArray, List.set_cons_succ, List.set_cons_zero]
  unfold faultV
  have hta : ∀ w, (Instr.typeAssert (.iface 97 (.agg #[.int .i64 e])) 20 97 false).run Try.prog w = .ok (.agg #[.int .i64 e]) w := fun _ => by kernel_rfl
  have hfd : ∀ w, (Instr.field 97 (.agg #[.int .i64 e]) 0).run Try.prog w = .ok (.int .i64 e) w := fun _ => by kernel_rfl
  go_wp2
  go_region
  go_wp2
  exact ⟨rfl, _, rfl, _, results_none rfl _ _ _, rfl, rfl, 1, rfl⟩
theorem catch_idle (B : Nat) (w : World) :
    CallsD Try.prog 79 #[.pointer (some ⟨B, 0, none⟩)] .returning w fun x u' w' => x = .returned (.tuple #[]) ∧ u' = .returning ∧ w = w' := by
  refine callsD_of_wpS Try.func79 rfl fun c₀ cs hu => ?_
  apply wpS_seq
  apply wpS_region
  simp [wpOpsS, go_sem, recoverD, hu, Try.ntmps79, Exit.thenS]
  refine wpS_of_wp ?_
  simp only [Array.replicate_succ, Array.replicate_zero, List.push_toArray, List.append_toArray, List.nil_append, List.cons_append, List.setIfInBounds_toArray, List.set_cons_succ, List.set_cons_zero]
  go_wp2
  refine ⟨rfl, .returning, by cases c₀; simp_all, _, results_none rfl _ _ _, rfl, rfl, rfl⟩
theorem ReaderIs.alloc {w : World} {R : Nat} {bs : List (BitVec 8)} {e : Int} (h : ReaderIs w R bs e) (o : Obj) : ReaderIs (w.alloc o) R bs e := by
  obtain ⟨hlt, c0, ⟨b, off, c, hb, hc, hcm, c1, hat⟩, c2, f1, f2⟩ := h
  have ch : Chg [] w (w.alloc o) := (Chg.refl [] w).alloc o
  refine ⟨Nat.lt_of_lt_of_le hlt ch.size, (ch.cell R 0 hlt (by simp)).trans c0, ⟨b, off, c, hb, hc, hcm, (ch.cell R 1 hlt (by simp)).trans c1, hat.chg ch (by omega) (by simp)⟩, (ch.cell R 2 hlt (by simp)).trans c2, (ch.frozen R 1 hlt (by simp)).trans f1, (ch.frozen R 2 hlt (by simp)).trans f2⟩
theorem ReaderIs.chg {S : List Nat} {w w' : World} {R : Nat} {bs : List (BitVec 8)} {e : Int} (h : ReaderIs w R bs e) (ch : Chg S w w') (hR : ∀ x ∈ S, R < x) : ReaderIs w' R bs e := by
  obtain ⟨hlt, c0, ⟨b, off, c, hb, hc, hcm, c1, hat⟩, c2, f1, f2⟩ := h
  have n1 : R ∉ S := fun h => by have := hR R h; omega
  have n2 : b ∉ S := fun h => by have := hR b h; omega
  exact ⟨Nat.lt_of_lt_of_le hlt ch.size, (ch.cell R 0 hlt n1).trans c0, ⟨b, off, c, hb, hc, hcm, (ch.cell R 1 hlt n1).trans c1, hat.chg ch (by omega) n2⟩, (ch.cell R 2 hlt n1).trans c2, (ch.frozen R 1 hlt n1).trans f1, (ch.frozen R 2 hlt n1).trans f2⟩
/-- A reader of which nothing is read any more. -/
structure ReaderEnd (w : World) (R : Nat) (e : Int) : Prop where
  lt : R < w.heap.size
  made : w.cell? ⟨R, 0, none⟩ = some (.bool true)
  err : w.cell? ⟨R, 2, none⟩ = some (.int .i64 e)
set_option maxHeartbeats 1000000 in
theorem guard_run (R K : Nat) (caps : Array Value) (bs : List (BitVec 8)) (w : World) (Q : Ending → World → Prop) (hK : ∀ args w, (callFunc K args).run Try.prog w = .ok (.enter K args) w) (hR : ReaderIs w R bs 0)
    (hf : Calls Try.prog K caps (w.alloc (.cells #[.pointer (some ⟨R, 0, none⟩)] 44)) Q)
    (hq : ∀ x w', Q x w' → ((∃ v, x = .returned v) ∨ ∃ e, x = thrown e ∧ (∃ rest, ReaderIs w' R rest 0) ∧ w'.cell? ⟨w.heap.size, 0, none⟩ = some (.pointer (some ⟨R, 0, none⟩)))) :
    Calls Try.prog 72 #[.pointer (some ⟨R, 0, none⟩), .func (.func K) #[] caps] w fun x w' => (∃ v, x = .returned v) ∧ ((∃ v, Q (.returned v) w') ∨ ∃ e w0 n, Q (thrown e) w0 ∧ w' = (w0.setCell ⟨R, 2, none⟩ (.int .i64 e)).drewN n) := by
  have hR1 := hR.alloc (.cells #[.pointer (some ⟨R, 0, none⟩)] 44)
  obtain ⟨hlt, c0, -, c2, -, -⟩ := hR1
  have HQ := Lib.hid hq
  have HF := Lib.hid hf
  clear hq hf hR
  have hmf : ∀ (fn : Fn) (first cap : Array Value) (w : World), (Instr.makeFunc fn first cap).run Try.prog w = .ok (.func fn first cap) w := fun _ _ _ _ => rfl
  go_enter_defers Try.func72, Try.ntmps72
  go_wp2_with fail
  refine HF.out.mono ?_
  intro x w1 hq
  have HQ1 := Lib.hid hq
  rcases HQ.out _ _ hq with ⟨v, rfl⟩ | ⟨e, rfl, ⟨rest, hr⟩, hb⟩
  · clear hq
    go_wp2_with fail
    refine leaves_cons (f := 79) (args := #[.pointer (some ⟨w.heap.size, 0, none⟩)]) (by simp) (by simp [go_sem]) ?_
    refine (catch_idle w.heap.size _).mono ?_
    rintro e u' w'' ⟨rfl, rfl, rfl⟩
    exact ⟨_, results_none rfl _ _ _, ⟨_, rfl⟩, .inl ⟨v, HQ1.out⟩⟩
  · clear hq
    obtain ⟨_, _, _, d2, _, f2⟩ := hr
    simp only [thrown]
    go_wp2_with fail
    refine leaves_cons (f := 79) (args := #[.pointer (some ⟨w.heap.size, 0, none⟩)]) (by simp) (by simp [go_sem]) ?_
    refine (catch_thrown w.heap.size R e 0 _ hb d2 f2).mono ?_
    rintro e1 u' w'' ⟨rfl, rfl, n, rfl⟩
    exact ⟨_, results_none rfl _ _ _, ⟨_, rfl⟩, .inr ⟨e, _, n, HQ1.out, rfl⟩⟩
end Go.Proofs.Ytajnhmkkgngbhaa
