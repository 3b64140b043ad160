/- The walk of regattalaw15.fates: the program's fates as the document's. -/
import Derived.Test.YtcnhjbipncledaaDk8
import Derived.Test.YtcnhjbipncledaaProg
namespace Go.Proofs.Ytcnhjbipncledaa
open Go.RowKit

theorem infoFt : (Try.prog.info? 116).map (fun i => (i.zero, i.size, i.bytes)) = some (some (.agg #[.int .i64 0, .int .i64 0]), 2, 16) := by kernel_rfl
def prV (fs : List (Int × Int)) : List Value := fs.flatMap fun p => [.int .i64 p.1, .int .i64 p.2]
theorem prV_len : ∀ fs : List (Int × Int), (prV fs).length = fs.length * 2
  | [] => rfl
  | p :: fs => by
    have := prV_len fs
    show ([Value.int .i64 p.1, .int .i64 p.2] ++ prV fs).length = _
    rw [List.length_append, this]; simp; omega
theorem prV_at : ∀ (fs : List (Int × Int)) (i : Nat) (k n : Int), fs[i]? = some (k, n) → (prV fs)[i * 2]? = some (.int .i64 k) ∧ (prV fs)[i * 2 + 1]? = some (.int .i64 n)
  | [], i, k, n, h => by simp at h
  | p :: fs, 0, k, n, h => by
    simp at h
    subst h
    exact ⟨rfl, rfl⟩
  | p :: fs, i + 1, k, n, h => by
    have := prV_at fs i k n (by simpa using h)
    have e : prV (p :: fs) = [Value.int .i64 p.1, .int .i64 p.2] ++ prV fs := rfl
    rw [e, show (i + 1) * 2 = 2 + i * 2 by omega, List.getElem?_append_right (by simp), List.getElem?_append_right (by simp; omega)]
    simp only [List.length_cons, List.length_nil]
    rw [show 2 + i * 2 - (0 + 1 + 1) = i * 2 by omega, show 2 + i * 2 + 1 - (0 + 1 + 1) = i * 2 + 1 by omega]
    exact this
/-- A row of pairs of numbers of one's own. -/
def Prs (w : World) (base : Nat) (v : Value) (fs : List (Int × Int)) : Prop := base ≤ w.heap.size ∧ w.ownsRow base 116 2 v fs.length (prV fs)
theorem Prs.form_ {w : World} {base : Nat} {v : Value} {fs : List (Int × Int)} (h : Prs w base v fs) : ∃ a c, v = .slice a fs.length c := by
  obtain ⟨_, _, h⟩ := h
  rcases h with ⟨rfl, h0⟩ | ⟨g, cap, cur, rfl, _⟩
  · exact ⟨none, 0, by rw [h0]⟩
  · exact ⟨_, _, rfl⟩
theorem Prs.fates {w : World} {base : Nat} {v : Value} {fs : List (Int × Int)} (h : Prs w base v fs) : IsFates w v fs ∧ ∀ b n c, v = .slice (some b) n c → base ≤ b.block ∧ b.block < w.heap.size := by
  obtain ⟨hb, hx, h⟩ := h
  rcases h with ⟨rfl, h0⟩ | ⟨g, cap, cur, rfl, hg, hh, hn, hm, hs, ht⟩
  · exact ⟨⟨none, 0, by rw [h0], by omega, Nat.zero_le _, .inl (List.eq_nil_of_length_eq_zero h0)⟩, fun b n c e => by cases e⟩
  · have hlt : g < w.heap.size := (Array.getElem?_eq_some_iff.1 hh).1
    refine ⟨⟨_, _, rfl, hn, hm, .inr ⟨g, 0, rfl, hlt, fun i k n hi => ?_⟩⟩, fun b n c e => ?_⟩
    · obtain ⟨h1, h2⟩ := prV_at fs i k n hi
      have hil := (List.getElem?_eq_some_iff.1 hi).1
      constructor
      · rw [Nat.zero_add, cell_of_row w g _ cur _ (0, 0) hh, ← h1, ← ht, List.getElem?_take, if_pos (by omega)]
        simp
      · rw [Nat.zero_add, cell_of_row w g _ cur _ (0, 0) hh, ← h2, ← ht, List.getElem?_take, if_pos (by omega)]
        simp
    · injection e with e; injection e with e; subst e; exact ⟨hg, hlt⟩
/-- One pair more, behind the box that holds it. -/
theorem wpl_pair {ops : Array Oper} {rest : List Oper} {o : Oper} {a : Act} {wr wq w : World} {q : Nat} {Q : Exit → Act → World → Prop} (hgd : o.guard = none) (s x : Operand) (ho : o.op = .call { callee := .builtin .append, args := #[s, x], argTypes := #[102, 102] }) {v : Value} {fs : List (Int × Int)} (hs : a.eval s = v) (hown : Prs wr w.heap.size v fs) (hbl : Below w.heap.size w wr) (k n : Int)
    (hx : a.eval x = .slice (some ⟨q, 0, none⟩) 1 1) (hq : wq.heap.size = q) (hbq : Below wr.heap.size wr wq) {i : TypeInfo} (hi : Try.prog.info? 116 = some i) (hz : i.zero = some (.agg #[.int .i64 0, .int .i64 0])) (hsz : i.size = 2) (hby : i.bytes = 16) (hl : fs.length ≤ 1000000)
    (h : ∀ v' w', Prs w' w.heap.size v' (fs ++ [(k, n)]) → Below w.heap.size w w' → wpList Try.prog ops Q rest (a.put o.dst v') w') : wpList Try.prog ops Q (o :: rest) a (wq.alloc (.cells #[.int .i64 k, .int .i64 n] 116)) := by
  obtain ⟨hb, hr⟩ := hown
  obtain ⟨W, hW⟩ : ∃ W, W = wq.alloc (.cells #[.int .i64 k, .int .i64 n] 116) := ⟨_, rfl⟩
  have hbW : Below wr.heap.size wr W := by rw [hW]; exact hbq.alloc hbq.size _
  subst hq
  have hlt : ∀ j, v.ownBlock = some j → w.heap.size ≤ j ∧ j < wr.heap.size := fun j hj => by
    obtain ⟨_, hr⟩ := hr
    rcases hr with ⟨rfl, _⟩ | ⟨g, cap, cur, rfl, hg, hh, _⟩
    · cases hj
    · injection hj with hj; subst hj; exact ⟨hg, (Array.getElem?_eq_some_iff.1 hh).1⟩
  have hrW : W.ownsRow w.heap.size 116 2 v fs.length (prV fs) := by
    obtain ⟨h1, hr'⟩ := hr
    refine ⟨h1, ?_⟩
    rcases hr' with h | ⟨g, cap, cur, rfl, hg, hh, r⟩
    · exact .inl h
    · exact .inr ⟨g, cap, cur, rfl, hg, (hbW.block g (Array.getElem?_eq_some_iff.1 hh).1).trans hh, r⟩
  have hh := heap_alloc_new wq (.cells #[.int .i64 k, .int .i64 n] 116)
  rw [← hW] at hh
  have e0 : W.cell? ⟨wq.heap.size, 0, none⟩ = some (.int .i64 k) := (cell_of_row _ _ 0 _ _ _ hh).trans rfl
  have e1 : W.cell? ⟨wq.heap.size, 1, none⟩ = some (.int .i64 n) := (cell_of_row _ _ 1 _ _ _ hh).trans rfl
  have hcells : ∀ j u, [Value.int .i64 k, .int .i64 n][j]? = some u → W.cell? ((⟨wq.heap.size, 0, none⟩ : Addr).add j) = some u := by
    intro j u hu
    match j, hu with
    | 0, hu => simp at hu; subst hu; exact e0
    | 1, hu => simp at hu; subst hu; exact e1
    | m + 2, hu => simp at hu
  rw [← hW]
  refine wpList_plain hgd fun K hK => ?_
  obtain ⟨v', w', hrun, h2, h3, _, h5⟩ := run_append_own_at (P := Try.prog) W w.heap.size 102 o.type 116 i _ 2 16 Try.underlying102 hi hz hsz hby rfl (by omega) v fs.length (prV fs) hrW _ 1 1 [.int .i64 k, .int .i64 n] rfl hcells (by intro u hu; simp at hu; rcases hu with rfl | rfl <;> rfl) (by unfold maxLen; omega) (by omega) (Nat.le_trans hb hbW.size)
  unfold Oper.wp execOp
  simp only [ho, resolve, invoke, builtin, Sem.run_bind, Sem.run_pure, Result.andThen_ok, List.map_toArray, List.map_cons, List.map_nil, hs, hx, hrun]
  refine hK _ _ (h v' w' ⟨Nat.le_trans hb (Nat.le_trans hbW.size h3.size), ?_⟩ ?_)
  · have e : prV (fs ++ [(k, n)]) = prV fs ++ [.int .i64 k, .int .i64 n] := by simp [prV]
    rw [e, List.length_append]
    exact h2
  · exact (hbl.trans (hbW.mono hb)).grown h3 (Nat.le_trans hb hbW.size) (fun j hj => (hlt j hj).1)
set_option maxHeartbeats 2000000 in
theorem fates15_any (v : Value) (fs : List (Int × Int)) (w : World) (hf : IsFates w v fs) (hl : fs.length ≤ 1000000) :
    Calls Try.prog 49 #[v] w fun e w' => ∃ v', e = .returned v' ∧ Prs w' w.heap.size v' fs ∧ Below w.heap.size w w' := by
  obtain ⟨fa, fn, fc, rfl, hfn⟩ : ∃ a n c, v = .slice a n c ∧ n = fs.length := by obtain ⟨a, c, h, _⟩ := hf; exact ⟨a, _, c, h, rfl⟩
  have HF := Lib.hid hf
  have HFN := Lib.hid hfn
  have fb : (fn : Int) ≤ 1000000 := by omega
  have FB := Lib.hid fb
  obtain ⟨ri, rhi, rhz, rhs, rhb⟩ := info_parts infoFt
  have RI := Lib.hid (And.intro rhi (And.intro rhz (And.intro rhs rhb)))
  clear hf hfn hl fb rhi rhz rhs rhb
  go_enter Try.func49, Try.ntmps49
  go_wp2
  go_loopw [3, 5, 8] (fun v' _ i wr => ∃ (k : Nat) (a : Option Addr) (n c : Nat), i = .int .i64 k ∧ k ≤ fn ∧ v' = .slice a n c ∧ Hid (Prs wr w.heap.size (.slice a n c) (fs.take k)) ∧ Hid (Below w.heap.size w wr)) (fun _ _ i _ => fn - (intOf i).toNat)
  case atStart => exact ⟨0, none, 0, 0, rfl, Nat.zero_le _, rfl, ⟨Nat.le_refl _, rfl, .inl ⟨rfl, rfl⟩⟩, Below.refl _ _⟩
  case round =>
    obtain ⟨k, a, n, c, rfl, hk, rfl, how, hbl⟩ := hrel
    by_cases hlt : k < fn
    · obtain ⟨⟨x, y⟩, hxy⟩ : ∃ p, fs[k]? = some p := ⟨_, List.getElem?_eq_getElem (by have := HFN.out; omega)⟩
      obtain ⟨fa', fc', hfe, _, _, hfx⟩ := HF.out
      injection hfe with u1 u2 u3
      subst u1 u3
      rcases hfx with h0 | ⟨b, off, rfl, hbl', hcell⟩
      · subst h0; simp at hxy
      obtain ⟨k0, k1⟩ := hcell k x y hxy
      have z0 : wr.cell? ⟨b, off + k * 2, none⟩ = some (.int .i64 x) := (hbl.out.cell (p := ⟨b, off + k * 2, none⟩) hbl').trans k0
      have z1 : wr.cell? ⟨b, off + k * 2 + 1, none⟩ = some (.int .i64 y) := (hbl.out.cell (p := ⟨b, off + k * 2 + 1, none⟩) hbl').trans k1
      have kb : (k : Int) ≤ 1000000 := by have := FB.out; omega
      have HXY := Lib.hid hxy
      have HTL : Hid ((fs.take k).length ≤ 1000000) := by unfold Hid; rw [List.length_take]; omega
      clear u2 k0 k1 hcell hbl' hxy
      go_wp2_with (at_builtin; refine wpl_pair rfl (.tmp 12) (.tmp 18) rfl rfl how.out hbl.out x y rfl (by simp) ((Below.refl _ _).alloc (Nat.le_refl _) _) RI.out.1 RI.out.2.1 RI.out.2.2.1 RI.out.2.2.2 HTL.out ?_; intro v' w6 hown6 hb6; have HB6 := Lib.hid hb6; obtain ⟨za, zn, zc, rfl⟩ : ∃ a n c, v' = .slice a n c := (by obtain ⟨a, c, h⟩ := hown6.form_; exact ⟨a, _, c, h⟩); have HO6 := Lib.hid hown6; clear hown6 hb6)
      refine ⟨⟨k + 1, za, zn, zc, by go_num, hlt, rfl, ?_, HB6.out⟩, by simp [intOf]; omega⟩
      have h := HO6.out
      unfold Hid
      have e : fs.take (k + 1) = fs.take k ++ [(x, y)] := by rw [List.take_add_one, HXY.out]; rfl
      rw [e]
      exact h
    · have e : fs.take k = fs := List.take_of_length_le (by have := HFN.out; omega)
      rw [e] at how
      clear e
      go_wp2
      go_ret
      exact ⟨_, rfl, how.out, hbl.out⟩
end Go.Proofs.Ytcnhjbipncledaa
