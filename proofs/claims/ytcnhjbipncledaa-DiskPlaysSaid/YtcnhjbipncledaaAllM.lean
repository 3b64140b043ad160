/- A row of texts of one's own, beside a disk. -/
import Derived.Test.YtcnhjbipncledaaDkP
import Derived.Test.YtcnhjbipncledaaFull
namespace Go.Proofs.Ytcnhjbipncledaa
open Go.RowKit

theorem elemRow : Elem Try.prog 34 30 24 := Elem.mk_ Try.underlying34 (z := .slice none 0 0) (by kernel_rfl) rfl
theorem Own.lit {w : World} {base k : Nat} {e : TypeId} (hk : w.heap.size = k) (h : base ≤ k) (u : Value) : Own (w.alloc (.cells #[u] e)) base e (.slice (some ⟨k, 0, none⟩) 1 1) [u] := by
  subst hk
  exact ⟨⟨rfl, .inr ⟨w.heap.size, 1, #[u], rfl, h, heap_alloc_new w _, Nat.le_refl _, by decide, rfl, rfl⟩⟩, by simp; omega⟩
/-- A row of slices of bytes, of one's own; nothing of it lies in F. -/
structure AllU (w : World) (base : Nat) (F : List Nat) (v : Value) (us : List Value) (L : List (List B8)) : Prop where
  own : Own w base 30 v us
  len : us.length = L.length
  at_ : ∀ (j : Nat) (u : Value) (x : List B8), us[j]? = some u → L[j]? = some x → IsBytes w u x ∧ ∃ (p : Addr) (n c : Nat), u = .slice (some p) n c ∧ p.block < w.heap.size ∧ p.block ∉ F ∧ v.ownBlock ≠ some p.block
  out : ∀ k, v.ownBlock = some k → k ∉ F
def AllIs (w : World) (base : Nat) (F : List Nat) (v : Value) (L : List (List B8)) : Prop := ∃ us, AllU w base F v us L
theorem AllU.turn {w w' : World} {base : Nat} {F F' : List Nat} {v : Value} {us : List Value} {L : List (List B8)} (h : AllU w base F v us L) (hc : Chg F w w') (hg : Grow w F F') : AllU w' base F' v us L := by
  obtain ⟨ho, hl, hx, hk⟩ := h
  refine ⟨ho.keep hc.size (fun k hk' => hc.block k (ho.block_ge k hk').2 (hk k hk')), hl, fun j u x hu hL => ?_, fun k hk' hx' => ?_⟩
  · obtain ⟨hb, p, n, c, rfl, hp1, hp2, hp3⟩ := hx j u x hu hL
    refine ⟨hb.chg hc (fun p' n' c' e => by injection e with e; injection e with e; subst e; exact hp2), p, n, c, rfl, Nat.lt_of_lt_of_le hp1 hc.size, fun hx' => ?_, hp3⟩
    rcases hg _ hx' with h | h
    · exact hp2 h
    · omega
  · rcases hg _ hx' with h | h
    · exact hk k hk' h
    · have := (ho.block_ge k hk').2; omega
theorem AllU.below {w w' : World} {base : Nat} {F : List Nat} {v : Value} {us : List Value} {L : List (List B8)} (h : AllU w base F v us L) (hb : Below w.heap.size w w') : AllU w' base F v us L := by
  obtain ⟨ho, hl, hx, hk⟩ := h
  refine ⟨ho.below hb, hl, fun j u x hu hL => ?_, hk⟩
  obtain ⟨hB, p, n, c, rfl, hp1, hp2⟩ := hx j u x hu hL
  exact ⟨hB.below hb, p, n, c, rfl, Nat.lt_of_lt_of_le hp1 hb.size, hp2⟩
theorem AllIs.turn {w w' : World} {base : Nat} {F F' : List Nat} {v : Value} {L : List (List B8)} (h : AllIs w base F v L) (hc : Chg F w w') (hg : Grow w F F') : AllIs w' base F' v L := by
  obtain ⟨us, h⟩ := h; exact ⟨us, h.turn hc hg⟩
theorem AllIs.below {w w' : World} {base : Nat} {F : List Nat} {v : Value} {L : List (List B8)} (h : AllIs w base F v L) (hb : Below w.heap.size w w') : AllIs w' base F v L := by
  obtain ⟨us, h⟩ := h; exact ⟨us, h.below hb⟩
/-- What a call has made is no block of the disk's. -/
theorem own_new {w w' : World} {D : Nat} {F : List Nat} {s : Dk} {e : TypeId} {u : Value} {xs : List Value} (hd : DiskF w D F s) (ho : Own w' w.heap.size e u xs) (hp : 0 < xs.length) : ∃ (p : Addr) (n c : Nat), u = .slice (some p) n c ∧ w.heap.size ≤ p.block ∧ p.block < w'.heap.size ∧ p.block ∉ F := by
  obtain ⟨g, cap, rfl, hat⟩ := ho.at_ hp
  have h := hat.lt
  exact ⟨_, _, _, rfl, h.1, h.2.1, fun hx => by have := hd.lt _ hx; simp at this; omega⟩
theorem AllIs.one {w w' : World} {D base : Nat} {F : List Nat} {s : Dk} {u : Value} {b : List B8} {k : Nat} (hd : DiskF w D F s) (ho : Own w' w.heap.size 5 u ((full b).map byteV)) (hs : w.heap.size ≤ w'.heap.size) (hk : w'.heap.size = k) (hb : base ≤ w.heap.size) (hp : 0 < (full b).length) : AllIs (w'.alloc (.cells #[u] 30)) base F (.slice (some ⟨k, 0, none⟩) 1 1) [full b] := by
  obtain ⟨p, n, c, rfl, hp0, hp1, hp2⟩ := own_new hd ho (by simpa using hp)
  refine ⟨[.slice (some p) n c], Own.lit hk (by omega) _, rfl, fun j u x hu hL => ?_, fun k' hk' hx => ?_⟩
  · match j, hu, hL with
    | 0, hu, hL =>
      simp at hu hL
      subst hu hL
      exact ⟨ho.reads.bytes.alloc _, p, n, c, rfl, by simp; omega, hp2, by simp [Value.ownBlock]; omega⟩
  · have hk2 : k = k' := by simpa [Value.ownBlock] using hk'
    have := hd.lt _ hx
    omega
theorem AllU.snoc {w0 w w1 w' : World} {D base : Nat} {F : List Nat} {s : Dk} {v v' u : Value} {b : List B8} {us : List Value} {L : List (List B8)} (h : AllU w0 base F v us L) (hd : DiskF w0 D F s) (hu : Own w w0.heap.size 5 u ((full b).map byteV)) (hp : 0 < (full b).length) (hb : Below w0.heap.size w0 w) (hb1 : Below w.heap.size w w1)
    (ho : Own w' base 30 v' (us ++ [u])) (hg : w1.grownBy w' v.ownBlock) (hv : v'.ownBlock = v.ownBlock ∨ v'.ownBlock = some w1.heap.size) : AllIs w' base F v' (L ++ [full b]) := by
  obtain ⟨ho0, hl, hx, hk⟩ := h
  have hs := hb.size
  have hs1 := hb1.size
  refine ⟨_, ho, by simp [hl], fun j u' x hu' hL => ?_, fun k hk' => ?_⟩
  · rcases Nat.lt_or_ge j us.length with hj | hj
    · rw [List.getElem?_append_left hj] at hu'
      rw [List.getElem?_append_left (by omega)] at hL
      obtain ⟨hB, p, n, c, rfl, hp1, hp2, hp3⟩ := hx j u' x hu' hL
      refine ⟨((hB.below hb).below hb1).chg (Chg.of_grown hg) (fun p' n' c' e => ?_), p, n, c, rfl, Nat.lt_of_lt_of_le (by omega : p.block < w1.heap.size) hg.size, hp2, ?_⟩
      · injection e with e; injection e with e; subst e
        intro hx'
        simp at hx'
        exact hp3 hx'
      · rcases hv with hv | hv <;> rw [hv]
        · exact hp3
        · simp; omega
    · obtain rfl : j = us.length := by
        have := (List.getElem?_eq_some_iff.1 hu').1
        simp at this; omega
      rw [List.getElem?_append_right (Nat.le_refl _), Nat.sub_self] at hu'
      rw [List.getElem?_append_right (by omega), show us.length - L.length = 0 by omega] at hL
      simp at hu' hL
      subst hu' hL
      obtain ⟨p, n, c, rfl, hp0, hp1, hp2⟩ := own_new hd hu (by simpa using hp)
      have hne : v.ownBlock ≠ some p.block := fun e => by
        have := (ho0.block_ge _ e).2
        omega
      refine ⟨(hu.reads.bytes.below hb1).chg (Chg.of_grown hg) (fun p' n' c' e => ?_), p, n, c, rfl, Nat.lt_of_lt_of_le (by omega : p.block < w1.heap.size) hg.size, hp2, ?_⟩
      · injection e with e; injection e with e; subst e
        intro hx'
        simp at hx'
        exact hne hx'
      · rcases hv with hv | hv <;> rw [hv]
        · exact hne
        · simp; omega
  · rcases hv with hv | hv
    · exact hk k (by rw [← hv]; exact hk')
    · rw [hv] at hk'
      injection hk' with hk'
      intro hx'
      have := hd.lt _ hx'
      omega
/-- Each byte of a block that writes have turned is that of one of them, or the old one. -/
def Mixed (L : List (List B8)) (b : List B8) : Prop := b.length = 128 ∧ ∀ i, i < 128 → ∃ x ∈ L, x.getD i 0#8 = b.getD i 0#8
theorem Mixed.of_mem {L : List (List B8)} {b : List B8} (h : b ∈ L) (hl : b.length = 128) : Mixed L b := ⟨hl, fun _ _ => ⟨b, h, rfl⟩⟩
theorem Mixed.tear {L : List (List B8)} {b old : List B8} (hb : b ∈ L) (hl : b.length = 128) (ho : Mixed L old) (m : Nat) : Mixed L (torn b old m) := by
  refine ⟨torn_length _ _ _ hl ho.1, fun i hi => ?_⟩
  by_cases h : i < m
  · refine ⟨b, hb, ?_⟩
    unfold torn
    simp only [List.getD_eq_getElem?_getD]
    rw [List.getElem?_append_left (by simp; omega), List.getElem?_take_of_lt h]
  · obtain ⟨x, hx, he⟩ := ho.2 i hi
    refine ⟨x, hx, ?_⟩
    rw [he]
    unfold torn
    simp only [List.getD_eq_getElem?_getD]
    have hm : (b.take m).length = m := by simp; omega
    rw [List.getElem?_append_right (by omega), List.getElem?_drop, hm, show m + (i - m) = i by omega]
theorem mixed_strikes {L : List (List B8)} : ∀ (l : List ((Int × List B8) × (Int × Int))) (s : Dk), Mixed L (s.blk 0) → (∀ x ∈ l, x.1.1 = 0 ∧ x.1.2 ∈ L ∧ x.1.2.length = 128) → Mixed L ((s.strikes l).blk 0)
  | [], _, h, _ => h
  | x :: l, s, h, hl => by
    show Mixed L (((s.strike x).strikes l).blk 0)
    refine mixed_strikes l _ ?_ (fun y hy => hl y (List.mem_cons_of_mem _ hy))
    obtain ⟨h1, h2, h3⟩ := hl x (List.mem_cons_self ..)
    have hput : ∀ c, Mixed L c → Mixed L ((s.put x.1.1 c).blk 0) := fun c hc => by
      show Mixed L (if (0 : Int) = x.1.1 then c else s.blk 0)
      rw [if_pos h1.symm]; exact hc
    by_cases k1 : x.2.1 = 1
    · have e : s.ends x.1 x.2.1 x.2.2 = (x.1.2, true) := by unfold Dk.ends; rw [if_pos k1]
      unfold Dk.strike
      rw [e, if_pos rfl]
      exact hput _ (.of_mem h2 h3)
    · by_cases k2 : x.2.1 = 2
      · have e : s.ends x.1 x.2.1 x.2.2 = (torn x.1.2 (s.blk x.1.1) (fateN x.2.2), true) := by unfold Dk.ends; rw [if_neg k1, if_pos k2]
        unfold Dk.strike
        rw [e, if_pos rfl, h1]
        rw [h1] at hput
        exact hput _ (.tear h2 h3 h _)
      · have e : s.ends x.1 x.2.1 x.2.2 = (zeros 128, false) := by unfold Dk.ends; rw [if_neg k1, if_neg k2]
        unfold Dk.strike
        rw [e, if_neg (by simp)]
        exact h
def anyB (L : List (List B8)) (i : Nat) (c : B8) : Bool := L.any fun x => x.getD i 0#8 == c
theorem anyB_snoc {L : List (List B8)} {k : Nat} {x : List B8} (h : L[k]? = some x) (i : Nat) (c : B8) : anyB (L.take (k + 1)) i c = (anyB (L.take k) i c || (x.getD i 0#8 == c)) := by
  unfold anyB
  rw [List.take_add_one, h]
  simp [List.any_append]
theorem anyB_of {L : List (List B8)} {b : List B8} (h : Mixed L b) (i : Nat) (hi : i < 128) : anyB L i (b.getD i 0#8) = true := by
  obtain ⟨x, hx, he⟩ := h.2 i hi
  unfold anyB
  rw [List.any_eq_true]
  exact ⟨x, hx, by rw [he]; simp⟩
end Go.Proofs.Ytcnhjbipncledaa
