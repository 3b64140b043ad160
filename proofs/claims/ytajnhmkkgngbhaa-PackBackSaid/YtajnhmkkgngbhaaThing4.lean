/- The things of chapter 12's statements: the forms of all of them by the reference. -/
import Derived.Test.YtajnhmkkgngbhaaThing3
namespace Go.Proofs.Ytajnhmkkgngbhaa
open Go.RowKit
open Pack (form zig leB un eight formI formT formL room)

theorem flat_le (f : Int → List (BitVec 8)) (n : Nat) : ∀ (l : List Int), (∀ x ∈ l, (f x).length ≤ n) → (l.flatMap f).length ≤ n * l.length := by
  intro l
  induction l with
  | nil => intro _; simp
  | cons x l ih =>
    intro h
    have h1 := h x (by simp)
    have h2 := ih (fun y hy => h y (by simp [hy]))
    rw [List.flatMap_cons, List.length_append, List.length_cons, Nat.mul_succ]
    omega
theorem formOf_le {t : Th} (h : fewT t = true) : (formOf t).length ≤ 1010 := by
  have hf := few_le h
  have h8 : ∀ x, (eight x).length = 8 := fun x => by unfold eight; rw [Pack.leB_length]
  have hl := flat_le formI 10 t.l (fun x _ => form_length _)
  have hx := flat_le eight 8 t.f (fun x _ => Nat.le_of_eq (h8 x))
  unfold formOf
  split
  · have := form_length t.u; omega
  split
  · have := form_length (zig t.n); show (form (zig t.n)).length ≤ 1010; omega
  split
  · rw [h8]; omega
  split
  · have := form_length t.b.length; unfold formT; rw [List.length_append]; omega
  split
  · have := form_length t.l.length; unfold formL; rw [List.length_append]; omega
  split
  · have := form_length t.f.length; unfold formL; rw [List.length_append]; omega
  · simp
set_option maxRecDepth 100000 in
set_option maxHeartbeats 1000000 in
theorem form_other (t : Th) (pb pl pf : Option Addr) (nb cb nl cl nf cf : Nat) (w : World) (hk : ¬ (1 ≤ t.kind ∧ t.kind ≤ 6)) :
    Calls Try.prog 35 #[.agg #[.int .i64 t.kind, .int .u64 t.u, .int .i64 t.n, .int .i64 t.x, .slice pb nb cb, .slice pl nl cl, .slice pf nf cf]] w (FormPost w (formOf t)) := by
  have hform : formOf t = [] := by
    unfold formOf
    rw [if_neg (by omega), if_neg (by omega), if_neg (by omega), if_neg (by omega), if_neg (by omega), if_neg (by omega)]
  rw [hform]
  obtain ⟨k, hkk⟩ : ∃ k, t.kind = k := ⟨_, rfl⟩
  rw [hkk] at hk ⊢
  have g1 : (k == 1) = false := by rw [beq_eq_false_iff_ne]; omega
  have g2 : (k == 2) = false := by rw [beq_eq_false_iff_ne]; omega
  have g3 : (k == 3) = false := by rw [beq_eq_false_iff_ne]; omega
  have g4 : (k == 4) = false := by rw [beq_eq_false_iff_ne]; omega
  have g5 : (k == 5) = false := by rw [beq_eq_false_iff_ne]; omega
  have g6 : (k == 6) = false := by rw [beq_eq_false_iff_ne]; omega
  clear hform hk hkk
  go_enter Try.func35, Try.ntmps35
  go_wp2_with fail
  go_ret
  exact ⟨_, _, _, rfl, Own.nil_ (by simp), (Below.refl _ w).alloc (Nat.le_refl _) _⟩
theorem form_any (t : Th) (pb pl pf : Option Addr) (nb cb nl cl nf cf : Nat) (w : World) (ht : ThIs w (.slice pb nb cb) (.slice pl nl cl) (.slice pf nf cf) t) (hf : fewT t = true) :
    Calls Try.prog 35 #[.agg #[.int .i64 t.kind, .int .u64 t.u, .int .i64 t.n, .int .i64 t.x, .slice pb nb cb, .slice pl nl cl, .slice pf nf cf]] w (FormPost w (formOf t)) := by
  by_cases h : 1 ≤ t.kind ∧ t.kind ≤ 6
  · have hc : t.kind = 1 ∨ t.kind = 2 ∨ t.kind = 3 ∨ t.kind = 4 ∨ t.kind = 5 ∨ t.kind = 6 := by omega
    rcases hc with hk | hk | hk | hk | hk | hk
    · rw [hk]; exact form_1 t pb pl pf nb cb nl cl nf cf w ht hf hk
    · rw [hk]; exact form_2 t pb pl pf nb cb nl cl nf cf w ht hf hk
    · rw [hk]; exact form_3 t pb pl pf nb cb nl cl nf cf w ht hf hk
    · rw [hk]; exact form_4 t pb pl pf nb cb nl cl nf cf w ht hf hk
    · rw [hk]; exact form_5 t pb pl pf nb cb nl cl nf cf w ht hf hk
    · rw [hk]; exact form_6 t pb pl pf nb cb nl cl nf cf w ht hf hk
  · exact form_other t pb pl pf nb cb nl cl nf cf w h
theorem forms_le (ts : List Th) (h : ts.all fewT = true) : (ts.flatMap formOf).length ≤ 1010 * ts.length := by
  induction ts with
  | nil => simp
  | cons t ts ih =>
    rw [List.all_cons, Bool.and_eq_true] at h
    have h1 := formOf_le h.1
    have h2 := ih h.2
    rw [List.flatMap_cons, List.length_append, List.length_cons, Nat.mul_succ]
    omega
theorem fewB_parts {ts : List Th} (h : fewB ts = true) : ts.length ≤ 40 ∧ ts.all fewT = true := by
  rw [fewB_eq, Bool.and_eq_true, decide_eq_true_eq] at h
  exact h
theorem take_all {ts : List Th} (h : ts.all fewT = true) (k : Nat) : (ts.take k).all fewT = true := by
  rw [List.all_eq_true] at h ⊢
  exact fun x hx => h x (List.mem_of_mem_take hx)
set_option maxHeartbeats 1000000 in
theorem forms_any (v : Value) (ts : List Th) (w : World) (hv : ThsIs w v ts) (hf : fewB ts = true) :
    Calls Try.prog 16 #[v] w fun e w' => ∃ a m c, e = .returned (.slice a m c) ∧ IsBytes w' (.slice a m c) (ts.flatMap formOf) ∧ Below w.heap.size w w' := by
  have H := Lib.hid hv
  have HF := Lib.hid (fewB_parts hf)
  obtain ⟨a, len, cap, rfl, hl, hc, hm, _⟩ := hv
  have h40 : len ≤ 40 := by have := HF.out.1; omega
  have HL := Lib.hid hl
  clear hl hf
  go_enter Try.func16, Try.ntmps16
  go_wp2_with fail
  go_loopw [3, 5, 8] (fun u _ i wr => ∃ k : Nat, i = .int .i64 k ∧ k ≤ len ∧ Own wr w.heap.size 5 u (((ts.take k).flatMap formOf).map byteV) ∧ Hid (Below w.heap.size w wr)) (fun _ _ i _ => len - (intOf i).toNat)
  case atStart => exact ⟨0, rfl, Nat.zero_le _, by simpa using Own.nil_ (Nat.le_refl _), Below.refl _ _⟩
  case round =>
    obtain ⟨k, rfl, hk, hown, hb⟩ := hrel
    have HOWN := Lib.hid hown
    clear hown
    by_cases hlt : k < len
    · obtain ⟨b, off, t, rfl, htk, hat⟩ := H.out.at_ k hlt
      have hat' := hat.below hb.out
      obtain ⟨pb, pl, pf, nb, cb, nl, cl, nf, cf, h0, h1, h2, h3, h4, h5, h6, ht⟩ := hat'
      have HT := Lib.hid ht
      have HTK := Lib.hid htk
      have HFT : Hid (fewT t = true) := (List.all_eq_true.1 HF.out.2) t (List.mem_of_getElem? htk)
      clear ht hat htk
      go_wp2_with fail
      refine (form_any t pb pl pf nb cb nl cl nf cf _ (HT.out.below ((Below.refl _ _).alloc (Nat.le_refl _) _)) HFT.out).mono ?_
      rintro e w2 ⟨a2, m2, c2, rfl, ho2, hb2⟩
      have HO2 := Lib.hid ho2.reads
      have hba := (Below.refl wr.heap.size wr).alloc (Nat.le_refl _) (.cells #[.int .i64 t.kind, .int .u64 t.u, .int .i64 t.n, .int .i64 t.x, .slice pb nb cb, .slice pl nl cl, .slice pf nf cf] 40)
      have HB2' : Hid (Below wr.heap.size wr w2) := hba.trans (hb2.mono hba.size)
      have HOWN2 := Lib.hid (HOWN.out.below HB2'.out)
      have HB2 : Hid (Below w.heap.size w w2) := hb.out.trans (HB2'.out.mono hb.out.size)
      have HLE := Lib.hid (forms_le (ts.take k) (take_all HF.out.2 k))
      have HLT := Lib.hid (formOf_le HFT.out)
      have HTL : Hid ((ts.take k).length ≤ 40) := by unfold Hid; rw [List.length_take]; have := HF.out.1; omega
      clear ho2 hb2 hba h0 h1 h2 h3 h4 h5 h6
      go_wp2_with (at_builtin; refine wpl_append rfl (.tmp 12) (.tmp 14) _ rfl elemU8 rfl HOWN2.out rfl HO2.out one_byteV (by have := HLE.out; have := HLT.out; have := HTL.out; rw [List.length_map, List.length_map]; omega) (by have := HLE.out; have := HLT.out; have := HTL.out; rw [List.length_map, List.length_map]; unfold maxLen; omega) ?_; intro v' w3 hown3 hg3 hat3)
      exact ⟨⟨k + 1, by go_num, by omega, by rw [take_snoc? HTK.out, List.flatMap_append, List.map_append, List.flatMap_cons, List.flatMap_nil, List.append_nil]; exact hown3, below_grown HB2.out HOWN2.out hg3 (Nat.le_refl _)⟩, by simp [intOf]; omega⟩
    · obtain rfl : k = len := by omega
      have HTK : Hid (ts.take k = ts) := List.take_of_length_le (by have := HL.out; omega)
      obtain ⟨x, m', c', rfl, _⟩ := HOWN.out.form_
      clear hlt
      go_wp2_with fail
      go_ret
      exact ⟨x, m', c', rfl, by have := HOWN.out.reads.bytes; rwa [HTK.out] at this, hb.out⟩
end Go.Proofs.Ytajnhmkkgngbhaa
