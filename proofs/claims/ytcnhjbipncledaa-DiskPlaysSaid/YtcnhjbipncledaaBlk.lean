/- Arrays of bytes by value; maps keyed by numbers whose elements are such arrays: laws at the operations. No program. -/
import Derived.Test.YtcnhjbipncledaaApp2
import Derived.Test.YtcnhjbipncledaaChg
import Derived.MapFrom
import Derived.ChangeKeysEq
import Derived.Deep.MidRow
import Derived.Deep.WholeRow
namespace Go.Proofs.Ytcnhjbipncledaa
open Go.RowKit

abbrev B8 := BitVec 8
/-- An array of bytes, by value. -/
def blkV (b : List B8) : Value := .agg (b.map byteV).toArray
def zeros (n : Nat) : List B8 := List.replicate n 0#8
section
variable {P : Program} {w : World}
theorem byteV_inj {a b : B8} (h : byteV a = byteV b) : a = b := by
  unfold byteV at h
  injection h with _ h
  exact BitVec.eq_of_toNat_eq (by omega)
theorem blkV_inj {a b : List B8} (h : blkV a = blkV b) : a = b := by
  unfold blkV at h
  injection h with h
  have h : a.map byteV = b.map byteV := by simpa using congrArg Array.toList h
  exact List.map_inj_right (f := byteV) (fun x y e => byteV_inj e) |>.1 h
theorem run_part_u8 (e : TypeId) (k : IntKind) (hu : P.underlying e = some (.int k)) (xs : Array Value) (i : Nat) (v : Value) (hv : xs[i]? = some v) : (part e xs i).run P w = .ok v w := by
  unfold part isAgg
  simp [Sem.run_bind, run_underlying hu, hv]
theorem run_eqItems_u8 (d : Nat) (e : TypeId) (k : IntKind) (hu : P.underlying e = some (.int k)) (a b : List B8) : ∀ (is : List Nat), (∀ i ∈ is, i < a.length ∧ i < b.length) →
    (Op.eqItems (d + 1) e 1 (a.map byteV).toArray (b.map byteV).toArray is).run P w = .ok (is.all fun i => a.getD i 0#8 == b.getD i 0#8) w
  | [], _ => by simp [Op.eqItems]
  | i :: is, h => by
    obtain ⟨h1, h2⟩ := h i (List.mem_cons_self ..)
    have ih := run_eqItems_u8 d e k hu a b is (fun j hj => h j (List.mem_cons_of_mem _ hj))
    have ga : (a.map byteV).toArray[i * 1]? = some (byteV a[i]) := by simp [h1]
    have gb : (b.map byteV).toArray[i * 1]? = some (byteV b[i]) := by simp [h2]
    simp only [Op.eqItems, Sem.run_bind, run_part_u8 e k hu _ _ _ ga, run_part_u8 e k hu _ _ _ gb, Result.andThen_ok]
    show (((Op.equalIn (d + 1) e (.int .u8 (a[i].toNat : Int)) (.int .u8 (b[i].toNat : Int))).run P w).andThen _) = _
    rw [run_equalIn_int (P := P) w d e .u8 k _ _ hu]
    simp only [Result.andThen_ok, List.all_cons]
    have e1 : a.getD i 0#8 = a[i] := by simp [h1]
    have e2 : b.getD i 0#8 = b[i] := by simp [h2]
    rw [e1, e2]
    by_cases hab : a[i] = b[i]
    · rw [hab]
      simp only [beq_self_eq_true, Bool.not_true, Bool.true_and]
      simpa using ih
    · have : ((a[i].toNat : Int) == (b[i].toNat : Int)) = false := by
        rw [beq_eq_false_iff_ne]
        intro e
        exact hab (BitVec.eq_of_toNat_eq (by omega))
      have h3 : (a[i] == b[i]) = false := by rw [beq_eq_false_iff_ne]; exact hab
      rw [this, h3]
      simp
/-- Two arrays of as many bytes are compared. -/
theorem run_eql_blk (t e : TypeId) (n : Nat) (k : IntKind) (i : TypeInfo) (hu : P.underlying t = some (.array n e)) (he : P.underlying e = some (.int k)) (hi : P.info? e = some i) (hs : i.size = 1) (a b : List B8) (ha : a.length = n) (hb : b.length = n) :
    (binOp .eql t (blkV a) (blkV b)).run P w = .ok (.bool (decide (a = b))) w := by
  unfold blkV
  rw [run_eql_struct, run_equalIn_array (P := P) (w := w) 9999 (i := i) _ _ hu hi]
  have hc : P.cellsOf e = 1 := by simp [Program.cellsOf, hi, hs]
  rw [hc, run_eqItems_u8 (P := P) 9998 e k he a b (List.range n) (by intro j hj; rw [List.mem_range] at hj; omega)]
  simp only [Result.andThen_ok]
  congr 2
  rw [Bool.eq_iff_iff, List.all_eq_true, decide_eq_true_iff]
  constructor
  · intro h
    apply List.ext_getElem (by omega)
    intro j h1 h2
    have := h j (List.mem_range.2 (by omega))
    simpa [h1, h2] using this
  · rintro rfl
    simp
/-! ### Maps keyed by numbers -/
/-- What stands at a number. -/
def isNum : Value → Int → Bool
  | .int .i64 j, k => j == k
  | _, _ => false
theorem isNum_iff {v : Value} {k : Int} : isNum v k = true ↔ v = .int .i64 k := by
  constructor
  · intro h
    unfold isNum at h
    split at h
    · rw [eq_of_beq h]
    · cases h
  · rintro rfl; simp [isNum]
def lookE : List MapEntry → Int → Option Value
  | [], _ => none
  | e :: es, k => if isNum e.key k then some e.val else lookE es k
structure IMap (w : World) (m : Nat) (f : Int → Option Value) : Prop where
  ex : ∃ es clock, w.heap[m]? = some (.map es clock) ∧ (∀ x ∈ es.toList, MapKept.IsKey (.int .i64) x.key) ∧ (es.toList.map (·.key)).Nodup ∧ ∀ k, f k = lookE es.toList k
theorem lookE_none {l : List MapEntry} {k : Int} (h : ∀ x ∈ l, x.key ≠ .int .i64 k) : lookE l k = none := by
  induction l with
  | nil => rfl
  | cons x l ih =>
    unfold lookE
    rw [if_neg (fun q => h x (List.mem_cons_self ..) (isNum_iff.1 q))]
    exact ih fun y hy => h y (List.mem_cons_of_mem _ hy)
theorem lookE_at {l : List MapEntry} (hn : (l.map (·.key)).Nodup) {j : Nat} {e : MapEntry} {k : Int} (hj : l[j]? = some e) (he : e.key = .int .i64 k) : lookE l k = some e.val := by
  induction l generalizing j with
  | nil => simp at hj
  | cons x l ih =>
    rw [List.map_cons, List.nodup_cons] at hn
    unfold lookE
    cases j with
    | zero =>
      simp at hj
      subst hj
      rw [if_pos (isNum_iff.2 he)]
    | succ j =>
      simp at hj
      rw [if_neg (fun q => hn.1 (List.mem_map.2 ⟨e, List.mem_of_getElem? hj, he.trans (isNum_iff.1 q).symm⟩))]
      exact ih hn.2 hj
theorem lookE_push (l : List MapEntry) (e : MapEntry) (k : Int) : lookE (l ++ [e]) k = (lookE l k).or (if isNum e.key k then some e.val else none) := by
  induction l with
  | nil => simp [lookE]
  | cons x l ih =>
    simp only [List.cons_append, lookE]
    split
    · simp
    · exact ih
theorem isNum_ne {v : Value} {k i : Int} (hv : v = .int .i64 k) (hi : ¬ i = k) : isNum v i = false := by
  rw [Bool.eq_false_iff]
  intro h
  have := isNum_iff.1 h
  rw [hv] at this
  injection this with _ h
  exact hi h.symm
theorem lookE_modify {l : List MapEntry} {j : Nat} {e : MapEntry} {k i : Int} (g : MapEntry → MapEntry) (hg : (g e).key = .int .i64 k) (hj : l[j]? = some e) (he : e.key = .int .i64 k) (hi : ¬ i = k) : lookE (l.modify j g) i = lookE l i := by
  induction l generalizing j with
  | nil => simp at hj
  | cons x l ih =>
    cases j with
    | zero =>
      simp at hj
      subst hj
      simp [lookE, isNum_ne hg hi, isNum_ne he hi]
    | succ j =>
      simp at hj
      simp only [List.modify_succ_cons, lookE, ih hj]
theorem lookE_erase {l : List MapEntry} {j : Nat} {e : MapEntry} {k i : Int} (hj : l[j]? = some e) (he : e.key = .int .i64 k) (hi : ¬ i = k) : lookE (l.eraseIdx j) i = lookE l i := by
  induction l generalizing j with
  | nil => simp at hj
  | cons x l ih =>
    cases j with
    | zero =>
      simp at hj
      subst hj
      simp [lookE, isNum_ne he hi]
    | succ j =>
      simp at hj
      simp only [List.eraseIdx_cons_succ, lookE, ih hj]
theorem lookE_erased {l : List MapEntry} (hn : (l.map (·.key)).Nodup) {j : Nat} {e : MapEntry} {k : Int} (hj : l[j]? = some e) (he : e.key = .int .i64 k) : lookE (l.eraseIdx j) k = none := by
  induction l generalizing j with
  | nil => simp at hj
  | cons x l ih =>
    rw [List.map_cons, List.nodup_cons] at hn
    cases j with
    | zero =>
      simp at hj
      subst hj
      rw [List.eraseIdx_cons_zero]
      exact lookE_none fun y hy q => hn.1 (List.mem_map.2 ⟨y, hy, q.trans he.symm⟩)
    | succ j =>
      simp at hj
      rw [List.eraseIdx_cons_succ]
      unfold lookE
      rw [if_neg (fun q => hn.1 (List.mem_map.2 ⟨e, List.mem_of_getElem? hj, he.trans (isNum_iff.1 q).symm⟩))]
      exact ih hn.2 hj
theorem IMap.lt {m : Nat} {f : Int → Option Value} (h : IMap w m f) : m < w.heap.size := by
  obtain ⟨es, clock, hb, _⟩ := h.ex
  exact (Array.getElem?_eq_some_iff.1 hb).1
theorem IMap.keep {w' : World} {m : Nat} {f : Int → Option Value} (h : IMap w m f) (hk : w'.heap[m]? = w.heap[m]?) : IMap w' m f := by
  obtain ⟨es, clock, hb, r⟩ := h.ex
  exact ⟨es, clock, hk.trans hb, r⟩
theorem IMap.chg {S : List Nat} {w' : World} {m : Nat} {f : Int → Option Value} (h : IMap w m f) (hc : Chg S w w') (hs : m ∉ S) : IMap w' m f := h.keep (hc.block m h.lt hs)
theorem IMap.new (w : World) : IMap (w.alloc (.map #[] 0)) w.heap.size (fun _ => none) :=
  ⟨#[], 0, (MapKept.heap_alloc w _).1, by simp, by simp, fun _ => rfl⟩
theorem run_look (mty kt et : TypeId) (z : Value) (hm : P.underlying mty = some (.map kt et)) (hd : P.underlying kt = some (.int .i64)) (hz : ∀ w, (zeroValue et).run P w = .ok z w) {m : Nat} {f : Int → Option Value} (h : IMap w m f) (k : Int) :
    (Instr.lookup mty (.map (some m)) (.int .i64 k) false).run P w = .ok ((f k).getD z) w := by
  obtain ⟨es, clock, hb, hks, hn, hf⟩ := h.ex
  have hk : MapKept.IsKey (.int .i64) (.int .i64 k) := by simp [MapKept.IsKey]
  rcases MapKept.findNow_spec hk es.toList 0 hks with ⟨h1, h2⟩ | ⟨j, e, h1, h2, h3⟩
  · rw [hf k, lookE_none h2]
    simp [Instr.lookup, Sem.run_bind, run_underlying hm, MapKept.run_getObj_map hb, MapKept.run_checkKey hd hk, MapKept.run_findKey hd h1, hz, Result.andThen]
  · rw [hf k, lookE_at hn h2 h3]
    simp [Instr.lookup, Sem.run_bind, run_underlying hm, MapKept.run_getObj_map hb, MapKept.run_checkKey hd hk, MapKept.run_findKey hd h1, Result.andThen]
/-- The map's block is laid anew. -/
theorem chg_set (m : Nat) (o : Obj) (w : World) : Chg [m] w { w with heap := w.heap.setIfInBounds m o } :=
  ⟨rfl, rfl, rfl, by simp, fun k _ hn => by
    have : m ≠ k := fun e => hn (by simp [e])
    simp [this]⟩
theorem run_put (mty kt et : TypeId) (hm : P.underlying mty = some (.map kt et)) (hd : P.underlying kt = some (.int .i64)) {m : Nat} {f : Int → Option Value} (h : IMap w m f) (k : Int) (v : Value) :
    ∃ w', (Instr.mapUpdate mty (.map (some m)) (.int .i64 k) v).run P w = .ok () w' ∧ Chg [m] w w' ∧ IMap w' m (fun j => if j = k then some v else f j) := by
  obtain ⟨es, clock, hb, hks, hn, hf⟩ := h.ex
  have hk : MapKept.IsKey (.int .i64) (.int .i64 k) := by simp [MapKept.IsKey]
  rcases MapKept.findNow_spec hk es.toList 0 hks with ⟨h1, h2⟩ | ⟨j, e, h1, h2, h3⟩
  · refine ⟨{ w with heap := w.heap.setIfInBounds m (.map (es.push { key := .int .i64 k, val := v, born := clock }) (clock + 1)) }, ?_, chg_set _ _ _, _, _, (MapKept.heap_set hb).1, ?_, ?_, ?_⟩
    · simp [Instr.mapUpdate, run_underlying hm, MapKept.run_getObj_map hb, MapKept.run_checkKey hd hk, MapKept.run_findKey hd h1, MapKept.run_setObj_map _ hb, Result.andThen]
    · intro x hx
      simp only [Array.toList_push, List.mem_append, List.mem_singleton] at hx
      rcases hx with hx | rfl
      · exact hks x hx
      · exact hk
    · rw [Array.toList_push, List.map_append, List.nodup_append]
      refine ⟨hn, by simp, ?_⟩
      intro a ha b hb' e
      simp at hb'
      obtain ⟨x, hx, rfl⟩ := List.mem_map.1 ha
      exact h2 x hx (e.trans hb')
    · intro i
      rw [Array.toList_push, lookE_push]
      by_cases hi : i = k
      · subst hi
        rw [if_pos rfl, lookE_none h2]
        simp [isNum]
      · rw [if_neg hi, hf i, isNum_ne rfl hi]
        simp
  · have hj : es[j]? = some e := by simpa using h2
    refine ⟨{ w with heap := w.heap.setIfInBounds m (.map (es.modify j fun e => { e with key := .int .i64 k, val := v }) clock) }, ?_, chg_set _ _ _, _, _, (MapKept.heap_set hb).1, ?_, ?_, ?_⟩
    · simp [Instr.mapUpdate, run_underlying hm, MapKept.run_getObj_map hb, MapKept.run_checkKey hd hk, MapKept.run_findKey hd h1, hj, h3, MapKept.run_keyThatStays hk, MapKept.run_setObj_map _ hb, Result.andThen]
    · intro x hx
      rw [Array.toList_modify] at hx
      rcases MapFrom.mem_modify (es := es) (i := j) (by rw [Array.toList_modify]; exact hx) with hx | ⟨y, hy, rfl⟩
      · exact hks x hx
      · exact hk
    · have : (es.modify j fun e => { e with key := .int .i64 k, val := v }).toList.map (·.key) = es.toList.map (·.key) := MapKept.modify_keys j _ (fun y hy => by rw [hj] at hy; injection hy with hy; rw [← hy]; exact h3.symm)
      rw [this]; exact hn
    · intro i
      rw [Array.toList_modify]
      by_cases hi : i = k
      · subst hi
        rw [if_pos rfl]
        have hnm : ((es.toList.modify j fun e => { e with key := .int .i64 i, val := v }).map (·.key)).Nodup := by
          have : (es.modify j fun e => { e with key := .int .i64 i, val := v }).toList.map (·.key) = es.toList.map (·.key) := MapKept.modify_keys j _ (fun y hy => by rw [hj] at hy; injection hy with hy; rw [← hy]; exact h3.symm)
          rw [Array.toList_modify] at this
          rw [this]; exact hn
        rw [lookE_at hnm (j := j) (e := { e with key := .int .i64 i, val := v }) (by rw [List.getElem?_modify, h2]; simp) rfl]
      · rw [if_neg hi, hf i, lookE_modify _ rfl h2 h3 hi]
theorem run_drop (mty kt et t2 : TypeId) (ts : Array TypeId) (hts : ts[0]? = some mty) (hm : P.underlying mty = some (.map kt et)) (hd : P.underlying kt = some (.int .i64)) {m : Nat} {f : Int → Option Value} (h : IMap w m f) (k : Int) :
    ∃ w', (Builtin.delete_ ts t2 #[.map (some m), .int .i64 k]).run P w = .ok (.tuple #[]) w' ∧ Chg [m] w w' ∧ IMap w' m (fun j => if j = k then none else f j) := by
  obtain ⟨es, clock, hb, hks, hn, hf⟩ := h.ex
  have hk : MapKept.IsKey (.int .i64) (.int .i64 k) := by simp [MapKept.IsKey]
  rcases MapKept.findNow_spec hk es.toList 0 hks with ⟨h1, h2⟩ | ⟨j, e, h1, h2, h3⟩
  · refine ⟨{ w with heap := w.heap.setIfInBounds m (.map es clock) }, ?_, chg_set _ _ _, _, _, (MapKept.heap_set hb).1, hks, hn, ?_⟩
    · simp [Builtin.delete_, hts, run_underlying hm, MapKept.run_getObj_map hb, MapKept.run_checkKey hd hk, MapKept.run_findKey hd h1, MapKept.run_setObj_map _ hb, Result.andThen]
    · intro i
      by_cases hi : i = k
      · subst hi; rw [if_pos rfl, lookE_none h2]
      · rw [if_neg hi, hf i]
  · have hj : j < es.size := by
      have := (List.getElem?_eq_some_iff.1 h2).1
      simpa using this
    have he : (es.eraseIdxIfInBounds j).toList = es.toList.eraseIdx j := by
      unfold Array.eraseIdxIfInBounds
      rw [dif_pos hj]
      simp
    refine ⟨{ w with heap := w.heap.setIfInBounds m (.map (es.eraseIdxIfInBounds j) clock) }, ?_, chg_set _ _ _, _, _, (MapKept.heap_set hb).1, ?_, ?_, ?_⟩
    · simp [Builtin.delete_, hts, run_underlying hm, MapKept.run_getObj_map hb, MapKept.run_checkKey hd hk, MapKept.run_findKey hd h1, MapKept.run_setObj_map _ hb, Result.andThen]
    · intro x hx
      rw [he] at hx
      exact hks x ((List.eraseIdx_sublist _ _).subset hx)
    · rw [he]
      exact ((List.eraseIdx_sublist _ _).map _).nodup hn
    · intro i
      rw [he]
      by_cases hi : i = k
      · subst hi; rw [if_pos rfl, lookE_erased hn h2 h3]
      · rw [if_neg hi, hf i, lookE_erase h2 h3 hi]
end
end Go.Proofs.Ytcnhjbipncledaa
