/- Maps whose keys are ints: what is owned of one; the laws of its operations. -/
import Derived.Test.YtjilkbkafigloaaH13
import Derived.MapKept
import Derived.Laws.NewFold
set_option linter.unusedVariables false
set_option linter.unusedSimpArgs false
namespace Go.Proofs.Ytjilkbkafigloaa.H
open Go.RowKit
/-- The entries of a map's block are the list f, in order. -/
structure MapOk (es : Array MapEntry) (clock : Nat) (f : List (Int × Value)) : Prop where
  old : ∀ x ∈ es.toList, x.born < clock
  nodup : (es.toList.map (·.born)).Nodup
  keys : es.toList.map (fun e => (e.key, e.val)) = f.map fun q => (Value.int .i64 q.1, q.2)
  nod : (f.map (·.1)).Nodup
/-- Block b is a map with these keys and values. -/
def mapP (b : Nat) (f : List (Int × Value)) : HP := ex fun x : Array MapEntry × Nat => sep (pur (MapOk x.1 x.2 f)) (pts b (.map x.1 x.2))
theorem mapP_open {w : World} {L : List HP} {b : Nat} {f : List (Int × Value)} : Own w (mapP b f :: L) ↔ ∃ es clock, MapOk es clock f ∧ Own w (pts b (.map es clock) :: L) := by
  unfold mapP
  rw [own_ex]
  constructor
  · rintro ⟨x, h⟩
    rw [own_sep, own_pur] at h
    exact ⟨x.1, x.2, h.1, h.2⟩
  · rintro ⟨es, c, h1, h2⟩
    refine ⟨(es, c), ?_⟩
    rw [own_sep, own_pur]
    exact ⟨h1, h2⟩
def mget (f : List (Int × Value)) (k : Int) : Option Value := (f.find? fun q => decide (q.1 = k)).map (·.2)
def mset (f : List (Int × Value)) (k : Int) (v : Value) : List (Int × Value) := match f.findIdx? (fun q => decide (q.1 = k)) with
  | some i => f.set i (k, v)
  | none => f ++ [(k, v)]
def mdel (f : List (Int × Value)) (k : Int) : List (Int × Value) := f.filter fun q => decide (q.1 ≠ k)
theorem MapOk.size {es : Array MapEntry} {c : Nat} {f : List (Int × Value)} (h : MapOk es c f) : es.size = f.length := by
  have := congrArg List.length h.keys
  simpa using this
theorem MapOk.at_ {es : Array MapEntry} {c : Nat} {f : List (Int × Value)} (h : MapOk es c f) {j : Nat} {e : MapEntry} (he : es.toList[j]? = some e) : ∃ k, e.key = .int .i64 k ∧ f[j]? = some (k, e.val) := by
  have h1 : (es.toList.map (fun e => (e.key, e.val)))[j]? = some (e.key, e.val) := by rw [List.getElem?_map, he]; rfl
  rw [h.keys, List.getElem?_map] at h1
  cases hf : f[j]? with
  | none => rw [hf] at h1; cases h1
  | some q =>
    rw [hf] at h1
    simp at h1
    exact ⟨q.1, h1.1.symm, by rw [← h1.2]⟩
theorem nod_idx {f : List (Int × Value)} (hn : (f.map (·.1)).Nodup) {i j : Nat} {k : Int} {v v' : Value} (hi : f[i]? = some (k, v)) (hj : f[j]? = some (k, v')) : i = j ∧ v = v' := by
  have h1 : (f.map (·.1))[i]? = some k := by rw [List.getElem?_map, hi]; rfl
  have h2 : (f.map (·.1))[j]? = some k := by rw [List.getElem?_map, hj]; rfl
  obtain ⟨a1, a2⟩ := List.getElem?_eq_some_iff.1 h1
  obtain ⟨b1, b2⟩ := List.getElem?_eq_some_iff.1 h2
  have e : i = j := by
    rcases Nat.lt_trichotomy i j with h | h | h
    · exact absurd (a2.trans b2.symm) (List.pairwise_iff_getElem.1 hn i j a1 b1 h)
    · exact h
    · exact absurd (b2.trans a2.symm) (List.pairwise_iff_getElem.1 hn j i b1 a1 h)
  subst e
  rw [hi] at hj
  cases hj
  exact ⟨rfl, rfl⟩
theorem mget_at {f : List (Int × Value)} (hn : (f.map (·.1)).Nodup) {j : Nat} {k : Int} {v : Value} (hj : f[j]? = some (k, v)) : mget f k = some v := by
  unfold mget
  cases h : f.find? (fun q => decide (q.1 = k)) with
  | none =>
    have := List.find?_eq_none.1 h _ (List.mem_of_getElem? hj)
    simp at this
  | some q =>
    have h1 := List.find?_some h
    obtain ⟨i, hi⟩ := List.getElem?_of_mem (List.mem_of_find?_eq_some h)
    obtain ⟨q1, q2⟩ := q
    have h3 : q1 = k := by simpa using h1
    subst h3
    obtain ⟨_, rfl⟩ := nod_idx hn hi hj
    rfl
theorem mget_none {f : List (Int × Value)} {k : Int} (h : ∀ q ∈ f, q.1 ≠ k) : mget f k = none := by
  unfold mget
  rw [List.find?_eq_none.2 (fun q hq => by simpa using h q hq)]
  rfl
theorem mset_at {f : List (Int × Value)} (hn : (f.map (·.1)).Nodup) {j : Nat} {k : Int} {v v' : Value} (hj : f[j]? = some (k, v)) : mset f k v' = f.set j (k, v') := by
  unfold mset
  have : f.findIdx? (fun q => decide (q.1 = k)) = some j := by
    rw [List.findIdx?_eq_some_iff_getElem]
    obtain ⟨hl, he⟩ := List.getElem?_eq_some_iff.1 hj
    refine ⟨hl, by rw [he]; simp, fun i hi => ?_⟩
    simp only [decide_eq_true_eq]
    intro hk
    have hi2 : f[i]? = some (k, f[i].2) := by rw [List.getElem?_eq_getElem (by omega), ← hk]
    obtain ⟨e, _⟩ := nod_idx hn hi2 hj
    omega
  rw [this]
theorem mset_none {f : List (Int × Value)} {k : Int} {v' : Value} (h : ∀ q ∈ f, q.1 ≠ k) : mset f k v' = f ++ [(k, v')] := by
  unfold mset
  rw [List.findIdx?_eq_none_iff.2 (fun q hq => by simpa using h q hq)]
theorem mdel_at {f : List (Int × Value)} (hn : (f.map (·.1)).Nodup) {j : Nat} {k : Int} {v : Value} (hj : f[j]? = some (k, v)) : mdel f k = f.eraseIdx j := by
  induction f generalizing j with
  | nil => simp at hj
  | cons q f ih =>
    rw [List.map_cons, List.nodup_cons] at hn
    cases j with
    | zero =>
      have e : q = (k, v) := by simpa using hj
      subst e
      unfold mdel
      rw [List.filter_cons, if_neg (by simp), List.filter_eq_self.2]
      · rfl
      · intro x hx
        simp only [decide_eq_true_eq]
        intro e
        exact hn.1 (List.mem_map.2 ⟨x, hx, e⟩)
    | succ j =>
      have hj2 : f[j]? = some (k, v) := by simpa using hj
      have hne : q.1 ≠ k := fun e => hn.1 (by rw [e]; exact List.mem_map.2 ⟨(k, v), List.mem_of_getElem? hj2, rfl⟩)
      unfold mdel
      rw [List.filter_cons, if_pos (by simpa using hne)]
      show q :: mdel f k = _
      rw [ih hn.2 hj2]
      rfl
theorem mdel_none {f : List (Int × Value)} {k : Int} (h : ∀ q ∈ f, q.1 ≠ k) : mdel f k = f := List.filter_eq_self.2 (fun q hq => by simpa using h q hq)
theorem map_cases (f : List (Int × Value)) (k : Int) : (∃ (j : Nat) (v : Value), f[j]? = some (k, v)) ∨ ∀ q ∈ f, q.1 ≠ k := by
  by_cases h : ∃ q : Int × Value, q ∈ f ∧ q.1 = k
  · obtain ⟨q, hq, rfl⟩ := h
    obtain ⟨j, hj⟩ := List.getElem?_of_mem hq
    exact .inl ⟨j, q.2, hj⟩
  · exact .inr (fun q hq e => h ⟨q, hq, e⟩)
theorem map_find {es : Array MapEntry} {c : Nat} {f : List (Int × Value)} (h : MapOk es c f) (k : Int) :
    (Instr.findNow (.int .i64) (.int .i64 k) es.toList 0 = some none ∧ ∀ q ∈ f, q.1 ≠ k) ∨ ∃ j v, Instr.findNow (.int .i64) (.int .i64 k) es.toList 0 = some (some (j, v)) ∧ f[j]? = some (k, v) := by
  have hk : ∀ x ∈ es.toList, MapKept.IsKey (.int .i64) x.key := fun x hx => by
    obtain ⟨j, hj⟩ := List.getElem?_of_mem hx
    obtain ⟨k', e, _⟩ := h.at_ hj
    rw [e]
    exact rfl
  rcases MapKept.findNow_spec (d := .int .i64) (k := .int .i64 k) rfl es.toList 0 hk with ⟨h1, h2⟩ | ⟨j, e, h1, h2, h3⟩
  · refine .inl ⟨h1, fun q hq e => ?_⟩
    obtain ⟨j, hj⟩ := List.getElem?_of_mem hq
    have hl : j < es.toList.length := by rw [Array.length_toList, h.size]; exact (List.getElem?_eq_some_iff.1 hj).1
    obtain ⟨k', e1, e2⟩ := h.at_ (List.getElem?_eq_getElem hl)
    rw [hj] at e2
    have e3 : q.1 = k' := by cases e2; rfl
    exact h2 _ (List.getElem_mem hl) (by rw [e1, ← e3, e])
  · obtain ⟨k', e1, e2⟩ := h.at_ h2
    rw [h3] at e1
    cases e1
    exact .inr ⟨j, e.val, by rw [h1, Nat.zero_add], e2⟩
theorem nodup_set {f : List (Int × Value)} {j : Nat} {k : Int} {v v' : Value} (hj : f[j]? = some (k, v)) : (f.set j (k, v')).map (·.1) = f.map (·.1) := by
  rw [List.map_set]
  refine List.ext_getElem? (fun t => ?_)
  rw [List.getElem?_set]
  split
  · rename_i e
    subst e
    have hl := (List.getElem?_eq_some_iff.1 hj).1
    rw [if_pos (by rw [List.length_map]; exact hl), List.getElem?_map, hj]
    rfl
  · rfl
theorem MapOk.set {es : Array MapEntry} {c : Nat} {f : List (Int × Value)} (h : MapOk es c f) {j : Nat} {k : Int} {v v' : Value} (hj : f[j]? = some (k, v)) : MapOk (es.modify j fun e => { e with key := .int .i64 k, val := v' }) c (f.set j (k, v')) := by
  have hl : j < es.size := by rw [h.size]; exact (List.getElem?_eq_some_iff.1 hj).1
  have hmod : (es.modify j fun e => { e with key := .int .i64 k, val := v' }).toList = es.toList.modify j fun e => { e with key := .int .i64 k, val := v' } := by simp
  have hb : (es.modify j fun e => { e with key := .int .i64 k, val := v' }).toList.map (·.born) = es.toList.map (·.born) := by
    rw [hmod]
    refine List.ext_getElem? (fun t => ?_)
    rw [List.getElem?_map, List.getElem?_map, List.getElem?_modify]
    split <;> simp [Function.comp_def]
  refine ⟨fun x hx => ?_, by rw [hb]; exact h.nodup, ?_, by rw [nodup_set hj]; exact h.nod⟩
  · have : x.born ∈ es.toList.map (·.born) := by rw [← hb]; exact List.mem_map_of_mem hx
    obtain ⟨y, hy, e⟩ := List.mem_map.1 this
    rw [← e]; exact h.old y hy
  · rw [hmod, List.map_set, ← h.keys]
    refine List.ext_getElem? (fun t => ?_)
    rw [List.getElem?_map, List.getElem?_modify, List.getElem?_set]
    have hl' : j < es.toList.length := by simpa using hl
    by_cases e : j = t
    · subst e
      simp [List.getElem?_eq_getElem hl', hl]
    · simp [e]
theorem MapOk.push {es : Array MapEntry} {c : Nat} {f : List (Int × Value)} (h : MapOk es c f) {k : Int} {v : Value} (hk : ∀ q ∈ f, q.1 ≠ k) : MapOk (es.push { key := .int .i64 k, val := v, born := c }) (c + 1) (f ++ [(k, v)]) := by
  refine ⟨fun x hx => ?_, ?_, by simp [h.keys], ?_⟩
  · simp at hx
    rcases hx with hx | rfl
    · have := h.old x (by simpa using hx); omega
    · exact Nat.lt_succ_self _
  · simp only [Array.toList_push, List.map_append, List.map_cons, List.map_nil]
    rw [List.nodup_append]
    refine ⟨h.nodup, by simp, fun a ha b hb => ?_⟩
    simp at hb
    subst hb
    obtain ⟨y, hy, e⟩ := List.mem_map.1 ha
    have := h.old y hy
    omega
  · rw [List.map_append, List.nodup_append]
    refine ⟨h.nod, by simp, fun a ha b hb => ?_⟩
    simp at hb
    subst hb
    obtain ⟨y, hy, e⟩ := List.mem_map.1 ha
    rw [← e]
    exact hk y hy
theorem eraseIdx_map' {α β : Type} (g : α → β) : ∀ (l : List α) (j : Nat), (l.eraseIdx j).map g = (l.map g).eraseIdx j
  | [], _ => rfl
  | _ :: _, 0 => rfl
  | x :: l, j + 1 => by simp [eraseIdx_map' g l j]
theorem MapOk.erase {es : Array MapEntry} {c : Nat} {f : List (Int × Value)} (h : MapOk es c f) (j : Nat) : MapOk (es.eraseIdxIfInBounds j) c (f.eraseIdx j) := by
  have hl : (es.eraseIdxIfInBounds j).toList = es.toList.eraseIdx j := by simp
  refine ⟨fun x hx => ?_, ?_, ?_, ?_⟩
  · rw [hl] at hx
    exact h.old x ((List.eraseIdx_sublist _ _).subset hx)
  · rw [hl]
    exact List.Nodup.sublist (List.Sublist.map _ (List.eraseIdx_sublist _ _)) h.nodup
  · rw [hl, eraseIdx_map', h.keys, eraseIdx_map']
  · exact List.Nodup.sublist (List.Sublist.map _ (List.eraseIdx_sublist _ _)) h.nod
theorem mapOk_nil : MapOk #[] 0 [] := ⟨by simp, by simp, rfl, by simp⟩
section
variable {P : Program} {ops : Array Oper} {rest : List Oper} {o : Oper} {a aF : Act} {Q : Exit → Act → World → Prop} {C : World → Prop} {w : World} {L : List HP} {T K E : TypeId}
theorem run_mlookup {b : Nat} {f : List (Int × Value)} {es : Array MapEntry} {c : Nat} {k : Int} {z : Value} (ht : P.underlying T = some (.map K E)) (hK : P.underlying K = some (.int .i64)) (hz : (P.info? E).map (·.zero) = some (some z)) (hb : w.heap[b]? = some (.map es c)) (h : MapOk es c f) (ok : Bool) :
    (Instr.lookup T (.map (some b)) (.int .i64 k) ok).run P w = .ok (if ok then .tuple #[(mget f k).getD z, .bool (mget f k).isSome] else (mget f k).getD z) w := by
  have hck := MapKept.run_checkKey (P := P) (w := w) (kt := K) (d := .int .i64) (k := .int .i64 k) hK rfl es.isEmpty 9999
  obtain ⟨i, hi, hiz⟩ := Option.map_eq_some_iff.1 hz
  rcases map_find h k with ⟨h1, h2⟩ | ⟨j, v, h1, h2⟩
  · rw [mget_none h2]
    have hf := MapKept.run_findKey (P := P) (w := w) hK h1
    cases ok <;> simp [Instr.lookup, run_underlying ht, MapKept.run_getObj_map hb, hck, hf, zeroValue, typeInfo, hi, hiz]
  · rw [mget_at h.nod h2]
    have hf := MapKept.run_findKey (P := P) (w := w) hK h1
    cases ok <;> simp [Instr.lookup, run_underlying ht, MapKept.run_getObj_map hb, hck, hf]
theorem own_mlookup {xm xk : Operand} {b i : Nat} {f : List (Int × Value)} {k : Int} {z r : Value} (hw : Region.wanted o (yielded ops a.tmps) = true) (ho : o.op = .lookup T xm xk false) (hm : a.eval xm = .map (some b)) (hk : a.eval xk = .int .i64 k)
    (ht : P.underlying T = some (.map K E)) (hK : P.underlying K = some (.int .i64)) (hz : (P.info? E).map (·.zero) = some (some z)) (hO : Own w L) (hi : L[i]? = some (mapP b f)) (hr : (mget f k).getD z = r) (h : wpList P ops Q rest (a.put o.dst r) w) : wpList P ops Q (o :: rest) a w := by
  obtain ⟨es, c, h1, h2⟩ := mapP_open.1 (own_at hO hi)
  refine ev hw ?_ h
  simp only [execOp, ho, hm, hk, Sem.run_bind, run_mlookup ht hK hz (own_pts h2) h1 false, if_false, hr, Bool.false_eq_true]
  rfl
theorem y_mlookup {xm xk : Operand} {b : Nat} {f : List (Int × Value)} {k : Int} {z r : Value} (hw : Region.wanted o (yielded ops aF.tmps) = true) (ho : o.op = .lookup T xm xk false) (hm : aF.eval xm = .map (some b)) (hk : aF.eval xk = .int .i64 k)
    (ht : P.underlying T = some (.map K E)) (hK : P.underlying K = some (.int .i64)) (hz : (P.info? E).map (·.zero) = some (some z)) (hC : ∀ w, C w → ∃ L, Own w (mapP b f :: L)) (hr : (mget f k).getD z = r) : YieldsIn P ops C o r aF := by
  refine y_run hw (fun w hw' => ?_)
  obtain ⟨L, hO⟩ := hC w hw'
  obtain ⟨es, c, h1, h2⟩ := mapP_open.1 hO
  simp only [execOp, ho, hm, hk, Sem.run_bind, run_mlookup ht hK hz (own_pts h2) h1 false, if_false, hr, Bool.false_eq_true]
  rfl
theorem own_mkmap (hw : Region.wanted o (yielded ops a.tmps) = true) (ho : o.op = .makeMap T none) (hO : Own w L)
    (h : ∀ b w', Own w' (mapP b [] :: L) → Same w w' → wpList P ops Q rest (a.put o.dst (.map (some b))) w') : wpList P ops Q (o :: rest) a w := by
  refine ev (w1 := w.alloc (.map #[] 0)) (v := .map (some w.heap.size)) hw ?_ (h _ _ (mapP_open.2 ⟨_, _, mapOk_nil, own_alloc_new hO _⟩) (Same.alloc _ _))
  simp only [execOp, ho]
  rfl
theorem run_mset {b : Nat} {f : List (Int × Value)} {es : Array MapEntry} {c : Nat} {k : Int} {v : Value} (ht : P.underlying T = some (.map K E)) (hK : P.underlying K = some (.int .i64)) (hb : w.heap[b]? = some (.map es c)) (h : MapOk es c f) :
    ∃ es' c', MapOk es' c' (mset f k v) ∧ (Instr.mapUpdate T (.map (some b)) (.int .i64 k) v).run P w = .ok () { w with heap := w.heap.setIfInBounds b (.map es' c') } := by
  have hck := MapKept.run_checkKey (P := P) (w := w) (kt := K) (d := .int .i64) (k := .int .i64 k) hK rfl false 9999
  rcases map_find h k with ⟨h1, h2⟩ | ⟨j, v0, h1, h2⟩
  · have hf := MapKept.run_findKey (P := P) (w := w) hK h1
    refine ⟨_, _, mset_none h2 ▸ h.push h2, ?_⟩
    simp [Instr.mapUpdate, run_underlying ht, MapKept.run_getObj_map hb, hck, hf, MapKept.run_setObj_map _ hb]
  · have hf := MapKept.run_findKey (P := P) (w := w) hK h1
    refine ⟨_, _, mset_at h.nod h2 ▸ h.set h2, ?_⟩
    have hl : j < es.size := by rw [h.size]; exact (List.getElem?_eq_some_iff.1 h2).1
    obtain ⟨k', e1, e2⟩ := h.at_ (j := j) (e := es[j]) (by rw [Array.getElem?_toList, Array.getElem?_eq_getElem hl])
    rw [h2] at e2
    have ek : es[j].key = .int .i64 k := by cases e2; exact e1
    have hkeep : (Instr.keyThatStays (.int .i64 k) (.int .i64 k)).run P w = .ok (.int .i64 k) w := by
      unfold Instr.keyThatStays
      rw [if_pos (by simp [Instr.sameBits])]
      rfl
    have hes : ((es[j]?).map (·.key)).getD (.int .i64 k) = .int .i64 k := by rw [Array.getElem?_eq_getElem hl]; simp [ek]
    simp [Instr.mapUpdate, run_underlying ht, MapKept.run_getObj_map hb, hck, hf, hes, hkeep, MapKept.run_setObj_map _ hb]
theorem own_setObj {b : Nat} {o o' : Obj} (h : Own w (pts b o :: L)) : Own { w with heap := w.heap.setIfInBounds b o' } (pts b o' :: L) := by
  obtain ⟨h1, h2⟩ := MapKept.heap_set (w := w) (r := b) (o := o) (o' := o') (own_pts h)
  exact own_put h (fun i hi x hx => (h2 i hi).trans hx) h1
theorem Same.setObj (w : World) (b : Nat) (o : Obj) : Same w { w with heap := w.heap.setIfInBounds b o } := ⟨rfl, rfl, rfl, by simp⟩
theorem own_mset {xm xk xv : Operand} {b i : Nat} {f : List (Int × Value)} {k : Int} {v : Value} (hw : Region.wanted o (yielded ops a.tmps) = true) (ho : o.op = .mapUpdate T xm xk xv) (hm : a.eval xm = .map (some b)) (hk : a.eval xk = .int .i64 k) (hv : a.eval xv = v)
    (ht : P.underlying T = some (.map K E)) (hK : P.underlying K = some (.int .i64)) (hO : Own w L) (hi : L[i]? = some (mapP b f))
    (h : ∀ w', Own w' (L.set i (mapP b (mset f k v))) → Same w w' → wpList P ops Q rest (a.put o.dst undef) w') : wpList P ops Q (o :: rest) a w := by
  obtain ⟨es, c, h1, h2⟩ := mapP_open.1 (own_at hO hi)
  obtain ⟨es', c', h3, h4⟩ := run_mset (T := T) (K := K) (E := E) (v := v) (k := k) ht hK (own_pts h2) h1
  refine ev_skip (w1 := { w with heap := w.heap.setIfInBounds b (.map es' c') }) hw ?_ (h _ (own_back (mapP_open.2 ⟨es', c', h3, own_setObj h2⟩) (List.getElem?_eq_some_iff.1 hi).1) (Same.setObj _ _ _))
  simp only [execOp, ho, hm, hk, hv, Sem.run_bind, h4]
  rfl
theorem run_mdel {b : Nat} {f : List (Int × Value)} {es : Array MapEntry} {c : Nat} {k : Int} {ty : TypeId} {Tk : TypeId} (ht : P.underlying T = some (.map K E)) (hK : P.underlying K = some (.int .i64)) (hb : w.heap[b]? = some (.map es c)) (h : MapOk es c f) :
    ∃ es', MapOk es' c (mdel f k) ∧ (Builtin.delete_ #[T, Tk] ty #[.map (some b), .int .i64 k]).run P w = .ok (.tuple #[]) { w with heap := w.heap.setIfInBounds b (.map es' c) } := by
  have hck := MapKept.run_checkKey (P := P) (w := w) (kt := K) (d := .int .i64) (k := .int .i64 k) hK rfl es.isEmpty 9999
  rcases map_find h k with ⟨h1, h2⟩ | ⟨j, v0, h1, h2⟩
  · have hf := MapKept.run_findKey (P := P) (w := w) hK h1
    refine ⟨es, by rw [mdel_none h2]; exact h, ?_⟩
    simp [Builtin.delete_, run_underlying ht, MapKept.run_getObj_map hb, hck, hf, MapKept.run_setObj_map _ hb]
  · have hf := MapKept.run_findKey (P := P) (w := w) hK h1
    refine ⟨_, mdel_at h.nod h2 ▸ h.erase j, ?_⟩
    simp [Builtin.delete_, run_underlying ht, MapKept.run_getObj_map hb, hck, hf, MapKept.run_setObj_map _ hb]
theorem own_mdel {xm xk : Operand} {Tk : TypeId} {b i : Nat} {f : List (Int × Value)} {k : Int} (hw : Region.wanted o (yielded ops a.tmps) = true) (ho : o.op = .call { callee := .builtin .delete, args := #[xm, xk], argTypes := #[T, Tk] }) (hm : a.eval xm = .map (some b)) (hk : a.eval xk = .int .i64 k)
    (ht : P.underlying T = some (.map K E)) (hK : P.underlying K = some (.int .i64)) (hO : Own w L) (hi : L[i]? = some (mapP b f))
    (h : ∀ w', Own w' (L.set i (mapP b (mdel f k))) → Same w w' → wpList P ops Q rest (a.put o.dst (.tuple #[])) w') : wpList P ops Q (o :: rest) a w := by
  obtain ⟨es, c, h1, h2⟩ := mapP_open.1 (own_at hO hi)
  obtain ⟨es', h3, h4⟩ := run_mdel (T := T) (K := K) (E := E) (k := k) (ty := o.type) (Tk := Tk) ht hK (own_pts h2) h1
  refine ev (w1 := { w with heap := w.heap.setIfInBounds b (.map es' c) }) hw ?_ (h _ (own_back (mapP_open.2 ⟨es', c, h3, own_setObj h2⟩) (List.getElem?_eq_some_iff.1 hi).1) (Same.setObj _ _ _))
  simp only [execOp, ho]
  simp [resolve, invoke, builtin, hm, hk, h4, Result.andThen]
end
end Go.Proofs.Ytjilkbkafigloaa.H
