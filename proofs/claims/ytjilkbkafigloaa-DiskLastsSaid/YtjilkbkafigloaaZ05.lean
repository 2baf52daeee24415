/- Contracts of patch.Apply and patch.Undo at what may not be; of patch.Idle. Contracts of the reference's Apply and Undo at what may not be, of its Undo and Idle. Contract of the reference's Idle; few, of the statements. Contract of patch.All. Contract of the reference's All; some, of the statements. Loads from what is only read, in a region. Something that reads as a slice; calls on one of what is owned. Maps whose keys are ints: what is owned of one; the laws of its operations. The contracts of sorts, keys and clones at this program, laid in plain words. slices.Sort at ints and slices.Sorted(maps.Keys(m)) at the disk's map, by the shelf's contracts. What a disk's memory is: the program's and the reference's. may, Size, Versions, Lasting, Read of the program's disk. -/
import Derived.Test.YtjilkbkafigloaaZ04
import Derived.Test.YtjilkbkafigloaaZ02
import Derived.MapKept
import Derived.Laws.NewFold
import Derived.Test.YtjilkbkafigloaaChecked
import Derived.Shelf.SlIterI.Sorted
import Derived.Shelf.Slices.In.SortAlone
import Derived.Shelf.Slices.In.SortNone
import Derived.Shelf.SlMaps.Clone
import Derived.Lib.SortBridge
import Derived.WalkKit
import Derived.WalkLawsBesides
import Derived.WalkSpells
set_option linter.unusedVariables false
set_option linter.unusedSimpArgs false
set_option maxRecDepth 100000
namespace Go.Proofs.Ytjilkbkafigloaa.H
open Go.RowKit
def idleB (bs : List UInt8) (p : Pat) : Bool := decide (bs.length = 32) && rightB p && decide ((bs.drop p.off.toNat).take p.dat.size = p.dat.data.toList)
end Go.Proofs.Ytjilkbkafigloaa.H
set_option linter.unusedVariables false
set_option linter.unusedSimpArgs false
set_option maxRecDepth 100000
namespace Go.Proofs.Ytjilkbkafigloaa.H
open Go.RowKit
end Go.Proofs.Ytjilkbkafigloaa.H
set_option linter.unusedVariables false
set_option linter.unusedSimpArgs false
set_option maxRecDepth 100000
namespace Go.Proofs.Ytjilkbkafigloaa.H
open Go.RowKit
end Go.Proofs.Ytjilkbkafigloaa.H
set_option linter.unusedVariables false
set_option linter.unusedSimpArgs false
set_option maxRecDepth 100000
namespace Go.Proofs.Ytjilkbkafigloaa.H
open Go.RowKit
abbrev RdP (w : World) (v : Value) (ps : List Pat) : Prop := Rd w 3 v ps.length (cellsP ps)
/-- What holds at each round of All's loop. -/
def AllInv (L : List HP) (w0 : World) (g : Nat) (bs : List UInt8) (ps : List Pat) (k : Nat) (wr : World) : Prop :=
  (∀ p ∈ ps.take k, rightB p = true) ∧ Own wr (pts g (.cells (bcs (appAll bs (ps.take k))).toArray 5) :: L) ∧ Same w0 wr
/-- What All hands back. -/
def AllPost (L : List HP) (w0 : World) (bs : List UInt8) (ps : List Pat) (e : Ending) (w' : World) : Prop :=
  if (∀ p ∈ ps, rightB p = true) then RetX w0 (fun g => .tuple #[.slice (some ⟨g, 0, none⟩) 32 32, .int .i64 0]) (fun g => pts g (.cells (bcs (appAll bs ps)).toArray 5) :: L) e w'
  else Ret w0 (.tuple #[.slice none 0 0, .int .i64 3]) L e w'
end Go.Proofs.Ytjilkbkafigloaa.H
set_option linter.unusedVariables false
set_option linter.unusedSimpArgs false
set_option maxRecDepth 100000
namespace Go.Proofs.Ytjilkbkafigloaa.H
open Go.RowKit
theorem own_skip {w : World} {A B : HP} {L : List HP} (h : Own w (A :: B :: L)) : Own w (A :: L) := own_drop (own_perm h (List.Perm.swap _ _ _))
theorem owns_rdB {w : World} {L : List HP} {e m : Nat} {v : Value} {bs : List UInt8} (hm : m = bs.length) (h : Own w (owns e 1 v m (bcs bs) :: L)) : RdB w v bs := by
  subst hm
  exact owns_rd h
/-- What holds at each round of the reference's All. -/
def RAllInv (L : List HP) (w0 : World) (bs : List UInt8) (ps : List Pat) (v : Value) (k : Nat) (wr : World) : Prop :=
  (∀ p ∈ ps.take k, rightB p = true) ∧ Own wr (owns 5 1 v 32 (bcs (appAll bs (ps.take k))) :: L) ∧ Same w0 wr
/-- What the reference's All hands back. -/
def RAllPost (L : List HP) (w0 : World) (bs : List UInt8) (ps : List Pat) (e : Ending) (w' : World) : Prop :=
  if (∀ p ∈ ps, rightB p = true) then RetX w0 (fun v => .tuple #[v, .int .i64 0]) (fun v => owns 5 1 v 32 (bcs (appAll bs ps)) :: L) e w'
  else Ret w0 (.tuple #[.slice none 0 0, .int .i64 3]) L e w'
end Go.Proofs.Ytjilkbkafigloaa.H
set_option linter.unusedVariables false
set_option linter.unusedSimpArgs false
namespace Go.Proofs.Ytjilkbkafigloaa.H
open Go.RowKit
section
variable {P : Program} {ops : Array Oper} {C : World → Prop} {w : World}
theorem run_load1_at {T : TypeId} {ad : Addr} {v : Value} (hT : isRowB P T = some false) (hc : w.cell? ad = some v) :
    (Instr.loadAt T (.pointer (some ad))).run P w = .ok v w := by
  obtain ⟨d, hd, hr⟩ := underlying_row hT
  have hagg : (isAgg T).run P w = .ok false w := by
    unfold isAgg
    rw [Sem.run_bind, run_underlying hd w]
    cases d <;> simp_all
  simp [Instr.loadAt, Instr.sureAddr, loadVar, Sem.run_bind, hagg, load]
  simp only [Sem.run, hc]
theorem wv_load1_at {K : Act → Prop} {o : Oper} {ol : List Oper} {a : Act} {T : TypeId} {x : Operand} {ad : Addr} {v : Value} (hw : Region.wanted o (yielded ops a.tmps) = true) (ho : o.op = .load T x) (hx : a.eval x = .pointer (some ad))
    (hT : isRowB P T = some false) (hc : ∀ w, C w → w.cell? ad = some v) (h : wpVals P ops C K ol (a.put o.dst v)) : wpVals P ops C K (o :: ol) a := by
  refine wv_run hw (fun w hC => ?_) h
  simp only [execOp, ho, hx, Sem.run_bind, run_load1_at hT (hc w hC)]
  rfl
theorem wv_loadrow_at {K : Act → Prop} {o : Oper} {ol : List Oper} {a : Act} {T : TypeId} {x : Operand} {ad : Addr} {n : Nat} {vs : List Value} (hw : Region.wanted o (yielded ops a.tmps) = true) (ho : o.op = .load T x) (hx : a.eval x = .pointer (some ad))
    (hT : isRowB P T = some true) (hsz : (P.info? T).map (·.size) = some n) (hn : vs.length = n) (hc : ∀ w, C w → ∀ (j : Nat) (u : Value), vs[j]? = some u → w.cell? (ad.add j) = some u) (h : wpVals P ops C K ol (a.put o.dst (.agg vs.toArray))) : wpVals P ops C K (o :: ol) a := by
  refine wv_run hw (fun w hC => ?_) h
  simp only [execOp, ho, hx, Sem.run_bind, run_loadrow_at hT hsz hn (hc w hC)]
  rfl
end
end Go.Proofs.Ytjilkbkafigloaa.H
set_option linter.unusedVariables false
set_option linter.unusedSimpArgs false
namespace Go.Proofs.Ytjilkbkafigloaa.H
open Go.RowKit
/-- Something that reads as the slice v. -/
def rdA (size : Nat) (v : Value) (n : Nat) (xs : List Value) : HP := fun p q => ∀ w : World, p.le w → q.le w → Rd w size v n xs
theorem rdA_rd {w : World} {L : List HP} {size n : Nat} {v : Value} {xs : List Value} (h : Own w (rdA size v n xs :: L)) : Rd w size v n xs := by
  obtain ⟨p1, q1, p2, q2, hA, hB, h1, h2, _⟩ := own_cons.1 h
  exact hA w h1 h2
theorem own_rdA {w : World} {L : List HP} {A : HP} {size n : Nat} {v : Value} {xs : List Value} (hf : ∀ w', Own w' [A] → Rd w' size v n xs) (h : Own w (A :: L)) : Own w (rdA size v n xs :: L) := by
  obtain ⟨p1, q1, p2, q2, hA, hB, h1, h2, h3, h4, d1, d2, d3, d4, d5⟩ := own_cons.1 h
  refine own_cons.2 ⟨p1, q1, p2, q2, fun w' e1 e2 => hf w' ?_, hB, h1, h2, h3, h4, d1, d2, d3, d4, d5⟩
  exact own_cons.2 ⟨p1, q1, nul, nul, hA, ⟨rfl, rfl⟩, e1, e2, nul_le _, nul_le _, dis_nul _, dis_nul _, nul_dis _, d4, nul_dis _⟩
theorem rdA_owns {w : World} {L : List HP} {e : TypeId} {size n : Nat} {v : Value} {xs : List Value} (h : Own w (owns e size v n xs :: L)) : Own w (rdA size v n xs :: L) := own_rdA (fun w' h => owns_rd h) h
theorem rdA_nil {w : World} {L : List HP} {size : Nat} (h : Own w L) : Own w (rdA size (.slice none 0 0) 0 [] :: L) := own_rdA (A := emp) (fun w' _ => rd_nil _ _) (own_emp.2 h)
theorem rdA_pts {w : World} {L : List HP} {g : Nat} {T : TypeId} {bs : List UInt8} (hb : bs.length = 32) (h : Own w (pts g (.cells (bcs bs).toArray T) :: L)) : Own w (rdA 1 (.slice (some ⟨g, 0, none⟩) 32 32) 32 (bcs bs) :: L) :=
  own_rdA (fun w' h => rd_block (own_pts h) (by rw [Nat.mul_one, ← hb, ← bcs_length bs, List.take_length]) (by simp [bcs_length, hb]) (Nat.le_refl _) (by decide)) h
section
variable {P : Program} {w : World} {L : List HP} {f : FuncId} {args : Array Value} {A B : HP}
/-- A call that turns what stands at one place into something else. -/
theorem call_at {r : Value} (k : Nat) (h : ∀ L', Own w (A :: L') → Calls P f args w (Ret w r (B :: L'))) (hk : L[k]? = some A) (hO : Own w L) : Calls P f args w (Ret w r (L.set k B)) := by
  refine (h _ (own_at hO hk)).mono ?_
  rintro e w' ⟨rfl, hO', hS⟩
  exact ⟨rfl, own_back hO' (List.getElem?_eq_some_iff.1 hk).1, hS⟩
theorem call_atX {α : Type} {V : α → Value} {C : α → HP} (k : Nat) (h : ∀ L', Own w (A :: L') → Calls P f args w (RetX w V (fun v => C v :: B :: L'))) (hk : L[k]? = some A) (hO : Own w L) : Calls P f args w (RetX w V (fun v => C v :: L.set k B)) := by
  refine (h _ (own_at hO hk)).mono ?_
  rintro e w' ⟨v, rfl, hO', hS⟩
  refine ⟨v, rfl, own_perm hO' (List.Perm.cons _ (perm_set (List.getElem?_eq_some_iff.1 hk).1)), hS⟩
end
section
variable {P : Program} {ops : Array Oper} {rest : List Oper} {o : Oper} {a aF : Act} {Q : Exit → Act → World → Prop} {C : World → Prop} {w : World} {L : List HP}
theorem own_load1_at {T : TypeId} {x : Operand} {ad : Addr} {v : Value} (hw : Region.wanted o (yielded ops a.tmps) = true) (ho : o.op = .load T x) (hx : a.eval x = .pointer (some ad))
    (hT : isRowB P T = some false) (hc : w.cell? ad = some v) (h : wpList P ops Q rest (a.put o.dst v) w) : wpList P ops Q (o :: rest) a w := by
  refine ev hw ?_ h
  simp only [execOp, ho, hx, Sem.run_bind, run_load1_at hT hc]
  rfl
theorem y_string {src dst e : TypeId} {x : Operand} {v : Value} {n : Nat} {bs : List UInt8} (hw : Region.wanted o (yielded ops aF.tmps) = true) (ho : o.op = .convert src dst x) (hx : aF.eval x = v)
    (hs : P.underlying src = some (.slice e)) (he : P.underlying e = some (.int .u8)) (hd : P.underlying dst = some .string) (hn : n = bs.length) (hr : ∀ w, C w → Rd w 1 v n (bcs bs)) : YieldsIn P ops C o (.string (bstr bs)) aF := by
  refine y_run hw (fun w hC => ?_)
  simp only [execOp, ho, hx, Sem.run_bind, run_string hs he hd hn (hr w hC)]
  rfl
end
end Go.Proofs.Ytjilkbkafigloaa.H
set_option linter.unusedVariables false
set_option linter.unusedSimpArgs false
namespace Go.Proofs.Ytjilkbkafigloaa.H
open Go.RowKit
/-- The entries of a map's block are the list f, in order. -/
structure MapOk (es : Array MapEntry) (clock : Nat) (f : List (Int × Value)) : Prop where
  old : ∀ x ∈ es.toList, x.born < clock
  nodup : (es.toList.map (·.born)).Nodup
  keys : es.toList.map (fun e => (e.key, e.val)) = f.map fun q => (Value.int .i64 q.1, q.2)
  nod : (f.map (·.1)).Nodup
/-- Block b is a map with these keys and values. -/
def mapP (b : Nat) (f : List (Int × Value)) : HP := ex fun x : Array MapEntry × Nat => sep (pur (MapOk x.1 x.2 f)) (pts b (.map x.1 x.2))
theorem mapP_open {w : World} {L : List HP} {b : Nat} {f : List (Int × Value)} : Own w (mapP b f :: L) ↔ ∃ es clock, MapOk es clock f ∧ Own w (pts b (.map es clock) :: L) := by
  unfold mapP
  rw [own_ex]
  constructor
  · rintro ⟨x, h⟩
    rw [own_sep, own_pur] at h
    exact ⟨x.1, x.2, h.1, h.2⟩
  · rintro ⟨es, c, h1, h2⟩
    refine ⟨(es, c), ?_⟩
    rw [own_sep, own_pur]
    exact ⟨h1, h2⟩
def mget (f : List (Int × Value)) (k : Int) : Option Value := (f.find? fun q => decide (q.1 = k)).map (·.2)
def mset (f : List (Int × Value)) (k : Int) (v : Value) : List (Int × Value) := match f.findIdx? (fun q => decide (q.1 = k)) with
  | some i => f.set i (k, v)
  | none => f ++ [(k, v)]
def mdel (f : List (Int × Value)) (k : Int) : List (Int × Value) := f.filter fun q => decide (q.1 ≠ k)
theorem MapOk.size {es : Array MapEntry} {c : Nat} {f : List (Int × Value)} (h : MapOk es c f) : es.size = f.length := by
  have := congrArg List.length h.keys
  simpa using this
theorem MapOk.at_ {es : Array MapEntry} {c : Nat} {f : List (Int × Value)} (h : MapOk es c f) {j : Nat} {e : MapEntry} (he : es.toList[j]? = some e) : ∃ k, e.key = .int .i64 k ∧ f[j]? = some (k, e.val) := by
  have h1 : (es.toList.map (fun e => (e.key, e.val)))[j]? = some (e.key, e.val) := by rw [List.getElem?_map, he]; rfl
  rw [h.keys, List.getElem?_map] at h1
  cases hf : f[j]? with
  | none => rw [hf] at h1; cases h1
  | some q =>
    rw [hf] at h1
    simp at h1
    exact ⟨q.1, h1.1.symm, by rw [← h1.2]⟩
theorem nod_idx {f : List (Int × Value)} (hn : (f.map (·.1)).Nodup) {i j : Nat} {k : Int} {v v' : Value} (hi : f[i]? = some (k, v)) (hj : f[j]? = some (k, v')) : i = j ∧ v = v' := by
  have h1 : (f.map (·.1))[i]? = some k := by rw [List.getElem?_map, hi]; rfl
  have h2 : (f.map (·.1))[j]? = some k := by rw [List.getElem?_map, hj]; rfl
  obtain ⟨a1, a2⟩ := List.getElem?_eq_some_iff.1 h1
  obtain ⟨b1, b2⟩ := List.getElem?_eq_some_iff.1 h2
  have e : i = j := by
    rcases Nat.lt_trichotomy i j with h | h | h
    · exact absurd (a2.trans b2.symm) (List.pairwise_iff_getElem.1 hn i j a1 b1 h)
    · exact h
    · exact absurd (b2.trans a2.symm) (List.pairwise_iff_getElem.1 hn j i b1 a1 h)
  subst e
  rw [hi] at hj
  cases hj
  exact ⟨rfl, rfl⟩
theorem mget_at {f : List (Int × Value)} (hn : (f.map (·.1)).Nodup) {j : Nat} {k : Int} {v : Value} (hj : f[j]? = some (k, v)) : mget f k = some v := by
  unfold mget
  cases h : f.find? (fun q => decide (q.1 = k)) with
  | none =>
    have := List.find?_eq_none.1 h _ (List.mem_of_getElem? hj)
    simp at this
  | some q =>
    have h1 := List.find?_some h
    obtain ⟨i, hi⟩ := List.getElem?_of_mem (List.mem_of_find?_eq_some h)
    obtain ⟨q1, q2⟩ := q
    have h3 : q1 = k := by simpa using h1
    subst h3
    obtain ⟨_, rfl⟩ := nod_idx hn hi hj
    rfl
theorem mget_none {f : List (Int × Value)} {k : Int} (h : ∀ q ∈ f, q.1 ≠ k) : mget f k = none := by
  unfold mget
  rw [List.find?_eq_none.2 (fun q hq => by simpa using h q hq)]
  rfl
theorem mset_at {f : List (Int × Value)} (hn : (f.map (·.1)).Nodup) {j : Nat} {k : Int} {v v' : Value} (hj : f[j]? = some (k, v)) : mset f k v' = f.set j (k, v') := by
  unfold mset
  have : f.findIdx? (fun q => decide (q.1 = k)) = some j := by
    rw [List.findIdx?_eq_some_iff_getElem]
    obtain ⟨hl, he⟩ := List.getElem?_eq_some_iff.1 hj
    refine ⟨hl, by rw [he]; simp, fun i hi => ?_⟩
    simp only [decide_eq_true_eq]
    intro hk
    have hi2 : f[i]? = some (k, f[i].2) := by rw [List.getElem?_eq_getElem (by omega), ← hk]
    obtain ⟨e, _⟩ := nod_idx hn hi2 hj
    omega
  rw [this]
theorem mset_none {f : List (Int × Value)} {k : Int} {v' : Value} (h : ∀ q ∈ f, q.1 ≠ k) : mset f k v' = f ++ [(k, v')] := by
  unfold mset
  rw [List.findIdx?_eq_none_iff.2 (fun q hq => by simpa using h q hq)]
theorem mdel_at {f : List (Int × Value)} (hn : (f.map (·.1)).Nodup) {j : Nat} {k : Int} {v : Value} (hj : f[j]? = some (k, v)) : mdel f k = f.eraseIdx j := by
  induction f generalizing j with
  | nil => simp at hj
  | cons q f ih =>
    rw [List.map_cons, List.nodup_cons] at hn
    cases j with
    | zero =>
      have e : q = (k, v) := by simpa using hj
      subst e
      unfold mdel
      rw [List.filter_cons, if_neg (by simp), List.filter_eq_self.2]
      · rfl
      · intro x hx
        simp only [decide_eq_true_eq]
        intro e
        exact hn.1 (List.mem_map.2 ⟨x, hx, e⟩)
    | succ j =>
      have hj2 : f[j]? = some (k, v) := by simpa using hj
      have hne : q.1 ≠ k := fun e => hn.1 (by rw [e]; exact List.mem_map.2 ⟨(k, v), List.mem_of_getElem? hj2, rfl⟩)
      unfold mdel
      rw [List.filter_cons, if_pos (by simpa using hne)]
      show q :: mdel f k = _
      rw [ih hn.2 hj2]
      rfl
theorem mdel_none {f : List (Int × Value)} {k : Int} (h : ∀ q ∈ f, q.1 ≠ k) : mdel f k = f := List.filter_eq_self.2 (fun q hq => by simpa using h q hq)
theorem map_cases (f : List (Int × Value)) (k : Int) : (∃ (j : Nat) (v : Value), f[j]? = some (k, v)) ∨ ∀ q ∈ f, q.1 ≠ k := by
  by_cases h : ∃ q : Int × Value, q ∈ f ∧ q.1 = k
  · obtain ⟨q, hq, rfl⟩ := h
    obtain ⟨j, hj⟩ := List.getElem?_of_mem hq
    exact .inl ⟨j, q.2, hj⟩
  · exact .inr (fun q hq e => h ⟨q, hq, e⟩)
theorem map_find {es : Array MapEntry} {c : Nat} {f : List (Int × Value)} (h : MapOk es c f) (k : Int) :
    (Instr.findNow (.int .i64) (.int .i64 k) es.toList 0 = some none ∧ ∀ q ∈ f, q.1 ≠ k) ∨ ∃ j v, Instr.findNow (.int .i64) (.int .i64 k) es.toList 0 = some (some (j, v)) ∧ f[j]? = some (k, v) := by
  have hk : ∀ x ∈ es.toList, MapKept.IsKey (.int .i64) x.key := fun x hx => by
    obtain ⟨j, hj⟩ := List.getElem?_of_mem hx
    obtain ⟨k', e, _⟩ := h.at_ hj
    rw [e]
    exact rfl
  rcases MapKept.findNow_spec (d := .int .i64) (k := .int .i64 k) rfl es.toList 0 hk with ⟨h1, h2⟩ | ⟨j, e, h1, h2, h3⟩
  · refine .inl ⟨h1, fun q hq e => ?_⟩
    obtain ⟨j, hj⟩ := List.getElem?_of_mem hq
    have hl : j < es.toList.length := by rw [Array.length_toList, h.size]; exact (List.getElem?_eq_some_iff.1 hj).1
    obtain ⟨k', e1, e2⟩ := h.at_ (List.getElem?_eq_getElem hl)
    rw [hj] at e2
    have e3 : q.1 = k' := by cases e2; rfl
    exact h2 _ (List.getElem_mem hl) (by rw [e1, ← e3, e])
  · obtain ⟨k', e1, e2⟩ := h.at_ h2
    rw [h3] at e1
    cases e1
    exact .inr ⟨j, e.val, by rw [h1, Nat.zero_add], e2⟩
theorem nodup_set {f : List (Int × Value)} {j : Nat} {k : Int} {v v' : Value} (hj : f[j]? = some (k, v)) : (f.set j (k, v')).map (·.1) = f.map (·.1) := by
  rw [List.map_set]
  refine List.ext_getElem? (fun t => ?_)
  rw [List.getElem?_set]
  split
  · rename_i e
    subst e
    have hl := (List.getElem?_eq_some_iff.1 hj).1
    rw [if_pos (by rw [List.length_map]; exact hl), List.getElem?_map, hj]
    rfl
  · rfl
theorem MapOk.set {es : Array MapEntry} {c : Nat} {f : List (Int × Value)} (h : MapOk es c f) {j : Nat} {k : Int} {v v' : Value} (hj : f[j]? = some (k, v)) : MapOk (es.modify j fun e => { e with key := .int .i64 k, val := v' }) c (f.set j (k, v')) := by
  have hl : j < es.size := by rw [h.size]; exact (List.getElem?_eq_some_iff.1 hj).1
  have hmod : (es.modify j fun e => { e with key := .int .i64 k, val := v' }).toList = es.toList.modify j fun e => { e with key := .int .i64 k, val := v' } := by simp
  have hb : (es.modify j fun e => { e with key := .int .i64 k, val := v' }).toList.map (·.born) = es.toList.map (·.born) := by
    rw [hmod]
    refine List.ext_getElem? (fun t => ?_)
    rw [List.getElem?_map, List.getElem?_map, List.getElem?_modify]
    split <;> simp [Function.comp_def]
  refine ⟨fun x hx => ?_, by rw [hb]; exact h.nodup, ?_, by rw [nodup_set hj]; exact h.nod⟩
  · have : x.born ∈ es.toList.map (·.born) := by rw [← hb]; exact List.mem_map_of_mem hx
    obtain ⟨y, hy, e⟩ := List.mem_map.1 this
    rw [← e]; exact h.old y hy
  · rw [hmod, List.map_set, ← h.keys]
    refine List.ext_getElem? (fun t => ?_)
    rw [List.getElem?_map, List.getElem?_modify, List.getElem?_set]
    have hl' : j < es.toList.length := by simpa using hl
    by_cases e : j = t
    · subst e
      simp [List.getElem?_eq_getElem hl', hl]
    · simp [e]
theorem MapOk.push {es : Array MapEntry} {c : Nat} {f : List (Int × Value)} (h : MapOk es c f) {k : Int} {v : Value} (hk : ∀ q ∈ f, q.1 ≠ k) : MapOk (es.push { key := .int .i64 k, val := v, born := c }) (c + 1) (f ++ [(k, v)]) := by
  refine ⟨fun x hx => ?_, ?_, by simp [h.keys], ?_⟩
  · simp at hx
    rcases hx with hx | rfl
    · have := h.old x (by simpa using hx); omega
    · exact Nat.lt_succ_self _
  · simp only [Array.toList_push, List.map_append, List.map_cons, List.map_nil]
    rw [List.nodup_append]
    refine ⟨h.nodup, by simp, fun a ha b hb => ?_⟩
    simp at hb
    subst hb
    obtain ⟨y, hy, e⟩ := List.mem_map.1 ha
    have := h.old y hy
    omega
  · rw [List.map_append, List.nodup_append]
    refine ⟨h.nod, by simp, fun a ha b hb => ?_⟩
    simp at hb
    subst hb
    obtain ⟨y, hy, e⟩ := List.mem_map.1 ha
    rw [← e]
    exact hk y hy
theorem eraseIdx_map' {α β : Type} (g : α → β) : ∀ (l : List α) (j : Nat), (l.eraseIdx j).map g = (l.map g).eraseIdx j
  | [], _ => rfl
  | _ :: _, 0 => rfl
  | x :: l, j + 1 => by simp [eraseIdx_map' g l j]
theorem MapOk.erase {es : Array MapEntry} {c : Nat} {f : List (Int × Value)} (h : MapOk es c f) (j : Nat) : MapOk (es.eraseIdxIfInBounds j) c (f.eraseIdx j) := by
  have hl : (es.eraseIdxIfInBounds j).toList = es.toList.eraseIdx j := by simp
  refine ⟨fun x hx => ?_, ?_, ?_, ?_⟩
  · rw [hl] at hx
    exact h.old x ((List.eraseIdx_sublist _ _).subset hx)
  · rw [hl]
    exact List.Nodup.sublist (List.Sublist.map _ (List.eraseIdx_sublist _ _)) h.nodup
  · rw [hl, eraseIdx_map', h.keys, eraseIdx_map']
  · exact List.Nodup.sublist (List.Sublist.map _ (List.eraseIdx_sublist _ _)) h.nod
theorem mapOk_nil : MapOk #[] 0 [] := ⟨by simp, by simp, rfl, by simp⟩
section
variable {P : Program} {ops : Array Oper} {rest : List Oper} {o : Oper} {a aF : Act} {Q : Exit → Act → World → Prop} {C : World → Prop} {w : World} {L : List HP} {T K E : TypeId}
theorem run_mlookup {b : Nat} {f : List (Int × Value)} {es : Array MapEntry} {c : Nat} {k : Int} {z : Value} (ht : P.underlying T = some (.map K E)) (hK : P.underlying K = some (.int .i64)) (hz : (P.info? E).map (·.zero) = some (some z)) (hb : w.heap[b]? = some (.map es c)) (h : MapOk es c f) (ok : Bool) :
    (Instr.lookup T (.map (some b)) (.int .i64 k) ok).run P w = .ok (if ok then .tuple #[(mget f k).getD z, .bool (mget f k).isSome] else (mget f k).getD z) w := by
  have hck := MapKept.run_checkKey (P := P) (w := w) (kt := K) (d := .int .i64) (k := .int .i64 k) hK rfl es.isEmpty 9999
  obtain ⟨i, hi, hiz⟩ := Option.map_eq_some_iff.1 hz
  rcases map_find h k with ⟨h1, h2⟩ | ⟨j, v, h1, h2⟩
  · rw [mget_none h2]
    have hf := MapKept.run_findKey (P := P) (w := w) hK h1
    cases ok <;> simp [Instr.lookup, run_underlying ht, MapKept.run_getObj_map hb, hck, hf, zeroValue, typeInfo, hi, hiz]
  · rw [mget_at h.nod h2]
    have hf := MapKept.run_findKey (P := P) (w := w) hK h1
    cases ok <;> simp [Instr.lookup, run_underlying ht, MapKept.run_getObj_map hb, hck, hf]
theorem own_mlookup {xm xk : Operand} {b i : Nat} {f : List (Int × Value)} {k : Int} {z r : Value} (hw : Region.wanted o (yielded ops a.tmps) = true) (ho : o.op = .lookup T xm xk false) (hm : a.eval xm = .map (some b)) (hk : a.eval xk = .int .i64 k)
    (ht : P.underlying T = some (.map K E)) (hK : P.underlying K = some (.int .i64)) (hz : (P.info? E).map (·.zero) = some (some z)) (hO : Own w L) (hi : L[i]? = some (mapP b f)) (hr : (mget f k).getD z = r) (h : wpList P ops Q rest (a.put o.dst r) w) : wpList P ops Q (o :: rest) a w := by
  obtain ⟨es, c, h1, h2⟩ := mapP_open.1 (own_at hO hi)
  refine ev hw ?_ h
  simp only [execOp, ho, hm, hk, Sem.run_bind, run_mlookup ht hK hz (own_pts h2) h1 false, if_false, hr, Bool.false_eq_true]
  rfl
theorem y_mlookup {xm xk : Operand} {b : Nat} {f : List (Int × Value)} {k : Int} {z r : Value} (hw : Region.wanted o (yielded ops aF.tmps) = true) (ho : o.op = .lookup T xm xk false) (hm : aF.eval xm = .map (some b)) (hk : aF.eval xk = .int .i64 k)
    (ht : P.underlying T = some (.map K E)) (hK : P.underlying K = some (.int .i64)) (hz : (P.info? E).map (·.zero) = some (some z)) (hC : ∀ w, C w → ∃ L, Own w (mapP b f :: L)) (hr : (mget f k).getD z = r) : YieldsIn P ops C o r aF := by
  refine y_run hw (fun w hw' => ?_)
  obtain ⟨L, hO⟩ := hC w hw'
  obtain ⟨es, c, h1, h2⟩ := mapP_open.1 hO
  simp only [execOp, ho, hm, hk, Sem.run_bind, run_mlookup ht hK hz (own_pts h2) h1 false, if_false, hr, Bool.false_eq_true]
  rfl
theorem own_mkmap (hw : Region.wanted o (yielded ops a.tmps) = true) (ho : o.op = .makeMap T none) (hO : Own w L)
    (h : ∀ b w', Own w' (mapP b [] :: L) → Same w w' → wpList P ops Q rest (a.put o.dst (.map (some b))) w') : wpList P ops Q (o :: rest) a w := by
  refine ev (w1 := w.alloc (.map #[] 0)) (v := .map (some w.heap.size)) hw ?_ (h _ _ (mapP_open.2 ⟨_, _, mapOk_nil, own_alloc_new hO _⟩) (Same.alloc _ _))
  simp only [execOp, ho]
  rfl
theorem run_mset {b : Nat} {f : List (Int × Value)} {es : Array MapEntry} {c : Nat} {k : Int} {v : Value} (ht : P.underlying T = some (.map K E)) (hK : P.underlying K = some (.int .i64)) (hb : w.heap[b]? = some (.map es c)) (h : MapOk es c f) :
    ∃ es' c', MapOk es' c' (mset f k v) ∧ (Instr.mapUpdate T (.map (some b)) (.int .i64 k) v).run P w = .ok () { w with heap := w.heap.setIfInBounds b (.map es' c') } := by
  have hck := MapKept.run_checkKey (P := P) (w := w) (kt := K) (d := .int .i64) (k := .int .i64 k) hK rfl false 9999
  rcases map_find h k with ⟨h1, h2⟩ | ⟨j, v0, h1, h2⟩
  · have hf := MapKept.run_findKey (P := P) (w := w) hK h1
    refine ⟨_, _, mset_none h2 ▸ h.push h2, ?_⟩
    simp [Instr.mapUpdate, run_underlying ht, MapKept.run_getObj_map hb, hck, hf, MapKept.run_setObj_map _ hb]
  · have hf := MapKept.run_findKey (P := P) (w := w) hK h1
    refine ⟨_, _, mset_at h.nod h2 ▸ h.set h2, ?_⟩
    have hl : j < es.size := by rw [h.size]; exact (List.getElem?_eq_some_iff.1 h2).1
    obtain ⟨k', e1, e2⟩ := h.at_ (j := j) (e := es[j]) (by rw [Array.getElem?_toList, Array.getElem?_eq_getElem hl])
    rw [h2] at e2
    have ek : es[j].key = .int .i64 k := by cases e2; exact e1
    have hkeep : (Instr.keyThatStays (.int .i64 k) (.int .i64 k)).run P w = .ok (.int .i64 k) w := by
      unfold Instr.keyThatStays
      rw [if_pos (by simp [Instr.sameBits])]
      rfl
    have hes : ((es[j]?).map (·.key)).getD (.int .i64 k) = .int .i64 k := by rw [Array.getElem?_eq_getElem hl]; simp [ek]
    simp [Instr.mapUpdate, run_underlying ht, MapKept.run_getObj_map hb, hck, hf, hes, hkeep, MapKept.run_setObj_map _ hb]
theorem own_setObj {b : Nat} {o o' : Obj} (h : Own w (pts b o :: L)) : Own { w with heap := w.heap.setIfInBounds b o' } (pts b o' :: L) := by
  obtain ⟨h1, h2⟩ := MapKept.heap_set (w := w) (r := b) (o := o) (o' := o') (own_pts h)
  exact own_put h (fun i hi x hx => (h2 i hi).trans hx) h1
theorem Same.setObj (w : World) (b : Nat) (o : Obj) : Same w { w with heap := w.heap.setIfInBounds b o } := ⟨rfl, rfl, rfl, by simp⟩
theorem own_mset {xm xk xv : Operand} {b i : Nat} {f : List (Int × Value)} {k : Int} {v : Value} (hw : Region.wanted o (yielded ops a.tmps) = true) (ho : o.op = .mapUpdate T xm xk xv) (hm : a.eval xm = .map (some b)) (hk : a.eval xk = .int .i64 k) (hv : a.eval xv = v)
    (ht : P.underlying T = some (.map K E)) (hK : P.underlying K = some (.int .i64)) (hO : Own w L) (hi : L[i]? = some (mapP b f))
    (h : ∀ w', Own w' (L.set i (mapP b (mset f k v))) → Same w w' → wpList P ops Q rest (a.put o.dst undef) w') : wpList P ops Q (o :: rest) a w := by
  obtain ⟨es, c, h1, h2⟩ := mapP_open.1 (own_at hO hi)
  obtain ⟨es', c', h3, h4⟩ := run_mset (T := T) (K := K) (E := E) (v := v) (k := k) ht hK (own_pts h2) h1
  refine ev_skip (w1 := { w with heap := w.heap.setIfInBounds b (.map es' c') }) hw ?_ (h _ (own_back (mapP_open.2 ⟨es', c', h3, own_setObj h2⟩) (List.getElem?_eq_some_iff.1 hi).1) (Same.setObj _ _ _))
  simp only [execOp, ho, hm, hk, hv, Sem.run_bind, h4]
  rfl
theorem run_mdel {b : Nat} {f : List (Int × Value)} {es : Array MapEntry} {c : Nat} {k : Int} {ty : TypeId} {Tk : TypeId} (ht : P.underlying T = some (.map K E)) (hK : P.underlying K = some (.int .i64)) (hb : w.heap[b]? = some (.map es c)) (h : MapOk es c f) :
    ∃ es', MapOk es' c (mdel f k) ∧ (Builtin.delete_ #[T, Tk] ty #[.map (some b), .int .i64 k]).run P w = .ok (.tuple #[]) { w with heap := w.heap.setIfInBounds b (.map es' c) } := by
  have hck := MapKept.run_checkKey (P := P) (w := w) (kt := K) (d := .int .i64) (k := .int .i64 k) hK rfl es.isEmpty 9999
  rcases map_find h k with ⟨h1, h2⟩ | ⟨j, v0, h1, h2⟩
  · have hf := MapKept.run_findKey (P := P) (w := w) hK h1
    refine ⟨es, by rw [mdel_none h2]; exact h, ?_⟩
    simp [Builtin.delete_, run_underlying ht, MapKept.run_getObj_map hb, hck, hf, MapKept.run_setObj_map _ hb]
  · have hf := MapKept.run_findKey (P := P) (w := w) hK h1
    refine ⟨_, mdel_at h.nod h2 ▸ h.erase j, ?_⟩
    simp [Builtin.delete_, run_underlying ht, MapKept.run_getObj_map hb, hck, hf, MapKept.run_setObj_map _ hb]
theorem own_mdel {xm xk : Operand} {Tk : TypeId} {b i : Nat} {f : List (Int × Value)} {k : Int} (hw : Region.wanted o (yielded ops a.tmps) = true) (ho : o.op = .call { callee := .builtin .delete, args := #[xm, xk], argTypes := #[T, Tk] }) (hm : a.eval xm = .map (some b)) (hk : a.eval xk = .int .i64 k)
    (ht : P.underlying T = some (.map K E)) (hK : P.underlying K = some (.int .i64)) (hO : Own w L) (hi : L[i]? = some (mapP b f))
    (h : ∀ w', Own w' (L.set i (mapP b (mdel f k))) → Same w w' → wpList P ops Q rest (a.put o.dst (.tuple #[])) w') : wpList P ops Q (o :: rest) a w := by
  obtain ⟨es, c, h1, h2⟩ := mapP_open.1 (own_at hO hi)
  obtain ⟨es', h3, h4⟩ := run_mdel (T := T) (K := K) (E := E) (k := k) (ty := o.type) (Tk := Tk) ht hK (own_pts h2) h1
  refine ev (w1 := { w with heap := w.heap.setIfInBounds b (.map es' c) }) hw ?_ (h _ (own_back (mapP_open.2 ⟨es', c, h3, own_setObj h2⟩) (List.getElem?_eq_some_iff.1 hi).1) (Same.setObj _ _ _))
  simp only [execOp, ho]
  simp [resolve, invoke, builtin, hm, hk, h4, Result.andThen]
end
end Go.Proofs.Ytjilkbkafigloaa.H
namespace Go.Proofs
open Go.Shelf
def Try.laysSort_ren : Go.Shelf.Ren := ⟨fun | 189 => 49 | 125 => 53 | 257 => 52 | 128 => 63 | 129 => 64 | 294 => 54 | 295 => 55 | 296 => 56 | 297 => 57 | 298 => 58 | 299 => 59 | 216 => 60 | 300 => 61 | 301 => 62 | 328 => 65 | 329 => 66 | 330 => 67 | 331 => 68 | 332 => 69 | 215 => 70 | 343 => 71 | n => n, fun | 28 => 41 | 3 => 3 | 46 => 90 | 0 => 0 | 51 => 101 | 53 => 103 | 4 => 4 | 183 => 93 | 182 => 92 | 131 => 98 | 5 => 5 | 9 => 9 | 218 => 104 | 222 => 108 | 228 => 110 | 229 => 111 | n => n, fun | n => n⟩
theorem Try.laysSort : Go.Proofs.Lays.n189 Try.prog Try.laysSort_ren := {
  mixed := by kernel_rfl
  f125 := Try.func53.trans (congrArg some (by kernel_rfl))
  f128 := Try.func63.trans (congrArg some (by kernel_rfl))
  f129 := Try.func64.trans (congrArg some (by kernel_rfl))
  f189 := Try.func49.trans (congrArg some (by kernel_rfl))
  f215 := Try.func70.trans (congrArg some (by kernel_rfl))
  f216 := Try.func60.trans (congrArg some (by kernel_rfl))
  f257 := Try.func52.trans (congrArg some (by kernel_rfl))
  f294 := Try.func54.trans (congrArg some (by kernel_rfl))
  f295 := Try.func55.trans (congrArg some (by kernel_rfl))
  f296 := Try.func56.trans (congrArg some (by kernel_rfl))
  f297 := Try.func57.trans (congrArg some (by kernel_rfl))
  f298 := Try.func58.trans (congrArg some (by kernel_rfl))
  f299 := Try.func59.trans (congrArg some (by kernel_rfl))
  f300 := Try.func61.trans (congrArg some (by kernel_rfl))
  f301 := Try.func62.trans (congrArg some (by kernel_rfl))
  f328 := Try.func65.trans (congrArg some (by kernel_rfl))
  f329 := Try.func66.trans (congrArg some (by kernel_rfl))
  f330 := Try.func67.trans (congrArg some (by kernel_rfl))
  f331 := Try.func68.trans (congrArg some (by kernel_rfl))
  f332 := Try.func69.trans (congrArg some (by kernel_rfl))
  f343 := Try.func71.trans (congrArg some (by kernel_rfl))
  t0 := Try.underlying0
  a0 := Try.isAgg0
  z0 := Try.sizeOf0
  v0 := Try.zeroValue0
  t3 := Try.underlying3
  a3 := Try.isAgg3
  z3 := Try.sizeOf3
  v3 := Try.zeroValue3
  t4 := Try.underlying4
  a4 := Try.isAgg4
  z4 := Try.sizeOf4
  v4 := Try.zeroValue4
  t5 := Try.underlying5
  a5 := Try.isAgg5
  z5 := Try.sizeOf5
  v5 := Try.zeroValue5
  t9 := Try.underlying9
  a9 := Try.isAgg9
  z9 := Try.sizeOf9
  v9 := Try.zeroValue9
  t28 := Try.underlying41
  a28 := Try.isAgg41
  z28 := Try.sizeOf41
  v28 := Try.zeroValue41
  t46 := Try.underlying90
  a46 := Try.isAgg90
  z46 := Try.sizeOf90
  v46 := Try.zeroValue90
  t51 := Try.underlying101
  a51 := Try.isAgg101
  z51 := Try.sizeOf101
  v51 := Try.zeroValue101
  t53 := Try.underlying103
  a53 := Try.isAgg103
  z53 := Try.sizeOf103
  v53 := Try.zeroValue103
  t131 := Try.underlying98
  a131 := Try.isAgg98
  z131 := Try.sizeOf98
  v131 := Try.zeroValue98
  t182 := Try.underlying92
  a182 := Try.isAgg92
  z182 := Try.sizeOf92
  v182 := Try.zeroValue92
  t183 := Try.underlying93
  a183 := Try.isAgg93
  z183 := Try.sizeOf93
  v183 := Try.zeroValue93
  t218 := Try.underlying104
  a218 := Try.isAgg104
  z218 := Try.sizeOf104
  v218 := Try.zeroValue104
  t222 := Try.underlying108
  a222 := Try.isAgg108
  z222 := Try.sizeOf108
  v222 := Try.zeroValue108
  t228 := Try.underlying110
  a228 := Try.isAgg110
  z228 := Try.sizeOf110
  v228 := Try.zeroValue110
  t229 := Try.underlying111
  a229 := Try.isAgg111
  z229 := Try.sizeOf111
  v229 := Try.zeroValue111 }
def Try.keysA_ren : Go.Shelf.Ren := ⟨fun | 7 => 46 | 10 => 50 | n => n, fun | 23 => 63 | 26 => 3 | 3 => 23 | 28 => 82 | 0 => 0 | 27 => 81 | 33 => 86 | 4 => 4 | n => n, fun | n => n⟩
theorem Try.keysA : Go.Proofs.SlLaysZI.n7 Try.prog Try.keysA_ren := {
  mixed := by kernel_rfl
  f7 := ⟨Try.f46.name, by decide, Try.func46.trans (congrArg some (by kernel_rfl))⟩
  f10 := ⟨Try.f50.name, by decide, Try.func50.trans (congrArg some (by kernel_rfl))⟩
  t0 := Try.underlying0
  a0 := Try.isAgg0
  z0 := Try.sizeOf0
  v0 := Try.zeroValue0
  t4 := Try.underlying4
  a4 := Try.isAgg4
  z4 := Try.sizeOf4
  v4 := Try.zeroValue4
  t23 := Try.underlying63
  a23 := Try.isAgg63
  z23 := Try.sizeOf63
  v23 := Try.zeroValue63
  t26 := Try.underlying3
  a26 := Try.isAgg3
  z26 := Try.sizeOf3
  v26 := Try.zeroValue3
  t27 := Try.underlying81
  a27 := Try.isAgg81
  z27 := Try.sizeOf81
  v27 := Try.zeroValue81
  t28 := Try.underlying82
  a28 := Try.isAgg82
  z28 := Try.sizeOf82
  v28 := Try.zeroValue82
  t33 := Try.underlying86
  a33 := Try.isAgg86
  z33 := Try.sizeOf86
  v33 := Try.zeroValue86 }
def Try.sortedA_ren : Go.Shelf.Ren := ⟨fun | 6 => 45 | 8 => 48 | 9 => 49 | 11 => 51 | 13 => 53 | 12 => 52 | 23 => 63 | 24 => 64 | 14 => 54 | 15 => 55 | 16 => 56 | 17 => 57 | 18 => 58 | 19 => 59 | 20 => 60 | 21 => 61 | 22 => 62 | 25 => 65 | 26 => 66 | 27 => 67 | 28 => 68 | 29 => 69 | 30 => 70 | 31 => 71 | n => n, fun | 26 => 3 | 28 => 82 | 24 => 41 | 0 => 0 | 3 => 3 | 37 => 90 | 48 => 101 | 50 => 103 | 4 => 4 | 40 => 93 | 39 => 92 | 45 => 98 | 5 => 5 | 9 => 9 | 51 => 104 | 55 => 108 | 57 => 110 | 58 => 111 | 33 => 86 | n => n, fun | n => n⟩
theorem Try.sortedA : Go.Proofs.SlLaysZI.n6 Try.prog Try.sortedA_ren := {
  mixed := by kernel_rfl
  f6 := ⟨Try.f45.name, by decide, Try.func45.trans (congrArg some (by kernel_rfl))⟩
  f8 := ⟨Try.f48.name, by decide, Try.func48.trans (congrArg some (by kernel_rfl))⟩
  f11 := ⟨Try.f51.name, by decide, Try.func51.trans (congrArg some (by kernel_rfl))⟩
  t0 := Try.underlying0
  a0 := Try.isAgg0
  z0 := Try.sizeOf0
  v0 := Try.zeroValue0
  t24 := Try.underlying41
  a24 := Try.isAgg41
  z24 := Try.sizeOf41
  v24 := Try.zeroValue41
  t26 := Try.underlying3
  a26 := Try.isAgg3
  z26 := Try.sizeOf3
  v26 := Try.zeroValue3
  t28 := Try.underlying82
  a28 := Try.isAgg82
  z28 := Try.sizeOf82
  v28 := Try.zeroValue82
  i26 := by kernel_rfl }
def Try.cloneB_ren : Go.Shelf.Ren := ⟨fun | 5 => 39 | 7 => 47 | n => n, fun | 23 => 64 | 25 => 3 | 3 => 4 | 4 => 4 | 20 => 20 | n => n, fun | n => n⟩
theorem Try.cloneB : Go.Proofs.SlLaysW.n5 Try.prog Try.cloneB_ren := {
  mixed := by kernel_rfl
  f5 := ⟨Try.f39.name, by decide, Try.func39.trans (congrArg some (by kernel_rfl))⟩
  f7 := Try.func47.trans (congrArg some (by kernel_rfl))
  t4 := Try.underlying4
  a4 := Try.isAgg4
  z4 := Try.sizeOf4
  v4 := Try.zeroValue4
  t20 := Try.underlying20
  a20 := Try.isAgg20
  z20 := Try.sizeOf20
  v20 := Try.zeroValue20
  t23 := Try.underlying64
  a23 := Try.isAgg64
  z23 := Try.sizeOf64
  v23 := Try.zeroValue64 }
end Go.Proofs
set_option linter.unusedVariables false
set_option linter.unusedSimpArgs false
namespace Go.Proofs
open Go.RowKit Go.Maps Go.Sort Go.Shelf
namespace Ytjilkbkafigloaa.H
/-- A contract inside a fence of whatever depth is one. -/
theorem calls_of_in {l : List Nat} {n : Nat} {P : Program} {f : FuncId} {args : Array Value} {w : World} {R : Ending → World → Prop} (h : ∀ D, CallsIn (Fence.list l (some D)) n P f args w R) : Calls P f args w R := fun cs =>
  let ⟨e, w', fr, r, s, x⟩ := (h (cs.length + 1 + n)).2 cs (fun d hd => by cases hd; exact Nat.le_refl _)
  ⟨e, w', fr, r, s.comes, x⟩
theorem sortsA (m : Nat) : AnyZI.SortsIn Try.prog Try.sortedA_ren Fence.wide m :=
  ⟨fun blk off cap ss W hH hblk hsz => callsIn_wide.2 (calls_of_in fun D => AnyS.slices_Sort_int_alone Try.laysSort D blk off cap ss W hH hblk hsz),
   fun p cap W => callsIn_wide.2 (calls_of_in fun D => AnyS.slices_Sort_int_none_alone Try.laysSort D p cap W)⟩
/-- A new slice that a kit's contract hands over. -/
theorem owns_new {w w' : World} {L : List HP} {e size n : Nat} {v : Value} {xs : List Value} (hO : Own w L) (hr : w'.ownsRow w.heap.size e size v n xs) (hb : Below w.heap.size w w') : Own w' (owns e size v n xs :: L) := by
  have keep : ∀ (i : Nat) (x : Obj), w.heap[i]? = some x → w'.heap[i]? = some x := fun i x h => (hb.block i (Array.getElem?_eq_some_iff.1 h).1).trans h
  obtain ⟨hl, ⟨rfl, rfl⟩ | ⟨g, cap, cur, rfl, hg, hh, h1, h2, h3, h4⟩⟩ := hr
  · rw [Nat.zero_mul, List.length_eq_zero_iff] at hl
    subst hl
    exact owns_nil (own_heap hO keep)
  · exact owns_of_pts (own_new hO keep hg hh) h3 h1 h2 h4
theorem same_below {w w' : World} {b : Nat} (h : Below b w w') : Same w w' := ⟨h.os, h.tape, h.output, h.size⟩
def unitR : Value → Option (DataW Unit × List MemPlace) := fun _ => some (.nil, [])
def inI (k : Int) : Prop := (Lit.int .i64 k).wf = true
theorem mapP_owns {P : Program} {T : TypeId} {w : World} {L : List HP} {b : Nat} {f : List (Int × Value)} (hT : P.underlying T = some (.int .i64)) (h : Own w (mapP b f :: L)) (hk : ∀ q ∈ f, inI q.1) (hm : f.length ≤ maxLen) :
    ∃ D0 : DataW Unit, w.ownsMap P T unitR b f.length D0 ∧ (intKeys D0).Perm (f.map (·.1)) ∧ Maps.size D0 = f.length := by
  obtain ⟨es, clock, hM, hO⟩ := mapP_open.1 h
  have rd_ : ∀ x ∈ es.toList, ∃ k : Int, x.key = .int .i64 k ∧ WideElems.rd P T unitR x = some (.int .i64 k, .nil) := fun x hx => by
    obtain ⟨j, hj⟩ := List.getElem?_of_mem hx
    obtain ⟨k, e1, e2⟩ := hM.at_ hj
    refine ⟨k, e1, ?_⟩
    have hw := hk _ (List.mem_of_getElem? e2)
    unfold inI at hw
    simp [WideElems.rd, unitR, e1, keyOf, hT, mapKey, hw]
  have hs : es.size = f.length := hM.size
  refine ⟨_, ⟨es, clock, own_pts hO, ⟨by omega, ⟨hM.old, hM.nodup, ?_⟩, fun x hx => let ⟨k, _, e⟩ := rd_ x hx; ⟨_, e⟩⟩, by omega, rfl⟩, ?_, ?_⟩
  · have e1 : es.toList.map (·.key) = f.map fun q => Value.int .i64 q.1 := by
      have := congrArg (List.map Prod.fst) hM.keys
      simpa [List.map_map, Function.comp_def] using this
    rw [e1]
    have h2 := hM.nod
    exact List.pairwise_map.2 ((List.pairwise_map.1 h2).imp fun hne e => hne (by injection e))
  · show ((List.foldr DataW.insert [] (List.map (WideElems.rg P T unitR) es.toList)).map fun p => Go.intOf p.1).Perm _
    refine ((WideShapes.sorted_perm _).map _).trans ?_
    rw [List.map_map]
    have e1 : es.toList.map (((fun p : Lit × DataW Unit => Go.intOf p.1)) ∘ WideElems.rg P T unitR) = f.map (·.1) := by
      have e2 : f.map (·.1) = es.toList.map fun e => (match e.key with | .int _ k => k | _ => 0) := by
        have := congrArg (List.map fun q : Value × Value => (match q.1 with | .int _ k => k | _ => 0)) hM.keys
        simpa [List.map_map, Function.comp_def] using this.symm
      rw [e2]
      refine List.map_congr_left fun x hx => ?_
      obtain ⟨k, h1, h2⟩ := rd_ x hx
      simp [WideElems.rg, h2, h1, Go.intOf]
    rw [e1]
  · show (List.foldr DataW.insert [] (List.map (WideElems.rg P T unitR) es.toList)).length = _
    rw [(WideShapes.sorted_perm _).length_eq, List.length_map, Array.length_toList, hs]
/-- maps.Keys. -/
theorem keys_run {w : World} {L : List HP} {b : Nat} (hO : Own w L) : Calls Try.prog 46 #[.map (some b)] w (RetX w (fun g : Nat => .func (.func 50) #[] #[.pointer (some ⟨g, 0, none⟩)]) (fun g => pts g (.cells #[.map (some b)] 63) :: L)) := by
  have h := (callsIn_wide (n := 5)).1 (AnyZI.keys_in Try.keysA Fence.wide 5 trivial rfl (some b) w)
  refine h.mono ?_
  rintro e w' ⟨rfl, rfl⟩
  exact ⟨w.heap.size, rfl, own_alloc_new hO _, (same_below ((Below.refl _ w).alloc (Nat.le_refl _) _))⟩
/-- The keys, rising. -/
def rising (l : List Int) : List Int := l.mergeSort fun x y => decide (x ≤ y)
theorem rising_perm {l l' : List Int} (h : l.Perm l') : rising l = rising l' := mergeSort_of_perm_i h
/-- slices.Sorted of a map's keys. -/
theorem sorted_run {w : World} {L : List HP} {b g : Nat} {f : List (Int × Value)} (hO : Own w (pts g (.cells #[.map (some b)] 63) :: mapP b f :: L)) (hk : ∀ q ∈ f, inI q.1) (hm : f.length ≤ 100000) :
    Calls Try.prog 45 #[.func (.func 50) #[] #[.pointer (some ⟨g, 0, none⟩)]] w (RetX w (fun v : Value => v) (fun v => owns 3 1 v f.length ((rising (f.map (·.1))).map encZ) :: mapP b f :: L)) := by
  obtain ⟨D0, h1, h2, h3⟩ := mapP_owns (P := Try.prog) (T := 3) (by kernel_rfl) (own_drop hO) hk (by simp only [maxLen]; omega)
  have hcell : w.cell? ⟨g, 0, none⟩ = some (.map (some b)) := own_cell 0 0 hO rfl rfl
  have hg : g < w.heap.size := World.block_lt_of_cell? _ _ hcell
  have hseq : SeqGives Fence.wide 2 Try.prog 50 #[.pointer (some ⟨g, 0, none⟩)] encZ (fun ss => ss.Perm (intKeys D0)) (Maps.size D0) w :=
    AnyZI.keys_gives (ρ := Try.keysA_ren) { Try.keysA with } Fence.wide _ trivial rfl (by omega) g b f.length D0 _ hg hcell h1
  have cS := AnyZI.sorted_in Try.sortedA Fence.wide 5 trivial trivial trivial trivial rfl (by omega) (sortsA _) (enters_of Try.func49 (by kernel_rfl) rfl) 50 #[.pointer (some ⟨g, 0, none⟩)] trivial (enters_of Try.func50 (by kernel_rfl) rfl) _ _ (by simp only [maxLen]; omega) (by omega) _ hseq
  refine (callsIn_wide.1 cS).mono ?_
  rintro e w' ⟨v, ss, rfl, hS, hrow, hnil, hb⟩
  have hp := hS.trans h2
  have hl : ss.length = f.length := by rw [hp.length_eq, List.length_map]
  have e1 : ss.mergeSort (fun x y => decide (x ≤ y)) = rising (f.map (·.1)) := rising_perm hp
  rw [e1, hl] at hrow
  exact ⟨v, rfl, owns_new (own_drop hO) hrow hb, same_below hb⟩
end Ytjilkbkafigloaa.H
end Go.Proofs
#print axioms Go.Proofs.Ytjilkbkafigloaa.H.sorted_run
#print axioms Go.Proofs.Ytjilkbkafigloaa.H.sortsA
set_option linter.unusedVariables false
set_option linter.unusedSimpArgs false
set_option maxRecDepth 100000
namespace Go.Proofs.Ytjilkbkafigloaa.H
open Go.RowKit
/-- A sector. -/
abbrev Sec := List UInt8
/-- A block: what lasts, its versions that do not, whether it is bad. -/
structure Blk where
  s : Sec
  vs : List Sec
  bad : Bool
def secs (l : List Sec) : List Value := l.flatMap bcs
theorem secs_length {l : List Sec} (h : ∀ s ∈ l, s.length = 32) : (secs l).length = l.length * 32 := by
  induction l with
  | nil => rfl
  | cons s l ih =>
    have e : secs (s :: l) = bcs s ++ secs l := rfl
    rw [e, List.length_append, ih (fun x hx => h x (List.mem_cons_of_mem _ hx)), bcs_length, h s (List.mem_cons_self ..), List.length_cons]
    omega
theorem secs_append (l l' : List Sec) : secs (l ++ l') = secs l ++ secs l' := List.flatMap_append
theorem secs_at {l : List Sec} (h : ∀ s ∈ l, s.length = 32) : ∀ {k : Nat} {s : Sec}, l[k]? = some s → ∀ {j : Nat} {u : Value}, (bcs s)[j]? = some u → (secs l)[k * 32 + j]? = some u := by
  induction l with
  | nil => intro k s hk; simp at hk
  | cons s0 l ih =>
    intro k s hk j u hu
    have e : secs (s0 :: l) = bcs s0 ++ secs l := rfl
    have h0 : (bcs s0).length = 32 := by rw [bcs_length, h s0 (List.mem_cons_self ..)]
    rw [e]
    cases k with
    | zero =>
      have es : s0 = s := by simpa using hk
      subst es
      rw [Nat.zero_mul, Nat.zero_add, List.getElem?_append_left (List.getElem?_eq_some_iff.1 hu).1]
      exact hu
    | succ k =>
      rw [List.getElem?_append_right (by omega), h0, show (k + 1) * 32 + j - 32 = k * 32 + j by omega]
      exact ih (fun x hx => h x (List.mem_cons_of_mem _ hx)) (by simpa using hk) hu
/-- Something that reads as these slices of sectors. -/
def rdV (l : List (Value × List Sec)) : HP := fun p q => ∀ w : World, p.le w → q.le w → ∀ x ∈ l, Rd w 32 x.1 x.2.length (secs x.2)
section
variable {w : World} {L : List HP} {l l' : List (Value × List Sec)}
theorem rdV_rd (h : Own w (rdV l :: L)) {x : Value × List Sec} (hx : x ∈ l) : Rd w 32 x.1 x.2.length (secs x.2) := by
  obtain ⟨p1, q1, p2, q2, hA, hB, h1, h2, _⟩ := own_cons.1 h
  exact hA w h1 h2 x hx
theorem rdV_nil (h : Own w L) : Own w (rdV [] :: L) := own_head (own_emp.2 h) (fun _ _ _ _ _ _ _ _ x hx => by simp at hx)
theorem rdV_cons {v : Value} {ss : List Sec} (h : Own w (rdA 32 v ss.length (secs ss) :: rdV l :: L)) : Own w (rdV ((v, ss) :: l) :: L) := by
  refine own_head (own_sep.2 h) (fun p q hp hq hA => ?_)
  obtain ⟨p1, q1, p2, q2, h1, h2, d1, d2, d3, a, rfl, rfl⟩ := hA
  intro w' e1 e2 x hx
  rcases List.mem_cons.1 hx with rfl | hx
  · exact h1 w' (mrg_le e1) (mrg_le e2)
  · exact h2 w' (mrg_le_right d1.agr e1) (mrg_le_right a e2) x hx
theorem rdV_sub (h : Own w (rdV l :: L)) (hs : ∀ x ∈ l', x ∈ l) : Own w (rdV l' :: L) := own_head h (fun p q _ _ hA w' e1 e2 x hx => hA w' e1 e2 x (hs x hx))
end
/-- What the disk's maps say of its blocks. -/
structure DiskOk (m : List Blk) (fv fb : List (Int × Value)) (l : List (Value × List Sec)) : Prop where
  len : m.length ≤ 96
  s32 : ∀ b ∈ m, b.s.length = 32
  v32 : ∀ b ∈ m, ∀ s ∈ b.vs, s.length = 32
  keyv : ∀ q ∈ fv, ∃ (i : Nat) (b : Blk), m[i]? = some b ∧ q.1 = i ∧ b.vs ≠ []
  vers : ∀ (i : Nat) (b : Blk), m[i]? = some b → ∃ A c, (mget fv i).getD (.slice none 0 0) = .slice A b.vs.length c ∧ ((.slice A b.vs.length c, b.vs) ∈ l)
  keyb : ∀ q ∈ fb, ∃ i : Nat, i < m.length ∧ q.1 = i
  bads : ∀ (i : Nat) (b : Blk), m[i]? = some b → (mget fb i).getD (.bool false) = .bool b.bad
/-- Block d is a disk of these blocks. -/
def diskX (d : Nat) (m : List Blk) (lv : Value) (bv bb : Nat) (fv fb : List (Int × Value)) (l : List (Value × List Sec)) : HP :=
  sep (pur (DiskOk m fv fb l)) (seps [pts d (.cells #[lv, .map (some bv), .map (some bb)] 66), owns 26 32 lv m.length (secs (m.map (·.s))), mapP bv fv, mapP bb fb, rdV l])
def diskP (d : Nat) (m : List Blk) : HP := ex fun lv => ex fun bv => ex fun bb => ex fun fv => ex fun fb => ex fun l => diskX d m lv bv bb fv fb l
theorem disk_open {w : World} {L : List HP} {d : Nat} {m : List Blk} : Own w (diskP d m :: L) ↔ ∃ lv bv bb fv fb l, DiskOk m fv fb l ∧ Own w (pts d (.cells #[lv, .map (some bv), .map (some bb)] 66) :: owns 26 32 lv m.length (secs (m.map (·.s))) :: mapP bv fv :: mapP bb fb :: rdV l :: L) := by
  unfold diskP diskX
  simp only [own_ex, own_sep, own_pur, own_seps, List.cons_append, List.nil_append]
/-- The reference's. -/
def rblk (v : Value) (b : Blk) : List Value := bcs b.s ++ [v, .bool b.bad]
end Go.Proofs.Ytjilkbkafigloaa.H
set_option linter.unusedVariables false
set_option linter.unusedSimpArgs false
set_option maxRecDepth 100000
namespace Go.Proofs.Ytjilkbkafigloaa.H
open Go.RowKit
theorem row_secs : isRowB Try.prog 23 = some false := by kernel_rfl
theorem row_mv : isRowB Try.prog 63 = some false := by kernel_rfl
theorem row_mb : isRowB Try.prog 64 = some false := by kernel_rfl
theorem row_sec : isRowB Try.prog 26 = some true := by kernel_rfl
theorem sz_sec : (Try.prog.info? 26).map (·.size) = some 32 := by kernel_rfl
theorem und_mv : Try.prog.underlying 63 = some (.map 3 23) := by kernel_rfl
theorem und_mb : Try.prog.underlying 64 = some (.map 3 4) := by kernel_rfl
theorem und_i : Try.prog.underlying 3 = some (.int .i64) := by kernel_rfl
theorem zero_secs : (Try.prog.info? 23).map (·.zero) = some (some (.slice none 0 0)) := by kernel_rfl
theorem zero_b : (Try.prog.info? 4).map (·.zero) = some (some (.bool false)) := by kernel_rfl
theorem zero_sec : (Try.prog.info? 26).map (·.zero) = some (some (.agg (Array.replicate 32 (.int .u8 0)))) := by kernel_rfl
section
variable (w : World) (L : List HP) (d : Nat) (m : List Blk)
theorem may_nil (i : Int) (hO : Own w L) : Calls Try.prog 36 #[.pointer none, .int .i64 i] w (Ret w (.int .i64 1) L) := by
  go_enter Try.func36, Try.ntmps36
  go_wp2
  go_ret
  exact ⟨rfl, hO, Same.refl _⟩
theorem may_ok (i : Nat) (b : Blk) (hO : Own w (diskP d m :: L)) (hi : m[i]? = some b) : Calls Try.prog 36 #[.pointer (some ⟨d, 0, none⟩), .int .i64 i] w (Ret w (.int .i64 0) (diskP d m :: L)) := by
  have hO0 := hO
  obtain ⟨lv, bv, bb, fv, fb, l, hk, hO⟩ := disk_open.1 hO
  have hK := Lib.hid hO0
  have hl : i < m.length := (List.getElem?_eq_some_iff.1 hi).1
  obtain ⟨A, c, rfl⟩ := (owns_rd (own_at hO (k := 1) rfl)).slice
  have h1 : ¬ ((i : Int) < 0) := by omega
  have h2 : ¬ ((m.length : Int) ≤ i) := by omega
  clear hO0 hk hi
  go_enter Try.func36, Try.ntmps36
  go_wp2_with (first | (apply own_load1 rfl rfl rfl; (first | exact row_secs | exact row_mv | exact row_mb); (first | exact own_get 0 hO rfl | exact own_get 1 hO rfl | exact own_get 2 hO rfl | exact own_get 3 hO rfl | exact own_get 4 hO rfl | exact own_get 5 hO rfl | exact own_get 6 hO rfl | exact own_get 7 hO rfl); (first | (simp only [List.getElem?_toArray, List.getElem?_cons_succ, List.getElem?_cons_zero]; rfl) | rfl)))
  go_ret
  exact ⟨rfl, hK.out, Same.refl _⟩
theorem may_no (i : Int) (hO : Own w (diskP d m :: L)) (hi : i < 0 ∨ (m.length : Int) ≤ i) : Calls Try.prog 36 #[.pointer (some ⟨d, 0, none⟩), .int .i64 i] w (Ret w (.int .i64 2) (diskP d m :: L)) := by
  have hO0 := hO
  obtain ⟨lv, bv, bb, fv, fb, l, hk, hO⟩ := disk_open.1 hO
  have hK := Lib.hid hO0
  obtain ⟨A, c, rfl⟩ := (owns_rd (own_at hO (k := 1) rfl)).slice
  clear hO0 hk
  rcases hi with h1 | h2
  · go_enter Try.func36, Try.ntmps36
    go_wp2_with (first | (apply own_load1 rfl rfl rfl; (first | exact row_secs | exact row_mv | exact row_mb); (first | exact own_get 0 hO rfl | exact own_get 1 hO rfl | exact own_get 2 hO rfl | exact own_get 3 hO rfl | exact own_get 4 hO rfl | exact own_get 5 hO rfl | exact own_get 6 hO rfl | exact own_get 7 hO rfl); (first | (simp only [List.getElem?_toArray, List.getElem?_cons_succ, List.getElem?_cons_zero]; rfl) | rfl)))
    go_ret
    exact ⟨rfl, hK.out, Same.refl _⟩
  · have h1 : ¬ (i < 0) := by omega
    go_enter Try.func36, Try.ntmps36
    go_wp2_with (first | (apply own_load1 rfl rfl rfl; (first | exact row_secs | exact row_mv | exact row_mb); (first | exact own_get 0 hO rfl | exact own_get 1 hO rfl | exact own_get 2 hO rfl | exact own_get 3 hO rfl | exact own_get 4 hO rfl | exact own_get 5 hO rfl | exact own_get 6 hO rfl | exact own_get 7 hO rfl); (first | (simp only [List.getElem?_toArray, List.getElem?_cons_succ, List.getElem?_cons_zero]; rfl) | rfl)))
    go_ret
    exact ⟨rfl, hK.out, Same.refl _⟩
theorem size_nil (hO : Own w L) : Calls Try.prog 27 #[.pointer none] w (Ret w (.int .i64 0) L) := by
  go_enter Try.func27, Try.ntmps27
  go_wp2
  go_ret
  exact ⟨rfl, hO, Same.refl _⟩
theorem size_c (hO : Own w (diskP d m :: L)) : Calls Try.prog 27 #[.pointer (some ⟨d, 0, none⟩)] w (Ret w (.int .i64 m.length) (diskP d m :: L)) := by
  have hO0 := hO
  obtain ⟨lv, bv, bb, fv, fb, l, hk, hO⟩ := disk_open.1 hO
  have hK := Lib.hid hO0
  obtain ⟨A, c, rfl⟩ := (owns_rd (own_at hO (k := 1) rfl)).slice
  clear hO0 hk
  go_enter Try.func27, Try.ntmps27
  go_wp2_with (first | (apply own_load1 rfl rfl rfl; (first | exact row_secs | exact row_mv | exact row_mb); (first | exact own_get 0 hO rfl | exact own_get 1 hO rfl | exact own_get 2 hO rfl | exact own_get 3 hO rfl | exact own_get 4 hO rfl | exact own_get 5 hO rfl | exact own_get 6 hO rfl | exact own_get 7 hO rfl); (first | (simp only [List.getElem?_toArray, List.getElem?_cons_succ, List.getElem?_cons_zero]; rfl) | rfl)))
  go_ret
  exact ⟨rfl, hK.out, Same.refl _⟩
/-- The versions of the i-th. -/
def vsAt (m : List Blk) (i : Int) : Nat := if 0 ≤ i then ((m[i.toNat]?).map (·.vs.length)).getD 0 else 0
theorem mget_vs {m : List Blk} {fv fb : List (Int × Value)} {l : List (Value × List Sec)} (hk : DiskOk m fv fb l) (i : Int) : ∃ A c, (mget fv i).getD (.slice none 0 0) = .slice A (vsAt m i) c := by
  unfold vsAt
  by_cases h0 : 0 ≤ i
  · rw [if_pos h0]
    cases hm : m[i.toNat]? with
    | none =>
      refine ⟨none, 0, ?_⟩
      rw [mget_none (fun q hq e => ?_)]
      · rfl
      · obtain ⟨j, b, h1, h2, _⟩ := hk.keyv q hq
        have : i.toNat = j := by omega
        rw [this, h1] at hm
        cases hm
    | some b =>
      obtain ⟨A, c, h1, _⟩ := hk.vers _ b hm
      rw [Int.toNat_of_nonneg h0] at h1
      exact ⟨A, c, h1⟩
  · rw [if_neg h0]
    refine ⟨none, 0, ?_⟩
    rw [mget_none (fun q hq e => ?_)]
    · rfl
    · obtain ⟨j, b, h1, h2, _⟩ := hk.keyv q hq
      omega
theorem versions_nil (i : Int) (hO : Own w L) : Calls Try.prog 22 #[.pointer none, .int .i64 i] w (Ret w (.int .i64 0) L) := by
  go_enter Try.func22, Try.ntmps22
  go_wp2
  go_ret
  exact ⟨rfl, hO, Same.refl _⟩
theorem versions_c (i : Int) (hO : Own w (diskP d m :: L)) : Calls Try.prog 22 #[.pointer (some ⟨d, 0, none⟩), .int .i64 i] w (Ret w (.int .i64 (vsAt m i)) (diskP d m :: L)) := by
  have hO0 := hO
  obtain ⟨lv, bv, bb, fv, fb, l, hk, hO⟩ := disk_open.1 hO
  have hK := Lib.hid hO0
  obtain ⟨A, c, hv⟩ := mget_vs hk i
  have HV := Lib.hid hv
  clear hO0 hk hv
  go_enter Try.func22, Try.ntmps22
  go_wp2_with (first | (apply own_load1 rfl rfl rfl; (first | exact row_secs | exact row_mv | exact row_mb); (first | exact own_get 0 hO rfl | exact own_get 1 hO rfl | exact own_get 2 hO rfl | exact own_get 3 hO rfl | exact own_get 4 hO rfl | exact own_get 5 hO rfl | exact own_get 6 hO rfl | exact own_get 7 hO rfl); (first | (simp only [List.getElem?_toArray, List.getElem?_cons_succ, List.getElem?_cons_zero]; rfl) | rfl)) | (refine own_mlookup (i := 2) (b := bv) (k := i) (f := fv) rfl rfl rfl rfl und_mv und_i zero_secs hO rfl HV.out ?_))
  go_ret
  exact ⟨rfl, hK.out, Same.refl _⟩
end
end Go.Proofs.Ytjilkbkafigloaa.H
