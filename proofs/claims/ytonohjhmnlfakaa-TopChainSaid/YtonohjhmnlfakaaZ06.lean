/- Contract of patch.Overlap. Contracts of patch.Undo and patch.Idle. Contracts of patch.Apply and patch.Undo at what may not be; of patch.Idle. Contracts of the reference's Apply and Undo at what may not be, of its Undo and Idle. Contract of the reference's Idle; few, of the statements. Contract of patch.All. Contract of the reference's All; some, of the statements. Loads from what is only read, in a region. Something that reads as a slice; calls on one of what is owned. Maps whose keys are ints: what is owned of one; the laws of its operations. The contracts of sorts, keys and clones at this program, laid in plain words. -/
import Derived.Test.YtonohjhmnlfakaaZ05
import Derived.Test.YtonohjhmnlfakaaZ02
import Derived.MapKept
import Derived.Laws.NewFold
import Derived.Test.YtonohjhmnlfakaaChecked
import Derived.Shelf.SlIterI.Sorted
import Derived.Shelf.Slices.In.SortAlone
import Derived.Shelf.Slices.In.SortNone
import Derived.Shelf.SlMaps.Clone
import Derived.Lib.SortBridge
set_option linter.unusedVariables false
set_option linter.unusedSimpArgs false
set_option maxRecDepth 100000
namespace Go.Proofs.Ytonohjhmnlfakaa.H
open Go.RowKit
def overB (p q : Pat) : Bool := rightB p && rightB q && decide (p.blk = q.blk) && decide (p.off < q.off + q.dat.size) && decide (q.off < p.off + p.dat.size)
set_option maxHeartbeats 1000000 in
theorem over_c (w : World) (L : List HP) (a0 a1 b0 b1 : Int) (s t : ByteArray) (hO : Own w L) :
    Calls Try.prog 40 #[.agg #[.int .i64 a0, .int .i64 a1, .string s], .agg #[.int .i64 b0, .int .i64 b1, .string t]] w (Ret w (.bool (overB ⟨a0, a1, s⟩ ⟨b0, b1, t⟩)) L) := by
  have key : ∀ (r1 r2 : Bool), rightB ⟨a0, a1, s⟩ = r1 → rightB ⟨b0, b1, t⟩ = r2 → (r1 = true → 0 ≤ a1 ∧ a1 < 32 ∧ s.size ≤ 32) → (r2 = true → 0 ≤ b1 ∧ b1 < 32 ∧ t.size ≤ 32) →
    Calls Try.prog 40 #[.agg #[.int .i64 a0, .int .i64 a1, .string s], .agg #[.int .i64 b0, .int .i64 b1, .string t]] w (Ret w (.bool (r1 && r2 && decide (a0 = b0) && decide (a1 < b1 + t.size) && decide (b1 < a1 + s.size))) L) := by
    intro r1 r2 hR hR2 hp hq
    have HR := Lib.hid hR
    have HR2 := Lib.hid hR2
    have HP := Lib.hid hp
    have HQ := Lib.hid hq
    clear hR hR2 hp hq
    have enter : r1 = false ∨ (r1 = true ∧ r2 = false) ∨ (r1 = true ∧ r2 = true ∧ (a0 == b0) = false) ∨ (r1 = true ∧ r2 = true ∧ a0 = b0 ∧ decide (a1 < b1 + t.size) = false) ∨ (r1 = true ∧ r2 = true ∧ a0 = b0 ∧ decide (a1 < b1 + t.size) = true) := by
      cases r1 <;> cases r2 <;> simp
      by_cases h1 : a0 = b0 <;> simp [h1]
      by_cases h2 : a1 < b1 + t.size <;> simp [h2] <;> omega
    rcases enter with rfl | ⟨rfl, rfl⟩ | ⟨rfl, rfl, h0⟩ | ⟨rfl, rfl, rfl, h1⟩ | ⟨rfl, rfl, rfl, h1⟩
    all_goals
      go_enter Try.func40, Try.ntmps40
      go_wp2_with (first | (refine own_box_agg (x := .tmp 0) rfl rfl rfl hO ?_; clear hO; intro b w1 hO hS1) | (refine own_box_agg (x := .tmp 1) rfl rfl rfl hO ?_; clear hO; intro b' w2 hO hS2))
      refine wp_region_seq (Cls w2 (pts b' (.cells #[.int .i64 _, .int .i64 b1, .string t] 33) :: pts b (.cells #[.int .i64 a0, .int .i64 a1, .string s] 33) :: L)) 27 32 mixed (by kernel_rfl) rfl (cls_drew hO) ?_
      simp only [List.append_eq, List.cons_append, List.nil_append, List.take_succ_cons, List.take_zero]
      repeat (first
        | (apply wv_skip rfl; simp only [Act.put, List.setIfInBounds_toArray, List.set_cons_zero, List.set_cons_succ])
        | (apply wv_load1 rfl rfl rfl; (first | exact row_int | exact row_str | exact row_bool | exact row_u8 | exact row_bys | exact row_pats | exact row_err); (intro w h; (first | exact own_get 0 h.1 rfl | exact own_get 1 h.1 rfl | exact own_get 2 h.1 rfl | exact own_get 3 h.1 rfl | exact own_get 4 h.1 rfl | exact own_get 5 h.1 rfl | exact own_get 6 h.1 rfl | exact own_get 7 h.1 rfl)); (first | (simp only [List.getElem?_toArray, List.getElem?_cons_succ, List.getElem?_cons_zero]; rfl) | rfl); simp only [Act.put, List.setIfInBounds_toArray, List.set_cons_zero, List.set_cons_succ])
        | (apply wv_loadrow rfl rfl rfl; (first | exact row_pat); exact sz_pat; (intro w h; (first | exact own_get 0 h.1 rfl | exact own_get 1 h.1 rfl | exact own_get 2 h.1 rfl | exact own_get 3 h.1 rfl | exact own_get 4 h.1 rfl | exact own_get 5 h.1 rfl | exact own_get 6 h.1 rfl | exact own_get 7 h.1 rfl)); (focus (simp; done)); (first | (simp only [List.drop_zero, List.drop_succ_cons, List.take_succ_cons, List.take_zero]; rfl) | rfl); simp only [Act.put, List.setIfInBounds_toArray, List.set_cons_zero, List.set_cons_succ])
        | (apply wv_run rfl; (focus (intro w h; go_simp; first | done | rfl)); simp only [Act.put, List.setIfInBounds_toArray, List.set_cons_zero, List.set_cons_succ])
        | (apply wv_call rfl; (focus (intro w; go_simp; first | done | exact ⟨rfl, rfl⟩)); (focus (intro w h; apply cls_call h; first | exact right_v _ _ _ _ _ HR.out h.1 | exact right_v _ _ _ _ _ HR2.out h.1 | exact end_c _ _ _ _ _ (HP.out (by simp)).1 (HP.out (by simp)).2.1 (HP.out (by simp)).2.2 h.1 | exact end_c _ _ _ _ _ (HQ.out (by simp)).1 (HQ.out (by simp)).2.1 (HQ.out (by simp)).2.2 h.1)); simp only [Act.put, List.setIfInBounds_toArray, List.set_cons_zero, List.set_cons_succ]))
      refine wv_nil ?_
      simp only [List.drop_succ_cons, List.drop_zero]
      intro w5 h5
      go_wp2
      go_ret
      refine ⟨?_, own_drop (own_drop h5.1), hS1.trans (hS2.trans h5.2)⟩
      first | rfl | (simp [*]; done) | ((have h0n : ¬ a0 = b0 := by simpa using h0); simp [h0n]; done)
  refine key _ _ rfl rfl (fun h => ?_) (fun h => ?_)
  · obtain ⟨p1, p2, p3, p4, p5, p6⟩ := rightB_iff.1 h
    simp only at p1 p2 p3 p4 p5 p6
    omega
  · obtain ⟨p1, p2, p3, p4, p5, p6⟩ := rightB_iff.1 h
    simp only at p1 p2 p3 p4 p5 p6
    omega
end Go.Proofs.Ytonohjhmnlfakaa.H
set_option linter.unusedVariables false
set_option linter.unusedSimpArgs false
set_option maxRecDepth 100000
namespace Go.Proofs.Ytonohjhmnlfakaa.H
open Go.RowKit
theorem zero_pat : (Try.prog.info? 33).map (·.zero) = some (some (.agg #[.int .i64 0, .int .i64 0, .string ⟨#[]⟩])) := by kernel_rfl
end Go.Proofs.Ytonohjhmnlfakaa.H
set_option linter.unusedVariables false
set_option linter.unusedSimpArgs false
set_option maxRecDepth 100000
namespace Go.Proofs.Ytonohjhmnlfakaa.H
open Go.RowKit
def idleB (bs : List UInt8) (p : Pat) : Bool := decide (bs.length = 32) && rightB p && decide ((bs.drop p.off.toNat).take p.dat.size = p.dat.data.toList)
end Go.Proofs.Ytonohjhmnlfakaa.H
set_option linter.unusedVariables false
set_option linter.unusedSimpArgs false
set_option maxRecDepth 100000
namespace Go.Proofs.Ytonohjhmnlfakaa.H
open Go.RowKit
end Go.Proofs.Ytonohjhmnlfakaa.H
set_option linter.unusedVariables false
set_option linter.unusedSimpArgs false
set_option maxRecDepth 100000
namespace Go.Proofs.Ytonohjhmnlfakaa.H
open Go.RowKit
end Go.Proofs.Ytonohjhmnlfakaa.H
set_option linter.unusedVariables false
set_option linter.unusedSimpArgs false
set_option maxRecDepth 100000
namespace Go.Proofs.Ytonohjhmnlfakaa.H
open Go.RowKit
abbrev RdP (w : World) (v : Value) (ps : List Pat) : Prop := Rd w 3 v ps.length (cellsP ps)
/-- What holds at each round of All's loop. -/
def AllInv (L : List HP) (w0 : World) (g : Nat) (bs : List UInt8) (ps : List Pat) (k : Nat) (wr : World) : Prop :=
  (∀ p ∈ ps.take k, rightB p = true) ∧ Own wr (pts g (.cells (bcs (appAll bs (ps.take k))).toArray 5) :: L) ∧ Same w0 wr
/-- What All hands back. -/
def AllPost (L : List HP) (w0 : World) (bs : List UInt8) (ps : List Pat) (e : Ending) (w' : World) : Prop :=
  if (∀ p ∈ ps, rightB p = true) then RetX w0 (fun g => .tuple #[.slice (some ⟨g, 0, none⟩) 32 32, .int .i64 0]) (fun g => pts g (.cells (bcs (appAll bs ps)).toArray 5) :: L) e w'
  else Ret w0 (.tuple #[.slice none 0 0, .int .i64 3]) L e w'
end Go.Proofs.Ytonohjhmnlfakaa.H
set_option linter.unusedVariables false
set_option linter.unusedSimpArgs false
set_option maxRecDepth 100000
namespace Go.Proofs.Ytonohjhmnlfakaa.H
open Go.RowKit
theorem own_skip {w : World} {A B : HP} {L : List HP} (h : Own w (A :: B :: L)) : Own w (A :: L) := own_drop (own_perm h (List.Perm.swap _ _ _))
theorem owns_rdB {w : World} {L : List HP} {e m : Nat} {v : Value} {bs : List UInt8} (hm : m = bs.length) (h : Own w (owns e 1 v m (bcs bs) :: L)) : RdB w v bs := by
  subst hm
  exact owns_rd h
/-- What holds at each round of the reference's All. -/
def RAllInv (L : List HP) (w0 : World) (bs : List UInt8) (ps : List Pat) (v : Value) (k : Nat) (wr : World) : Prop :=
  (∀ p ∈ ps.take k, rightB p = true) ∧ Own wr (owns 5 1 v 32 (bcs (appAll bs (ps.take k))) :: L) ∧ Same w0 wr
/-- What the reference's All hands back. -/
def RAllPost (L : List HP) (w0 : World) (bs : List UInt8) (ps : List Pat) (e : Ending) (w' : World) : Prop :=
  if (∀ p ∈ ps, rightB p = true) then RetX w0 (fun v => .tuple #[v, .int .i64 0]) (fun v => owns 5 1 v 32 (bcs (appAll bs ps)) :: L) e w'
  else Ret w0 (.tuple #[.slice none 0 0, .int .i64 3]) L e w'
end Go.Proofs.Ytonohjhmnlfakaa.H
set_option linter.unusedVariables false
set_option linter.unusedSimpArgs false
namespace Go.Proofs.Ytonohjhmnlfakaa.H
open Go.RowKit
section
variable {P : Program} {ops : Array Oper} {C : World → Prop} {w : World}
theorem run_load1_at {T : TypeId} {ad : Addr} {v : Value} (hT : isRowB P T = some false) (hc : w.cell? ad = some v) :
    (Instr.loadAt T (.pointer (some ad))).run P w = .ok v w := by
  obtain ⟨d, hd, hr⟩ := underlying_row hT
  have hagg : (isAgg T).run P w = .ok false w := by
    unfold isAgg
    rw [Sem.run_bind, run_underlying hd w]
    cases d <;> simp_all
  simp [Instr.loadAt, Instr.sureAddr, loadVar, Sem.run_bind, hagg, load]
  simp only [Sem.run, hc]
theorem wv_load1_at {K : Act → Prop} {o : Oper} {ol : List Oper} {a : Act} {T : TypeId} {x : Operand} {ad : Addr} {v : Value} (hw : Region.wanted o (yielded ops a.tmps) = true) (ho : o.op = .load T x) (hx : a.eval x = .pointer (some ad))
    (hT : isRowB P T = some false) (hc : ∀ w, C w → w.cell? ad = some v) (h : wpVals P ops C K ol (a.put o.dst v)) : wpVals P ops C K (o :: ol) a := by
  refine wv_run hw (fun w hC => ?_) h
  simp only [execOp, ho, hx, Sem.run_bind, run_load1_at hT (hc w hC)]
  rfl
theorem wv_loadrow_at {K : Act → Prop} {o : Oper} {ol : List Oper} {a : Act} {T : TypeId} {x : Operand} {ad : Addr} {n : Nat} {vs : List Value} (hw : Region.wanted o (yielded ops a.tmps) = true) (ho : o.op = .load T x) (hx : a.eval x = .pointer (some ad))
    (hT : isRowB P T = some true) (hsz : (P.info? T).map (·.size) = some n) (hn : vs.length = n) (hc : ∀ w, C w → ∀ (j : Nat) (u : Value), vs[j]? = some u → w.cell? (ad.add j) = some u) (h : wpVals P ops C K ol (a.put o.dst (.agg vs.toArray))) : wpVals P ops C K (o :: ol) a := by
  refine wv_run hw (fun w hC => ?_) h
  simp only [execOp, ho, hx, Sem.run_bind, run_loadrow_at hT hsz hn (hc w hC)]
  rfl
end
end Go.Proofs.Ytonohjhmnlfakaa.H
set_option linter.unusedVariables false
set_option linter.unusedSimpArgs false
namespace Go.Proofs.Ytonohjhmnlfakaa.H
open Go.RowKit
/-- Something that reads as the slice v. -/
def rdA (size : Nat) (v : Value) (n : Nat) (xs : List Value) : HP := fun p q => ∀ w : World, p.le w → q.le w → Rd w size v n xs
theorem rdA_rd {w : World} {L : List HP} {size n : Nat} {v : Value} {xs : List Value} (h : Own w (rdA size v n xs :: L)) : Rd w size v n xs := by
  obtain ⟨p1, q1, p2, q2, hA, hB, h1, h2, _⟩ := own_cons.1 h
  exact hA w h1 h2
theorem own_rdA {w : World} {L : List HP} {A : HP} {size n : Nat} {v : Value} {xs : List Value} (hf : ∀ w', Own w' [A] → Rd w' size v n xs) (h : Own w (A :: L)) : Own w (rdA size v n xs :: L) := by
  obtain ⟨p1, q1, p2, q2, hA, hB, h1, h2, h3, h4, d1, d2, d3, d4, d5⟩ := own_cons.1 h
  refine own_cons.2 ⟨p1, q1, p2, q2, fun w' e1 e2 => hf w' ?_, hB, h1, h2, h3, h4, d1, d2, d3, d4, d5⟩
  exact own_cons.2 ⟨p1, q1, nul, nul, hA, ⟨rfl, rfl⟩, e1, e2, nul_le _, nul_le _, dis_nul _, dis_nul _, nul_dis _, d4, nul_dis _⟩
theorem rdA_owns {w : World} {L : List HP} {e : TypeId} {size n : Nat} {v : Value} {xs : List Value} (h : Own w (owns e size v n xs :: L)) : Own w (rdA size v n xs :: L) := own_rdA (fun w' h => owns_rd h) h
theorem rdA_nil {w : World} {L : List HP} {size : Nat} (h : Own w L) : Own w (rdA size (.slice none 0 0) 0 [] :: L) := own_rdA (A := emp) (fun w' _ => rd_nil _ _) (own_emp.2 h)
theorem rdA_pts {w : World} {L : List HP} {g : Nat} {T : TypeId} {bs : List UInt8} (hb : bs.length = 32) (h : Own w (pts g (.cells (bcs bs).toArray T) :: L)) : Own w (rdA 1 (.slice (some ⟨g, 0, none⟩) 32 32) 32 (bcs bs) :: L) :=
  own_rdA (fun w' h => rd_block (own_pts h) (by rw [Nat.mul_one, ← hb, ← bcs_length bs, List.take_length]) (by simp [bcs_length, hb]) (Nat.le_refl _) (by decide)) h
section
variable {P : Program} {w : World} {L : List HP} {f : FuncId} {args : Array Value} {A B : HP}
/-- A call that turns what stands at one place into something else. -/
theorem call_at {r : Value} (k : Nat) (h : ∀ L', Own w (A :: L') → Calls P f args w (Ret w r (B :: L'))) (hk : L[k]? = some A) (hO : Own w L) : Calls P f args w (Ret w r (L.set k B)) := by
  refine (h _ (own_at hO hk)).mono ?_
  rintro e w' ⟨rfl, hO', hS⟩
  exact ⟨rfl, own_back hO' (List.getElem?_eq_some_iff.1 hk).1, hS⟩
theorem call_atX {α : Type} {V : α → Value} {C : α → HP} (k : Nat) (h : ∀ L', Own w (A :: L') → Calls P f args w (RetX w V (fun v => C v :: B :: L'))) (hk : L[k]? = some A) (hO : Own w L) : Calls P f args w (RetX w V (fun v => C v :: L.set k B)) := by
  refine (h _ (own_at hO hk)).mono ?_
  rintro e w' ⟨v, rfl, hO', hS⟩
  refine ⟨v, rfl, own_perm hO' (List.Perm.cons _ (perm_set (List.getElem?_eq_some_iff.1 hk).1)), hS⟩
end
section
variable {P : Program} {ops : Array Oper} {rest : List Oper} {o : Oper} {a aF : Act} {Q : Exit → Act → World → Prop} {C : World → Prop} {w : World} {L : List HP}
theorem own_load1_at {T : TypeId} {x : Operand} {ad : Addr} {v : Value} (hw : Region.wanted o (yielded ops a.tmps) = true) (ho : o.op = .load T x) (hx : a.eval x = .pointer (some ad))
    (hT : isRowB P T = some false) (hc : w.cell? ad = some v) (h : wpList P ops Q rest (a.put o.dst v) w) : wpList P ops Q (o :: rest) a w := by
  refine ev hw ?_ h
  simp only [execOp, ho, hx, Sem.run_bind, run_load1_at hT hc]
  rfl
theorem y_string {src dst e : TypeId} {x : Operand} {v : Value} {n : Nat} {bs : List UInt8} (hw : Region.wanted o (yielded ops aF.tmps) = true) (ho : o.op = .convert src dst x) (hx : aF.eval x = v)
    (hs : P.underlying src = some (.slice e)) (he : P.underlying e = some (.int .u8)) (hd : P.underlying dst = some .string) (hn : n = bs.length) (hr : ∀ w, C w → Rd w 1 v n (bcs bs)) : YieldsIn P ops C o (.string (bstr bs)) aF := by
  refine y_run hw (fun w hC => ?_)
  simp only [execOp, ho, hx, Sem.run_bind, run_string hs he hd hn (hr w hC)]
  rfl
end
end Go.Proofs.Ytonohjhmnlfakaa.H
set_option linter.unusedVariables false
set_option linter.unusedSimpArgs false
namespace Go.Proofs.Ytonohjhmnlfakaa.H
open Go.RowKit
/-- The entries of a map's block are the list f, in order. -/
structure MapOk (es : Array MapEntry) (clock : Nat) (f : List (Int × Value)) : Prop where
  old : ∀ x ∈ es.toList, x.born < clock
  nodup : (es.toList.map (·.born)).Nodup
  keys : es.toList.map (fun e => (e.key, e.val)) = f.map fun q => (Value.int .i64 q.1, q.2)
  nod : (f.map (·.1)).Nodup
/-- Block b is a map with these keys and values. -/
def mapP (b : Nat) (f : List (Int × Value)) : HP := ex fun x : Array MapEntry × Nat => sep (pur (MapOk x.1 x.2 f)) (pts b (.map x.1 x.2))
theorem mapP_open {w : World} {L : List HP} {b : Nat} {f : List (Int × Value)} : Own w (mapP b f :: L) ↔ ∃ es clock, MapOk es clock f ∧ Own w (pts b (.map es clock) :: L) := by
  unfold mapP
  rw [own_ex]
  constructor
  · rintro ⟨x, h⟩
    rw [own_sep, own_pur] at h
    exact ⟨x.1, x.2, h.1, h.2⟩
  · rintro ⟨es, c, h1, h2⟩
    refine ⟨(es, c), ?_⟩
    rw [own_sep, own_pur]
    exact ⟨h1, h2⟩
def mget (f : List (Int × Value)) (k : Int) : Option Value := (f.find? fun q => decide (q.1 = k)).map (·.2)
def mset (f : List (Int × Value)) (k : Int) (v : Value) : List (Int × Value) := match f.findIdx? (fun q => decide (q.1 = k)) with
  | some i => f.set i (k, v)
  | none => f ++ [(k, v)]
def mdel (f : List (Int × Value)) (k : Int) : List (Int × Value) := f.filter fun q => decide (q.1 ≠ k)
theorem MapOk.size {es : Array MapEntry} {c : Nat} {f : List (Int × Value)} (h : MapOk es c f) : es.size = f.length := by
  have := congrArg List.length h.keys
  simpa using this
theorem MapOk.at_ {es : Array MapEntry} {c : Nat} {f : List (Int × Value)} (h : MapOk es c f) {j : Nat} {e : MapEntry} (he : es.toList[j]? = some e) : ∃ k, e.key = .int .i64 k ∧ f[j]? = some (k, e.val) := by
  have h1 : (es.toList.map (fun e => (e.key, e.val)))[j]? = some (e.key, e.val) := by rw [List.getElem?_map, he]; rfl
  rw [h.keys, List.getElem?_map] at h1
  cases hf : f[j]? with
  | none => rw [hf] at h1; cases h1
  | some q =>
    rw [hf] at h1
    simp at h1
    exact ⟨q.1, h1.1.symm, by rw [← h1.2]⟩
theorem nod_idx {f : List (Int × Value)} (hn : (f.map (·.1)).Nodup) {i j : Nat} {k : Int} {v v' : Value} (hi : f[i]? = some (k, v)) (hj : f[j]? = some (k, v')) : i = j ∧ v = v' := by
  have h1 : (f.map (·.1))[i]? = some k := by rw [List.getElem?_map, hi]; rfl
  have h2 : (f.map (·.1))[j]? = some k := by rw [List.getElem?_map, hj]; rfl
  obtain ⟨a1, a2⟩ := List.getElem?_eq_some_iff.1 h1
  obtain ⟨b1, b2⟩ := List.getElem?_eq_some_iff.1 h2
  have e : i = j := by
    rcases Nat.lt_trichotomy i j with h | h | h
    · exact absurd (a2.trans b2.symm) (List.pairwise_iff_getElem.1 hn i j a1 b1 h)
    · exact h
    · exact absurd (b2.trans a2.symm) (List.pairwise_iff_getElem.1 hn j i b1 a1 h)
  subst e
  rw [hi] at hj
  cases hj
  exact ⟨rfl, rfl⟩
theorem mget_at {f : List (Int × Value)} (hn : (f.map (·.1)).Nodup) {j : Nat} {k : Int} {v : Value} (hj : f[j]? = some (k, v)) : mget f k = some v := by
  unfold mget
  cases h : f.find? (fun q => decide (q.1 = k)) with
  | none =>
    have := List.find?_eq_none.1 h _ (List.mem_of_getElem? hj)
    simp at this
  | some q =>
    have h1 := List.find?_some h
    obtain ⟨i, hi⟩ := List.getElem?_of_mem (List.mem_of_find?_eq_some h)
    obtain ⟨q1, q2⟩ := q
    have h3 : q1 = k := by simpa using h1
    subst h3
    obtain ⟨_, rfl⟩ := nod_idx hn hi hj
    rfl
theorem mget_none {f : List (Int × Value)} {k : Int} (h : ∀ q ∈ f, q.1 ≠ k) : mget f k = none := by
  unfold mget
  rw [List.find?_eq_none.2 (fun q hq => by simpa using h q hq)]
  rfl
theorem mset_at {f : List (Int × Value)} (hn : (f.map (·.1)).Nodup) {j : Nat} {k : Int} {v v' : Value} (hj : f[j]? = some (k, v)) : mset f k v' = f.set j (k, v') := by
  unfold mset
  have : f.findIdx? (fun q => decide (q.1 = k)) = some j := by
    rw [List.findIdx?_eq_some_iff_getElem]
    obtain ⟨hl, he⟩ := List.getElem?_eq_some_iff.1 hj
    refine ⟨hl, by rw [he]; simp, fun i hi => ?_⟩
    simp only [decide_eq_true_eq]
    intro hk
    have hi2 : f[i]? = some (k, f[i].2) := by rw [List.getElem?_eq_getElem (by omega), ← hk]
    obtain ⟨e, _⟩ := nod_idx hn hi2 hj
    omega
  rw [this]
theorem mset_none {f : List (Int × Value)} {k : Int} {v' : Value} (h : ∀ q ∈ f, q.1 ≠ k) : mset f k v' = f ++ [(k, v')] := by
  unfold mset
  rw [List.findIdx?_eq_none_iff.2 (fun q hq => by simpa using h q hq)]
theorem mdel_at {f : List (Int × Value)} (hn : (f.map (·.1)).Nodup) {j : Nat} {k : Int} {v : Value} (hj : f[j]? = some (k, v)) : mdel f k = f.eraseIdx j := by
  induction f generalizing j with
  | nil => simp at hj
  | cons q f ih =>
    rw [List.map_cons, List.nodup_cons] at hn
    cases j with
    | zero =>
      have e : q = (k, v) := by simpa using hj
      subst e
      unfold mdel
      rw [List.filter_cons, if_neg (by simp), List.filter_eq_self.2]
      · rfl
      · intro x hx
        simp only [decide_eq_true_eq]
        intro e
        exact hn.1 (List.mem_map.2 ⟨x, hx, e⟩)
    | succ j =>
      have hj2 : f[j]? = some (k, v) := by simpa using hj
      have hne : q.1 ≠ k := fun e => hn.1 (by rw [e]; exact List.mem_map.2 ⟨(k, v), List.mem_of_getElem? hj2, rfl⟩)
      unfold mdel
      rw [List.filter_cons, if_pos (by simpa using hne)]
      show q :: mdel f k = _
      rw [ih hn.2 hj2]
      rfl
theorem mdel_none {f : List (Int × Value)} {k : Int} (h : ∀ q ∈ f, q.1 ≠ k) : mdel f k = f := List.filter_eq_self.2 (fun q hq => by simpa using h q hq)
theorem map_cases (f : List (Int × Value)) (k : Int) : (∃ (j : Nat) (v : Value), f[j]? = some (k, v)) ∨ ∀ q ∈ f, q.1 ≠ k := by
  by_cases h : ∃ q : Int × Value, q ∈ f ∧ q.1 = k
  · obtain ⟨q, hq, rfl⟩ := h
    obtain ⟨j, hj⟩ := List.getElem?_of_mem hq
    exact .inl ⟨j, q.2, hj⟩
  · exact .inr (fun q hq e => h ⟨q, hq, e⟩)
theorem map_find {es : Array MapEntry} {c : Nat} {f : List (Int × Value)} (h : MapOk es c f) (k : Int) :
    (Instr.findNow (.int .i64) (.int .i64 k) es.toList 0 = some none ∧ ∀ q ∈ f, q.1 ≠ k) ∨ ∃ j v, Instr.findNow (.int .i64) (.int .i64 k) es.toList 0 = some (some (j, v)) ∧ f[j]? = some (k, v) := by
  have hk : ∀ x ∈ es.toList, MapKept.IsKey (.int .i64) x.key := fun x hx => by
    obtain ⟨j, hj⟩ := List.getElem?_of_mem hx
    obtain ⟨k', e, _⟩ := h.at_ hj
    rw [e]
    exact rfl
  rcases MapKept.findNow_spec (d := .int .i64) (k := .int .i64 k) rfl es.toList 0 hk with ⟨h1, h2⟩ | ⟨j, e, h1, h2, h3⟩
  · refine .inl ⟨h1, fun q hq e => ?_⟩
    obtain ⟨j, hj⟩ := List.getElem?_of_mem hq
    have hl : j < es.toList.length := by rw [Array.length_toList, h.size]; exact (List.getElem?_eq_some_iff.1 hj).1
    obtain ⟨k', e1, e2⟩ := h.at_ (List.getElem?_eq_getElem hl)
    rw [hj] at e2
    have e3 : q.1 = k' := by cases e2; rfl
    exact h2 _ (List.getElem_mem hl) (by rw [e1, ← e3, e])
  · obtain ⟨k', e1, e2⟩ := h.at_ h2
    rw [h3] at e1
    cases e1
    exact .inr ⟨j, e.val, by rw [h1, Nat.zero_add], e2⟩
theorem nodup_set {f : List (Int × Value)} {j : Nat} {k : Int} {v v' : Value} (hj : f[j]? = some (k, v)) : (f.set j (k, v')).map (·.1) = f.map (·.1) := by
  rw [List.map_set]
  refine List.ext_getElem? (fun t => ?_)
  rw [List.getElem?_set]
  split
  · rename_i e
    subst e
    have hl := (List.getElem?_eq_some_iff.1 hj).1
    rw [if_pos (by rw [List.length_map]; exact hl), List.getElem?_map, hj]
    rfl
  · rfl
theorem MapOk.set {es : Array MapEntry} {c : Nat} {f : List (Int × Value)} (h : MapOk es c f) {j : Nat} {k : Int} {v v' : Value} (hj : f[j]? = some (k, v)) : MapOk (es.modify j fun e => { e with key := .int .i64 k, val := v' }) c (f.set j (k, v')) := by
  have hl : j < es.size := by rw [h.size]; exact (List.getElem?_eq_some_iff.1 hj).1
  have hmod : (es.modify j fun e => { e with key := .int .i64 k, val := v' }).toList = es.toList.modify j fun e => { e with key := .int .i64 k, val := v' } := by simp
  have hb : (es.modify j fun e => { e with key := .int .i64 k, val := v' }).toList.map (·.born) = es.toList.map (·.born) := by
    rw [hmod]
    refine List.ext_getElem? (fun t => ?_)
    rw [List.getElem?_map, List.getElem?_map, List.getElem?_modify]
    split <;> simp [Function.comp_def]
  refine ⟨fun x hx => ?_, by rw [hb]; exact h.nodup, ?_, by rw [nodup_set hj]; exact h.nod⟩
  · have : x.born ∈ es.toList.map (·.born) := by rw [← hb]; exact List.mem_map_of_mem hx
    obtain ⟨y, hy, e⟩ := List.mem_map.1 this
    rw [← e]; exact h.old y hy
  · rw [hmod, List.map_set, ← h.keys]
    refine List.ext_getElem? (fun t => ?_)
    rw [List.getElem?_map, List.getElem?_modify, List.getElem?_set]
    have hl' : j < es.toList.length := by simpa using hl
    by_cases e : j = t
    · subst e
      simp [List.getElem?_eq_getElem hl', hl]
    · simp [e]
theorem MapOk.push {es : Array MapEntry} {c : Nat} {f : List (Int × Value)} (h : MapOk es c f) {k : Int} {v : Value} (hk : ∀ q ∈ f, q.1 ≠ k) : MapOk (es.push { key := .int .i64 k, val := v, born := c }) (c + 1) (f ++ [(k, v)]) := by
  refine ⟨fun x hx => ?_, ?_, by simp [h.keys], ?_⟩
  · simp at hx
    rcases hx with hx | rfl
    · have := h.old x (by simpa using hx); omega
    · exact Nat.lt_succ_self _
  · simp only [Array.toList_push, List.map_append, List.map_cons, List.map_nil]
    rw [List.nodup_append]
    refine ⟨h.nodup, by simp, fun a ha b hb => ?_⟩
    simp at hb
    subst hb
    obtain ⟨y, hy, e⟩ := List.mem_map.1 ha
    have := h.old y hy
    omega
  · rw [List.map_append, List.nodup_append]
    refine ⟨h.nod, by simp, fun a ha b hb => ?_⟩
    simp at hb
    subst hb
    obtain ⟨y, hy, e⟩ := List.mem_map.1 ha
    rw [← e]
    exact hk y hy
theorem eraseIdx_map' {α β : Type} (g : α → β) : ∀ (l : List α) (j : Nat), (l.eraseIdx j).map g = (l.map g).eraseIdx j
  | [], _ => rfl
  | _ :: _, 0 => rfl
  | x :: l, j + 1 => by simp [eraseIdx_map' g l j]
theorem MapOk.erase {es : Array MapEntry} {c : Nat} {f : List (Int × Value)} (h : MapOk es c f) (j : Nat) : MapOk (es.eraseIdxIfInBounds j) c (f.eraseIdx j) := by
  have hl : (es.eraseIdxIfInBounds j).toList = es.toList.eraseIdx j := by simp
  refine ⟨fun x hx => ?_, ?_, ?_, ?_⟩
  · rw [hl] at hx
    exact h.old x ((List.eraseIdx_sublist _ _).subset hx)
  · rw [hl]
    exact List.Nodup.sublist (List.Sublist.map _ (List.eraseIdx_sublist _ _)) h.nodup
  · rw [hl, eraseIdx_map', h.keys, eraseIdx_map']
  · exact List.Nodup.sublist (List.Sublist.map _ (List.eraseIdx_sublist _ _)) h.nod
theorem mapOk_nil : MapOk #[] 0 [] := ⟨by simp, by simp, rfl, by simp⟩
section
variable {P : Program} {ops : Array Oper} {rest : List Oper} {o : Oper} {a aF : Act} {Q : Exit → Act → World → Prop} {C : World → Prop} {w : World} {L : List HP} {T K E : TypeId}
theorem run_mlookup {b : Nat} {f : List (Int × Value)} {es : Array MapEntry} {c : Nat} {k : Int} {z : Value} (ht : P.underlying T = some (.map K E)) (hK : P.underlying K = some (.int .i64)) (hz : (P.info? E).map (·.zero) = some (some z)) (hb : w.heap[b]? = some (.map es c)) (h : MapOk es c f) (ok : Bool) :
    (Instr.lookup T (.map (some b)) (.int .i64 k) ok).run P w = .ok (if ok then .tuple #[(mget f k).getD z, .bool (mget f k).isSome] else (mget f k).getD z) w := by
  have hck := MapKept.run_checkKey (P := P) (w := w) (kt := K) (d := .int .i64) (k := .int .i64 k) hK rfl es.isEmpty 9999
  obtain ⟨i, hi, hiz⟩ := Option.map_eq_some_iff.1 hz
  rcases map_find h k with ⟨h1, h2⟩ | ⟨j, v, h1, h2⟩
  · rw [mget_none h2]
    have hf := MapKept.run_findKey (P := P) (w := w) hK h1
    cases ok <;> simp [Instr.lookup, run_underlying ht, MapKept.run_getObj_map hb, hck, hf, zeroValue, typeInfo, hi, hiz]
  · rw [mget_at h.nod h2]
    have hf := MapKept.run_findKey (P := P) (w := w) hK h1
    cases ok <;> simp [Instr.lookup, run_underlying ht, MapKept.run_getObj_map hb, hck, hf]
theorem own_mlookup {xm xk : Operand} {b i : Nat} {f : List (Int × Value)} {k : Int} {z r : Value} (hw : Region.wanted o (yielded ops a.tmps) = true) (ho : o.op = .lookup T xm xk false) (hm : a.eval xm = .map (some b)) (hk : a.eval xk = .int .i64 k)
    (ht : P.underlying T = some (.map K E)) (hK : P.underlying K = some (.int .i64)) (hz : (P.info? E).map (·.zero) = some (some z)) (hO : Own w L) (hi : L[i]? = some (mapP b f)) (hr : (mget f k).getD z = r) (h : wpList P ops Q rest (a.put o.dst r) w) : wpList P ops Q (o :: rest) a w := by
  obtain ⟨es, c, h1, h2⟩ := mapP_open.1 (own_at hO hi)
  refine ev hw ?_ h
  simp only [execOp, ho, hm, hk, Sem.run_bind, run_mlookup ht hK hz (own_pts h2) h1 false, if_false, hr, Bool.false_eq_true]
  rfl
theorem y_mlookup {xm xk : Operand} {b : Nat} {f : List (Int × Value)} {k : Int} {z r : Value} (hw : Region.wanted o (yielded ops aF.tmps) = true) (ho : o.op = .lookup T xm xk false) (hm : aF.eval xm = .map (some b)) (hk : aF.eval xk = .int .i64 k)
    (ht : P.underlying T = some (.map K E)) (hK : P.underlying K = some (.int .i64)) (hz : (P.info? E).map (·.zero) = some (some z)) (hC : ∀ w, C w → ∃ L, Own w (mapP b f :: L)) (hr : (mget f k).getD z = r) : YieldsIn P ops C o r aF := by
  refine y_run hw (fun w hw' => ?_)
  obtain ⟨L, hO⟩ := hC w hw'
  obtain ⟨es, c, h1, h2⟩ := mapP_open.1 hO
  simp only [execOp, ho, hm, hk, Sem.run_bind, run_mlookup ht hK hz (own_pts h2) h1 false, if_false, hr, Bool.false_eq_true]
  rfl
theorem own_mkmap (hw : Region.wanted o (yielded ops a.tmps) = true) (ho : o.op = .makeMap T none) (hO : Own w L)
    (h : ∀ b w', Own w' (mapP b [] :: L) → Same w w' → wpList P ops Q rest (a.put o.dst (.map (some b))) w') : wpList P ops Q (o :: rest) a w := by
  refine ev (w1 := w.alloc (.map #[] 0)) (v := .map (some w.heap.size)) hw ?_ (h _ _ (mapP_open.2 ⟨_, _, mapOk_nil, own_alloc_new hO _⟩) (Same.alloc _ _))
  simp only [execOp, ho]
  rfl
theorem run_mset {b : Nat} {f : List (Int × Value)} {es : Array MapEntry} {c : Nat} {k : Int} {v : Value} (ht : P.underlying T = some (.map K E)) (hK : P.underlying K = some (.int .i64)) (hb : w.heap[b]? = some (.map es c)) (h : MapOk es c f) :
    ∃ es' c', MapOk es' c' (mset f k v) ∧ (Instr.mapUpdate T (.map (some b)) (.int .i64 k) v).run P w = .ok () { w with heap := w.heap.setIfInBounds b (.map es' c') } := by
  have hck := MapKept.run_checkKey (P := P) (w := w) (kt := K) (d := .int .i64) (k := .int .i64 k) hK rfl false 9999
  rcases map_find h k with ⟨h1, h2⟩ | ⟨j, v0, h1, h2⟩
  · have hf := MapKept.run_findKey (P := P) (w := w) hK h1
    refine ⟨_, _, mset_none h2 ▸ h.push h2, ?_⟩
    simp [Instr.mapUpdate, run_underlying ht, MapKept.run_getObj_map hb, hck, hf, MapKept.run_setObj_map _ hb]
  · have hf := MapKept.run_findKey (P := P) (w := w) hK h1
    refine ⟨_, _, mset_at h.nod h2 ▸ h.set h2, ?_⟩
    have hl : j < es.size := by rw [h.size]; exact (List.getElem?_eq_some_iff.1 h2).1
    obtain ⟨k', e1, e2⟩ := h.at_ (j := j) (e := es[j]) (by rw [Array.getElem?_toList, Array.getElem?_eq_getElem hl])
    rw [h2] at e2
    have ek : es[j].key = .int .i64 k := by cases e2; exact e1
    have hkeep : (Instr.keyThatStays (.int .i64 k) (.int .i64 k)).run P w = .ok (.int .i64 k) w := by
      unfold Instr.keyThatStays
      rw [if_pos (by simp [Instr.sameBits])]
      rfl
    have hes : ((es[j]?).map (·.key)).getD (.int .i64 k) = .int .i64 k := by rw [Array.getElem?_eq_getElem hl]; simp [ek]
    simp [Instr.mapUpdate, run_underlying ht, MapKept.run_getObj_map hb, hck, hf, hes, hkeep, MapKept.run_setObj_map _ hb]
theorem own_setObj {b : Nat} {o o' : Obj} (h : Own w (pts b o :: L)) : Own { w with heap := w.heap.setIfInBounds b o' } (pts b o' :: L) := by
  obtain ⟨h1, h2⟩ := MapKept.heap_set (w := w) (r := b) (o := o) (o' := o') (own_pts h)
  exact own_put h (fun i hi x hx => (h2 i hi).trans hx) h1
theorem Same.setObj (w : World) (b : Nat) (o : Obj) : Same w { w with heap := w.heap.setIfInBounds b o } := ⟨rfl, rfl, rfl, by simp⟩
theorem own_mset {xm xk xv : Operand} {b i : Nat} {f : List (Int × Value)} {k : Int} {v : Value} (hw : Region.wanted o (yielded ops a.tmps) = true) (ho : o.op = .mapUpdate T xm xk xv) (hm : a.eval xm = .map (some b)) (hk : a.eval xk = .int .i64 k) (hv : a.eval xv = v)
    (ht : P.underlying T = some (.map K E)) (hK : P.underlying K = some (.int .i64)) (hO : Own w L) (hi : L[i]? = some (mapP b f))
    (h : ∀ w', Own w' (L.set i (mapP b (mset f k v))) → Same w w' → wpList P ops Q rest (a.put o.dst undef) w') : wpList P ops Q (o :: rest) a w := by
  obtain ⟨es, c, h1, h2⟩ := mapP_open.1 (own_at hO hi)
  obtain ⟨es', c', h3, h4⟩ := run_mset (T := T) (K := K) (E := E) (v := v) (k := k) ht hK (own_pts h2) h1
  refine ev_skip (w1 := { w with heap := w.heap.setIfInBounds b (.map es' c') }) hw ?_ (h _ (own_back (mapP_open.2 ⟨es', c', h3, own_setObj h2⟩) (List.getElem?_eq_some_iff.1 hi).1) (Same.setObj _ _ _))
  simp only [execOp, ho, hm, hk, hv, Sem.run_bind, h4]
  rfl
theorem run_mdel {b : Nat} {f : List (Int × Value)} {es : Array MapEntry} {c : Nat} {k : Int} {ty : TypeId} {Tk : TypeId} (ht : P.underlying T = some (.map K E)) (hK : P.underlying K = some (.int .i64)) (hb : w.heap[b]? = some (.map es c)) (h : MapOk es c f) :
    ∃ es', MapOk es' c (mdel f k) ∧ (Builtin.delete_ #[T, Tk] ty #[.map (some b), .int .i64 k]).run P w = .ok (.tuple #[]) { w with heap := w.heap.setIfInBounds b (.map es' c) } := by
  have hck := MapKept.run_checkKey (P := P) (w := w) (kt := K) (d := .int .i64) (k := .int .i64 k) hK rfl es.isEmpty 9999
  rcases map_find h k with ⟨h1, h2⟩ | ⟨j, v0, h1, h2⟩
  · have hf := MapKept.run_findKey (P := P) (w := w) hK h1
    refine ⟨es, by rw [mdel_none h2]; exact h, ?_⟩
    simp [Builtin.delete_, run_underlying ht, MapKept.run_getObj_map hb, hck, hf, MapKept.run_setObj_map _ hb]
  · have hf := MapKept.run_findKey (P := P) (w := w) hK h1
    refine ⟨_, mdel_at h.nod h2 ▸ h.erase j, ?_⟩
    simp [Builtin.delete_, run_underlying ht, MapKept.run_getObj_map hb, hck, hf, MapKept.run_setObj_map _ hb]
theorem own_mdel {xm xk : Operand} {Tk : TypeId} {b i : Nat} {f : List (Int × Value)} {k : Int} (hw : Region.wanted o (yielded ops a.tmps) = true) (ho : o.op = .call { callee := .builtin .delete, args := #[xm, xk], argTypes := #[T, Tk] }) (hm : a.eval xm = .map (some b)) (hk : a.eval xk = .int .i64 k)
    (ht : P.underlying T = some (.map K E)) (hK : P.underlying K = some (.int .i64)) (hO : Own w L) (hi : L[i]? = some (mapP b f))
    (h : ∀ w', Own w' (L.set i (mapP b (mdel f k))) → Same w w' → wpList P ops Q rest (a.put o.dst (.tuple #[])) w') : wpList P ops Q (o :: rest) a w := by
  obtain ⟨es, c, h1, h2⟩ := mapP_open.1 (own_at hO hi)
  obtain ⟨es', h3, h4⟩ := run_mdel (T := T) (K := K) (E := E) (k := k) (ty := o.type) (Tk := Tk) ht hK (own_pts h2) h1
  refine ev (w1 := { w with heap := w.heap.setIfInBounds b (.map es' c) }) hw ?_ (h _ (own_back (mapP_open.2 ⟨es', c, h3, own_setObj h2⟩) (List.getElem?_eq_some_iff.1 hi).1) (Same.setObj _ _ _))
  simp only [execOp, ho]
  simp [resolve, invoke, builtin, hm, hk, h4, Result.andThen]
end
end Go.Proofs.Ytonohjhmnlfakaa.H
namespace Go.Proofs
open Go.Shelf
def Try.laysSort_ren : Go.Shelf.Ren := ⟨fun | 189 => 46 | 125 => 80 | 257 => 79 | 128 => 105 | 129 => 106 | 294 => 96 | 295 => 97 | 296 => 98 | 297 => 99 | 298 => 100 | 299 => 101 | 216 => 102 | 300 => 103 | 301 => 104 | 328 => 111 | 329 => 112 | 330 => 113 | 331 => 114 | 332 => 115 | 215 => 116 | 343 => 118 | n => n, fun | 28 => 34 | 3 => 3 | 46 => 125 | 0 => 0 | 51 => 148 | 53 => 150 | 4 => 4 | 183 => 140 | 182 => 139 | 131 => 145 | 5 => 5 | 9 => 9 | 218 => 153 | 222 => 157 | 228 => 160 | 229 => 161 | n => n, fun | n => n⟩
theorem Try.laysSort : Go.Proofs.Lays.n189 Try.prog Try.laysSort_ren := {
  mixed := by kernel_rfl
  f125 := Try.func80.trans (congrArg some (by kernel_rfl))
  f128 := Try.func105.trans (congrArg some (by kernel_rfl))
  f129 := Try.func106.trans (congrArg some (by kernel_rfl))
  f189 := Try.func46.trans (congrArg some (by kernel_rfl))
  f215 := Try.func116.trans (congrArg some (by kernel_rfl))
  f216 := Try.func102.trans (congrArg some (by kernel_rfl))
  f257 := Try.func79.trans (congrArg some (by kernel_rfl))
  f294 := Try.func96.trans (congrArg some (by kernel_rfl))
  f295 := Try.func97.trans (congrArg some (by kernel_rfl))
  f296 := Try.func98.trans (congrArg some (by kernel_rfl))
  f297 := Try.func99.trans (congrArg some (by kernel_rfl))
  f298 := Try.func100.trans (congrArg some (by kernel_rfl))
  f299 := Try.func101.trans (congrArg some (by kernel_rfl))
  f300 := Try.func103.trans (congrArg some (by kernel_rfl))
  f301 := Try.func104.trans (congrArg some (by kernel_rfl))
  f328 := Try.func111.trans (congrArg some (by kernel_rfl))
  f329 := Try.func112.trans (congrArg some (by kernel_rfl))
  f330 := Try.func113.trans (congrArg some (by kernel_rfl))
  f331 := Try.func114.trans (congrArg some (by kernel_rfl))
  f332 := Try.func115.trans (congrArg some (by kernel_rfl))
  f343 := Try.func118.trans (congrArg some (by kernel_rfl))
  t0 := Try.underlying0
  a0 := Try.isAgg0
  z0 := Try.sizeOf0
  v0 := Try.zeroValue0
  t3 := Try.underlying3
  a3 := Try.isAgg3
  z3 := Try.sizeOf3
  v3 := Try.zeroValue3
  t4 := Try.underlying4
  a4 := Try.isAgg4
  z4 := Try.sizeOf4
  v4 := Try.zeroValue4
  t5 := Try.underlying5
  a5 := Try.isAgg5
  z5 := Try.sizeOf5
  v5 := Try.zeroValue5
  t9 := Try.underlying9
  a9 := Try.isAgg9
  z9 := Try.sizeOf9
  v9 := Try.zeroValue9
  t28 := Try.underlying34
  a28 := Try.isAgg34
  z28 := Try.sizeOf34
  v28 := Try.zeroValue34
  t46 := Try.underlying125
  a46 := Try.isAgg125
  z46 := Try.sizeOf125
  v46 := Try.zeroValue125
  t51 := Try.underlying148
  a51 := Try.isAgg148
  z51 := Try.sizeOf148
  v51 := Try.zeroValue148
  t53 := Try.underlying150
  a53 := Try.isAgg150
  z53 := Try.sizeOf150
  v53 := Try.zeroValue150
  t131 := Try.underlying145
  a131 := Try.isAgg145
  z131 := Try.sizeOf145
  v131 := Try.zeroValue145
  t182 := Try.underlying139
  a182 := Try.isAgg139
  z182 := Try.sizeOf139
  v182 := Try.zeroValue139
  t183 := Try.underlying140
  a183 := Try.isAgg140
  z183 := Try.sizeOf140
  v183 := Try.zeroValue140
  t218 := Try.underlying153
  a218 := Try.isAgg153
  z218 := Try.sizeOf153
  v218 := Try.zeroValue153
  t222 := Try.underlying157
  a222 := Try.isAgg157
  z222 := Try.sizeOf157
  v222 := Try.zeroValue157
  t228 := Try.underlying160
  a228 := Try.isAgg160
  z228 := Try.sizeOf160
  v228 := Try.zeroValue160
  t229 := Try.underlying161
  a229 := Try.isAgg161
  z229 := Try.sizeOf161
  v229 := Try.zeroValue161 }
def Try.keysA_ren : Go.Shelf.Ren := ⟨fun | 7 => 94 | 10 => 110 | n => n, fun | 23 => 98 | 26 => 3 | 3 => 69 | 28 => 134 | 0 => 0 | 27 => 133 | 33 => 40 | 4 => 4 | n => n, fun | n => n⟩
theorem Try.keysA : Go.Proofs.SlLaysZI.n7 Try.prog Try.keysA_ren := {
  mixed := by kernel_rfl
  f7 := ⟨Try.f94.name, by decide, Try.func94.trans (congrArg some (by kernel_rfl))⟩
  f10 := ⟨Try.f110.name, by decide, Try.func110.trans (congrArg some (by kernel_rfl))⟩
  t0 := Try.underlying0
  a0 := Try.isAgg0
  z0 := Try.sizeOf0
  v0 := Try.zeroValue0
  t4 := Try.underlying4
  a4 := Try.isAgg4
  z4 := Try.sizeOf4
  v4 := Try.zeroValue4
  t23 := Try.underlying98
  a23 := Try.isAgg98
  z23 := Try.sizeOf98
  v23 := Try.zeroValue98
  t26 := Try.underlying3
  a26 := Try.isAgg3
  z26 := Try.sizeOf3
  v26 := Try.zeroValue3
  t27 := Try.underlying133
  a27 := Try.isAgg133
  z27 := Try.sizeOf133
  v27 := Try.zeroValue133
  t28 := Try.underlying134
  a28 := Try.isAgg134
  z28 := Try.sizeOf134
  v28 := Try.zeroValue134
  t33 := Try.underlying40
  a33 := Try.isAgg40
  z33 := Try.sizeOf40
  v33 := Try.zeroValue40 }
def Try.sortedA_ren : Go.Shelf.Ren := ⟨fun | 6 => 93 | 8 => 109 | 9 => 46 | 11 => 117 | 13 => 80 | 12 => 79 | 23 => 105 | 24 => 106 | 14 => 96 | 15 => 97 | 16 => 98 | 17 => 99 | 18 => 100 | 19 => 101 | 20 => 102 | 21 => 103 | 22 => 104 | 25 => 111 | 26 => 112 | 27 => 113 | 28 => 114 | 29 => 115 | 30 => 116 | 31 => 118 | n => n, fun | 26 => 3 | 28 => 134 | 24 => 34 | 0 => 0 | 3 => 3 | 37 => 125 | 48 => 148 | 50 => 150 | 4 => 4 | 40 => 140 | 39 => 139 | 45 => 145 | 5 => 5 | 9 => 9 | 51 => 153 | 55 => 157 | 57 => 160 | 58 => 161 | 33 => 40 | n => n, fun | n => n⟩
theorem Try.sortedA : Go.Proofs.SlLaysZI.n6 Try.prog Try.sortedA_ren := {
  mixed := by kernel_rfl
  f6 := ⟨Try.f93.name, by decide, Try.func93.trans (congrArg some (by kernel_rfl))⟩
  f8 := ⟨Try.f109.name, by decide, Try.func109.trans (congrArg some (by kernel_rfl))⟩
  f11 := ⟨Try.f117.name, by decide, Try.func117.trans (congrArg some (by kernel_rfl))⟩
  t0 := Try.underlying0
  a0 := Try.isAgg0
  z0 := Try.sizeOf0
  v0 := Try.zeroValue0
  t24 := Try.underlying34
  a24 := Try.isAgg34
  z24 := Try.sizeOf34
  v24 := Try.zeroValue34
  t26 := Try.underlying3
  a26 := Try.isAgg3
  z26 := Try.sizeOf3
  v26 := Try.zeroValue3
  t28 := Try.underlying134
  a28 := Try.isAgg134
  z28 := Try.sizeOf134
  v28 := Try.zeroValue134
  i26 := by kernel_rfl }
def Try.cloneB_ren : Go.Shelf.Ren := ⟨fun | 5 => 70 | 7 => 92 | n => n, fun | 23 => 99 | 25 => 3 | 3 => 4 | 4 => 4 | 20 => 20 | n => n, fun | n => n⟩
theorem Try.cloneB : Go.Proofs.SlLaysW.n5 Try.prog Try.cloneB_ren := {
  mixed := by kernel_rfl
  f5 := ⟨Try.f70.name, by decide, Try.func70.trans (congrArg some (by kernel_rfl))⟩
  f7 := Try.func92.trans (congrArg some (by kernel_rfl))
  t4 := Try.underlying4
  a4 := Try.isAgg4
  z4 := Try.sizeOf4
  v4 := Try.zeroValue4
  t20 := Try.underlying20
  a20 := Try.isAgg20
  z20 := Try.sizeOf20
  v20 := Try.zeroValue20
  t23 := Try.underlying99
  a23 := Try.isAgg99
  z23 := Try.sizeOf99
  v23 := Try.zeroValue99 }
end Go.Proofs
