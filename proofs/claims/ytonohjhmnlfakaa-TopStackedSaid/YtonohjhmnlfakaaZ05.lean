/- Plain law: where two patches write. Contract of the reference's All; some, of the statements. Contract of the reference's Join. A stack: what it means, and what it is in memory. Contracts of a cell's methods, and of place. Contracts of what is only read of a stack. Contracts of Under, Waiting, Needs. -/
import Derived.Test.YtonohjhmnlfakaaZ04
import Derived.Test.YtonohjhmnlfakaaZ03
import Derived.Test.YtonohjhmnlfakaaZ02
import Derived.Lib.SliceRun
set_option linter.unusedVariables false
set_option linter.unusedSimpArgs false
namespace Go.Proofs.Ytonohjhmnlfakaa.H
/-- Where two patches write: without a gap from lo to e1; then again at g, if that is before 32. -/
structure Runs (p q : Pat) (lo e1 g : Nat) : Prop where mk ::
  out : lo < e1 ∧ e1 ≤ 32 ∧ e1 ≤ g ∧ g ≤ 32 ∧ (∀ k, k < g → (wrB p k = true ∨ wrB q k = true ↔ lo ≤ k ∧ k < e1)) ∧ (g < 32 → (wrB p g = true ∨ wrB q g = true) ∧ e1 < g)
def datK (p q : Pat) (lo to : Nat) : List UInt8 := ((wholeOf p q).drop lo).take (to - lo)
theorem datK_length {p q : Pat} {lo to : Nat} (hp : rightB p = true) (hq : rightB q = true) (h : to ≤ 32) : (datK p q lo to).length = to - lo := by
  simp only [datK, List.length_take, List.length_drop, whole_length hp hq]
  omega
theorem datK_succ {p q : Pat} {lo k : Nat} {x : UInt8} (hk : lo ≤ k) (hx : (wholeOf p q)[k]? = some x) : datK p q lo (k + 1) = datK p q lo k ++ [x] := by
  have hl := (List.getElem?_eq_some_iff.1 hx).1
  have h2 : k - lo < ((wholeOf p q).drop lo).length := by rw [List.length_drop]; omega
  unfold datK
  rw [show k + 1 - lo = k - lo + 1 by omega, List.take_succ_eq_append_getElem h2]
  congr 1
  have h3 : ((wholeOf p q).drop lo)[k - lo]? = some x := by rw [List.getElem?_drop, show lo + (k - lo) = k by omega]; exact hx
  rw [List.getElem?_eq_getElem h2] at h3
  rw [Option.some.inj h3]
theorem runs_yes {p q : Pat} (h : Joins p q) : Runs p q (min p.off q.off).toNat (max (p.off + p.dat.size) (q.off + q.dat.size)).toNat 32 := by
  obtain ⟨p1, p2, p3, p4, p5, p6⟩ := rightB_iff.1 h.hp
  obtain ⟨q1, q2, q3, q4, q5, q6⟩ := rightB_iff.1 h.hq
  have j1 := h.h1
  have j2 := h.h2
  refine ⟨by omega, by omega, by omega, by omega, fun k hk => ?_, fun h => by omega⟩
  simp only [wrB, Bool.and_eq_true, decide_eq_true_eq]
  constructor
  · intro h; omega
  · intro h; omega
theorem runs_no {p q : Pat} (hp : rightB p = true) (hq : rightB q = true) (hn : ¬ (p.off ≤ q.off + q.dat.size ∧ q.off ≤ p.off + p.dat.size)) : Runs p q (min p.off q.off).toNat (min (p.off + p.dat.size) (q.off + q.dat.size)).toNat (max p.off q.off).toNat := by
  obtain ⟨p1, p2, p3, p4, p5, p6⟩ := rightB_iff.1 hp
  obtain ⟨q1, q2, q3, q4, q5, q6⟩ := rightB_iff.1 hq
  refine ⟨by omega, by omega, by omega, by omega, fun k hk => ?_, fun h => ⟨?_, by omega⟩⟩
  · simp only [wrB, Bool.and_eq_true, decide_eq_true_eq]
    constructor
    · intro h; omega
    · intro h; omega
  · simp only [wrB, Bool.and_eq_true, decide_eq_true_eq]
    omega
theorem whole_q {p q : Pat} (hp : rightB p = true) (hq : rightB q = true) {k : Nat} (h : wrB q k = true) : ∃ h2 : k - q.off.toNat < q.dat.data.toList.length, (wholeOf p q)[k]? = some (q.dat.data.toList[k - q.off.toNat]'h2) := by
  have hs : q.dat.size = q.dat.data.toList.length := by rw [Array.length_toList]; rfl
  simp only [wrB, Bool.and_eq_true, decide_eq_true_eq] at h
  have h2 : k - q.off.toNat < q.dat.data.toList.length := by omega
  refine ⟨h2, ?_⟩
  rw [whole_get hp hq, if_pos h, List.getElem?_eq_getElem h2]
theorem whole_p {p q : Pat} (hp : rightB p = true) (hq : rightB q = true) {k : Nat} (h : wrB p k = true) (h0 : wrB q k = false) : ∃ h2 : k - p.off.toNat < p.dat.data.toList.length, (wholeOf p q)[k]? = some (p.dat.data.toList[k - p.off.toNat]'h2) := by
  have hs : p.dat.size = p.dat.data.toList.length := by rw [Array.length_toList]; rfl
  simp only [wrB, Bool.and_eq_true, decide_eq_true_eq] at h
  have h3 : ¬ (q.off ≤ k ∧ (k : Int) < q.off + q.dat.size) := by
    intro h4
    have : wrB q k = true := by simp only [wrB, Bool.and_eq_true, decide_eq_true_eq]; exact h4
    rw [h0] at this
    cases this
  have h2 : k - p.off.toNat < p.dat.data.toList.length := by omega
  refine ⟨h2, ?_⟩
  rw [whole_get hp hq, if_neg h3, if_pos h, List.getElem?_eq_getElem h2]
end Go.Proofs.Ytonohjhmnlfakaa.H
set_option linter.unusedVariables false
set_option linter.unusedSimpArgs false
set_option maxRecDepth 100000
namespace Go.Proofs.Ytonohjhmnlfakaa.H
open Go.RowKit
theorem own_skip {w : World} {A B : HP} {L : List HP} (h : Own w (A :: B :: L)) : Own w (A :: L) := own_drop (own_perm h (List.Perm.swap _ _ _))
theorem owns_rdB {w : World} {L : List HP} {e m : Nat} {v : Value} {bs : List UInt8} (hm : m = bs.length) (h : Own w (owns e 1 v m (bcs bs) :: L)) : RdB w v bs := by
  subst hm
  exact owns_rd h
/-- What holds at each round of the reference's All. -/
def RAllInv (L : List HP) (w0 : World) (bs : List UInt8) (ps : List Pat) (v : Value) (k : Nat) (wr : World) : Prop :=
  (∀ p ∈ ps.take k, rightB p = true) ∧ Own wr (owns 5 1 v 32 (bcs (appAll bs (ps.take k))) :: L) ∧ Same w0 wr
/-- What the reference's All hands back. -/
def RAllPost (L : List HP) (w0 : World) (bs : List UInt8) (ps : List Pat) (e : Ending) (w' : World) : Prop :=
  if (∀ p ∈ ps, rightB p = true) then RetX w0 (fun v => .tuple #[v, .int .i64 0]) (fun v => owns 5 1 v 32 (bcs (appAll bs ps)) :: L) e w'
  else Ret w0 (.tuple #[.slice none 0 0, .int .i64 3]) L e w'
end Go.Proofs.Ytonohjhmnlfakaa.H
set_option linter.unusedVariables false
set_option linter.unusedSimpArgs false
set_option maxRecDepth 100000
namespace Go.Proofs.Ytonohjhmnlfakaa.H
open Go.RowKit
/-- What holds at each round of the reference's Join. -/
def RJoinInv (L : List HP) (w0 : World) (p q : Pat) (lo e1 g : Nat) (v f t : Value) (k : Nat) (wr : World) : Prop :=
  k ≤ g ∧ ((k ≤ lo ∧ f = .int .i64 (-1) ∧ t = .int .i64 0) ∨ (lo < k ∧ f = .int .i64 (lo : Int) ∧ t = .int .i64 ((min k e1 : Nat) : Int))) ∧ Own wr (owns 5 1 v (min k e1 - lo) (bcs (datK p q lo (min k e1))) :: L) ∧ Same w0 wr
theorem ba_get {t : ByteArray} {i : Nat} (h : i < t.size) : t.data.toList[i]? = some (t[i]'h) := by
  have h2 : i < t.data.toList.length := by rw [Array.length_toList]; exact h
  rw [List.getElem?_eq_getElem h2]
  rfl
theorem rjoin_in {L : List HP} {w0 wr : World} {p q : Pat} {lo e1 g k : Nat} {v : Value} {B : HP} {x : UInt8} (hr : Runs p q lo e1 g) (hk : lo ≤ k ∧ k < e1) (hkg : k < g) (hx : (wholeOf p q)[k]? = some x)
    (hO : Own wr (owns 5 1 v (min k e1 - lo + 1) (bcs (datK p q lo (min k e1)) ++ bcs [x]) :: B :: L)) (hS : Same w0 wr) : RJoinInv L w0 p q lo e1 g v (.int .i64 (lo : Int)) (.int .i64 ((k : Int) + 1)) (k + 1) wr := by
  have e : min (k + 1) e1 = k + 1 := by omega
  refine ⟨by omega, .inr ⟨by omega, rfl, by rw [e]; rfl⟩, ?_, hS⟩
  rw [e, datK_succ hk.1 hx]
  have h := own_skip hO
  rw [Nat.min_eq_left (by omega : k ≤ e1)] at h
  rw [show k + 1 - lo = k - lo + 1 by omega]
  have e2 : bcs (datK p q lo k ++ [x]) = bcs (datK p q lo k) ++ bcs [x] := by simp [bcs]
  rw [e2]
  exact h
theorem rjoin_out {L : List HP} {w0 wr : World} {p q : Pat} {lo e1 g k : Nat} {v f t : Value} (hr : Runs p q lo e1 g) (hk : ¬ (lo ≤ k ∧ k < e1)) (hkg : k < g) (hst : (k ≤ lo ∧ f = .int .i64 (-1) ∧ t = .int .i64 0) ∨ (lo < k ∧ f = .int .i64 (lo : Int) ∧ t = .int .i64 ((min k e1 : Nat) : Int)))
    (hO : Own wr (owns 5 1 v (min k e1 - lo) (bcs (datK p q lo (min k e1))) :: L)) (hS : Same w0 wr) : RJoinInv L w0 p q lo e1 g v f t (k + 1) wr := by
  obtain ⟨h1, h2, h3, h4, h5, h6⟩ := hr.out
  rcases hst with ⟨hk1, rfl, rfl⟩ | ⟨hk1, rfl, rfl⟩
  · have hlt : k < lo := by omega
    refine ⟨by omega, .inl ⟨by omega, rfl, rfl⟩, ?_, hS⟩
    have e0 : min k e1 - lo = 0 := by omega
    have e00 : min (k + 1) e1 - lo = 0 := by omega
    simp only [datK, e0, e00] at hO ⊢
    exact hO
  · have e : min (k + 1) e1 = min k e1 := by omega
    refine ⟨by omega, .inr ⟨by omega, rfl, by rw [e]⟩, ?_, hS⟩
    rw [e]
    exact hO
/-- What the reference's Join hands back. -/
def RJoinPost (L : List HP) (w0 : World) (p q : Pat) (lo e1 g : Nat) (e : Ending) (w' : World) : Prop :=
  if g = 32 then Ret w0 (.tuple #[.agg #[.int .i64 p.blk, .int .i64 (lo : Int), .string (bstr (datK p q lo e1))], .bool true]) L e w'
  else Ret w0 (.tuple #[.agg #[.int .i64 0, .int .i64 0, .string ⟨#[]⟩], .bool false]) L e w'
end Go.Proofs.Ytonohjhmnlfakaa.H
set_option linter.unusedVariables false
set_option linter.unusedSimpArgs false
namespace Go.Proofs.Ytonohjhmnlfakaa.H
open Go.RowKit
/-- A patch that is on. -/
structure On where
  n : Nat
  p : Pat
structure Stk where
  base : List UInt8
  l : List On
  next : Nat
def Stk.pats (m : Stk) : List Pat := m.l.map On.p
def Stk.bytes (m : Stk) : List UInt8 := appAll m.base m.pats
/-- What stands where a patch is. -/
def cutP (b : List UInt8) (p : Pat) : List UInt8 := (b.drop p.off.toNat).take p.dat.size
/-- .. of each of some, one above the other. -/
def unders : List UInt8 → List Pat → List (List UInt8)
  | _, [] => []
  | b, p :: ps => cutP b p :: unders (app b p) ps
structure Stk.Ok (m : Stk) : Prop where
  base : m.base.length = 32
  right : ∀ x ∈ m.l, rightB x.p = true
  asc : m.l.Pairwise fun a b => a.n < b.n
  lt : ∀ x ∈ m.l, x.n < m.next
  len : m.l.length ≤ 200
  lim : m.next ≤ 1000000
/-- A cell in memory: where it lies, what stands in it. -/
structure Cl where
  a : Nat
  u : Value
  n : Nat
  p : Pat
  und : List UInt8
def Cl.on (c : Cl) : On := ⟨c.n, c.p⟩
def Cl.ptr (c : Cl) : Value := .pointer (some ⟨c.a, 0, none⟩)
def Cl.row (c : Cl) : Array Value := #[.int .i64 c.p.blk, .int .i64 c.p.off, .string c.p.dat, .int .i64 c.n, c.u]
def cellL (cs : List Cl) : List HP := cs.map fun c => pts c.a (.cells c.row 107)
def undL (cs : List Cl) : List HP := cs.map fun c => owns 5 1 c.u c.und.length (bcs c.und)
def srow (byt : List UInt8) (v : Value) (next : Nat) : Array Value := (bcs byt ++ [v, .int .i64 next]).toArray
def stkL (p : Nat) (v : Value) (cs : List Cl) (byt : List UInt8) (next : Nat) : List HP :=
  pts p (.cells (srow byt v next) 104) :: owns 105 1 v cs.length (cs.map Cl.ptr) :: (cellL cs ++ undL cs)
structure Reps (m : Stk) (cs : List Cl) : Prop where
  on : cs.map Cl.on = m.l
  und : cs.map Cl.und = unders m.base m.pats
def stk (p : Nat) (m : Stk) : HP := ex fun x : Value × List Cl => sep (pur (Reps m x.2)) (seps (stkL p x.1 x.2 m.bytes m.next))
theorem stk_open {w : World} {L : List HP} {p : Nat} {m : Stk} : Own w (stk p m :: L) ↔ ∃ v cs, Reps m cs ∧ Own w (stkL p v cs m.bytes m.next ++ L) := by
  unfold stk
  rw [own_ex]
  constructor
  · rintro ⟨⟨v, cs⟩, h⟩
    rw [own_sep, own_pur, own_seps] at h
    exact ⟨v, cs, h.1, h.2⟩
  · rintro ⟨v, cs, h1, h2⟩
    refine ⟨(v, cs), ?_⟩
    rw [own_sep, own_pur, own_seps]
    exact ⟨h1, h2⟩
/-- What may be read of a stack. -/
structure StkAt (w : World) (p : Nat) (v : Value) (cs : List Cl) (byt : List UInt8) (next : Nat) : Prop where
  blk : w.heap[p]? = some (.cells (srow byt v next) 104)
  rd : Rd w 1 v cs.length (cs.map Cl.ptr)
  cell : ∀ (i : Nat) (c : Cl), cs[i]? = some c → w.heap[c.a]? = some (.cells c.row 107)
  und : ∀ (i : Nat) (c : Cl), cs[i]? = some c → RdB w c.u c.und
theorem own_mem {w : World} {L : List HP} {A : HP} (h : Own w L) (hA : A ∈ L) : ∃ L', Own w (A :: L') := by
  obtain ⟨k, hk, e⟩ := List.mem_iff_getElem.1 hA
  exact ⟨_, own_at h (by rw [List.getElem?_eq_getElem hk, e])⟩
theorem stkAt_of {w : World} {L : List HP} {p : Nat} {v : Value} {cs : List Cl} {byt : List UInt8} {next : Nat} (h : Own w (stkL p v cs byt next ++ L)) : StkAt w p v cs byt next := by
  refine ⟨own_get 0 h rfl, owns_rd (own_drop h), fun i c hc => ?_, fun i c hc => ?_⟩
  · obtain ⟨L', h'⟩ := own_mem h (A := pts c.a (.cells c.row 107)) (by
      simp only [stkL, List.cons_append, List.append_assoc, List.mem_cons, List.mem_append]
      exact .inr (.inr (.inl (List.mem_map.2 ⟨c, List.mem_of_getElem? hc, rfl⟩))))
    exact own_pts h'
  · obtain ⟨L', h'⟩ := own_mem h (A := owns 5 1 c.u c.und.length (bcs c.und)) (by
      simp only [stkL, List.cons_append, List.append_assoc, List.mem_cons, List.mem_append]
      exact .inr (.inr (.inr (.inl (List.mem_map.2 ⟨c, List.mem_of_getElem? hc, rfl⟩)))))
    exact owns_rd h'
theorem unders_length (ps : List Pat) : ∀ b, (unders b ps).length = ps.length := by
  induction ps with
  | nil => intro b; rfl
  | cons p ps ih => intro b; simp [unders, ih]
theorem unders_get (ps : List Pat) : ∀ (b : List UInt8) (i : Nat) (p : Pat), ps[i]? = some p → (unders b ps)[i]? = some (cutP (appAll b (ps.take i)) p) := by
  induction ps with
  | nil => intro b i p h; simp at h
  | cons q ps ih =>
    intro b i p h
    cases i with
    | zero => simp at h; subst h; rfl
    | succ i =>
      simp only [unders, List.getElem?_cons_succ, List.take_succ_cons]
      exact ih _ i p (by simpa using h)
theorem unders_snoc (ps : List Pat) (p : Pat) : ∀ b, unders b (ps ++ [p]) = unders b ps ++ [cutP (appAll b ps) p] := by
  induction ps with
  | nil => intro b; rfl
  | cons q ps ih => intro b; simp only [List.cons_append, unders, ih]; rfl
theorem unders_append (ps qs : List Pat) : ∀ b, unders b (ps ++ qs) = unders b ps ++ unders (appAll b ps) qs := by
  induction ps with
  | nil => intro b; rfl
  | cons q ps ih => intro b; simp only [List.cons_append, unders, ih]; rfl
theorem appAll_append (b : List UInt8) (ps qs : List Pat) : appAll b (ps ++ qs) = appAll (appAll b ps) qs := by simp [appAll]
theorem Reps.length {m : Stk} {cs : List Cl} (h : Reps m cs) : cs.length = m.l.length := by rw [← h.on, List.length_map]
theorem Reps.at_ {m : Stk} {cs : List Cl} (h : Reps m cs) {i : Nat} {c : Cl} (hc : cs[i]? = some c) : m.l[i]? = some ⟨c.n, c.p⟩ := by
  rw [← h.on, List.getElem?_map, hc]; rfl
theorem Reps.pats {m : Stk} {cs : List Cl} (h : Reps m cs) : m.pats = cs.map Cl.p := by
  unfold Stk.pats
  rw [← h.on, List.map_map]; rfl
theorem Reps.und_at {m : Stk} {cs : List Cl} (h : Reps m cs) {i : Nat} {c : Cl} (hc : cs[i]? = some c) : c.und = cutP (appAll m.base (m.pats.take i)) c.p := by
  have h1 : (cs.map Cl.und)[i]? = some c.und := by rw [List.getElem?_map, hc]; rfl
  rw [h.und, unders_get _ _ _ c.p (by rw [h.pats, List.getElem?_map, hc]; rfl)] at h1
  exact (Option.some.inj h1).symm
theorem cutP_length {b : List UInt8} {p : Pat} (hb : b.length = 32) (hp : rightB p = true) : (cutP b p).length = p.dat.size := by
  obtain ⟨p1, p2, p3, p4, p5, p6⟩ := rightB_iff.1 hp
  simp only [cutP, List.length_take, List.length_drop]
  omega
/-- Laid and lifted: as it was. -/
theorem lift_lay {b : List UInt8} {p : Pat} (hb : b.length = 32) (hp : rightB p = true) : over (app b p) p.off.toNat (cutP b p) = b := undo_app b p hb hp
end Go.Proofs.Ytonohjhmnlfakaa.H
set_option linter.unusedVariables false
set_option linter.unusedSimpArgs false
set_option maxRecDepth 100000
namespace Go.Proofs.Ytonohjhmnlfakaa.H
open Go.RowKit
def meetB (p q : Pat) : Bool := decide (p.off < q.off + q.dat.size) && decide (q.off < p.off + p.dat.size)
theorem w64_in (n : Int) (h : -9223372036854775808 ≤ n ∧ n ≤ 9223372036854775807) : wrap64 n = n := by unfold wrap64; omega
theorem row_cells : isRowB Try.prog 102 = some false := by kernel_rfl
theorem srow_v (byt : List UInt8) (v : Value) (next : Nat) (h : byt.length = 32) : (srow byt v next)[32]? = some v := by
  simp only [srow, List.getElem?_toArray]
  rw [List.getElem?_append_right (by rw [bcs_length]; omega), bcs_length, h]
  rfl
theorem srow_next (byt : List UInt8) (v : Value) (next : Nat) (h : byt.length = 32) : (srow byt v next)[33]? = some (.int .i64 next) := by
  simp only [srow, List.getElem?_toArray]
  rw [List.getElem?_append_right (by rw [bcs_length]; omega), bcs_length, h]
  rfl
section
variable (w : World) (L : List HP) (c d : Cl)
theorem cend_c (hO : Own w L) (hc : ∀ w', Own w' L → w'.heap[c.a]? = some (.cells c.row 107)) (hR : rightB c.p = true) :
    Calls Try.prog 87 #[.pointer (some ⟨c.a, 0, none⟩)] w (Ret w (.int .i64 (c.p.off + c.p.dat.size)) L) := by
  obtain ⟨p1, p2, p3, p4, p5, p6⟩ := rightB_iff.1 hR
  have HC := Lib.hid hc
  have m1 : IntKind.i64.wrap (c.p.off + (c.p.dat.size : Int)) = c.p.off + c.p.dat.size := by rw [IntKind.wrap_i64] <;> omega
  clear hc hR
  go_enter Try.func87, Try.ntmps87
  go_wp2
  refine wp_region_seq (Cls w (L)) 12 15 mixed (by kernel_rfl) rfl (cls_drew hO) ?_
  simp only [List.append_eq, List.cons_append, List.nil_append, List.take_succ_cons, List.take_zero]
  repeat (first
    | (apply wv_skip rfl; simp only [Act.put, List.setIfInBounds_toArray, List.set_cons_zero, List.set_cons_succ])
    | (refine wv_load1 (b := c.a) (cs := c.row) (t := 107) (v := .int .i64 c.p.off) rfl rfl rfl row_int (fun w h => HC.out w h.1) rfl ?_; simp only [Act.put, List.setIfInBounds_toArray, List.set_cons_zero, List.set_cons_succ])
    | (refine wv_load1 (b := c.a) (cs := c.row) (t := 107) (v := .string c.p.dat) rfl rfl rfl row_str (fun w h => HC.out w h.1) rfl ?_; simp only [Act.put, List.setIfInBounds_toArray, List.set_cons_zero, List.set_cons_succ])
    | (apply wv_load1 rfl rfl rfl; (first | exact row_int | exact row_str | exact row_bool | exact row_u8 | exact row_bys | exact row_pats | exact row_err); (intro w h; (first | exact own_get 0 h.1 rfl | exact own_get 1 h.1 rfl | exact own_get 2 h.1 rfl | exact own_get 3 h.1 rfl | exact own_get 4 h.1 rfl | exact own_get 5 h.1 rfl | exact own_get 6 h.1 rfl | exact own_get 7 h.1 rfl)); (first | (simp only [List.getElem?_toArray, List.getElem?_cons_succ, List.getElem?_cons_zero]; rfl) | rfl); simp only [Act.put, List.setIfInBounds_toArray, List.set_cons_zero, List.set_cons_succ])
    | (apply wv_loadrow rfl rfl rfl; (first | exact row_pat); exact sz_pat; (intro w h; (first | exact own_get 0 h.1 rfl | exact own_get 1 h.1 rfl | exact own_get 2 h.1 rfl | exact own_get 3 h.1 rfl | exact own_get 4 h.1 rfl | exact own_get 5 h.1 rfl | exact own_get 6 h.1 rfl | exact own_get 7 h.1 rfl)); (focus (simp; done)); (first | (simp only [List.drop_zero, List.drop_succ_cons, List.take_succ_cons, List.take_zero]; rfl) | rfl); simp only [Act.put, List.setIfInBounds_toArray, List.set_cons_zero, List.set_cons_succ])
    | (apply wv_run rfl; (focus (intro w h; go_simp; first | done | rfl)); simp only [Act.put, List.setIfInBounds_toArray, List.set_cons_zero, List.set_cons_succ])
    | (apply wv_call rfl; (focus (intro w; go_simp; first | done | exact ⟨rfl, rfl⟩)); (focus (intro w h; apply cls_call h; fail)); simp only [Act.put, List.setIfInBounds_toArray, List.set_cons_zero, List.set_cons_succ]))
  refine wv_nil ?_
  simp only [List.drop_succ_cons, List.drop_zero]
  intro w5 ⟨hO5, hS5⟩
  clear hO
  go_wp2
  go_ret
  exact ⟨rfl, hO5, hS5⟩
theorem cend_x (x : Value) (hx : x = .pointer (some ⟨c.a, 0, none⟩)) (hO : Own w L) (hc : ∀ w', Own w' L → w'.heap[c.a]? = some (.cells c.row 107)) (hR : rightB c.p = true) :
    Calls Try.prog 87 #[x] w (Ret w (.int .i64 (c.p.off + c.p.dat.size)) L) := by
  subst hx
  exact cend_c w L c hO hc hR
set_option maxHeartbeats 1000000 in
theorem meets_c (hO : Own w L) (hc : ∀ w', Own w' L → w'.heap[c.a]? = some (.cells c.row 107)) (hR : rightB c.p = true) (hd : ∀ w', Own w' L → w'.heap[d.a]? = some (.cells d.row 107)) (hR2 : rightB d.p = true) :
    Calls Try.prog 89 #[.pointer (some ⟨c.a, 0, none⟩), .pointer (some ⟨d.a, 0, none⟩)] w (Ret w (.bool (meetB c.p d.p)) L) := by
  have HC := Lib.hid hc
  have HD := Lib.hid hd
  have HR := Lib.hid hR
  have HR2 := Lib.hid hR2
  clear hc hd hR hR2
  cases h1 : decide (c.p.off < d.p.off + d.p.dat.size) with
  | true =>
    go_enter Try.func89, Try.ntmps89
    go_wp2
    refine wp_region_seq (Cls w (L)) 18 23 mixed (by kernel_rfl) rfl (cls_drew hO) ?_
    simp only [List.append_eq, List.cons_append, List.nil_append, List.take_succ_cons, List.take_zero]
    repeat (first
      | (apply wv_skip rfl; simp only [Act.put, List.setIfInBounds_toArray, List.set_cons_zero, List.set_cons_succ])
      | (refine wv_load1 (b := c.a) (cs := c.row) (t := 107) (v := .int .i64 c.p.off) rfl rfl rfl row_int (fun w h => HC.out w h.1) rfl ?_; simp only [Act.put, List.setIfInBounds_toArray, List.set_cons_zero, List.set_cons_succ])
      | (refine wv_load1 (b := d.a) (cs := d.row) (t := 107) (v := .int .i64 d.p.off) rfl rfl rfl row_int (fun w h => HD.out w h.1) rfl ?_; simp only [Act.put, List.setIfInBounds_toArray, List.set_cons_zero, List.set_cons_succ])
      | (apply wv_load1 rfl rfl rfl; (first | exact row_int | exact row_str | exact row_bool | exact row_u8 | exact row_bys | exact row_pats | exact row_err); (intro w h; (first | exact own_get 0 h.1 rfl | exact own_get 1 h.1 rfl | exact own_get 2 h.1 rfl | exact own_get 3 h.1 rfl | exact own_get 4 h.1 rfl | exact own_get 5 h.1 rfl | exact own_get 6 h.1 rfl | exact own_get 7 h.1 rfl)); (first | (simp only [List.getElem?_toArray, List.getElem?_cons_succ, List.getElem?_cons_zero]; rfl) | rfl); simp only [Act.put, List.setIfInBounds_toArray, List.set_cons_zero, List.set_cons_succ])
      | (apply wv_loadrow rfl rfl rfl; (first | exact row_pat); exact sz_pat; (intro w h; (first | exact own_get 0 h.1 rfl | exact own_get 1 h.1 rfl | exact own_get 2 h.1 rfl | exact own_get 3 h.1 rfl | exact own_get 4 h.1 rfl | exact own_get 5 h.1 rfl | exact own_get 6 h.1 rfl | exact own_get 7 h.1 rfl)); (focus (simp; done)); (first | (simp only [List.drop_zero, List.drop_succ_cons, List.take_succ_cons, List.take_zero]; rfl) | rfl); simp only [Act.put, List.setIfInBounds_toArray, List.set_cons_zero, List.set_cons_succ])
      | (apply wv_run rfl; (focus (intro w h; go_simp; first | done | rfl)); simp only [Act.put, List.setIfInBounds_toArray, List.set_cons_zero, List.set_cons_succ])
      | (apply wv_call rfl; (focus (intro w; go_simp; first | done | exact ⟨rfl, rfl⟩)); (focus (intro w h; apply cls_call h; first | exact cend_x _ _ d _ rfl h.1 HD.out HR2.out | exact cend_x _ _ c _ rfl h.1 HC.out HR.out)); simp only [Act.put, List.setIfInBounds_toArray, List.set_cons_zero, List.set_cons_succ]))
    refine wv_nil ?_
    simp only [List.drop_succ_cons, List.drop_zero]
    intro w5 ⟨hO5, hS5⟩
    clear hO
    go_wp2
    go_ret
    exact ⟨by simp only [meetB, h1, Bool.true_and]; rfl, hO5, hS5⟩
  | false =>
    go_enter Try.func89, Try.ntmps89
    go_wp2
    refine wp_region_seq (Cls w (L)) 18 23 mixed (by kernel_rfl) rfl (cls_drew hO) ?_
    simp only [List.append_eq, List.cons_append, List.nil_append, List.take_succ_cons, List.take_zero]
    repeat (first
      | (apply wv_skip rfl; simp only [Act.put, List.setIfInBounds_toArray, List.set_cons_zero, List.set_cons_succ])
      | (refine wv_load1 (b := c.a) (cs := c.row) (t := 107) (v := .int .i64 c.p.off) rfl rfl rfl row_int (fun w h => HC.out w h.1) rfl ?_; simp only [Act.put, List.setIfInBounds_toArray, List.set_cons_zero, List.set_cons_succ])
      | (refine wv_load1 (b := d.a) (cs := d.row) (t := 107) (v := .int .i64 d.p.off) rfl rfl rfl row_int (fun w h => HD.out w h.1) rfl ?_; simp only [Act.put, List.setIfInBounds_toArray, List.set_cons_zero, List.set_cons_succ])
      | (apply wv_load1 rfl rfl rfl; (first | exact row_int | exact row_str | exact row_bool | exact row_u8 | exact row_bys | exact row_pats | exact row_err); (intro w h; (first | exact own_get 0 h.1 rfl | exact own_get 1 h.1 rfl | exact own_get 2 h.1 rfl | exact own_get 3 h.1 rfl | exact own_get 4 h.1 rfl | exact own_get 5 h.1 rfl | exact own_get 6 h.1 rfl | exact own_get 7 h.1 rfl)); (first | (simp only [List.getElem?_toArray, List.getElem?_cons_succ, List.getElem?_cons_zero]; rfl) | rfl); simp only [Act.put, List.setIfInBounds_toArray, List.set_cons_zero, List.set_cons_succ])
      | (apply wv_loadrow rfl rfl rfl; (first | exact row_pat); exact sz_pat; (intro w h; (first | exact own_get 0 h.1 rfl | exact own_get 1 h.1 rfl | exact own_get 2 h.1 rfl | exact own_get 3 h.1 rfl | exact own_get 4 h.1 rfl | exact own_get 5 h.1 rfl | exact own_get 6 h.1 rfl | exact own_get 7 h.1 rfl)); (focus (simp; done)); (first | (simp only [List.drop_zero, List.drop_succ_cons, List.take_succ_cons, List.take_zero]; rfl) | rfl); simp only [Act.put, List.setIfInBounds_toArray, List.set_cons_zero, List.set_cons_succ])
      | (apply wv_run rfl; (focus (intro w h; go_simp; first | done | rfl)); simp only [Act.put, List.setIfInBounds_toArray, List.set_cons_zero, List.set_cons_succ])
      | (apply wv_call rfl; (focus (intro w; go_simp; first | done | exact ⟨rfl, rfl⟩)); (focus (intro w h; apply cls_call h; first | exact cend_x _ _ d _ rfl h.1 HD.out HR2.out | exact cend_x _ _ c _ rfl h.1 HC.out HR.out)); simp only [Act.put, List.setIfInBounds_toArray, List.set_cons_zero, List.set_cons_succ]))
    refine wv_nil ?_
    simp only [List.drop_succ_cons, List.drop_zero]
    intro w5 ⟨hO5, hS5⟩
    clear hO
    go_wp2
    go_ret
    exact ⟨by simp only [meetB, h1, Bool.false_and]; rfl, hO5, hS5⟩
theorem cmp_c (n : Int) (hO : Own w L) (hc : ∀ w', Own w' L → w'.heap[c.a]? = some (.cells c.row 107)) :
    Calls Try.prog 108 #[.pointer (some ⟨c.a, 0, none⟩), .int .i64 n] w (Ret w (.int .i64 (wrap64 (c.n - n))) L) := by
  have hg := hc w hO
  clear hc
  go_enter Try.func108, Try.ntmps108
  go_wp2_with (refine own_load1 (b := c.a) (cs := c.row) (t := 107) (v := .int .i64 c.n) rfl rfl rfl row_int hg rfl ?_)
  go_ret
  exact ⟨rfl, hO, Same.refl _⟩
end
theorem asc_lt {cs : List Cl} (h : cs.Pairwise fun a b => a.n < b.n) {i j : Nat} {c d : Cl} (hc : cs[i]? = some c) (hd : cs[j]? = some d) (hij : i < j) : c.n < d.n := by
  obtain ⟨h1, e1⟩ := List.getElem?_eq_some_iff.1 hc
  obtain ⟨h2, e2⟩ := List.getElem?_eq_some_iff.1 hd
  have := List.pairwise_iff_getElem.1 h i j h1 h2 hij
  rwa [e1, e2] at this
def SInv (cs : List Cl) (n : Int) (lo hi : Nat) : Prop := ∀ (t : Nat) (c : Cl), cs[t]? = some c → (c.n : Int) = n → lo ≤ t ∧ t ≤ hi
/-- What the search finds. -/
def Found (cs : List Cl) (n : Int) (i : Nat) (b : Bool) : Prop := i ≤ cs.length ∧ (b = true → ∃ c, cs[i]? = some c ∧ (c.n : Int) = n) ∧ (b = false → ∀ (t : Nat) (c : Cl), cs[t]? = some c → (c.n : Int) ≠ n)
theorem ptr_cell {w : World} {ad : Addr} {c k : Nat} {cs : List Cl} {d : Cl} (h : Rd w 1 (.slice (some ad) cs.length c) cs.length (cs.map Cl.ptr)) (hd : cs[k]? = some d) : w.cell? (ad.add k) = some (.pointer (some ⟨d.a, 0, none⟩)) := by
  have h1 : w.cell? ((ad.add (k * 1)).add 0) = some d.ptr := h.cell (by rw [Nat.mul_one, Nat.add_zero, List.getElem?_map, hd]; rfl)
  rwa [addr_add, Nat.mul_one, Nat.add_zero] at h1
set_option maxHeartbeats 1000000 in
theorem search_c (w : World) (L : List HP) (p : Nat) (v : Value) (cs : List Cl) (byt : List UInt8) (next : Nat) (n : Int) (hO : Own w L) (hr : ∀ w', Own w' L → StkAt w' p v cs byt next) (hasc : cs.Pairwise fun a b => a.n < b.n) (hlim : ∀ c ∈ cs, c.n ≤ 1000000) (hlen : cs.length ≤ 200) (hn : -9223372036854775808 ≤ n ∧ n ≤ 9223372036854775807) :
    Calls Try.prog 107 #[v, .int .i64 n, .func (.func 108) #[] #[]] w
      (fun e w' => ∃ i b, e = .returned (.tuple #[.int .i64 (i : Nat), .bool b]) ∧ Found cs n i b ∧ Own w' L ∧ Same w w') := by
  obtain ⟨A, c, rfl⟩ := (hr w hO).rd.slice
  have hmax := (hr w hO).rd.max
  have HR := Lib.hid hr
  have HA := Lib.hid hasc
  have HL := Lib.hid hlim
  clear hr hasc hlim
  go_enter Try.func107, Try.ntmps107
  go_wp2
  go_loopw [9, 10] (fun i j wr => ∃ lo hi : Nat, lo ≤ hi ∧ hi ≤ cs.length ∧ i = .int .i64 lo ∧ j = .int .i64 hi ∧ SInv cs n lo hi ∧ Own wr L ∧ Same w wr) (fun i j _ => (intOf j).toNat - (intOf i).toNat)
  case atStart => exact ⟨0, cs.length, Nat.zero_le _, Nat.le_refl _, rfl, rfl, fun t c h _ => ⟨Nat.zero_le _, Nat.le_of_lt (List.getElem?_eq_some_iff.1 h).1⟩, hO, Same.refl _⟩
  case round =>
    clear hO
    obtain ⟨lo, hi, h1, h2, rfl, rfl, hinv, hO, hS⟩ := hrel
    have HI := Lib.hid hinv
    clear hinv
    by_cases hlt : lo < hi
    · obtain ⟨h, hh⟩ : ∃ h, h = (lo + hi) / 2 := ⟨_, rfl⟩
      have he : ((lo : Int) + hi) / 2 = (h : Int) := by omega
      have hhl : h < cs.length := by omega
      obtain ⟨d, hd⟩ : ∃ d, cs[h]? = some d := ⟨_, List.getElem?_eq_getElem hhl⟩
      obtain ⟨ad, rfl⟩ := (HR.out _ hO).rd.addr (by rw [List.length_map]; omega)
      have hcell := ptr_cell (HR.out _ hO).rd hd
      have hm1 : (h : Int) < cs.length := by omega
      have HH : Hid (lo ≤ h ∧ h < hi) := by show _ ∧ _; omega
      have HD := Lib.hid hd
      clear hh hd hhl
      cases hcmp : decide (wrap64 ((d.n : Int) - n) < 0) with
      | true =>
        have HS : Hid (SInv cs n (h + 1) hi) := fun t c hc hcn => by
          have := HI.out t c hc hcn
          refine ⟨?_, this.2⟩
          have l1 := HL.out d (List.mem_of_getElem? HD.out)
          have l2 := HL.out c (List.mem_of_getElem? hc)
          have l3 : wrap64 ((d.n : Int) - n) < 0 := by simpa using hcmp
          rw [w64_in _ (by omega)] at l3
          rcases Nat.lt_or_ge h t with h5 | h5
          · exact h5
          · rcases Nat.lt_or_ge t h with h6 | h6
            · have := asc_lt HA.out hc HD.out h6
              omega
            · have : t = h := by omega
              subst this
              rw [hc] at HD
              cases Option.some.inj HD.out
              omega
        go_wp2_with (go_at_call 108; refine (cmp_c _ _ d n hO (fun w' h' => (HR.out w' h').cell _ _ HD.out)).mono ?_; clear hO hcell; rintro e w5 ⟨rfl, hO, hS5⟩)
        go_roundw
        case rel => exact ⟨h + 1, hi, by have := HH.out; omega, h2, by go_num, rfl, HS.out, hO, hS.trans hS5⟩
        case measure => have := HH.out; simp [intOf]; omega
      | false =>
        have HS : Hid (SInv cs n lo h) := fun t c hc hcn => by
          have := HI.out t c hc hcn
          refine ⟨this.1, ?_⟩
          have l1 := HL.out d (List.mem_of_getElem? HD.out)
          have l2 := HL.out c (List.mem_of_getElem? hc)
          have l3 : ¬ wrap64 ((d.n : Int) - n) < 0 := by simpa using hcmp
          rw [w64_in _ (by omega)] at l3
          rcases Nat.lt_or_ge h t with h5 | h5
          · have := asc_lt HA.out HD.out hc h5
            omega
          · exact h5
        go_wp2_with (go_at_call 108; refine (cmp_c _ _ d n hO (fun w' h' => (HR.out w' h').cell _ _ HD.out)).mono ?_; clear hO hcell; rintro e w5 ⟨rfl, hO, hS5⟩)
        go_roundw
        case rel => exact ⟨lo, h, HH.out.1, by have := HH.out; omega, rfl, rfl, HS.out, hO, hS.trans hS5⟩
        case measure => have := HH.out; simp [intOf]; omega
    · have hle : lo = hi := by omega
      subst hle
      by_cases hll : lo < cs.length
      · obtain ⟨d, hd⟩ : ∃ d, cs[lo]? = some d := ⟨_, List.getElem?_eq_getElem hll⟩
        obtain ⟨ad, rfl⟩ := (HR.out _ hO).rd.addr (by rw [List.length_map]; omega)
        have hcell := ptr_cell (HR.out _ hO).rd hd
        have hm1 : (lo : Int) < cs.length := by omega
        have HD := Lib.hid hd
        clear hd
        have HF : ∀ b, (wrap64 ((d.n : Int) - n) == 0) = b → Found cs n lo b := fun b hb => by
          have l1 := HL.out d (List.mem_of_getElem? HD.out)
          refine ⟨h2, fun hb2 => ⟨d, HD.out, ?_⟩, fun hb2 t c hc hcn => ?_⟩
          · rw [hb2] at hb
            have l3 : wrap64 ((d.n : Int) - n) = 0 := by simpa using hb
            unfold wrap64 at l3
            omega
          · have := HI.out t c hc hcn
            have : t = lo := by omega
            subst this
            have e := Option.some.inj (hc.symm.trans HD.out)
            subst e
            rw [hb2] at hb
            have l3 : ¬ wrap64 ((c.n : Int) - n) = 0 := by simpa using hb
            rw [w64_in _ (by omega)] at l3
            omega
        have HF := Lib.hid HF
        go_wp2_with (go_at_call 108; refine (cmp_c _ _ d n hO (fun w' h' => (HR.out w' h').cell _ _ HD.out)).mono ?_; clear hO hcell; rintro e w5 ⟨rfl, hO, hS5⟩)
        go_ret2
        exact ⟨lo, _, rfl, HF.out _ rfl, hO, hS.trans hS5⟩
      · have hle : lo = cs.length := by omega
        have HF : Hid (Found cs n lo false) := ⟨h2, fun h => Bool.noConfusion h, fun _ t c hc hcn => Nat.lt_irrefl _ (Nat.lt_of_le_of_lt (Nat.le_trans (Nat.le_of_eq hle.symm) (HI.out t c hc hcn).1) (List.getElem?_eq_some_iff.1 hc).1)⟩
        subst hle
        go_wp2
        go_ret2
        exact ⟨_, _, rfl, HF.out, hO, hS⟩
/-- Where a number stands. -/
def placeOf (cs : List Cl) (n : Int) : Int := match cs.findIdx? (fun c => decide ((c.n : Int) = n)) with
  | some i => i
  | none => -1
theorem place_found {cs : List Cl} (hasc : cs.Pairwise fun a b => a.n < b.n) {n : Int} {i : Nat} (h : Found cs n i true) : placeOf cs n = i := by
  obtain ⟨_, h1, _⟩ := h
  obtain ⟨c, hc, hcn⟩ := h1 rfl
  unfold placeOf
  have : cs.findIdx? (fun c => decide ((c.n : Int) = n)) = some i := by
    rw [List.findIdx?_eq_some_iff_getElem]
    obtain ⟨hl, he⟩ := List.getElem?_eq_some_iff.1 hc
    refine ⟨hl, by rw [he]; simpa using hcn, fun j hj => ?_⟩
    have := asc_lt hasc (List.getElem?_eq_getElem (show j < cs.length by omega)) hc hj
    simp
    omega
  rw [this]
theorem place_not {cs : List Cl} {n : Int} {i : Nat} (h : Found cs n i false) : placeOf cs n = -1 := by
  obtain ⟨_, _, h1⟩ := h
  unfold placeOf
  have : cs.findIdx? (fun c => decide ((c.n : Int) = n)) = none := by
    rw [List.findIdx?_eq_none_iff]
    intro c hc
    obtain ⟨k, hk, e⟩ := List.mem_iff_getElem.1 hc
    simpa using h1 rfl k c (by rw [List.getElem?_eq_getElem hk, e])
  rw [this]
set_option maxHeartbeats 1000000 in
theorem place_c (w : World) (L : List HP) (p : Nat) (v : Value) (cs : List Cl) (byt : List UInt8) (next : Nat) (n : Int) (hO : Own w L) (hr : ∀ w', Own w' L → StkAt w' p v cs byt next) (hasc : cs.Pairwise fun a b => a.n < b.n) (hlim : ∀ c ∈ cs, c.n ≤ 1000000) (hlen : cs.length ≤ 200) (hb : byt.length = 32) (hn : -9223372036854775808 ≤ n ∧ n ≤ 9223372036854775807) :
    Calls Try.prog 88 #[.pointer (some ⟨p, 0, none⟩), .int .i64 n] w (Ret w (.int .i64 (placeOf cs n)) L) := by
  have HR := Lib.hid hr
  have HA := Lib.hid hasc
  have HL := Lib.hid hlim
  have HV := Lib.hid (srow_v byt v next hb)
  clear hr hasc hlim
  go_enter Try.func88, Try.ntmps88
  go_upto_region 4 with (first | (refine own_load1 (b := p) (cs := srow byt v next) (t := 104) (v := v) (off := 32) rfl rfl rfl row_cells (HR.out _ hO).blk HV.out ?_) | (go_at_call 107; refine (search_c _ _ p v cs byt next n hO HR.out HA.out HL.out hlen hn).mono ?_; clear hO; rintro e w5 ⟨i, b, rfl, hF, hO, hS5⟩))
  have HF := Lib.hid hF
  clear hF
  cases b with
  | true =>
    go_wp2
    go_ret
    exact ⟨by rw [place_found HA.out HF.out]; rfl, hO, hS5⟩
  | false =>
    go_wp2
    go_ret
    exact ⟨by rw [place_not HF.out]; rfl, hO, hS5⟩
end Go.Proofs.Ytonohjhmnlfakaa.H
set_option linter.unusedVariables false
set_option linter.unusedSimpArgs false
set_option maxRecDepth 100000
namespace Go.Proofs.Ytonohjhmnlfakaa.H
open Go.RowKit
theorem info_int3 : (Try.prog.info? 3).map (fun i => (i.zero, i.size, i.bytes)) = some (some (.int .i64 0), 1, 8) := by kernel_rfl
theorem info_u83 : (Try.prog.info? 5).map (fun i => (i.zero, i.size, i.bytes)) = some (some (.int .u8 0), 1, 1) := by kernel_rfl
theorem info_u8s : (Try.prog.info? 5).map (·.size) = some 1 := by kernel_rfl
theorem int_one (x : Int) : ∀ u ∈ [Value.int .i64 x], u.oneCell' = true := by
  intro u hu
  simp at hu
  subst hu
  rfl
/-- What is asked of the cells. -/
structure CsOk (cs : List Cl) (byt : List UInt8) : Prop where
  asc : cs.Pairwise fun a b => a.n < b.n
  lim : ∀ c ∈ cs, c.n ≤ 1000000
  len : cs.length ≤ 200
  byt : byt.length = 32
  right : ∀ c ∈ cs, rightB c.p = true
def i64 (n : Int) : Prop := -9223372036854775808 ≤ n ∧ n ≤ 9223372036854775807
theorem place_at {cs : List Cl} (hasc : cs.Pairwise fun a b => a.n < b.n) {n : Int} {i : Nat} {c : Cl} (hc : cs[i]? = some c) (hn : (c.n : Int) = n) : placeOf cs n = i :=
  place_found hasc ⟨Nat.le_of_lt (List.getElem?_eq_some_iff.1 hc).1, fun _ => ⟨c, hc, hn⟩, fun h => Bool.noConfusion h⟩
theorem place_none {cs : List Cl} {n : Int} (h : ∀ c ∈ cs, (c.n : Int) ≠ n) : placeOf cs n = -1 :=
  place_not (i := 0) ⟨Nat.zero_le _, fun h => Bool.noConfusion h, fun _ t c hc => h c (List.mem_of_getElem? hc)⟩
set_option maxHeartbeats 400000 in
theorem clone_s (w : World) (L : List HP) (ad : Addr) (n c : Nat) (bs : List UInt8) (hO : Own w L) (hr : ∀ w', Own w' L → RdB w' (.slice (some ad) n c) bs) (hle : bs.length ≤ 1000) :
    Calls Try.prog 64 #[.slice (some ad) n c] w (RetX w (fun x => x) (fun x => owns 5 1 x bs.length (bcs bs) :: L)) := by
  have HR := Lib.hid hr
  have heq := Lib.run_eql_slice_nil (P := Try.prog) w 22 5 (some ad) n c 0 0 Try.underlying22
  clear hr
  go_enter Try.func64, Try.ntmps64
  go_wp2_with (first | (refine own_lit0 rfl rfl Try.underlying22 info_u8s hO ?_; clear hO; intro b w3 hO hS3) | (refine own_append (m := bs.length) (news := bcs bs) rfl rfl rfl rfl Try.underlying22 info_u83 rfl (by decide) hO ?_ (bcs_one bs) ?_ ?_ ?_; exact HR.out _ (own_drop hO); (unfold maxLen; omega); omega; clear hO; intro v' w9 hO hS9 hv'))
  go_ret
  refine ⟨v', rfl, ?_, hS3.trans hS9⟩
  rw [Nat.zero_add, List.nil_append] at hO
  exact hO
theorem srow_bytes {w : World} {p : Nat} {byt : List UInt8} {v : Value} {next : Nat} (h : w.heap[p]? = some (.cells (srow byt v next) 104)) (hb : byt.length = 32) : RdB w (.slice (some ⟨p, 0, none⟩) 32 32) byt := by
  have h2 := rd_block (w := w) (b := p) (size := 1) (n := 32) (c := 32) (xs := bcs byt) h (by
    simp only [srow, Nat.mul_one]
    rw [List.take_append_of_le_length (by rw [bcs_length]; omega), List.take_of_length_le (by rw [bcs_length]; omega)]) (by simp [srow, bcs_length]; omega) (by omega) (by omega)
  rw [← hb] at h2
  exact hb ▸ h2
section
variable (w : World) (L : List HP) (p : Nat) (v : Value) (cs : List Cl) (byt : List UInt8) (next : Nat)
theorem place_v (n : Int) (i : Nat) (c : Cl) (hO : Own w L) (hr : ∀ w', Own w' L → StkAt w' p v cs byt next) (hk : CsOk cs byt) (hn : i64 n) (hc : cs[i]? = some c) (hcn : (c.n : Int) = n) :
    Calls Try.prog 88 #[.pointer (some ⟨p, 0, none⟩), .int .i64 n] w (Ret w (.int .i64 i) L) := by
  have h := place_c w L p v cs byt next n hO hr hk.asc hk.lim hk.len hk.byt hn
  rwa [place_at hk.asc hc hcn] at h
theorem place_n (n : Int) (hO : Own w L) (hr : ∀ w', Own w' L → StkAt w' p v cs byt next) (hk : CsOk cs byt) (hn : i64 n) (hno : ∀ c ∈ cs, (c.n : Int) ≠ n) :
    Calls Try.prog 88 #[.pointer (some ⟨p, 0, none⟩), .int .i64 n] w (Ret w (.int .i64 (-1)) L) := by
  have h := place_c w L p v cs byt next n hO hr hk.asc hk.lim hk.len hk.byt hn
  rwa [place_none hno] at h
theorem bytes_c (hO : Own w L) (hr : ∀ w', Own w' L → StkAt w' p v cs byt next) (hb : byt.length = 32) :
    Calls Try.prog 26 #[.pointer (some ⟨p, 0, none⟩)] w (RetX w (fun x => x) (fun x => owns 5 1 x byt.length (bcs byt) :: L)) := by
  have HR := Lib.hid hr
  have HB : Hid (byt.length = 32) := hb
  clear hr hb
  go_enter Try.func26, Try.ntmps26
  go_wp2_with (go_at_call 64; refine (clone_s _ _ _ _ _ byt hO (fun w' h => srow_bytes (HR.out w' h).blk HB.out) (by rw [HB.out]; omega)).mono ?_; clear hO; rintro e w5 ⟨x, rfl, hO, hS5⟩)
  go_ret
  exact ⟨x, rfl, hO, hS5⟩
end
end Go.Proofs.Ytonohjhmnlfakaa.H
set_option linter.unusedVariables false
set_option linter.unusedSimpArgs false
set_option maxRecDepth 100000
namespace Go.Proofs.Ytonohjhmnlfakaa.H
open Go.RowKit
theorem row_ptr : isRowB Try.prog 105 = some false := by kernel_rfl
theorem nums_take {cs : List Cl} {k : Nat} {d : Cl} (hd : cs[k]? = some d) : ((cs.take k).map fun c => Value.int .i64 c.n) ++ [Value.int .i64 d.n] = (cs.take (k + 1)).map fun c => Value.int .i64 c.n := by
  obtain ⟨h1, h2⟩ := List.getElem?_eq_some_iff.1 hd
  rw [List.take_succ_eq_append_getElem h1, List.map_append, h2]; rfl
/-- The numbers of those that meet one. -/
def meetNums (cs : List Cl) (p : Pat) : List Nat := (cs.filter fun c => meetB c.p p).map Cl.n
def numV (l : List Nat) : List Value := l.map fun n : Nat => Value.int .i64 (n : Int)
theorem meet_yes {cs : List Cl} {k : Nat} {d : Cl} {p : Pat} (hd : cs[k]? = some d) (h : meetB d.p p = true) : numV (meetNums (cs.take k) p) ++ [Value.int .i64 d.n] = numV (meetNums (cs.take (k + 1)) p) := by
  obtain ⟨h1, h2⟩ := List.getElem?_eq_some_iff.1 hd
  rw [List.take_succ_eq_append_getElem h1, h2]
  simp [meetNums, numV, h]
theorem meet_no {cs : List Cl} {k : Nat} {d : Cl} {p : Pat} (hd : cs[k]? = some d) (h : meetB d.p p = false) : meetNums (cs.take (k + 1)) p = meetNums (cs.take k) p := by
  obtain ⟨h1, h2⟩ := List.getElem?_eq_some_iff.1 hd
  rw [List.take_succ_eq_append_getElem h1, h2]
  simp [meetNums, h]
theorem meets_v (w : World) (L : List HP) (c d : Cl) (b : Bool) (hb : meetB c.p d.p = b) (hO : Own w L) (hc : ∀ w', Own w' L → w'.heap[c.a]? = some (.cells c.row 107)) (hR : rightB c.p = true) (hd : ∀ w', Own w' L → w'.heap[d.a]? = some (.cells d.row 107)) (hR2 : rightB d.p = true) :
    Calls Try.prog 89 #[.pointer (some ⟨c.a, 0, none⟩), .pointer (some ⟨d.a, 0, none⟩)] w (Ret w (.bool b) L) := by
  subst hb
  exact meets_c w L c d hO hc hR hd hR2
section
variable (w : World) (L : List HP) (p : Nat) (v : Value) (cs : List Cl) (byt : List UInt8) (next : Nat)
set_option maxHeartbeats 800000 in
theorem waiting_c (hO : Own w L) (hr : ∀ w', Own w' L → StkAt w' p v cs byt next) (hk : CsOk cs byt) :
    Calls Try.prog 27 #[.pointer (some ⟨p, 0, none⟩)] w (RetX w (fun x => x) (fun x => owns 3 1 x cs.length (cs.map fun c => .int .i64 c.n) :: L)) := by
  have HR := Lib.hid hr
  have HK := Lib.hid hk
  obtain ⟨A, cap, rfl⟩ := (hr w hO).rd.slice
  have hm := (hr w hO).rd.max
  clear hr hk
  go_enter Try.func27, Try.ntmps27
  go_wp2_with (refine own_load1 (b := p) (cs := srow byt _ next) (t := 104) (off := 32) rfl rfl rfl row_cells (HR.out _ hO).blk (srow_v _ _ _ HK.out.byt) ?_)
  go_loopw [3, 13] (fun o i wr => ∃ k : Nat, k ≤ cs.length ∧ i = .int .i64 k ∧ Own wr (owns 3 1 o k ((cs.take k).map fun c => Value.int .i64 c.n) :: L) ∧ Same w wr) (fun _ i _ => cs.length - (intOf i).toNat)
  case atStart => exact ⟨0, Nat.zero_le _, rfl, owns_nil hO, Same.refl _⟩
  case round =>
    clear hO
    obtain ⟨k, hk, rfl, hO, hS⟩ := hrel
    by_cases hlt : k < cs.length
    · obtain ⟨d, hd⟩ : ∃ d, cs[k]? = some d := ⟨_, List.getElem?_eq_getElem hlt⟩
      obtain ⟨ad, rfl⟩ := (HR.out _ (own_drop hO)).rd.addr (by rw [List.length_map]; omega)
      have hcell := ptr_cell (HR.out _ (own_drop hO)).rd hd
      have hm1 : (k : Int) < cs.length := by omega
      have HD := Lib.hid hd
      clear hd
      go_wp2_with (first | (refine own_load1 (b := d.a) (off := 3) (cs := d.row) (t := 107) (v := .int .i64 d.n) rfl rfl rfl row_int ((HR.out _ (own_drop hO)).cell _ _ HD.out) rfl ?_; clear hcell) | (refine own_append (m := 1) (n := k) (xs := ((cs.take k).map fun c => Value.int .i64 c.n)) (news := [.int .i64 d.n]) rfl rfl rfl rfl Try.underlying34 info_int3 rfl (by decide) (own_perm (own_alloc_new hO (.cells #[.int .i64 d.n] 3)) (List.Perm.swap _ _ _)) ?_ (int_one _) ?_ ?_ ?_; (exact rd_block (own_get 1 (own_perm (own_alloc_new hO (.cells #[.int .i64 d.n] 3)) (List.Perm.swap _ _ _)) rfl) rfl (by simp) (by simp) (by simp)); (have := HK.out.len; unfold maxLen; omega); (have := HK.out.len; omega); clear hO; intro v' w9 hO hS9 hv'))
      go_roundw
      case rel => exact ⟨k + 1, by omega, by go_num, by rw [← nums_take HD.out]; exact own_skip hO, hS.trans ((Same.alloc _ _).trans hS9)⟩
      case measure => simp [intOf]; omega
    · have hke : k = cs.length := by omega
      subst hke
      go_wp2
      go_ret
      refine ⟨_, rfl, ?_, hS⟩
      rw [List.take_length] at hO
      exact hO
end
end Go.Proofs.Ytonohjhmnlfakaa.H
