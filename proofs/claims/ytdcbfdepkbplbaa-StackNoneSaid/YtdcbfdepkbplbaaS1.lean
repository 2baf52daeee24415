/- A stack: what it means, and what it is in memory. -/
import Derived.Test.YtdcbfdepkbplbaaL3
import Derived.Test.YtdcbfdepkbplbaaH5
import Derived.Test.YtdcbfdepkbplbaaH6
import Derived.Test.YtdcbfdepkbplbaaH7
import Derived.Test.YtdcbfdepkbplbaaR8
set_option linter.unusedVariables false
set_option linter.unusedSimpArgs false
namespace Go.Proofs.Ytdcbfdepkbplbaa.H
open Go.RowKit
/-- A patch that is on. -/
structure On where
  n : Nat
  p : Pat
structure Stk where
  base : List UInt8
  l : List On
  next : Nat
def Stk.pats (m : Stk) : List Pat := m.l.map On.p
def Stk.bytes (m : Stk) : List UInt8 := appAll m.base m.pats
/-- What stands where a patch is. -/
def cutP (b : List UInt8) (p : Pat) : List UInt8 := (b.drop p.off.toNat).take p.dat.size
/-- .. of each of some, one above the other. -/
def unders : List UInt8 → List Pat → List (List UInt8)
  | _, [] => []
  | b, p :: ps => cutP b p :: unders (app b p) ps
structure Stk.Ok (m : Stk) : Prop where
  base : m.base.length = 32
  right : ∀ x ∈ m.l, rightB x.p = true
  asc : m.l.Pairwise fun a b => a.n < b.n
  lt : ∀ x ∈ m.l, x.n < m.next
  len : m.l.length ≤ 200
  lim : m.next ≤ 1000000
/-- A cell in memory: where it lies, what stands in it. -/
structure Cl where
  a : Nat
  u : Value
  n : Nat
  p : Pat
  und : List UInt8
def Cl.on (c : Cl) : On := ⟨c.n, c.p⟩
def Cl.ptr (c : Cl) : Value := .pointer (some ⟨c.a, 0, none⟩)
def Cl.row (c : Cl) : Array Value := #[.int .i64 c.p.blk, .int .i64 c.p.off, .string c.p.dat, .int .i64 c.n, c.u]
def cellL (cs : List Cl) : List HP := cs.map fun c => pts c.a (.cells c.row 67)
def undL (cs : List Cl) : List HP := cs.map fun c => owns 5 1 c.u c.und.length (bcs c.und)
def srow (byt : List UInt8) (v : Value) (next : Nat) : Array Value := (bcs byt ++ [v, .int .i64 next]).toArray
def stkL (p : Nat) (v : Value) (cs : List Cl) (byt : List UInt8) (next : Nat) : List HP :=
  pts p (.cells (srow byt v next) 72) :: owns 68 1 v cs.length (cs.map Cl.ptr) :: (cellL cs ++ undL cs)
structure Reps (m : Stk) (cs : List Cl) : Prop where
  on : cs.map Cl.on = m.l
  und : cs.map Cl.und = unders m.base m.pats
def stk (p : Nat) (m : Stk) : HP := ex fun x : Value × List Cl => sep (pur (Reps m x.2)) (seps (stkL p x.1 x.2 m.bytes m.next))
theorem stk_open {w : World} {L : List HP} {p : Nat} {m : Stk} : Own w (stk p m :: L) ↔ ∃ v cs, Reps m cs ∧ Own w (stkL p v cs m.bytes m.next ++ L) := by
  unfold stk
  rw [own_ex]
  constructor
  · rintro ⟨⟨v, cs⟩, h⟩
    rw [own_sep, own_pur, own_seps] at h
    exact ⟨v, cs, h.1, h.2⟩
  · rintro ⟨v, cs, h1, h2⟩
    refine ⟨(v, cs), ?_⟩
    rw [own_sep, own_pur, own_seps]
    exact ⟨h1, h2⟩
/-- What may be read of a stack. -/
structure StkAt (w : World) (p : Nat) (v : Value) (cs : List Cl) (byt : List UInt8) (next : Nat) : Prop where
  blk : w.heap[p]? = some (.cells (srow byt v next) 72)
  rd : Rd w 1 v cs.length (cs.map Cl.ptr)
  cell : ∀ (i : Nat) (c : Cl), cs[i]? = some c → w.heap[c.a]? = some (.cells c.row 67)
  und : ∀ (i : Nat) (c : Cl), cs[i]? = some c → RdB w c.u c.und
theorem own_mem {w : World} {L : List HP} {A : HP} (h : Own w L) (hA : A ∈ L) : ∃ L', Own w (A :: L') := by
  obtain ⟨k, hk, e⟩ := List.mem_iff_getElem.1 hA
  exact ⟨_, own_at h (by rw [List.getElem?_eq_getElem hk, e])⟩
theorem stkAt_of {w : World} {L : List HP} {p : Nat} {v : Value} {cs : List Cl} {byt : List UInt8} {next : Nat} (h : Own w (stkL p v cs byt next ++ L)) : StkAt w p v cs byt next := by
  refine ⟨own_get 0 h rfl, owns_rd (own_drop h), fun i c hc => ?_, fun i c hc => ?_⟩
  · obtain ⟨L', h'⟩ := own_mem h (A := pts c.a (.cells c.row 67)) (by
      simp only [stkL, List.cons_append, List.append_assoc, List.mem_cons, List.mem_append]
      exact .inr (.inr (.inl (List.mem_map.2 ⟨c, List.mem_of_getElem? hc, rfl⟩))))
    exact own_pts h'
  · obtain ⟨L', h'⟩ := own_mem h (A := owns 5 1 c.u c.und.length (bcs c.und)) (by
      simp only [stkL, List.cons_append, List.append_assoc, List.mem_cons, List.mem_append]
      exact .inr (.inr (.inr (.inl (List.mem_map.2 ⟨c, List.mem_of_getElem? hc, rfl⟩)))))
    exact owns_rd h'
theorem unders_length (ps : List Pat) : ∀ b, (unders b ps).length = ps.length := by
  induction ps with
  | nil => intro b; rfl
  | cons p ps ih => intro b; simp [unders, ih]
theorem unders_get (ps : List Pat) : ∀ (b : List UInt8) (i : Nat) (p : Pat), ps[i]? = some p → (unders b ps)[i]? = some (cutP (appAll b (ps.take i)) p) := by
  induction ps with
  | nil => intro b i p h; simp at h
  | cons q ps ih =>
    intro b i p h
    cases i with
    | zero => simp at h; subst h; rfl
    | succ i =>
      simp only [unders, List.getElem?_cons_succ, List.take_succ_cons]
      exact ih _ i p (by simpa using h)
theorem unders_snoc (ps : List Pat) (p : Pat) : ∀ b, unders b (ps ++ [p]) = unders b ps ++ [cutP (appAll b ps) p] := by
  induction ps with
  | nil => intro b; rfl
  | cons q ps ih => intro b; simp only [List.cons_append, unders, ih]; rfl
theorem unders_append (ps qs : List Pat) : ∀ b, unders b (ps ++ qs) = unders b ps ++ unders (appAll b ps) qs := by
  induction ps with
  | nil => intro b; rfl
  | cons q ps ih => intro b; simp only [List.cons_append, unders, ih]; rfl
theorem appAll_append (b : List UInt8) (ps qs : List Pat) : appAll b (ps ++ qs) = appAll (appAll b ps) qs := by simp [appAll]
theorem Reps.length {m : Stk} {cs : List Cl} (h : Reps m cs) : cs.length = m.l.length := by rw [← h.on, List.length_map]
theorem Reps.at_ {m : Stk} {cs : List Cl} (h : Reps m cs) {i : Nat} {c : Cl} (hc : cs[i]? = some c) : m.l[i]? = some ⟨c.n, c.p⟩ := by
  rw [← h.on, List.getElem?_map, hc]; rfl
theorem Reps.pats {m : Stk} {cs : List Cl} (h : Reps m cs) : m.pats = cs.map Cl.p := by
  unfold Stk.pats
  rw [← h.on, List.map_map]; rfl
theorem Reps.und_at {m : Stk} {cs : List Cl} (h : Reps m cs) {i : Nat} {c : Cl} (hc : cs[i]? = some c) : c.und = cutP (appAll m.base (m.pats.take i)) c.p := by
  have h1 : (cs.map Cl.und)[i]? = some c.und := by rw [List.getElem?_map, hc]; rfl
  rw [h.und, unders_get _ _ _ c.p (by rw [h.pats, List.getElem?_map, hc]; rfl)] at h1
  exact (Option.some.inj h1).symm
theorem cutP_length {b : List UInt8} {p : Pat} (hb : b.length = 32) (hp : rightB p = true) : (cutP b p).length = p.dat.size := by
  obtain ⟨p1, p2, p3, p4, p5, p6⟩ := rightB_iff.1 hp
  simp only [cutP, List.length_take, List.length_drop]
  omega
/-- Laid and lifted: as it was. -/
theorem lift_lay {b : List UInt8} {p : Pat} (hb : b.length = 32) (hp : rightB p = true) : over (app b p) p.off.toNat (cutP b p) = b := undo_app b p hb hp
end Go.Proofs.Ytdcbfdepkbplbaa.H
