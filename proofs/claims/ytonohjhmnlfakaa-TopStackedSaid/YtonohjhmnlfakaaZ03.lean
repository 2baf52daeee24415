/- Contract of patch.Join. Contract of patch.Join, where it can join. live, of the statements on patches. Contracts of the reference of patch: Right, writes. Slices that are owned with their room, and append onto them. Contract of the reference's Apply. Contracts of the reference's Apply and Undo at what may not be, of its Undo and Idle. Contract of the reference's Idle; few, of the statements. PatchApplies: the walk. PatchUndoes: the walk. A slice literal: a block of one's own. Loads from what is only read, in a region. -/
import Derived.Test.YtonohjhmnlfakaaZ02
import Derived.Maps.AppendAt
import Derived.Great.BuildSlice
set_option linter.unusedVariables false
set_option linter.unusedSimpArgs false
set_option maxRecDepth 100000
namespace Go.Proofs.Ytonohjhmnlfakaa.H
open Go.RowKit
theorem zero_blk : (Try.prog.info? 46).map (·.zero) = some (some (.agg (bcs (List.replicate 32 0)).toArray)) := by kernel_rfl
def joinB (p q : Pat) : Bool := rightB p && rightB q && decide (p.blk = q.blk) && decide (p.off ≤ q.off + q.dat.size) && decide (q.off ≤ p.off + p.dat.size)
def wholeOf (p q : Pat) : List UInt8 := app (app (List.replicate 32 0) p) q
def joinM (p q : Pat) : Pat := ⟨p.blk, min p.off q.off, bstr (((wholeOf p q).drop (min p.off q.off).toNat).take ((max (p.off + p.dat.size) (q.off + q.dat.size)).toNat - (min p.off q.off).toNat))⟩
end Go.Proofs.Ytonohjhmnlfakaa.H
set_option linter.unusedVariables false
set_option linter.unusedSimpArgs false
set_option maxRecDepth 100000
namespace Go.Proofs.Ytonohjhmnlfakaa.H
open Go.RowKit
end Go.Proofs.Ytonohjhmnlfakaa.H
set_option linter.unusedVariables false
set_option linter.unusedSimpArgs false
set_option maxRecDepth 100000
namespace Go.Proofs.Ytonohjhmnlfakaa.H
open Go.RowKit
theorem live_app : app (List.replicate 32 0) ⟨0, 1, ⟨#[97, 98]⟩⟩ = [0, 97, 98] ++ List.replicate 29 0 := by decide
theorem live_join : (joinM ⟨0, 0, ⟨#[97, 98]⟩⟩ ⟨0, 1, ⟨#[120, 121]⟩⟩).cells.toArray = #[.int .i64 0, .int .i64 0, .string ⟨#[97, 120, 121]⟩] := by rfl
end Go.Proofs.Ytonohjhmnlfakaa.H
set_option linter.unusedVariables false
set_option linter.unusedSimpArgs false
set_option maxRecDepth 100000
namespace Go.Proofs.Ytonohjhmnlfakaa.H
open Go.RowKit
def wrB (p : Pat) (i : Nat) : Bool := decide (p.off ≤ i) && decide ((i : Int) < p.off + p.dat.size)
end Go.Proofs.Ytonohjhmnlfakaa.H
set_option linter.unusedVariables false
set_option linter.unusedSimpArgs false
namespace Go.Proofs.Ytonohjhmnlfakaa.H
open Go.RowKit

/-- The slice v of n elements is owned with its room; its cells are xs. -/
def owns (e size : Nat) (v : Value) (n : Nat) (xs : List Value) : HP := fun p q => q = nul ∧ ((v = .slice none 0 0 ∧ n = 0 ∧ xs = [] ∧ p = nul) ∨
  ∃ g cap cur, v = .slice (some ⟨g, 0, none⟩) n cap ∧ p = one g (.cells cur e (0, 0)) ∧ n ≤ cap ∧ cap ≤ maxLen ∧ cur.size = cap * size ∧ xs.length = n * size ∧ cur.toList.take (n * size) = xs)
section
variable {w w' : World} {L : List HP} {e size n : Nat} {v : Value} {xs : List Value}
theorem owns_row (h : Own w (owns e size v n xs :: L)) : w.ownsRow 0 e size v n xs := by
  obtain ⟨p1, q1, p2, q2, ⟨_, hA⟩, hB, h1, _⟩ := own_cons.1 h
  rcases hA with ⟨rfl, rfl, rfl, rfl⟩ | ⟨g, cap, cur, rfl, rfl, h3, h4, h5, h6, h7⟩
  · exact ⟨by simp, .inl ⟨rfl, rfl⟩⟩
  · exact ⟨h6, .inr ⟨g, cap, cur, rfl, Nat.zero_le _, one_le.1 h1, h3, h4, h5, h7⟩⟩
theorem owns_nil (h : Own w L) : Own w (owns e size (.slice none 0 0) 0 [] :: L) := by
  refine own_head (own_emp.2 h) (fun p q _ _ hp => ⟨hp.2, .inl ⟨rfl, rfl, rfl, hp.1⟩⟩)
theorem owns_of_pts {g cap : Nat} {cur : Array Value} (h : Own w (pts g (.cells cur e) :: L)) (hc : cur.size = cap * size) (hn : n ≤ cap) (hm : cap ≤ maxLen) (hx : cur.toList.take (n * size) = xs) : Own w (owns e size (.slice (some ⟨g, 0, none⟩) n cap) n xs :: L) := by
  refine own_head h (fun p q _ _ hp => ⟨hp.2, .inr ⟨g, cap, cur, rfl, hp.1, hn, hm, hc, ?_, hx⟩⟩)
  have h2 : n * size ≤ cap * size := Nat.mul_le_mul_right _ hn
  rw [← hx, List.length_take, Array.length_toList, hc, Nat.min_eq_left h2]
/-- What is owned beside a block stays, whatever became of that block. -/
theorem own_drop_put {b : Nat} {o : Obj} (h : Own w (pts b o :: L)) (hh : ∀ (i : Nat), i ≠ b → ∀ (x : Obj), w.heap[i]? = some x → w'.heap[i]? = some x) : Own w' L := by
  obtain ⟨p1, q1, p2, q2, ⟨rfl, rfl⟩, hB, h1, h2, h3, h4, d1, d2, d3, d4, d5⟩ := own_cons.1 h
  have hne : ∀ r : Part, dis (one b o) r → r.le w → r.le w' := fun r hd hr i x hi => by
    have hb : r b = none := by
      rcases hd b with hd | hd
      · simp [one] at hd
      · exact hd
    have : i ≠ b := fun e => by subst e; rw [hb] at hi; cases hi
    exact hh i this x (hr _ _ hi)
  exact ⟨p2, q2, hB, hne _ d1 h3, hne _ d2 h4, d5⟩
theorem owns_grown {v' : Value} {n' : Nat} {xs' : List Value} (h : Own w (owns e size v n xs :: L)) (hr : w'.ownsRow 0 e size v' n' xs') (hg : w.grownBy w' v.ownBlock) (hat : v'.ownBlock = v.ownBlock ∨ v'.ownBlock = some w.heap.size) : Own w' (owns e size v' n' xs' :: L) := by
  obtain ⟨hl, hr⟩ := hr
  have keep : ∀ (i : Nat) (x : Obj), some i ≠ v.ownBlock → w.heap[i]? = some x → w'.heap[i]? = some x := fun i x hi hx => (hg.block i (Array.getElem?_eq_some_iff.1 hx).1 hi).trans hx
  have hL : Own w' L := by
    obtain ⟨p1, q1, p2, q2, ⟨hq, hA⟩, hB, h1, _⟩ := own_cons.1 h
    rcases hA with ⟨rfl, rfl, rfl, rfl⟩ | ⟨g, cap, cur, rfl, rfl, h3, h4, h5, h6, h7⟩
    · exact own_heap (own_drop h) (fun i x hx => keep i x (by simp [Value.ownBlock]) hx)
    · have h' : Own w (pts g (.cells cur e) :: L) := own_head h (fun p q hp _ hA => by
        obtain ⟨hq, hA⟩ := hA
        rcases hA with ⟨e1, _⟩ | ⟨g', cap', cur', e1, e2, _⟩
        · cases e1
        · cases e1
          refine ⟨?_, hq⟩
          rw [e2]
          have a1 := one_le.1 h1
          have a2 := one_le.1 (e2 ▸ hp)
          rw [a1] at a2
          cases a2; rfl)
      exact own_drop_put h' (fun i hi x hx => keep i x (by simp [Value.ownBlock]; exact hi) hx)
  rcases hr with ⟨rfl, rfl⟩ | ⟨g, cap, cur, rfl, _, h2, h3, h4, h5, h6⟩
  · have : xs' = [] := List.eq_nil_of_length_eq_zero (by simpa using hl)
    subst this
    exact owns_nil hL
  · refine owns_of_pts (cur := cur) ?_ h5 h3 h4 h6
    rcases hat with hat | hat
    · -- in the old row
      obtain ⟨p1, q1, p2, q2, ⟨hq, hA⟩, hB, h1, _⟩ := own_cons.1 h
      rcases hA with ⟨rfl, rfl, rfl, rfl⟩ | ⟨g0, cap0, cur0, rfl, rfl, _⟩
      · simp [Value.ownBlock] at hat
      · have e0 : g = g0 := by simpa [Value.ownBlock] using hat
        subst e0
        have h' : Own w (pts g (.cells cur0 e) :: L) := own_head h (fun p q hp _ hA => by
          obtain ⟨hq, hA⟩ := hA
          rcases hA with ⟨e1, _⟩ | ⟨g', cap', cur', e1, e2, _⟩
          · cases e1
          · cases e1
            refine ⟨?_, hq⟩
            rw [e2]
            have a1 := one_le.1 h1
            have a2 := one_le.1 (e2 ▸ hp)
            rw [a1] at a2
            cases a2; rfl)
        exact own_put h' (fun i hi x hx => keep i x (by simp [Value.ownBlock]; exact hi) hx) h2
    · have e0 : g = w.heap.size := by simpa [Value.ownBlock] using hat
      subst e0
      -- a new row: nothing of L is there
      obtain ⟨p1, q1, p2, q2, hA, hB, h1', h2', h3', h4', d1, d2, d3, d4, d5⟩ := own_cons.1 h
      obtain ⟨pp, qq, hs, hpp, hqq, hd⟩ := hL
      have hb2 : ∀ r : Part, r.le w → r w.heap.size = none := fun r hr => by
        cases hx : r w.heap.size with
        | none => rfl
        | some x => have := (Array.getElem?_eq_some_iff.1 (hr _ _ hx)).1; omega
      have hL' : p2.le w' ∧ q2.le w' := by
        have hdis : ∀ r : Part, dis p1 r → r.le w → r.le w' := fun r hdr hrw i x hi => by
          refine keep i x (fun he => ?_) (hrw _ _ hi)
          obtain ⟨_, hA⟩ := hA
          rcases hA with ⟨rfl, _, _, rfl⟩ | ⟨g0, cap0, cur0, rfl, rfl, _⟩
          · simp [Value.ownBlock] at he
          · have : i = g0 := by simpa [Value.ownBlock] using he
            subst this
            rcases hdr i with h | h
            · simp [one] at h
            · rw [h] at hi; cases hi
        exact ⟨hdis _ d1 h3', hdis _ d2 h4'⟩
      have hno : ∀ r : Part, r.le w → dis (one w.heap.size (.cells cur e (0, 0))) r := fun r hr i => by
        by_cases ei : i = w.heap.size
        · right; rw [ei]; exact hb2 r hr
        · left; simp [one, ei]
      exact own_cons.2 ⟨_, nul, p2, q2, ⟨rfl, rfl⟩, hB, one_le.2 h2, nul_le _, hL'.1, hL'.2, hno _ h3', hno _ h4', dis_nul _, dis_nul _, d5⟩
theorem owns_rd (h : Own w (owns e size v n xs :: L)) : Rd w size v n xs := by
  obtain ⟨hl, hr⟩ := owns_row h
  rcases hr with ⟨rfl, rfl⟩ | ⟨g, cap, cur, rfl, _, h2, h3, h4, h5, h6⟩
  · have : xs = [] := List.eq_nil_of_length_eq_zero (by simpa using hl)
    subst this
    exact rd_nil _ _
  · exact rd_block h2 h6 (by rw [h5]; exact Nat.mul_le_mul_right _ h3) h3 (by simpa [maxLen] using h4)
/-- Laid open: the block, with the room behind. -/
theorem owns_open (h : Own w (owns e size v n xs :: L)) (hv : v ≠ .slice none 0 0) : ∃ g cap, ∃ rest : List Value, v = .slice (some ⟨g, 0, none⟩) n cap ∧ n ≤ cap ∧ cap ≤ maxLen ∧ (xs ++ rest).length = cap * size ∧ xs.length = n * size ∧ Own w (pts g (.cells (xs ++ rest).toArray e) :: L) := by
  obtain ⟨hl, hr⟩ := owns_row h
  rcases hr with ⟨rfl, rfl⟩ | ⟨g, cap, cur, rfl, _, h2, h3, h4, h5, h6⟩
  · exact absurd rfl hv
  · refine ⟨g, cap, cur.toList.drop (n * size), rfl, h3, h4, ?_, hl, own_head h (fun p q hp _ hA => ?_)⟩
    · rw [← h6, List.take_append_drop, Array.length_toList, h5]
    · obtain ⟨hq, hA⟩ := hA
      rcases hA with ⟨e1, _⟩ | ⟨g', cap', cur', e1, e2, _⟩
      · cases e1
      · cases e1
        refine ⟨?_, hq⟩
        have a2 := one_le.1 (e2 ▸ hp)
        rw [h2] at a2
        cases a2
        rw [e2, ← h6, List.take_append_drop, Array.toArray_toList]
end
section
variable {P : Program} {ops : Array Oper} {rest : List Oper} {o : Oper} {a : Act} {Q : Exit → Act → World → Prop} {w : World} {L : List HP}
/-- append of what is read onto what is owned (the first of what is owned). -/
theorem own_append {T e : TypeId} {s x : Operand} {z : Value} {size bytes n m : Nat} {v vx : Value} {xs news : List Value} (hw : Region.wanted o (yielded ops a.tmps) = true)
    (ho : o.op = .call { callee := .builtin .append, args := #[s, x], argTypes := #[T, T] }) (hs : a.eval s = v) (hx : a.eval x = vx) (ht : P.underlying T = some (.slice e)) (hinfo : (P.info? e).map (fun i => (i.zero, i.size, i.bytes)) = some (some z, size, bytes)) (hz : z.cells.size = size) (hsz : 0 < size)
    (hO : Own w (owns e size v n xs :: L)) (hr : Rd w size vx m news) (h1 : ∀ u ∈ news, u.oneCell' = true) (h63 : n + m ≤ maxLen) (hb : (n + m) * bytes ≤ 140737488355328)
    (h : ∀ v' w', Own w' (owns e size v' (n + m) (xs ++ news) :: L) → Same w w' → (v' = .slice none 0 0 ↔ v = .slice none 0 0 ∧ m = 0) → wpList P ops Q rest (a.put o.dst v') w') : wpList P ops Q (o :: rest) a w := by
  obtain ⟨i, hi, hzz⟩ := Option.map_eq_some_iff.1 hinfo
  simp only [Prod.mk.injEq] at hzz
  obtain ⟨hz', hsz', hby⟩ := hzz
  obtain ⟨hl, A, c, rfl, hc, hcm, hcell⟩ := hr.out
  have key : ∃ v' w', (Builtin.append_ #[T, T] o.type #[v, .slice A m c]).run P w = .ok v' w' ∧ Own w' (owns e size v' (n + m) (xs ++ news) :: L) ∧ Same w w' ∧ (v' = .slice none 0 0 ↔ v = .slice none 0 0 ∧ m = 0) := by
    cases A with
    | some ad =>
      obtain ⟨v', w', hrun, hown, hg, hn, hat⟩ := run_append_own_at (P := P) w 0 T o.type e i z size bytes ht hi hz' hsz' hby hz hsz v n xs (owns_row hO) ad m c news hl (fun j u hu => by obtain ⟨ad', h1, h2⟩ := hcell j u hu; cases h1; exact h2) h1 h63 hb (Nat.zero_le _)
      exact ⟨v', w', hrun, owns_grown hO hown hg hat, Same.of_grown hg, hn⟩
    | none =>
      have hm0 : news = [] := by
        cases news with
        | nil => rfl
        | cons u r => obtain ⟨ad', h1, _⟩ := hcell 0 u (by simp); cases h1
      subst hm0
      have hm : m = 0 := by
        have h0 : m * size = 0 := by simpa using hl.symm
        rcases Nat.mul_eq_zero.1 h0 with h | h
        · exact h
        · omega
      subst hm
      obtain ⟨hl2, hr2⟩ := owns_row hO
      have hrun : (Builtin.append_ #[T, T] o.type #[v, .slice none 0 c]).run P w = .ok v w := by
        rcases hr2 with ⟨rfl, rfl⟩ | ⟨g, cap, cur, rfl, _, h2, h3, h4, h5, h6⟩
        · simp [Builtin.append_, run_underlying ht, sizeOf, typeInfo, hi, Builtin.lenOf, Builtin.firstCells]
        · simp [Builtin.append_, run_underlying ht, sizeOf, typeInfo, hi, Builtin.lenOf, Builtin.firstCells, h3, storeCells]
      exact ⟨v, w, hrun, by simpa using hO, Same.refl _, by simp⟩
  obtain ⟨v', w', hrun, hO', hS, hn⟩ := key
  refine ev hw ?_ (h v' w' hO' hS hn)
  simp only [execOp, ho]
  simp [resolve, invoke, builtin, hs, hx, hrun, Result.andThen]
/-- '[]T{}'. -/
theorem own_lit0 {T e : TypeId} {size : Nat} (hw : Region.wanted o (yielded ops a.tmps) = true) (ho : o.op = .buildSlice T 0 #[]) (ht : P.underlying T = some (.slice e)) (hsz : (P.info? e).map (·.size) = some size) (hO : Own w L)
    (h : ∀ b w', Own w' (owns e size (.slice (some ⟨b, 0, none⟩) 0 0) 0 [] :: L) → Same w w' → wpList P ops Q rest (a.put o.dst (.slice (some ⟨b, 0, none⟩) 0 0)) w') : wpList P ops Q (o :: rest) a w := by
  cases hi : P.info? e with
  | none => rw [hi] at hsz; cases hsz
  | some i =>
    have hrun : (execOp a.eval o).run P w = .ok (.value (.slice (some ⟨w.heap.size, 0, none⟩) 0 0)) (w.alloc (.cells #[] e)) := by
      simp only [execOp, ho]
      have h0 : Array.range 0 = #[] := rfl
      simp [Instr.buildSlice, run_underlying ht, sizeOf, typeInfo, hi, Instr.fill, newRow, newObj, h0]
      rfl
    refine ev hw hrun (h _ _ (owns_of_pts (own_alloc_new hO _) (by simp) (Nat.le_refl _) (by decide) (by simp)) (Same.alloc _ _))
end
end Go.Proofs.Ytonohjhmnlfakaa.H
set_option linter.unusedVariables false
set_option linter.unusedSimpArgs false
set_option maxRecDepth 100000
namespace Go.Proofs.Ytonohjhmnlfakaa.H
open Go.RowKit
/-- What holds at each round of the reference's Apply: so many bytes are laid over. -/
def RApplyInv (L : List HP) (w0 : World) (b g : Nat) (bs : List UInt8) (a0 a1 : Int) (s : ByteArray) (rst : List Value) (k : Nat) (wr : World) : Prop :=
  Own wr (pts g (.cells (bcs (over bs a1.toNat (s.data.toList.take k)) ++ rst).toArray 5) :: pts b (.cells #[.int .i64 a0, .int .i64 a1, .string s] 33) :: L) ∧ Same w0 wr
end Go.Proofs.Ytonohjhmnlfakaa.H
set_option linter.unusedVariables false
set_option linter.unusedSimpArgs false
set_option maxRecDepth 100000
namespace Go.Proofs.Ytonohjhmnlfakaa.H
open Go.RowKit
end Go.Proofs.Ytonohjhmnlfakaa.H
set_option linter.unusedVariables false
set_option linter.unusedSimpArgs false
set_option maxRecDepth 100000
namespace Go.Proofs.Ytonohjhmnlfakaa.H
open Go.RowKit
end Go.Proofs.Ytonohjhmnlfakaa.H
set_option linter.unusedVariables false
set_option linter.unusedSimpArgs false
set_option maxRecDepth 100000
namespace Go.Proofs.Ytonohjhmnlfakaa.H
open Go.RowKit
theorem own_app_mid {w : World} {A : HP} {L : List HP} : True := trivial
end Go.Proofs.Ytonohjhmnlfakaa.H
set_option linter.unusedVariables false
set_option linter.unusedSimpArgs false
set_option maxRecDepth 100000
namespace Go.Proofs.Ytonohjhmnlfakaa.H
open Go.RowKit
theorem bstr_size' (l : List UInt8) : (bstr l).size = l.length := bstr_size l
theorem over_undo {α : Type} (b d : List α) (i : Nat) (hi : i + d.length ≤ b.length) : over (over b i d) i ((b.drop i).take d.length) = b := by
  have hl : ((b.drop i).take d.length).length = d.length := by simp; omega
  have h1 : (over b i d).take i = b.take i := by
    unfold over
    rw [List.append_assoc, List.take_append_of_le_length (by rw [List.length_take]; omega), List.take_take, Nat.min_self]
  have h2 : (over b i d).drop (i + d.length) = b.drop (i + d.length) := by
    unfold over
    rw [List.drop_append_of_le_length (by simp; omega)]
    rw [List.drop_eq_nil_of_le (by simp; omega)]
    simp
  have h0 : over (over b i d) i ((b.drop i).take d.length) = (over b i d).take i ++ (b.drop i).take d.length ++ (over b i d).drop (i + ((b.drop i).take d.length).length) := rfl
  rw [h0, hl, h1, h2, ← List.drop_drop, List.append_assoc, List.take_append_drop, List.take_append_drop]
theorem over_mid {α : Type} (b d : List α) (i : Nat) (hi : i + d.length ≤ b.length) : ((over b i d).drop i).take d.length = d := by
  unfold over
  rw [List.append_assoc, List.drop_append_of_le_length (by simp; omega), List.drop_eq_nil_of_le (by simp; omega), List.nil_append]
  simp
/-- A block of bytes, whose length is known by another name. -/
theorem rdB_block {w : World} {b m c : Nat} {bs : List UInt8} {t : TypeId} {fr : Nat × Nat} (hm : m = bs.length) (hg : w.heap[b]? = some (.cells (bcs bs).toArray t fr)) (hc : m ≤ c) (hx : c ≤ 9223372036854775807) : RdB w (.slice (some ⟨b, 0, none⟩) m c) bs := by
  subst hm
  exact rd_block hg (List.take_of_length_le (by simp [bcs_length])) (by simp [bcs_length]) hc hx
def undoP (b : List UInt8) (p : Pat) : Pat := ⟨p.blk, p.off, bstr ((b.drop p.off.toNat).take p.dat.size)⟩
theorem undo_app (b : List UInt8) (p : Pat) (hb : b.length = 32) (hp : rightB p = true) : app (app b p) (undoP b p) = b := by
  obtain ⟨p1, p2, p3, p4, p5, p6⟩ := rightB_iff.1 hp
  have hs : p.dat.size = p.dat.data.toList.length := by rw [Array.length_toList]; rfl
  unfold app undoP
  simp only [bstr_toList, hs]
  exact over_undo _ _ _ (by omega)
theorem undo_right (b : List UInt8) (p : Pat) (hb : b.length = 32) (hp : rightB p = true) : rightB (undoP b p) = true := by
  obtain ⟨p1, p2, p3, p4, p5, p6⟩ := rightB_iff.1 hp
  refine rightB_iff.2 ?_
  simp only [undoP, bstr_size, List.length_take, List.length_drop]
  omega
theorem app_then_idle (b : List UInt8) (p : Pat) (hb : b.length = 32) (hp : rightB p = true) : idleB (app b p) p = true := by
  obtain ⟨p1, p2, p3, p4, p5, p6⟩ := rightB_iff.1 hp
  have hs : p.dat.size = p.dat.data.toList.length := by rw [Array.length_toList]; rfl
  simp only [idleB, Bool.and_eq_true, decide_eq_true_eq]
  refine ⟨⟨app_length b p hb hp, hp⟩, ?_⟩
  unfold app
  rw [hs]
  exact over_mid _ _ _ (by omega)
end Go.Proofs.Ytonohjhmnlfakaa.H
set_option linter.unusedVariables false
set_option linter.unusedSimpArgs false
namespace Go.Proofs.Ytonohjhmnlfakaa.H
open Go.RowKit
section
variable {P : Program} {ops : Array Oper} {rest : List Oper} {o : Oper} {a : Act} {Q : Exit → Act → World → Prop} {w : World} {L : List HP}
/-- 'T{x, ..}' of n elements of 'size' cells. -/
theorem own_lit {T e : TypeId} {n size : Nat} {z : Value} {parts : Array (Nat × Operand)} {cs : Array Value} (hw : Region.wanted o (yielded ops a.tmps) = true) (ho : o.op = .buildSlice T n parts)
    (ht : P.underlying T = some (.slice e)) (hinfo : (P.info? e).map (fun i => (i.zero, i.size)) = some (some z, size)) (hs : n * size ≤ 2 ^ 24) (hp : 0 < n * size)
    (hf : Instr.fill (fun i => some (i * size, size)) ((Array.range (n * size)).map (z.cells[· % z.cells.size]!)) (parts.map fun (i, x) => (i, a.eval x)).toList = some cs) (hO : Own w L)
    (h : ∀ b w', Own w' (pts b (.cells cs e) :: L) → Same w w' → wpList P ops Q rest (a.put o.dst (.slice (some ⟨b, 0, none⟩) n n)) w') : wpList P ops Q (o :: rest) a w := by
  obtain ⟨i, hi, hzz⟩ := Option.map_eq_some_iff.1 hinfo
  simp only [Prod.mk.injEq] at hzz
  obtain ⟨hz, hsz⟩ := hzz
  subst hsz
  have hrun : (execOp a.eval o).run P w = .ok (.value (.slice (some ⟨w.heap.size, 0, none⟩) n n)) (w.alloc (.cells cs e)) := by
    simp only [execOp, ho]
    have := run_buildSlice (P := P) w T e n (parts.map fun (i, x) => (i, a.eval x)) cs i z ht hi hz (by omega) (by omega) hf
    simp [this]
  exact ev hw hrun (h _ _ (own_alloc_new hO _) (Same.alloc _ _))
end
end Go.Proofs.Ytonohjhmnlfakaa.H
set_option linter.unusedVariables false
set_option linter.unusedSimpArgs false
namespace Go.Proofs.Ytonohjhmnlfakaa.H
open Go.RowKit
section
variable {P : Program} {ops : Array Oper} {C : World → Prop} {w : World}
theorem run_load1_at {T : TypeId} {ad : Addr} {v : Value} (hT : isRowB P T = some false) (hc : w.cell? ad = some v) :
    (Instr.loadAt T (.pointer (some ad))).run P w = .ok v w := by
  obtain ⟨d, hd, hr⟩ := underlying_row hT
  have hagg : (isAgg T).run P w = .ok false w := by
    unfold isAgg
    rw [Sem.run_bind, run_underlying hd w]
    cases d <;> simp_all
  simp [Instr.loadAt, Instr.sureAddr, loadVar, Sem.run_bind, hagg, load]
  simp only [Sem.run, hc]
theorem wv_load1_at {K : Act → Prop} {o : Oper} {ol : List Oper} {a : Act} {T : TypeId} {x : Operand} {ad : Addr} {v : Value} (hw : Region.wanted o (yielded ops a.tmps) = true) (ho : o.op = .load T x) (hx : a.eval x = .pointer (some ad))
    (hT : isRowB P T = some false) (hc : ∀ w, C w → w.cell? ad = some v) (h : wpVals P ops C K ol (a.put o.dst v)) : wpVals P ops C K (o :: ol) a := by
  refine wv_run hw (fun w hC => ?_) h
  simp only [execOp, ho, hx, Sem.run_bind, run_load1_at hT (hc w hC)]
  rfl
theorem wv_loadrow_at {K : Act → Prop} {o : Oper} {ol : List Oper} {a : Act} {T : TypeId} {x : Operand} {ad : Addr} {n : Nat} {vs : List Value} (hw : Region.wanted o (yielded ops a.tmps) = true) (ho : o.op = .load T x) (hx : a.eval x = .pointer (some ad))
    (hT : isRowB P T = some true) (hsz : (P.info? T).map (·.size) = some n) (hn : vs.length = n) (hc : ∀ w, C w → ∀ (j : Nat) (u : Value), vs[j]? = some u → w.cell? (ad.add j) = some u) (h : wpVals P ops C K ol (a.put o.dst (.agg vs.toArray))) : wpVals P ops C K (o :: ol) a := by
  refine wv_run hw (fun w hC => ?_) h
  simp only [execOp, ho, hx, Sem.run_bind, run_loadrow_at hT hsz hn (hc w hC)]
  rfl
end
end Go.Proofs.Ytonohjhmnlfakaa.H
