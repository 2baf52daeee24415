/- slices.Sort at ints and slices.Sorted(maps.Keys(m)) at the disk's map, by the shelf's contracts. -/
import Derived.Test.YtjilkbkafigloaaH14
import Derived.Test.YtjilkbkafigloaaChecked
import Derived.WalkKit
import Derived.Ground.NamesProg
import Derived.Ground.GgzProg
import Derived.Shelf.Lay
import Derived.Shelf.SlIterI.Sorted
import Derived.Shelf.Slices.In.SortAlone
import Derived.Shelf.Slices.In.SortNone
import Derived.Lib.SortBridge
set_option linter.unusedVariables false
set_option linter.unusedSimpArgs false
namespace Go.Proofs
open Go.RowKit Go.Maps Go.Sort Go.Shelf
shelf_lay Lays.n189 Nm 189 at Try as Try.laysSort
shelf_lay_g SlLaysZI.n7 Ggz 7 at Try 46 as Try.keysA
shelf_lay_g SlLaysZI.n6 Ggz 6 at Try 45 as Try.sortedA
namespace Ytjilkbkafigloaa.H
/-- A contract inside a fence of whatever depth is one. -/
theorem calls_of_in {l : List Nat} {n : Nat} {P : Program} {f : FuncId} {args : Array Value} {w : World} {R : Ending → World → Prop} (h : ∀ D, CallsIn (Fence.list l (some D)) n P f args w R) : Calls P f args w R := fun cs =>
  let ⟨e, w', fr, r, s, x⟩ := (h (cs.length + 1 + n)).2 cs (fun d hd => by cases hd; exact Nat.le_refl _)
  ⟨e, w', fr, r, s.comes, x⟩
theorem sortsA (m : Nat) : AnyZI.SortsIn Try.prog Try.sortedA_ren Fence.wide m :=
  ⟨fun blk off cap ss W hH hblk hsz => callsIn_wide.2 (calls_of_in fun D => AnyS.slices_Sort_int_alone Try.laysSort D blk off cap ss W hH hblk hsz),
   fun p cap W => callsIn_wide.2 (calls_of_in fun D => AnyS.slices_Sort_int_none_alone Try.laysSort D p cap W)⟩
/-- A new slice that a kit's contract hands over. -/
theorem owns_new {w w' : World} {L : List HP} {e size n : Nat} {v : Value} {xs : List Value} (hO : Own w L) (hr : w'.ownsRow w.heap.size e size v n xs) (hb : Below w.heap.size w w') : Own w' (owns e size v n xs :: L) := by
  have keep : ∀ (i : Nat) (x : Obj), w.heap[i]? = some x → w'.heap[i]? = some x := fun i x h => (hb.block i (Array.getElem?_eq_some_iff.1 h).1).trans h
  obtain ⟨hl, ⟨rfl, rfl⟩ | ⟨g, cap, cur, rfl, hg, hh, h1, h2, h3, h4⟩⟩ := hr
  · rw [Nat.zero_mul, List.length_eq_zero_iff] at hl
    subst hl
    exact owns_nil (own_heap hO keep)
  · exact owns_of_pts (own_new hO keep hg hh) h3 h1 h2 h4
theorem same_below {w w' : World} {b : Nat} (h : Below b w w') : Same w w' := ⟨h.os, h.tape, h.output, h.size⟩
def unitR : Value → Option (DataW Unit × List MemPlace) := fun _ => some (.nil, [])
def inI (k : Int) : Prop := (Lit.int .i64 k).wf = true
theorem mapP_owns {P : Program} {T : TypeId} {w : World} {L : List HP} {b : Nat} {f : List (Int × Value)} (hT : P.underlying T = some (.int .i64)) (h : Own w (mapP b f :: L)) (hk : ∀ q ∈ f, inI q.1) (hm : f.length ≤ maxLen) :
    ∃ D0 : DataW Unit, w.ownsMap P T unitR b f.length D0 ∧ (intKeys D0).Perm (f.map (·.1)) ∧ Maps.size D0 = f.length := by
  obtain ⟨es, clock, hM, hO⟩ := mapP_open.1 h
  have rd_ : ∀ x ∈ es.toList, ∃ k : Int, x.key = .int .i64 k ∧ WideElems.rd P T unitR x = some (.int .i64 k, .nil) := fun x hx => by
    obtain ⟨j, hj⟩ := List.getElem?_of_mem hx
    obtain ⟨k, e1, e2⟩ := hM.at_ hj
    refine ⟨k, e1, ?_⟩
    have hw := hk _ (List.mem_of_getElem? e2)
    unfold inI at hw
    simp [WideElems.rd, unitR, e1, keyOf, hT, mapKey, hw]
  have hs : es.size = f.length := hM.size
  refine ⟨_, ⟨es, clock, own_pts hO, ⟨by omega, ⟨hM.old, hM.nodup, ?_⟩, fun x hx => let ⟨k, _, e⟩ := rd_ x hx; ⟨_, e⟩⟩, by omega, rfl⟩, ?_, ?_⟩
  · have e1 : es.toList.map (·.key) = f.map fun q => Value.int .i64 q.1 := by
      have := congrArg (List.map Prod.fst) hM.keys
      simpa [List.map_map, Function.comp_def] using this
    rw [e1]
    have h2 := hM.nod
    exact List.pairwise_map.2 ((List.pairwise_map.1 h2).imp fun hne e => hne (by injection e))
  · show ((List.foldr DataW.insert [] (List.map (WideElems.rg P T unitR) es.toList)).map fun p => Go.intOf p.1).Perm _
    refine ((WideShapes.sorted_perm _).map _).trans ?_
    rw [List.map_map]
    have e1 : es.toList.map (((fun p : Lit × DataW Unit => Go.intOf p.1)) ∘ WideElems.rg P T unitR) = f.map (·.1) := by
      have e2 : f.map (·.1) = es.toList.map fun e => (match e.key with | .int _ k => k | _ => 0) := by
        have := congrArg (List.map fun q : Value × Value => (match q.1 with | .int _ k => k | _ => 0)) hM.keys
        simpa [List.map_map, Function.comp_def] using this.symm
      rw [e2]
      refine List.map_congr_left fun x hx => ?_
      obtain ⟨k, h1, h2⟩ := rd_ x hx
      simp [WideElems.rg, h2, h1, Go.intOf]
    rw [e1]
  · show (List.foldr DataW.insert [] (List.map (WideElems.rg P T unitR) es.toList)).length = _
    rw [(WideShapes.sorted_perm _).length_eq, List.length_map, Array.length_toList, hs]
/-- maps.Keys. -/
theorem keys_run {w : World} {L : List HP} {b : Nat} (hO : Own w L) : Calls Try.prog 46 #[.map (some b)] w (RetX w (fun g : Nat => .func (.func 50) #[] #[.pointer (some ⟨g, 0, none⟩)]) (fun g => pts g (.cells #[.map (some b)] 63) :: L)) := by
  have h := (callsIn_wide (n := 5)).1 (AnyZI.keys_in Try.keysA Fence.wide 5 trivial rfl (some b) w)
  refine h.mono ?_
  rintro e w' ⟨rfl, rfl⟩
  exact ⟨w.heap.size, rfl, own_alloc_new hO _, (same_below ((Below.refl _ w).alloc (Nat.le_refl _) _))⟩
/-- The keys, rising. -/
def rising (l : List Int) : List Int := l.mergeSort fun x y => decide (x ≤ y)
theorem rising_perm {l l' : List Int} (h : l.Perm l') : rising l = rising l' := mergeSort_of_perm_i h
/-- slices.Sorted of a map's keys. -/
theorem sorted_run {w : World} {L : List HP} {b g : Nat} {f : List (Int × Value)} (hO : Own w (pts g (.cells #[.map (some b)] 63) :: mapP b f :: L)) (hk : ∀ q ∈ f, inI q.1) (hm : f.length ≤ 100000) :
    Calls Try.prog 45 #[.func (.func 50) #[] #[.pointer (some ⟨g, 0, none⟩)]] w (RetX w (fun v : Value => v) (fun v => owns 3 1 v f.length ((rising (f.map (·.1))).map encZ) :: mapP b f :: L)) := by
  obtain ⟨D0, h1, h2, h3⟩ := mapP_owns (P := Try.prog) (T := 3) (by kernel_rfl) (own_drop hO) hk (by simp only [maxLen]; omega)
  have hcell : w.cell? ⟨g, 0, none⟩ = some (.map (some b)) := own_cell 0 0 hO rfl rfl
  have hg : g < w.heap.size := World.block_lt_of_cell? _ _ hcell
  have hseq : SeqGives Fence.wide 2 Try.prog 50 #[.pointer (some ⟨g, 0, none⟩)] encZ (fun ss => ss.Perm (intKeys D0)) (Maps.size D0) w :=
    AnyZI.keys_gives (ρ := Try.keysA_ren) { Try.keysA with } Fence.wide _ trivial rfl (by omega) g b f.length D0 _ hg hcell h1
  have cS := AnyZI.sorted_in Try.sortedA Fence.wide 5 trivial trivial trivial trivial rfl (by omega) (sortsA _) (enters_of Try.func49 (by kernel_rfl) rfl) 50 #[.pointer (some ⟨g, 0, none⟩)] trivial (enters_of Try.func50 (by kernel_rfl) rfl) _ _ (by simp only [maxLen]; omega) (by omega) _ hseq
  refine (callsIn_wide.1 cS).mono ?_
  rintro e w' ⟨v, ss, rfl, hS, hrow, hnil, hb⟩
  have hp := hS.trans h2
  have hl : ss.length = f.length := by rw [hp.length_eq, List.length_map]
  have e1 : ss.mergeSort (fun x y => decide (x ≤ y)) = rising (f.map (·.1)) := rising_perm hp
  rw [e1, hl] at hrow
  exact ⟨v, rfl, owns_new (own_drop hO) hrow hb, same_below hb⟩
end Ytjilkbkafigloaa.H
end Go.Proofs
#print axioms Go.Proofs.Ytjilkbkafigloaa.H.sorted_run
#print axioms Go.Proofs.Ytjilkbkafigloaa.H.sortsA
