/- The contracts of sorts, keys and clones at this program, laid in plain words. slices.Sort at ints and slices.Sorted(maps.Keys(m)) at the disk's map, by the shelf's contracts. What a disk's memory is: the program's and the reference's. Plain words on an engine: what waits, what could be written now. Something that reads as several slices; what waits, in memory. may, Size, Versions, Lasting, Read of the program's disk. -/
import Derived.Test.YtonohjhmnlfakaaChecked
import Derived.Shelf.SlIterI.Sorted
import Derived.Shelf.Slices.In.SortAlone
import Derived.Shelf.Slices.In.SortNone
import Derived.Shelf.SlMaps.Clone
import Derived.Lib.SortBridge
import Derived.Test.YtonohjhmnlfakaaZ10
import Derived.WalkKit
import Derived.Test.YtonohjhmnlfakaaZ02
import Derived.WalkLawsBesides
import Derived.WalkSpells
namespace Go.Proofs
open Go.Shelf
def Try.laysSort_ren : Go.Shelf.Ren := ⟨fun | 189 => 46 | 125 => 80 | 257 => 79 | 128 => 105 | 129 => 106 | 294 => 96 | 295 => 97 | 296 => 98 | 297 => 99 | 298 => 100 | 299 => 101 | 216 => 102 | 300 => 103 | 301 => 104 | 328 => 111 | 329 => 112 | 330 => 113 | 331 => 114 | 332 => 115 | 215 => 116 | 343 => 118 | n => n, fun | 28 => 34 | 3 => 3 | 46 => 125 | 0 => 0 | 51 => 148 | 53 => 150 | 4 => 4 | 183 => 140 | 182 => 139 | 131 => 145 | 5 => 5 | 9 => 9 | 218 => 153 | 222 => 157 | 228 => 160 | 229 => 161 | n => n, fun | n => n⟩
theorem Try.laysSort : Go.Proofs.Lays.n189 Try.prog Try.laysSort_ren := {
  mixed := by kernel_rfl
  f125 := Try.func80.trans (congrArg some (by kernel_rfl))
  f128 := Try.func105.trans (congrArg some (by kernel_rfl))
  f129 := Try.func106.trans (congrArg some (by kernel_rfl))
  f189 := Try.func46.trans (congrArg some (by kernel_rfl))
  f215 := Try.func116.trans (congrArg some (by kernel_rfl))
  f216 := Try.func102.trans (congrArg some (by kernel_rfl))
  f257 := Try.func79.trans (congrArg some (by kernel_rfl))
  f294 := Try.func96.trans (congrArg some (by kernel_rfl))
  f295 := Try.func97.trans (congrArg some (by kernel_rfl))
  f296 := Try.func98.trans (congrArg some (by kernel_rfl))
  f297 := Try.func99.trans (congrArg some (by kernel_rfl))
  f298 := Try.func100.trans (congrArg some (by kernel_rfl))
  f299 := Try.func101.trans (congrArg some (by kernel_rfl))
  f300 := Try.func103.trans (congrArg some (by kernel_rfl))
  f301 := Try.func104.trans (congrArg some (by kernel_rfl))
  f328 := Try.func111.trans (congrArg some (by kernel_rfl))
  f329 := Try.func112.trans (congrArg some (by kernel_rfl))
  f330 := Try.func113.trans (congrArg some (by kernel_rfl))
  f331 := Try.func114.trans (congrArg some (by kernel_rfl))
  f332 := Try.func115.trans (congrArg some (by kernel_rfl))
  f343 := Try.func118.trans (congrArg some (by kernel_rfl))
  t0 := Try.underlying0
  a0 := Try.isAgg0
  z0 := Try.sizeOf0
  v0 := Try.zeroValue0
  t3 := Try.underlying3
  a3 := Try.isAgg3
  z3 := Try.sizeOf3
  v3 := Try.zeroValue3
  t4 := Try.underlying4
  a4 := Try.isAgg4
  z4 := Try.sizeOf4
  v4 := Try.zeroValue4
  t5 := Try.underlying5
  a5 := Try.isAgg5
  z5 := Try.sizeOf5
  v5 := Try.zeroValue5
  t9 := Try.underlying9
  a9 := Try.isAgg9
  z9 := Try.sizeOf9
  v9 := Try.zeroValue9
  t28 := Try.underlying34
  a28 := Try.isAgg34
  z28 := Try.sizeOf34
  v28 := Try.zeroValue34
  t46 := Try.underlying125
  a46 := Try.isAgg125
  z46 := Try.sizeOf125
  v46 := Try.zeroValue125
  t51 := Try.underlying148
  a51 := Try.isAgg148
  z51 := Try.sizeOf148
  v51 := Try.zeroValue148
  t53 := Try.underlying150
  a53 := Try.isAgg150
  z53 := Try.sizeOf150
  v53 := Try.zeroValue150
  t131 := Try.underlying145
  a131 := Try.isAgg145
  z131 := Try.sizeOf145
  v131 := Try.zeroValue145
  t182 := Try.underlying139
  a182 := Try.isAgg139
  z182 := Try.sizeOf139
  v182 := Try.zeroValue139
  t183 := Try.underlying140
  a183 := Try.isAgg140
  z183 := Try.sizeOf140
  v183 := Try.zeroValue140
  t218 := Try.underlying153
  a218 := Try.isAgg153
  z218 := Try.sizeOf153
  v218 := Try.zeroValue153
  t222 := Try.underlying157
  a222 := Try.isAgg157
  z222 := Try.sizeOf157
  v222 := Try.zeroValue157
  t228 := Try.underlying160
  a228 := Try.isAgg160
  z228 := Try.sizeOf160
  v228 := Try.zeroValue160
  t229 := Try.underlying161
  a229 := Try.isAgg161
  z229 := Try.sizeOf161
  v229 := Try.zeroValue161 }
def Try.keysA_ren : Go.Shelf.Ren := ⟨fun | 7 => 94 | 10 => 110 | n => n, fun | 23 => 98 | 26 => 3 | 3 => 69 | 28 => 134 | 0 => 0 | 27 => 133 | 33 => 40 | 4 => 4 | n => n, fun | n => n⟩
theorem Try.keysA : Go.Proofs.SlLaysZI.n7 Try.prog Try.keysA_ren := {
  mixed := by kernel_rfl
  f7 := ⟨Try.f94.name, by decide, Try.func94.trans (congrArg some (by kernel_rfl))⟩
  f10 := ⟨Try.f110.name, by decide, Try.func110.trans (congrArg some (by kernel_rfl))⟩
  t0 := Try.underlying0
  a0 := Try.isAgg0
  z0 := Try.sizeOf0
  v0 := Try.zeroValue0
  t4 := Try.underlying4
  a4 := Try.isAgg4
  z4 := Try.sizeOf4
  v4 := Try.zeroValue4
  t23 := Try.underlying98
  a23 := Try.isAgg98
  z23 := Try.sizeOf98
  v23 := Try.zeroValue98
  t26 := Try.underlying3
  a26 := Try.isAgg3
  z26 := Try.sizeOf3
  v26 := Try.zeroValue3
  t27 := Try.underlying133
  a27 := Try.isAgg133
  z27 := Try.sizeOf133
  v27 := Try.zeroValue133
  t28 := Try.underlying134
  a28 := Try.isAgg134
  z28 := Try.sizeOf134
  v28 := Try.zeroValue134
  t33 := Try.underlying40
  a33 := Try.isAgg40
  z33 := Try.sizeOf40
  v33 := Try.zeroValue40 }
def Try.sortedA_ren : Go.Shelf.Ren := ⟨fun | 6 => 93 | 8 => 109 | 9 => 46 | 11 => 117 | 13 => 80 | 12 => 79 | 23 => 105 | 24 => 106 | 14 => 96 | 15 => 97 | 16 => 98 | 17 => 99 | 18 => 100 | 19 => 101 | 20 => 102 | 21 => 103 | 22 => 104 | 25 => 111 | 26 => 112 | 27 => 113 | 28 => 114 | 29 => 115 | 30 => 116 | 31 => 118 | n => n, fun | 26 => 3 | 28 => 134 | 24 => 34 | 0 => 0 | 3 => 3 | 37 => 125 | 48 => 148 | 50 => 150 | 4 => 4 | 40 => 140 | 39 => 139 | 45 => 145 | 5 => 5 | 9 => 9 | 51 => 153 | 55 => 157 | 57 => 160 | 58 => 161 | 33 => 40 | n => n, fun | n => n⟩
theorem Try.sortedA : Go.Proofs.SlLaysZI.n6 Try.prog Try.sortedA_ren := {
  mixed := by kernel_rfl
  f6 := ⟨Try.f93.name, by decide, Try.func93.trans (congrArg some (by kernel_rfl))⟩
  f8 := ⟨Try.f109.name, by decide, Try.func109.trans (congrArg some (by kernel_rfl))⟩
  f11 := ⟨Try.f117.name, by decide, Try.func117.trans (congrArg some (by kernel_rfl))⟩
  t0 := Try.underlying0
  a0 := Try.isAgg0
  z0 := Try.sizeOf0
  v0 := Try.zeroValue0
  t24 := Try.underlying34
  a24 := Try.isAgg34
  z24 := Try.sizeOf34
  v24 := Try.zeroValue34
  t26 := Try.underlying3
  a26 := Try.isAgg3
  z26 := Try.sizeOf3
  v26 := Try.zeroValue3
  t28 := Try.underlying134
  a28 := Try.isAgg134
  z28 := Try.sizeOf134
  v28 := Try.zeroValue134
  i26 := by kernel_rfl }
def Try.cloneB_ren : Go.Shelf.Ren := ⟨fun | 5 => 70 | 7 => 92 | n => n, fun | 23 => 99 | 25 => 3 | 3 => 4 | 4 => 4 | 20 => 20 | n => n, fun | n => n⟩
theorem Try.cloneB : Go.Proofs.SlLaysW.n5 Try.prog Try.cloneB_ren := {
  mixed := by kernel_rfl
  f5 := ⟨Try.f70.name, by decide, Try.func70.trans (congrArg some (by kernel_rfl))⟩
  f7 := Try.func92.trans (congrArg some (by kernel_rfl))
  t4 := Try.underlying4
  a4 := Try.isAgg4
  z4 := Try.sizeOf4
  v4 := Try.zeroValue4
  t20 := Try.underlying20
  a20 := Try.isAgg20
  z20 := Try.sizeOf20
  v20 := Try.zeroValue20
  t23 := Try.underlying99
  a23 := Try.isAgg99
  z23 := Try.sizeOf99
  v23 := Try.zeroValue99 }
end Go.Proofs
set_option linter.unusedVariables false
set_option linter.unusedSimpArgs false
namespace Go.Proofs
open Go.RowKit Go.Maps Go.Sort Go.Shelf
namespace Ytonohjhmnlfakaa.H
/-- A contract inside a fence of whatever depth is one. -/
theorem calls_of_in {l : List Nat} {n : Nat} {P : Program} {f : FuncId} {args : Array Value} {w : World} {R : Ending → World → Prop} (h : ∀ D, CallsIn (Fence.list l (some D)) n P f args w R) : Calls P f args w R := fun cs =>
  let ⟨e, w', fr, r, s, x⟩ := (h (cs.length + 1 + n)).2 cs (fun d hd => by cases hd; exact Nat.le_refl _)
  ⟨e, w', fr, r, s.comes, x⟩
theorem sortsA (m : Nat) : AnyZI.SortsIn Try.prog Try.sortedA_ren Fence.wide m :=
  ⟨fun blk off cap ss W hH hblk hsz => callsIn_wide.2 (calls_of_in fun D => AnyS.slices_Sort_int_alone Try.laysSort D blk off cap ss W hH hblk hsz),
   fun p cap W => callsIn_wide.2 (calls_of_in fun D => AnyS.slices_Sort_int_none_alone Try.laysSort D p cap W)⟩
/-- A new slice that a kit's contract hands over. -/
theorem owns_new {w w' : World} {L : List HP} {e size n : Nat} {v : Value} {xs : List Value} (hO : Own w L) (hr : w'.ownsRow w.heap.size e size v n xs) (hb : Below w.heap.size w w') : Own w' (owns e size v n xs :: L) := by
  have keep : ∀ (i : Nat) (x : Obj), w.heap[i]? = some x → w'.heap[i]? = some x := fun i x h => (hb.block i (Array.getElem?_eq_some_iff.1 h).1).trans h
  obtain ⟨hl, ⟨rfl, rfl⟩ | ⟨g, cap, cur, rfl, hg, hh, h1, h2, h3, h4⟩⟩ := hr
  · rw [Nat.zero_mul, List.length_eq_zero_iff] at hl
    subst hl
    exact owns_nil (own_heap hO keep)
  · exact owns_of_pts (own_new hO keep hg hh) h3 h1 h2 h4
theorem same_below {w w' : World} {b : Nat} (h : Below b w w') : Same w w' := ⟨h.os, h.tape, h.output, h.size⟩
def unitR : Value → Option (DataW Unit × List MemPlace) := fun _ => some (.nil, [])
def inI (k : Int) : Prop := (Lit.int .i64 k).wf = true
theorem mapP_owns {P : Program} {T : TypeId} {w : World} {L : List HP} {b : Nat} {f : List (Int × Value)} (hT : P.underlying T = some (.int .i64)) (h : Own w (mapP b f :: L)) (hk : ∀ q ∈ f, inI q.1) (hm : f.length ≤ maxLen) :
    ∃ D0 : DataW Unit, w.ownsMap P T unitR b f.length D0 ∧ (intKeys D0).Perm (f.map (·.1)) ∧ Maps.size D0 = f.length := by
  obtain ⟨es, clock, hM, hO⟩ := mapP_open.1 h
  have rd_ : ∀ x ∈ es.toList, ∃ k : Int, x.key = .int .i64 k ∧ WideElems.rd P T unitR x = some (.int .i64 k, .nil) := fun x hx => by
    obtain ⟨j, hj⟩ := List.getElem?_of_mem hx
    obtain ⟨k, e1, e2⟩ := hM.at_ hj
    refine ⟨k, e1, ?_⟩
    have hw := hk _ (List.mem_of_getElem? e2)
    unfold inI at hw
    simp [WideElems.rd, unitR, e1, keyOf, hT, mapKey, hw]
  have hs : es.size = f.length := hM.size
  refine ⟨_, ⟨es, clock, own_pts hO, ⟨by omega, ⟨hM.old, hM.nodup, ?_⟩, fun x hx => let ⟨k, _, e⟩ := rd_ x hx; ⟨_, e⟩⟩, by omega, rfl⟩, ?_, ?_⟩
  · have e1 : es.toList.map (·.key) = f.map fun q => Value.int .i64 q.1 := by
      have := congrArg (List.map Prod.fst) hM.keys
      simpa [List.map_map, Function.comp_def] using this
    rw [e1]
    have h2 := hM.nod
    exact List.pairwise_map.2 ((List.pairwise_map.1 h2).imp fun hne e => hne (by injection e))
  · show ((List.foldr DataW.insert [] (List.map (WideElems.rg P T unitR) es.toList)).map fun p => Go.intOf p.1).Perm _
    refine ((WideShapes.sorted_perm _).map _).trans ?_
    rw [List.map_map]
    have e1 : es.toList.map (((fun p : Lit × DataW Unit => Go.intOf p.1)) ∘ WideElems.rg P T unitR) = f.map (·.1) := by
      have e2 : f.map (·.1) = es.toList.map fun e => (match e.key with | .int _ k => k | _ => 0) := by
        have := congrArg (List.map fun q : Value × Value => (match q.1 with | .int _ k => k | _ => 0)) hM.keys
        simpa [List.map_map, Function.comp_def] using this.symm
      rw [e2]
      refine List.map_congr_left fun x hx => ?_
      obtain ⟨k, h1, h2⟩ := rd_ x hx
      simp [WideElems.rg, h2, h1, Go.intOf]
    rw [e1]
  · show (List.foldr DataW.insert [] (List.map (WideElems.rg P T unitR) es.toList)).length = _
    rw [(WideShapes.sorted_perm _).length_eq, List.length_map, Array.length_toList, hs]
/-- maps.Keys. -/
theorem keys_run {w : World} {L : List HP} {b : Nat} (hO : Own w L) : Calls Try.prog 94 #[.map (some b)] w (RetX w (fun g : Nat => .func (.func 110) #[] #[.pointer (some ⟨g, 0, none⟩)]) (fun g => pts g (.cells #[.map (some b)] 98) :: L)) := by
  have h := (callsIn_wide (n := 5)).1 (AnyZI.keys_in Try.keysA Fence.wide 5 trivial rfl (some b) w)
  refine h.mono ?_
  rintro e w' ⟨rfl, rfl⟩
  exact ⟨w.heap.size, rfl, own_alloc_new hO _, (same_below ((Below.refl _ w).alloc (Nat.le_refl _) _))⟩
/-- The keys, rising. -/
def rising (l : List Int) : List Int := l.mergeSort fun x y => decide (x ≤ y)
theorem rising_perm {l l' : List Int} (h : l.Perm l') : rising l = rising l' := mergeSort_of_perm_i h
/-- slices.Sorted of a map's keys. -/
theorem sorted_run {w : World} {L : List HP} {b g : Nat} {f : List (Int × Value)} (hO : Own w (pts g (.cells #[.map (some b)] 98) :: mapP b f :: L)) (hk : ∀ q ∈ f, inI q.1) (hm : f.length ≤ 100000) :
    Calls Try.prog 93 #[.func (.func 110) #[] #[.pointer (some ⟨g, 0, none⟩)]] w (RetX w (fun v : Value => v) (fun v => owns 3 1 v f.length ((rising (f.map (·.1))).map encZ) :: mapP b f :: L)) := by
  obtain ⟨D0, h1, h2, h3⟩ := mapP_owns (P := Try.prog) (T := 3) (by kernel_rfl) (own_drop hO) hk (by simp only [maxLen]; omega)
  have hcell : w.cell? ⟨g, 0, none⟩ = some (.map (some b)) := own_cell 0 0 hO rfl rfl
  have hg : g < w.heap.size := World.block_lt_of_cell? _ _ hcell
  have hseq : SeqGives Fence.wide 2 Try.prog 110 #[.pointer (some ⟨g, 0, none⟩)] encZ (fun ss => ss.Perm (intKeys D0)) (Maps.size D0) w :=
    AnyZI.keys_gives (ρ := Try.keysA_ren) { Try.keysA with } Fence.wide _ trivial rfl (by omega) g b f.length D0 _ hg hcell h1
  have cS := AnyZI.sorted_in Try.sortedA Fence.wide 5 trivial trivial trivial trivial rfl (by omega) (sortsA _) (enters_of Try.func46 (by kernel_rfl) rfl) 110 #[.pointer (some ⟨g, 0, none⟩)] trivial (enters_of Try.func110 (by kernel_rfl) rfl) _ _ (by simp only [maxLen]; omega) (by omega) _ hseq
  refine (callsIn_wide.1 cS).mono ?_
  rintro e w' ⟨v, ss, rfl, hS, hrow, hnil, hb⟩
  have hp := hS.trans h2
  have hl : ss.length = f.length := by rw [hp.length_eq, List.length_map]
  have e1 : ss.mergeSort (fun x y => decide (x ≤ y)) = rising (f.map (·.1)) := rising_perm hp
  rw [e1, hl] at hrow
  exact ⟨v, rfl, owns_new (own_drop hO) hrow hb, same_below hb⟩
end Ytonohjhmnlfakaa.H
end Go.Proofs
#print axioms Go.Proofs.Ytonohjhmnlfakaa.H.sorted_run
#print axioms Go.Proofs.Ytonohjhmnlfakaa.H.sortsA
set_option linter.unusedVariables false
set_option linter.unusedSimpArgs false
set_option maxRecDepth 100000
namespace Go.Proofs.Ytonohjhmnlfakaa.H
open Go.RowKit
/-- A sector. -/
abbrev Sec := List UInt8
/-- A block: what lasts, its versions that do not, whether it is bad. -/
structure Blk where
  s : Sec
  vs : List Sec
  bad : Bool
def secs (l : List Sec) : List Value := l.flatMap bcs
theorem secs_length {l : List Sec} (h : ∀ s ∈ l, s.length = 32) : (secs l).length = l.length * 32 := by
  induction l with
  | nil => rfl
  | cons s l ih =>
    have e : secs (s :: l) = bcs s ++ secs l := rfl
    rw [e, List.length_append, ih (fun x hx => h x (List.mem_cons_of_mem _ hx)), bcs_length, h s (List.mem_cons_self ..), List.length_cons]
    omega
theorem secs_append (l l' : List Sec) : secs (l ++ l') = secs l ++ secs l' := List.flatMap_append
theorem secs_at {l : List Sec} (h : ∀ s ∈ l, s.length = 32) : ∀ {k : Nat} {s : Sec}, l[k]? = some s → ∀ {j : Nat} {u : Value}, (bcs s)[j]? = some u → (secs l)[k * 32 + j]? = some u := by
  induction l with
  | nil => intro k s hk; simp at hk
  | cons s0 l ih =>
    intro k s hk j u hu
    have e : secs (s0 :: l) = bcs s0 ++ secs l := rfl
    have h0 : (bcs s0).length = 32 := by rw [bcs_length, h s0 (List.mem_cons_self ..)]
    rw [e]
    cases k with
    | zero =>
      have es : s0 = s := by simpa using hk
      subst es
      rw [Nat.zero_mul, Nat.zero_add, List.getElem?_append_left (List.getElem?_eq_some_iff.1 hu).1]
      exact hu
    | succ k =>
      rw [List.getElem?_append_right (by omega), h0, show (k + 1) * 32 + j - 32 = k * 32 + j by omega]
      exact ih (fun x hx => h x (List.mem_cons_of_mem _ hx)) (by simpa using hk) hu
/-- Something that reads as these slices of sectors. -/
def rdV (l : List (Value × List Sec)) : HP := fun p q => ∀ w : World, p.le w → q.le w → ∀ x ∈ l, Rd w 32 x.1 x.2.length (secs x.2)
section
variable {w : World} {L : List HP} {l l' : List (Value × List Sec)}
theorem rdV_rd (h : Own w (rdV l :: L)) {x : Value × List Sec} (hx : x ∈ l) : Rd w 32 x.1 x.2.length (secs x.2) := by
  obtain ⟨p1, q1, p2, q2, hA, hB, h1, h2, _⟩ := own_cons.1 h
  exact hA w h1 h2 x hx
theorem rdV_nil (h : Own w L) : Own w (rdV [] :: L) := own_head (own_emp.2 h) (fun _ _ _ _ _ _ _ _ x hx => by simp at hx)
theorem rdV_cons {v : Value} {ss : List Sec} (h : Own w (rdA 32 v ss.length (secs ss) :: rdV l :: L)) : Own w (rdV ((v, ss) :: l) :: L) := by
  refine own_head (own_sep.2 h) (fun p q hp hq hA => ?_)
  obtain ⟨p1, q1, p2, q2, h1, h2, d1, d2, d3, a, rfl, rfl⟩ := hA
  intro w' e1 e2 x hx
  rcases List.mem_cons.1 hx with rfl | hx
  · exact h1 w' (mrg_le e1) (mrg_le e2)
  · exact h2 w' (mrg_le_right d1.agr e1) (mrg_le_right a e2) x hx
theorem rdV_sub (h : Own w (rdV l :: L)) (hs : ∀ x ∈ l', x ∈ l) : Own w (rdV l' :: L) := own_head h (fun p q _ _ hA w' e1 e2 x hx => hA w' e1 e2 x (hs x hx))
end
/-- What the disk's maps say of its blocks. -/
structure DiskOk (m : List Blk) (fv fb : List (Int × Value)) (l : List (Value × List Sec)) : Prop where
  len : m.length ≤ 96
  s32 : ∀ b ∈ m, b.s.length = 32
  v32 : ∀ b ∈ m, ∀ s ∈ b.vs, s.length = 32
  keyv : ∀ q ∈ fv, ∃ (i : Nat) (b : Blk), m[i]? = some b ∧ q.1 = i ∧ b.vs ≠ []
  vers : ∀ (i : Nat) (b : Blk), m[i]? = some b → ∃ A c, (mget fv i).getD (.slice none 0 0) = .slice A b.vs.length c ∧ ((.slice A b.vs.length c, b.vs) ∈ l)
  keyb : ∀ q ∈ fb, ∃ i : Nat, i < m.length ∧ q.1 = i
  bads : ∀ (i : Nat) (b : Blk), m[i]? = some b → (mget fb i).getD (.bool false) = .bool b.bad
/-- Block d is a disk of these blocks. -/
def diskX (d : Nat) (m : List Blk) (lv : Value) (bv bb : Nat) (fv fb : List (Int × Value)) (l : List (Value × List Sec)) : HP :=
  sep (pur (DiskOk m fv fb l)) (seps [pts d (.cells #[lv, .map (some bv), .map (some bb)] 101), owns 47 32 lv m.length (secs (m.map (·.s))), mapP bv fv, mapP bb fb, rdV l])
def diskP (d : Nat) (m : List Blk) : HP := ex fun lv => ex fun bv => ex fun bb => ex fun fv => ex fun fb => ex fun l => diskX d m lv bv bb fv fb l
theorem disk_open {w : World} {L : List HP} {d : Nat} {m : List Blk} : Own w (diskP d m :: L) ↔ ∃ lv bv bb fv fb l, DiskOk m fv fb l ∧ Own w (pts d (.cells #[lv, .map (some bv), .map (some bb)] 101) :: owns 47 32 lv m.length (secs (m.map (·.s))) :: mapP bv fv :: mapP bb fb :: rdV l :: L) := by
  unfold diskP diskX
  simp only [own_ex, own_sep, own_pur, own_seps, List.cons_append, List.nil_append]
/-- The reference's. -/
def rblk (v : Value) (b : Blk) : List Value := bcs b.s ++ [v, .bool b.bad]
end Go.Proofs.Ytonohjhmnlfakaa.H
set_option linter.unusedVariables false
set_option linter.unusedSimpArgs false
namespace Go.Proofs.Ytonohjhmnlfakaa.H
/-- A patch that waits: its number, the patch, those that it comes behind. -/
structure Wt where
  n : Nat
  p : Pat
  beh : List Int
/-- An engine: its disk, what waits, what stood in the last Write of a block, how many there were. -/
structure Eng where
  m : List Blk
  l : List Wt
  s : Nat → List Int
  next : Nat
/-- Numbers rise, and one comes behind smaller ones alone. -/
structure Asc (l : List Wt) : Prop where
  asc : l.Pairwise fun a b => a.n < b.n
  beh : ∀ x ∈ l, ∀ d ∈ x.beh, d < (x.n : Int)
def wnums (l : List Wt) : List Int := l.map fun x => (x.n : Int)
/-- May x be written behind those of out? -/
def okW (ws : List Int) (i : Int) (out : List Int) (x : Wt) : Bool := decide (x.p.blk = i) && x.beh.all fun d => !ws.contains d || out.contains d
def readyGo (ws : List Int) (i : Int) : List Wt → List Int → List Int
  | [], out => out
  | x :: r, out => if okW ws i out x then readyGo ws i r (out ++ [(x.n : Int)]) else readyGo ws i r out
/-- What could be written now of block i. -/
def readyL (l : List Wt) (i : Int) : List Int := readyGo (wnums l) i l []
theorem readyGo_mono (ws : List Int) (i : Int) : ∀ (l : List Wt) (out : List Int) (d : Int), d ∈ out → d ∈ readyGo ws i l out
  | [], out, d, h => h
  | x :: r, out, d, h => by
    unfold readyGo
    split
    · exact readyGo_mono ws i r _ d (List.mem_append_left _ h)
    · exact readyGo_mono ws i r _ d h
theorem readyGo_of (ws : List Int) (i : Int) : ∀ (l : List Wt) (out : List Int) (d : Int), d ∈ readyGo ws i l out → d ∈ out ∨ ∃ x ∈ l, d = (x.n : Int)
  | [], out, d, h => .inl h
  | x :: r, out, d, h => by
    unfold readyGo at h
    split at h
    · rcases readyGo_of ws i r _ d h with h | ⟨y, hy, e⟩
      · rcases List.mem_append.1 h with h | h
        · exact .inl h
        · exact .inr ⟨x, List.mem_cons_self .., List.mem_singleton.1 h⟩
      · exact .inr ⟨y, List.mem_cons_of_mem _ hy, e⟩
    · rcases readyGo_of ws i r _ d h with h | ⟨y, hy, e⟩
      · exact .inl h
      · exact .inr ⟨y, List.mem_cons_of_mem _ hy, e⟩
theorem readyGo_split (ws : List Int) (i : Int) : ∀ (a b : List Wt) (out : List Int), readyGo ws i (a ++ b) out = readyGo ws i b (readyGo ws i a out)
  | [], b, out => rfl
  | x :: a, b, out => by
    simp only [List.cons_append, readyGo]
    split
    · exact readyGo_split ws i a b _
    · exact readyGo_split ws i a b _
/-- It is the list of the numbers of some of them, in order. -/
theorem readyGo_app (ws : List Int) (i : Int) : ∀ (l : List Wt) (out : List Int), ∃ t, readyGo ws i l out = out ++ t ∧ t.Sublist (wnums l)
  | [], out => ⟨[], by simp [readyGo], List.nil_sublist _⟩
  | x :: r, out => by
    unfold readyGo
    split
    · obtain ⟨t, h1, h2⟩ := readyGo_app ws i r (out ++ [(x.n : Int)])
      exact ⟨(x.n : Int) :: t, by rw [h1, List.append_assoc]; rfl, h2.cons_cons _⟩
    · obtain ⟨t, h1, h2⟩ := readyGo_app ws i r out
      exact ⟨t, h1, h2.cons _⟩
theorem asc_inj {l : List Wt} (h : l.Pairwise fun a b => a.n < b.n) {x y : Wt} (hx : x ∈ l) (hy : y ∈ l) (e : x.n = y.n) : x = y := by
  induction l with
  | nil => cases hx
  | cons a l ih =>
    rw [List.pairwise_cons] at h
    rcases List.mem_cons.1 hx with e1 | hx2
    · rcases List.mem_cons.1 hy with e2 | hy2
      · rw [e1, e2]
      · have := h.1 y hy2; rw [← e1] at this; omega
    · rcases List.mem_cons.1 hy with e2 | hy2
      · have := h.1 x hx2; rw [← e2] at this; omega
      · exact ih h.2 hx2 hy2
theorem asc_before {l a b : List Wt} {x y : Wt} (hl : l = a ++ x :: b) (h : l.Pairwise fun a b => a.n < b.n) (hy : y ∈ l) (e : y.n < x.n) : y ∈ a := by
  subst hl
  rcases List.mem_append.1 hy with hy | hy
  · exact hy
  · rw [List.pairwise_append] at h
    rcases List.mem_cons.1 hy with rfl | hy
    · omega
    · have := (List.pairwise_cons.1 h.2.1).1 y hy
      omega
/-- What stands ahead of x is decided ahead of x. -/
theorem ready_iff {l : List Wt} (hA : Asc l) {i : Int} {x : Wt} (hx : x ∈ l) : (x.n : Int) ∈ readyL l i ↔ x.p.blk = i ∧ ∀ d ∈ x.beh, d ∈ wnums l → d ∈ readyL l i := by
  obtain ⟨a, b, hl⟩ := List.append_of_mem hx
  have hnotin : ∀ y ∈ b, x.n < y.n := fun y hy => by
    have h := hA.asc
    rw [hl, List.pairwise_append] at h
    exact (List.pairwise_cons.1 h.2.1).1 y hy
  have hnota : ∀ y ∈ a, y.n < x.n := fun y hy => by
    have h := hA.asc
    rw [hl, List.pairwise_append] at h
    exact h.2.2 y hy x (List.mem_cons_self ..)
  have eR : readyL l i = readyGo (wnums l) i b (if okW (wnums l) i (readyGo (wnums l) i a []) x then readyGo (wnums l) i a [] ++ [(x.n : Int)] else readyGo (wnums l) i a []) := by
    have h0 : readyL l i = readyGo (wnums l) i (a ++ x :: b) [] := congrArg (fun t => readyGo (wnums l) i t []) hl
    rw [h0, readyGo_split]
    simp only [readyGo]
    split <;> rfl
  have hkeep : ∀ d : Int, d < (x.n : Int) → (d ∈ readyL l i ↔ d ∈ readyGo (wnums l) i a []) := fun d hd => by
    rw [eR]
    constructor
    · intro h
      rcases readyGo_of _ i b _ d h with h | ⟨y, hy, e⟩
      · split at h
        · rcases List.mem_append.1 h with h | h
          · exact h
          · have := List.mem_singleton.1 h; omega
        · exact h
      · have := hnotin y hy; omega
    · intro h
      refine readyGo_mono _ i b _ d ?_
      split
      · exact List.mem_append_left _ h
      · exact h
  have hself : (x.n : Int) ∈ readyL l i ↔ okW (wnums l) i (readyGo (wnums l) i a []) x = true := by
    rw [eR]
    constructor
    · intro h
      rcases readyGo_of _ i b _ _ h with h | ⟨y, hy, e⟩
      · split at h
        · assumption
        · rcases readyGo_of _ i a _ _ h with h | ⟨y, hy, e⟩
          · simp at h
          · have := hnota y hy; omega
      · have := hnotin y hy; omega
    · intro h
      rw [if_pos h]
      exact readyGo_mono _ i b _ _ (List.mem_append_right _ (List.mem_singleton.2 rfl))
  rw [hself]
  unfold okW
  rw [Bool.and_eq_true, decide_eq_true_eq, List.all_eq_true]
  constructor
  · rintro ⟨h1, h2⟩
    refine ⟨h1, fun d hd hw => ?_⟩
    have := h2 d hd
    rw [hkeep d (hA.beh x hx d hd)]
    simp only [Bool.or_eq_true, Bool.not_eq_true', List.contains_eq_mem, decide_eq_false_iff_not, decide_eq_true_eq] at this
    rcases this with h | h
    · exact absurd hw h
    · exact h
  · rintro ⟨h1, h2⟩
    refine ⟨h1, fun d hd => ?_⟩
    simp only [Bool.or_eq_true, Bool.not_eq_true', List.contains_eq_mem, decide_eq_false_iff_not, decide_eq_true_eq]
    by_cases hw : d ∈ wnums l
    · exact .inr ((hkeep d (hA.beh x hx d hd)).1 (h2 d hd hw))
    · exact .inl hw
/-- Those of some numbers, in order. -/
def pickW (l : List Wt) (s : List Int) : List Wt := l.filter fun x => s.contains (x.n : Int)
theorem ready_nums {l : List Wt} (hA : Asc l) (i : Int) : wnums (pickW l (readyL l i)) = readyL l i := by
  obtain ⟨t, h1, h2⟩ := readyGo_app (wnums l) i l []
  rw [List.nil_append] at h1
  have hs : (readyL l i).Sublist (wnums l) := by unfold readyL; rw [h1]; exact h2
  have hasc : (wnums l).Pairwise (· < ·) := List.pairwise_map.2 (hA.asc.imp fun h => by omega)
  have e1 : wnums (pickW l (readyL l i)) = (wnums l).filter fun d => (readyL l i).contains d := by
    unfold wnums pickW
    rw [List.filter_map]
    rfl
  rw [e1]
  generalize readyL l i = R at *
  generalize wnums l = W at *
  clear h1 h2 e1 hA
  induction hs with
  | slnil => rfl
  | @cons r w a hs ih =>
    rw [List.pairwise_cons] at hasc
    have ha : a ∉ r := fun h => by have := hasc.1 a (hs.subset h); omega
    rw [List.filter_cons, if_neg (by simpa using ha)]
    exact ih hasc.2
  | @cons_cons r w a hs ih =>
    rw [List.pairwise_cons] at hasc
    rw [List.filter_cons, if_pos (by simp)]
    congr 1
    rw [← ih hasc.2]
    refine List.filter_congr (fun d hd => ?_)
    have : d ≠ a := fun e => by have := hasc.1 d hd; omega
    rw [ih hasc.2]
    simp [this]
/-- The program's way: take away one that may not be, again and again. -/
theorem ready_last {l : List Wt} (hA : Asc l) {i : Int} {cur : List Wt} (h1 : cur.Sublist (l.filter fun x => decide (x.p.blk = i))) (h2 : (pickW l (readyL l i)).Sublist cur) (h3 : ∀ x ∈ cur, ∀ d ∈ x.beh, d ∈ wnums l → d ∈ wnums cur) : cur = pickW l (readyL l i) := by
  have hsub : cur.Sublist l := h1.trans List.filter_sublist
  have key : ∀ (k : Nat) (x : Wt), x.n = k → x ∈ cur → (x.n : Int) ∈ readyL l i := by
    intro k
    induction k using Nat.strongRecOn with
    | _ k ih =>
      intro x hk hx
      have hxl := hsub.subset hx
      refine (ready_iff hA hxl).2 ⟨?_, fun d hd hw => ?_⟩
      · have := (List.mem_filter.1 (h1.subset hx)).2
        simpa using this
      · obtain ⟨y, hy, e⟩ := List.mem_map.1 (h3 x hx d hd hw)
        have hlt := hA.beh x hxl d hd
        have e : ((y.n : Nat) : Int) = d := e
        rw [← e]
        exact ih y.n (by omega) y rfl hy
  have h4 : cur.Sublist (pickW l (readyL l i)) := by
    have : cur = cur.filter fun x => (readyL l i).contains (x.n : Int) := (List.filter_eq_self.2 fun x hx => by simpa using key x.n x rfl hx).symm
    rw [this]
    exact List.Sublist.filter _ hsub
  exact h4.eq_of_length_le h2.length_le
/-- One that may not be is not among them. -/
theorem ready_drop {l : List Wt} (hA : Asc l) {i : Int} {cur : List Wt} (h1 : cur.Sublist (l.filter fun x => decide (x.p.blk = i))) (h2 : (pickW l (readyL l i)).Sublist cur) {k : Nat} {x : Wt} (hk : cur[k]? = some x) {d : Int} (hd : d ∈ x.beh) (hw : d ∈ wnums l) (hn : d ∉ wnums cur) : (pickW l (readyL l i)).Sublist (cur.eraseIdx k) := by
  have hsub : cur.Sublist l := h1.trans List.filter_sublist
  have hx := List.mem_of_getElem? hk
  have hxl := hsub.subset hx
  have hno : (x.n : Int) ∉ readyL l i := fun h => by
    have h5 := ((ready_iff hA hxl).1 h).2 d hd hw
    rw [← ready_nums hA i] at h5
    obtain ⟨y, hy, e⟩ := List.mem_map.1 h5
    exact hn (List.mem_map.2 ⟨y, h2.subset hy, e⟩)
  have hnx : x ∉ pickW l (readyL l i) := fun h => hno (by simpa using (List.mem_filter.1 h).2)
  have hca : cur.Pairwise fun a b => a.n < b.n := List.Pairwise.sublist hsub hA.asc
  have e : pickW l (readyL l i) = (pickW l (readyL l i)).filter fun y => !decide (y.n = x.n) := (List.filter_eq_self.2 fun y hy => by
    simp only [Bool.not_eq_true', decide_eq_false_iff_not]
    intro e
    exact hnx (asc_inj hA.asc (List.filter_sublist.subset hy) hxl e ▸ hy)).symm
  have e2 : (cur.filter fun y => !decide (y.n = x.n)) = cur.eraseIdx k := by
    clear h1 h2 hno hnx e hxl hsub hn
    induction cur generalizing k with
    | nil => simp at hk
    | cons a r ih =>
      rw [List.pairwise_cons] at hca
      cases k with
      | zero =>
        have ea : a = x := by simpa using hk
        subst ea
        rw [List.filter_cons, if_neg (by simp), List.eraseIdx_cons_zero]
        exact List.filter_eq_self.2 fun y hy => by have := hca.1 y hy; simp; omega
      | succ k =>
        have hk' : r[k]? = some x := by simpa using hk
        have hlt := hca.1 x (List.mem_of_getElem? hk')
        rw [List.filter_cons, if_pos (by simp; omega), List.eraseIdx_cons_succ, ih hk' (List.mem_of_getElem? hk') hca.2]
  rw [e, ← e2]
  exact h2.filter _
end Go.Proofs.Ytonohjhmnlfakaa.H
set_option linter.unusedVariables false
set_option linter.unusedSimpArgs false
namespace Go.Proofs.Ytonohjhmnlfakaa.H
open Go.RowKit
/-- A slice that reads so: the cells of an element, the slice, its length, the cells. -/
structure RdI where
  sz : Nat
  v : Value
  n : Nat
  xs : List Value
def RdI.ok (x : RdI) (w : World) : Prop := Rd w x.sz x.v x.n x.xs
/-- Something that reads as these slices. -/
def rdG (l : List RdI) : HP := fun p q => ∀ w : World, p.le w → q.le w → ∀ x ∈ l, x.ok w
section
variable {w : World} {L : List HP} {l l' : List RdI}
theorem rdG_rd (h : Own w (rdG l :: L)) {sz n : Nat} {v : Value} {xs : List Value} (hx : ⟨sz, v, n, xs⟩ ∈ l) : Rd w sz v n xs := by
  obtain ⟨p1, q1, p2, q2, hA, hB, h1, h2, _⟩ := own_cons.1 h
  exact hA w h1 h2 _ hx
theorem rdG_none (h : Own w L) : Own w (rdG [] :: L) := own_head (own_emp.2 h) (fun _ _ _ _ _ _ _ _ x hx => by simp at hx)
theorem rdG_cons {sz n : Nat} {v : Value} {xs : List Value} (h : Own w (rdA sz v n xs :: rdG l :: L)) : Own w (rdG (⟨sz, v, n, xs⟩ :: l) :: L) := by
  refine own_head (own_sep.2 h) (fun p q hp hq hA => ?_)
  obtain ⟨p1, q1, p2, q2, h1, h2, d1, d2, d3, a, rfl, rfl⟩ := hA
  intro w' e1 e2 x hx
  rcases List.mem_cons.1 hx with rfl | hx
  · exact h1 w' (mrg_le e1) (mrg_le e2)
  · exact h2 w' (mrg_le_right d1.agr e1) (mrg_le_right a e2) x hx
theorem rdG_app (h : Own w (rdG l :: rdG l' :: L)) : Own w (rdG (l ++ l') :: L) := by
  refine own_head (own_sep.2 h) (fun p q hp hq hA => ?_)
  obtain ⟨p1, q1, p2, q2, h1, h2, d1, d2, d3, a, rfl, rfl⟩ := hA
  intro w' e1 e2 x hx
  rcases List.mem_append.1 hx with hx | hx
  · exact h1 w' (mrg_le e1) (mrg_le e2) x hx
  · exact h2 w' (mrg_le_right d1.agr e1) (mrg_le_right a e2) x hx
theorem rdG_sub (h : Own w (rdG l :: L)) (hs : ∀ x ∈ l', x ∈ l) : Own w (rdG l' :: L) := own_head h (fun p q _ _ hA w' e1 e2 x hx => hA w' e1 e2 x (hs x hx))
theorem rdG_nil (h : Own w (rdG l :: L)) (sz : Nat) : Own w (rdG (⟨sz, .slice none 0 0, 0, []⟩ :: l) :: L) := rdG_cons (rdA_nil h)
theorem rdG_owns {e sz n : Nat} {v : Value} {xs : List Value} (h : Own w (owns e sz v n xs :: rdG l :: L)) : Own w (rdG (⟨sz, v, n, xs⟩ :: l) :: L) := rdG_cons (rdA_owns h)
end
/-- Numbers as cells. -/
abbrev zs (l : List Int) : List Value := l.map encZ
theorem zs_one (l : List Int) : ∀ u ∈ zs l, u.oneCell' = true := by
  intro u hu
  obtain ⟨x, _, rfl⟩ := List.mem_map.1 hu
  rfl
theorem zs_cell {w : World} {ad : Addr} {n c k : Nat} {l : List Int} {x : Int} (h : Rd w 1 (.slice (some ad) n c) n (zs l)) (hx : l[k]? = some x) : w.cell? (ad.add k) = some (.int .i64 x) := by
  have h1 : w.cell? ((ad.add (k * 1)).add 0) = some (.int .i64 x) := h.cell (by rw [Nat.mul_one, Nat.add_zero]; unfold zs; rw [List.getElem?_map, hx]; rfl)
  rwa [addr_add, Nat.mul_one, Nat.add_zero] at h1
/-- One that waits, as it lies in memory: the slice of those that it comes behind is v. -/
abbrev We := Wt × Value
def We.cells (x : We) : List Value := [.int .i64 x.1.n, .int .i64 x.1.p.blk, .int .i64 x.1.p.off, .string x.1.p.dat, x.2]
def cellsW (l : List We) : List Value := l.flatMap We.cells
theorem cellsW_length (l : List We) : (cellsW l).length = l.length * 5 := by
  induction l with
  | nil => rfl
  | cons d l ih => simp only [cellsW, List.flatMap_cons, List.length_append, List.length_cons] at ih ⊢; rw [ih]; simp [We.cells]; omega
theorem cellsW_app (a b : List We) : cellsW (a ++ b) = cellsW a ++ cellsW b := List.flatMap_append
theorem cellsW_at (l : List We) (k : Nat) (d : We) (hk : l[k]? = some d) (j : Nat) (u : Value) (hu : (We.cells d)[j]? = some u) : (cellsW l)[k * 5 + j]? = some u := by
  induction l generalizing k with
  | nil => simp at hk
  | cons e l ih =>
    have h5 : (We.cells e).length = 5 := rfl
    have e1 : cellsW (e :: l) = We.cells e ++ cellsW l := rfl
    rw [e1]
    cases k with
    | zero =>
      have ed : e = d := by simpa using hk
      subst ed
      rw [Nat.zero_mul, Nat.zero_add, List.getElem?_append_left (List.getElem?_eq_some_iff.1 hu).1]
      exact hu
    | succ k =>
      rw [List.getElem?_append_right (by omega), h5, show (k + 1) * 5 + j - 5 = k * 5 + j by omega]
      exact ih k (by simpa using hk)
/-- These wait; what g reads has them. -/
structure WOk (we : List We) (wv : Value) (g : List RdI) : Prop where
  cap : ∀ A n c, wv = .slice A n c → A = none → c = 0
  rd : ∃ A c, wv = .slice A we.length c ∧ (⟨5, .slice A we.length c, we.length, cellsW we⟩ : RdI) ∈ g
  beh : ∀ x ∈ we, ∃ A c, x.2 = .slice A x.1.beh.length c ∧ (⟨1, .slice A x.1.beh.length c, x.1.beh.length, zs x.1.beh⟩ : RdI) ∈ g
theorem WOk.mono {we : List We} {wv : Value} {g g' : List RdI} (h : WOk we wv g) (hs : ∀ x ∈ g, x ∈ g') : WOk we wv g' :=
  ⟨h.cap, let ⟨A, c, e, h1⟩ := h.rd; ⟨A, c, e, hs _ h1⟩, fun x hx => let ⟨A, c, e, h1⟩ := h.beh x hx; ⟨A, c, e, hs _ h1⟩⟩
/-- The map of what stood in the last Write of a block. -/
structure SOk (n : Nat) (s : Nat → List Int) (fs : List (Int × Value)) (g : List RdI) : Prop where
  key : ∀ q ∈ fs, ∃ i : Nat, i < n ∧ q.1 = (i : Int)
  val : ∀ i, i < n → ∃ A c, (mget fs i).getD (.slice none 0 0) = .slice A (s i).length c ∧ (⟨1, .slice A (s i).length c, (s i).length, zs (s i)⟩ : RdI) ∈ g
  out : ∀ i, n ≤ i → s i = []
theorem SOk.mono {n : Nat} {s : Nat → List Int} {fs : List (Int × Value)} {g g' : List RdI} (h : SOk n s fs g) (hs : ∀ x ∈ g, x ∈ g') : SOk n s fs g' :=
  ⟨h.key, fun i hi => let ⟨A, c, e, h1⟩ := h.val i hi; ⟨A, c, e, hs _ h1⟩, h.out⟩
theorem sok_nil {n : Nat} {g : List RdI} (h : (⟨1, .slice none 0 0, 0, []⟩ : RdI) ∈ g) : SOk n (fun _ => []) [] g :=
  ⟨fun q hq => by simp at hq, fun i _ => ⟨none, 0, rfl, h⟩, fun _ _ => rfl⟩
theorem owns_nilcap {w : World} {L : List HP} {e sz n m : Nat} {A : Option Addr} {c : Nat} {xs : List Value} (h : Own w (owns e sz (.slice A m c) n xs :: L)) (hA : A = none) : c = 0 := by
  subst hA
  rcases (owns_row h).2 with ⟨e1, _⟩ | ⟨g, cap, cur, e1, _⟩
  · cases e1; rfl
  · cases e1
/-- What an engine may be. -/
structure Eng.Ok (E : Eng) : Prop where
  asc : Asc E.l
  pos : 0 < E.m.length
  right : ∀ x ∈ E.l, rightB x.p = true ∧ x.p.blk < (E.m.length : Int)
  lt : ∀ x ∈ E.l, x.n < E.next
  len : E.l.length ≤ 200
  lim : E.next ≤ 1000000
  behl : ∀ x ∈ E.l, x.beh.length ≤ 1000000
  sl : ∀ i, (E.s i).length ≤ 200
/-- Block e is the program's engine. -/
def engX (e : Nat) (E : Eng) (d : Nat) (wv : Value) (bs : Nat) (fs : List (Int × Value)) (we : List We) (g : List RdI) : HP :=
  sep (pur (we.map (·.1) = E.l ∧ WOk we wv g ∧ SOk E.m.length E.s fs g)) (seps [pts e (.cells #[.pointer (some ⟨d, 0, none⟩), wv, .map (some bs), .int .i64 E.next] 67), diskP d E.m, mapP bs fs, rdG g])
def engP (e : Nat) (E : Eng) : HP := ex fun d => ex fun wv => ex fun bs => ex fun fs => ex fun we => ex fun g => engX e E d wv bs fs we g
theorem eng_open {w : World} {L : List HP} {e : Nat} {E : Eng} : Own w (engP e E :: L) ↔ ∃ d wv bs fs we g, (we.map (·.1) = E.l ∧ WOk we wv g ∧ SOk E.m.length E.s fs g) ∧ Own w (pts e (.cells #[.pointer (some ⟨d, 0, none⟩), wv, .map (some bs), .int .i64 E.next] 67) :: diskP d E.m :: mapP bs fs :: rdG g :: L) := by
  unfold engP engX
  simp only [own_ex, own_sep, own_pur, own_seps, List.cons_append, List.nil_append]
end Go.Proofs.Ytonohjhmnlfakaa.H
set_option linter.unusedVariables false
set_option linter.unusedSimpArgs false
set_option maxRecDepth 100000
namespace Go.Proofs.Ytonohjhmnlfakaa.H
open Go.RowKit
theorem row_secs : isRowB Try.prog 69 = some false := by kernel_rfl
theorem row_mv : isRowB Try.prog 98 = some false := by kernel_rfl
theorem row_mb : isRowB Try.prog 99 = some false := by kernel_rfl
theorem row_sec : isRowB Try.prog 47 = some true := by kernel_rfl
theorem sz_sec : (Try.prog.info? 47).map (·.size) = some 32 := by kernel_rfl
theorem und_mv : Try.prog.underlying 98 = some (.map 3 69) := by kernel_rfl
theorem und_mb : Try.prog.underlying 99 = some (.map 3 4) := by kernel_rfl
theorem und_i : Try.prog.underlying 3 = some (.int .i64) := by kernel_rfl
theorem zero_secs : (Try.prog.info? 69).map (·.zero) = some (some (.slice none 0 0)) := by kernel_rfl
theorem zero_b : (Try.prog.info? 4).map (·.zero) = some (some (.bool false)) := by kernel_rfl
theorem zero_sec : (Try.prog.info? 47).map (·.zero) = some (some (.agg (Array.replicate 32 (.int .u8 0)))) := by kernel_rfl
section
variable (w : World) (L : List HP) (d : Nat) (m : List Blk)
theorem may_nil (i : Int) (hO : Own w L) : Calls Try.prog 61 #[.pointer none, .int .i64 i] w (Ret w (.int .i64 1) L) := by
  go_enter Try.func61, Try.ntmps61
  go_wp2
  go_ret
  exact ⟨rfl, hO, Same.refl _⟩
theorem may_ok (i : Nat) (b : Blk) (hO : Own w (diskP d m :: L)) (hi : m[i]? = some b) : Calls Try.prog 61 #[.pointer (some ⟨d, 0, none⟩), .int .i64 i] w (Ret w (.int .i64 0) (diskP d m :: L)) := by
  have hO0 := hO
  obtain ⟨lv, bv, bb, fv, fb, l, hk, hO⟩ := disk_open.1 hO
  have hK := Lib.hid hO0
  have hl : i < m.length := (List.getElem?_eq_some_iff.1 hi).1
  obtain ⟨A, c, rfl⟩ := (owns_rd (own_at hO (k := 1) rfl)).slice
  have h1 : ¬ ((i : Int) < 0) := by omega
  have h2 : ¬ ((m.length : Int) ≤ i) := by omega
  clear hO0 hk hi
  go_enter Try.func61, Try.ntmps61
  go_wp2_with (first | (apply own_load1 rfl rfl rfl; (first | exact row_secs | exact row_mv | exact row_mb); (first | exact own_get 0 hO rfl | exact own_get 1 hO rfl | exact own_get 2 hO rfl | exact own_get 3 hO rfl | exact own_get 4 hO rfl | exact own_get 5 hO rfl | exact own_get 6 hO rfl | exact own_get 7 hO rfl); (first | (simp only [List.getElem?_toArray, List.getElem?_cons_succ, List.getElem?_cons_zero]; rfl) | rfl)))
  go_ret
  exact ⟨rfl, hK.out, Same.refl _⟩
theorem may_no (i : Int) (hO : Own w (diskP d m :: L)) (hi : i < 0 ∨ (m.length : Int) ≤ i) : Calls Try.prog 61 #[.pointer (some ⟨d, 0, none⟩), .int .i64 i] w (Ret w (.int .i64 2) (diskP d m :: L)) := by
  have hO0 := hO
  obtain ⟨lv, bv, bb, fv, fb, l, hk, hO⟩ := disk_open.1 hO
  have hK := Lib.hid hO0
  obtain ⟨A, c, rfl⟩ := (owns_rd (own_at hO (k := 1) rfl)).slice
  clear hO0 hk
  rcases hi with h1 | h2
  · go_enter Try.func61, Try.ntmps61
    go_wp2_with (first | (apply own_load1 rfl rfl rfl; (first | exact row_secs | exact row_mv | exact row_mb); (first | exact own_get 0 hO rfl | exact own_get 1 hO rfl | exact own_get 2 hO rfl | exact own_get 3 hO rfl | exact own_get 4 hO rfl | exact own_get 5 hO rfl | exact own_get 6 hO rfl | exact own_get 7 hO rfl); (first | (simp only [List.getElem?_toArray, List.getElem?_cons_succ, List.getElem?_cons_zero]; rfl) | rfl)))
    go_ret
    exact ⟨rfl, hK.out, Same.refl _⟩
  · have h1 : ¬ (i < 0) := by omega
    go_enter Try.func61, Try.ntmps61
    go_wp2_with (first | (apply own_load1 rfl rfl rfl; (first | exact row_secs | exact row_mv | exact row_mb); (first | exact own_get 0 hO rfl | exact own_get 1 hO rfl | exact own_get 2 hO rfl | exact own_get 3 hO rfl | exact own_get 4 hO rfl | exact own_get 5 hO rfl | exact own_get 6 hO rfl | exact own_get 7 hO rfl); (first | (simp only [List.getElem?_toArray, List.getElem?_cons_succ, List.getElem?_cons_zero]; rfl) | rfl)))
    go_ret
    exact ⟨rfl, hK.out, Same.refl _⟩
theorem size_nil (hO : Own w L) : Calls Try.prog 37 #[.pointer none] w (Ret w (.int .i64 0) L) := by
  go_enter Try.func37, Try.ntmps37
  go_wp2
  go_ret
  exact ⟨rfl, hO, Same.refl _⟩
theorem size_c (hO : Own w (diskP d m :: L)) : Calls Try.prog 37 #[.pointer (some ⟨d, 0, none⟩)] w (Ret w (.int .i64 m.length) (diskP d m :: L)) := by
  have hO0 := hO
  obtain ⟨lv, bv, bb, fv, fb, l, hk, hO⟩ := disk_open.1 hO
  have hK := Lib.hid hO0
  obtain ⟨A, c, rfl⟩ := (owns_rd (own_at hO (k := 1) rfl)).slice
  clear hO0 hk
  go_enter Try.func37, Try.ntmps37
  go_wp2_with (first | (apply own_load1 rfl rfl rfl; (first | exact row_secs | exact row_mv | exact row_mb); (first | exact own_get 0 hO rfl | exact own_get 1 hO rfl | exact own_get 2 hO rfl | exact own_get 3 hO rfl | exact own_get 4 hO rfl | exact own_get 5 hO rfl | exact own_get 6 hO rfl | exact own_get 7 hO rfl); (first | (simp only [List.getElem?_toArray, List.getElem?_cons_succ, List.getElem?_cons_zero]; rfl) | rfl)))
  go_ret
  exact ⟨rfl, hK.out, Same.refl _⟩
/-- The versions of the i-th. -/
def vsAt (m : List Blk) (i : Int) : Nat := if 0 ≤ i then ((m[i.toNat]?).map (·.vs.length)).getD 0 else 0
theorem mget_vs {m : List Blk} {fv fb : List (Int × Value)} {l : List (Value × List Sec)} (hk : DiskOk m fv fb l) (i : Int) : ∃ A c, (mget fv i).getD (.slice none 0 0) = .slice A (vsAt m i) c := by
  unfold vsAt
  by_cases h0 : 0 ≤ i
  · rw [if_pos h0]
    cases hm : m[i.toNat]? with
    | none =>
      refine ⟨none, 0, ?_⟩
      rw [mget_none (fun q hq e => ?_)]
      · rfl
      · obtain ⟨j, b, h1, h2, _⟩ := hk.keyv q hq
        have : i.toNat = j := by omega
        rw [this, h1] at hm
        cases hm
    | some b =>
      obtain ⟨A, c, h1, _⟩ := hk.vers _ b hm
      rw [Int.toNat_of_nonneg h0] at h1
      exact ⟨A, c, h1⟩
  · rw [if_neg h0]
    refine ⟨none, 0, ?_⟩
    rw [mget_none (fun q hq e => ?_)]
    · rfl
    · obtain ⟨j, b, h1, h2, _⟩ := hk.keyv q hq
      omega
end
end Go.Proofs.Ytonohjhmnlfakaa.H
