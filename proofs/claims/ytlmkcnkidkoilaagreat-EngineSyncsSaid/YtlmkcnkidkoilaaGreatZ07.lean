/- The contracts of sorts, keys and clones at this program, laid in plain words. slices.Sort at ints and slices.Sorted(maps.Keys(m)) at the disk's map, by the shelf's contracts. What a disk's memory is: the program's and the reference's. Plain words on an engine: what waits, what could be written now. Something that reads as several slices; what waits, in memory. may, Size, Versions, Lasting, Read of the program's disk. -/
import Derived.Test.YtlmkcnkidkoilaaGreatChecked
import Derived.Shelf.SlIterI.Sorted
import Derived.Shelf.Slices.In.SortAlone
import Derived.Shelf.Slices.In.SortNone
import Derived.Shelf.SlMaps.Clone
import Derived.Lib.SortBridge
import Derived.Test.YtlmkcnkidkoilaaGreatZ06
import Derived.WalkKit
import Derived.Test.YtlmkcnkidkoilaaGreatZ05
import Derived.WalkLawsBesides
import Derived.WalkSpells
namespace Go.Proofs
open Go.Shelf
def Tryz.laysSort_ren : Go.Shelf.Ren := ⟨fun | 189 => 48 | 125 => 85 | 257 => 84 | 128 => 115 | 129 => 116 | 294 => 106 | 295 => 107 | 296 => 108 | 297 => 109 | 298 => 110 | 299 => 111 | 216 => 112 | 300 => 113 | 301 => 114 | 328 => 121 | 329 => 122 | 330 => 123 | 331 => 124 | 332 => 125 | 215 => 126 | 343 => 128 | n => n, fun | 28 => 38 | 3 => 3 | 46 => 122 | 0 => 0 | 51 => 150 | 53 => 152 | 4 => 4 | 183 => 142 | 182 => 141 | 131 => 147 | 5 => 5 | 9 => 9 | 218 => 155 | 222 => 159 | 228 => 162 | 229 => 163 | n => n, fun | n => n⟩
theorem Tryz.laysSort : Go.Proofs.Lays.n189 Tryz.prog Tryz.laysSort_ren := {
  mixed := by kernel_rfl
  f125 := Tryz.func85.trans (congrArg some (by kernel_rfl))
  f128 := Tryz.func115.trans (congrArg some (by kernel_rfl))
  f129 := Tryz.func116.trans (congrArg some (by kernel_rfl))
  f189 := Tryz.func48.trans (congrArg some (by kernel_rfl))
  f215 := Tryz.func126.trans (congrArg some (by kernel_rfl))
  f216 := Tryz.func112.trans (congrArg some (by kernel_rfl))
  f257 := Tryz.func84.trans (congrArg some (by kernel_rfl))
  f294 := Tryz.func106.trans (congrArg some (by kernel_rfl))
  f295 := Tryz.func107.trans (congrArg some (by kernel_rfl))
  f296 := Tryz.func108.trans (congrArg some (by kernel_rfl))
  f297 := Tryz.func109.trans (congrArg some (by kernel_rfl))
  f298 := Tryz.func110.trans (congrArg some (by kernel_rfl))
  f299 := Tryz.func111.trans (congrArg some (by kernel_rfl))
  f300 := Tryz.func113.trans (congrArg some (by kernel_rfl))
  f301 := Tryz.func114.trans (congrArg some (by kernel_rfl))
  f328 := Tryz.func121.trans (congrArg some (by kernel_rfl))
  f329 := Tryz.func122.trans (congrArg some (by kernel_rfl))
  f330 := Tryz.func123.trans (congrArg some (by kernel_rfl))
  f331 := Tryz.func124.trans (congrArg some (by kernel_rfl))
  f332 := Tryz.func125.trans (congrArg some (by kernel_rfl))
  f343 := Tryz.func128.trans (congrArg some (by kernel_rfl))
  t0 := Tryz.underlying0
  a0 := Tryz.isAgg0
  z0 := Tryz.sizeOf0
  v0 := Tryz.zeroValue0
  t3 := Tryz.underlying3
  a3 := Tryz.isAgg3
  z3 := Tryz.sizeOf3
  v3 := Tryz.zeroValue3
  t4 := Tryz.underlying4
  a4 := Tryz.isAgg4
  z4 := Tryz.sizeOf4
  v4 := Tryz.zeroValue4
  t5 := Tryz.underlying5
  a5 := Tryz.isAgg5
  z5 := Tryz.sizeOf5
  v5 := Tryz.zeroValue5
  t9 := Tryz.underlying9
  a9 := Tryz.isAgg9
  z9 := Tryz.sizeOf9
  v9 := Tryz.zeroValue9
  t28 := Tryz.underlying38
  a28 := Tryz.isAgg38
  z28 := Tryz.sizeOf38
  v28 := Tryz.zeroValue38
  t46 := Tryz.underlying122
  a46 := Tryz.isAgg122
  z46 := Tryz.sizeOf122
  v46 := Tryz.zeroValue122
  t51 := Tryz.underlying150
  a51 := Tryz.isAgg150
  z51 := Tryz.sizeOf150
  v51 := Tryz.zeroValue150
  t53 := Tryz.underlying152
  a53 := Tryz.isAgg152
  z53 := Tryz.sizeOf152
  v53 := Tryz.zeroValue152
  t131 := Tryz.underlying147
  a131 := Tryz.isAgg147
  z131 := Tryz.sizeOf147
  v131 := Tryz.zeroValue147
  t182 := Tryz.underlying141
  a182 := Tryz.isAgg141
  z182 := Tryz.sizeOf141
  v182 := Tryz.zeroValue141
  t183 := Tryz.underlying142
  a183 := Tryz.isAgg142
  z183 := Tryz.sizeOf142
  v183 := Tryz.zeroValue142
  t218 := Tryz.underlying155
  a218 := Tryz.isAgg155
  z218 := Tryz.sizeOf155
  v218 := Tryz.zeroValue155
  t222 := Tryz.underlying159
  a222 := Tryz.isAgg159
  z222 := Tryz.sizeOf159
  v222 := Tryz.zeroValue159
  t228 := Tryz.underlying162
  a228 := Tryz.isAgg162
  z228 := Tryz.sizeOf162
  v228 := Tryz.zeroValue162
  t229 := Tryz.underlying163
  a229 := Tryz.isAgg163
  z229 := Tryz.sizeOf163
  v229 := Tryz.zeroValue163 }
def Tryz.keysA_ren : Go.Shelf.Ren := ⟨fun | 7 => 105 | 10 => 120 | n => n, fun | 23 => 87 | 26 => 3 | 3 => 86 | 28 => 138 | 0 => 0 | 27 => 137 | 33 => 101 | 4 => 4 | n => n, fun | n => n⟩
theorem Tryz.keysA : Go.Proofs.SlLaysZI.n7 Tryz.prog Tryz.keysA_ren := {
  mixed := by kernel_rfl
  f7 := ⟨Tryz.f105.name, by decide, Tryz.func105.trans (congrArg some (by kernel_rfl))⟩
  f10 := ⟨Tryz.f120.name, by decide, Tryz.func120.trans (congrArg some (by kernel_rfl))⟩
  t0 := Tryz.underlying0
  a0 := Tryz.isAgg0
  z0 := Tryz.sizeOf0
  v0 := Tryz.zeroValue0
  t4 := Tryz.underlying4
  a4 := Tryz.isAgg4
  z4 := Tryz.sizeOf4
  v4 := Tryz.zeroValue4
  t23 := Tryz.underlying87
  a23 := Tryz.isAgg87
  z23 := Tryz.sizeOf87
  v23 := Tryz.zeroValue87
  t26 := Tryz.underlying3
  a26 := Tryz.isAgg3
  z26 := Tryz.sizeOf3
  v26 := Tryz.zeroValue3
  t27 := Tryz.underlying137
  a27 := Tryz.isAgg137
  z27 := Tryz.sizeOf137
  v27 := Tryz.zeroValue137
  t28 := Tryz.underlying138
  a28 := Tryz.isAgg138
  z28 := Tryz.sizeOf138
  v28 := Tryz.zeroValue138
  t33 := Tryz.underlying101
  a33 := Tryz.isAgg101
  z33 := Tryz.sizeOf101
  v33 := Tryz.zeroValue101 }
def Tryz.sortedA_ren : Go.Shelf.Ren := ⟨fun | 6 => 104 | 8 => 119 | 9 => 48 | 11 => 127 | 13 => 85 | 12 => 84 | 23 => 115 | 24 => 116 | 14 => 106 | 15 => 107 | 16 => 108 | 17 => 109 | 18 => 110 | 19 => 111 | 20 => 112 | 21 => 113 | 22 => 114 | 25 => 121 | 26 => 122 | 27 => 123 | 28 => 124 | 29 => 125 | 30 => 126 | 31 => 128 | n => n, fun | 26 => 3 | 28 => 138 | 24 => 38 | 0 => 0 | 3 => 3 | 37 => 122 | 48 => 150 | 50 => 152 | 4 => 4 | 40 => 142 | 39 => 141 | 45 => 147 | 5 => 5 | 9 => 9 | 51 => 155 | 55 => 159 | 57 => 162 | 58 => 163 | 33 => 101 | n => n, fun | n => n⟩
theorem Tryz.sortedA : Go.Proofs.SlLaysZI.n6 Tryz.prog Tryz.sortedA_ren := {
  mixed := by kernel_rfl
  f6 := ⟨Tryz.f104.name, by decide, Tryz.func104.trans (congrArg some (by kernel_rfl))⟩
  f8 := ⟨Tryz.f119.name, by decide, Tryz.func119.trans (congrArg some (by kernel_rfl))⟩
  f11 := ⟨Tryz.f127.name, by decide, Tryz.func127.trans (congrArg some (by kernel_rfl))⟩
  t0 := Tryz.underlying0
  a0 := Tryz.isAgg0
  z0 := Tryz.sizeOf0
  v0 := Tryz.zeroValue0
  t24 := Tryz.underlying38
  a24 := Tryz.isAgg38
  z24 := Tryz.sizeOf38
  v24 := Tryz.zeroValue38
  t26 := Tryz.underlying3
  a26 := Tryz.isAgg3
  z26 := Tryz.sizeOf3
  v26 := Tryz.zeroValue3
  t28 := Tryz.underlying138
  a28 := Tryz.isAgg138
  z28 := Tryz.sizeOf138
  v28 := Tryz.zeroValue138
  i26 := by kernel_rfl }
def Tryz.cloneB_ren : Go.Shelf.Ren := ⟨fun | 5 => 75 | 7 => 103 | n => n, fun | 23 => 88 | 25 => 3 | 3 => 4 | 4 => 4 | 20 => 20 | n => n, fun | n => n⟩
theorem Tryz.cloneB : Go.Proofs.SlLaysW.n5 Tryz.prog Tryz.cloneB_ren := {
  mixed := by kernel_rfl
  f5 := ⟨Tryz.f75.name, by decide, Tryz.func75.trans (congrArg some (by kernel_rfl))⟩
  f7 := Tryz.func103.trans (congrArg some (by kernel_rfl))
  t4 := Tryz.underlying4
  a4 := Tryz.isAgg4
  z4 := Tryz.sizeOf4
  v4 := Tryz.zeroValue4
  t20 := Tryz.underlying20
  a20 := Tryz.isAgg20
  z20 := Tryz.sizeOf20
  v20 := Tryz.zeroValue20
  t23 := Tryz.underlying88
  a23 := Tryz.isAgg88
  z23 := Tryz.sizeOf88
  v23 := Tryz.zeroValue88 }
end Go.Proofs
set_option linter.unusedVariables false
set_option linter.unusedSimpArgs false
namespace Go.Proofs
open Go.RowKit Go.Maps Go.Sort Go.Shelf
namespace YtlmkcnkidkoilaaGreat.H
/-- A contract inside a fence of whatever depth is one. -/
theorem calls_of_in {l : List Nat} {n : Nat} {P : Program} {f : FuncId} {args : Array Value} {w : World} {R : Ending → World → Prop} (h : ∀ D, CallsIn (Fence.list l (some D)) n P f args w R) : Calls P f args w R := fun cs =>
  let ⟨e, w', fr, r, s, x⟩ := (h (cs.length + 1 + n)).2 cs (fun d hd => by cases hd; exact Nat.le_refl _)
  ⟨e, w', fr, r, s.comes, x⟩
theorem sortsA (m : Nat) : AnyZI.SortsIn Tryz.prog Tryz.sortedA_ren Fence.wide m :=
  ⟨fun blk off cap ss W hH hblk hsz => callsIn_wide.2 (calls_of_in fun D => AnyS.slices_Sort_int_alone Tryz.laysSort D blk off cap ss W hH hblk hsz),
   fun p cap W => callsIn_wide.2 (calls_of_in fun D => AnyS.slices_Sort_int_none_alone Tryz.laysSort D p cap W)⟩
/-- A new slice that a kit's contract hands over. -/
theorem owns_new {w w' : World} {L : List HP} {e size n : Nat} {v : Value} {xs : List Value} (hO : Own w L) (hr : w'.ownsRow w.heap.size e size v n xs) (hb : Below w.heap.size w w') : Own w' (owns e size v n xs :: L) := by
  have keep : ∀ (i : Nat) (x : Obj), w.heap[i]? = some x → w'.heap[i]? = some x := fun i x h => (hb.block i (Array.getElem?_eq_some_iff.1 h).1).trans h
  obtain ⟨hl, ⟨rfl, rfl⟩ | ⟨g, cap, cur, rfl, hg, hh, h1, h2, h3, h4⟩⟩ := hr
  · rw [Nat.zero_mul, List.length_eq_zero_iff] at hl
    subst hl
    exact owns_nil (own_heap hO keep)
  · exact owns_of_pts (own_new hO keep hg hh) h3 h1 h2 h4
theorem same_below {w w' : World} {b : Nat} (h : Below b w w') : Same w w' := ⟨h.os, h.tape, h.output, h.size⟩
def unitR : Value → Option (DataW Unit × List MemPlace) := fun _ => some (.nil, [])
def inI (k : Int) : Prop := (Lit.int .i64 k).wf = true
theorem mapP_owns {P : Program} {T : TypeId} {w : World} {L : List HP} {b : Nat} {f : List (Int × Value)} (hT : P.underlying T = some (.int .i64)) (h : Own w (mapP b f :: L)) (hk : ∀ q ∈ f, inI q.1) (hm : f.length ≤ maxLen) :
    ∃ D0 : DataW Unit, w.ownsMap P T unitR b f.length D0 ∧ (intKeys D0).Perm (f.map (·.1)) ∧ Maps.size D0 = f.length := by
  obtain ⟨es, clock, hM, hO⟩ := mapP_open.1 h
  have rd_ : ∀ x ∈ es.toList, ∃ k : Int, x.key = .int .i64 k ∧ WideElems.rd P T unitR x = some (.int .i64 k, .nil) := fun x hx => by
    obtain ⟨j, hj⟩ := List.getElem?_of_mem hx
    obtain ⟨k, e1, e2⟩ := hM.at_ hj
    refine ⟨k, e1, ?_⟩
    have hw := hk _ (List.mem_of_getElem? e2)
    unfold inI at hw
    simp [WideElems.rd, unitR, e1, keyOf, hT, mapKey, hw]
  have hs : es.size = f.length := hM.size
  refine ⟨_, ⟨es, clock, own_pts hO, ⟨by omega, ⟨hM.old, hM.nodup, ?_⟩, fun x hx => let ⟨k, _, e⟩ := rd_ x hx; ⟨_, e⟩⟩, by omega, rfl⟩, ?_, ?_⟩
  · have e1 : es.toList.map (·.key) = f.map fun q => Value.int .i64 q.1 := by
      have := congrArg (List.map Prod.fst) hM.keys
      simpa [List.map_map, Function.comp_def] using this
    rw [e1]
    have h2 := hM.nod
    exact List.pairwise_map.2 ((List.pairwise_map.1 h2).imp fun hne e => hne (by injection e))
  · show ((List.foldr DataW.insert [] (List.map (WideElems.rg P T unitR) es.toList)).map fun p => Go.intOf p.1).Perm _
    refine ((WideShapes.sorted_perm _).map _).trans ?_
    rw [List.map_map]
    have e1 : es.toList.map (((fun p : Lit × DataW Unit => Go.intOf p.1)) ∘ WideElems.rg P T unitR) = f.map (·.1) := by
      have e2 : f.map (·.1) = es.toList.map fun e => (match e.key with | .int _ k => k | _ => 0) := by
        have := congrArg (List.map fun q : Value × Value => (match q.1 with | .int _ k => k | _ => 0)) hM.keys
        simpa [List.map_map, Function.comp_def] using this.symm
      rw [e2]
      refine List.map_congr_left fun x hx => ?_
      obtain ⟨k, h1, h2⟩ := rd_ x hx
      simp [WideElems.rg, h2, h1, Go.intOf]
    rw [e1]
  · show (List.foldr DataW.insert [] (List.map (WideElems.rg P T unitR) es.toList)).length = _
    rw [(WideShapes.sorted_perm _).length_eq, List.length_map, Array.length_toList, hs]
/-- maps.Keys. -/
theorem keys_run {w : World} {L : List HP} {b : Nat} (hO : Own w L) : Calls Tryz.prog 105 #[.map (some b)] w (RetX w (fun g : Nat => .func (.func 120) #[] #[.pointer (some ⟨g, 0, none⟩)]) (fun g => pts g (.cells #[.map (some b)] 87) :: L)) := by
  have h := (callsIn_wide (n := 5)).1 (AnyZI.keys_in Tryz.keysA Fence.wide 5 trivial rfl (some b) w)
  refine h.mono ?_
  rintro e w' ⟨rfl, rfl⟩
  exact ⟨w.heap.size, rfl, own_alloc_new hO _, (same_below ((Below.refl _ w).alloc (Nat.le_refl _) _))⟩
/-- The keys, rising. -/
def rising (l : List Int) : List Int := l.mergeSort fun x y => decide (x ≤ y)
theorem rising_perm {l l' : List Int} (h : l.Perm l') : rising l = rising l' := mergeSort_of_perm_i h
/-- slices.Sorted of a map's keys. -/
theorem sorted_run {w : World} {L : List HP} {b g : Nat} {f : List (Int × Value)} (hO : Own w (pts g (.cells #[.map (some b)] 87) :: mapP b f :: L)) (hk : ∀ q ∈ f, inI q.1) (hm : f.length ≤ 100000) :
    Calls Tryz.prog 104 #[.func (.func 120) #[] #[.pointer (some ⟨g, 0, none⟩)]] w (RetX w (fun v : Value => v) (fun v => owns 3 1 v f.length ((rising (f.map (·.1))).map encZ) :: mapP b f :: L)) := by
  obtain ⟨D0, h1, h2, h3⟩ := mapP_owns (P := Tryz.prog) (T := 3) (by kernel_rfl) (own_drop hO) hk (by simp only [maxLen]; omega)
  have hcell : w.cell? ⟨g, 0, none⟩ = some (.map (some b)) := own_cell 0 0 hO rfl rfl
  have hg : g < w.heap.size := World.block_lt_of_cell? _ _ hcell
  have hseq : SeqGives Fence.wide 2 Tryz.prog 120 #[.pointer (some ⟨g, 0, none⟩)] encZ (fun ss => ss.Perm (intKeys D0)) (Maps.size D0) w :=
    AnyZI.keys_gives (ρ := Tryz.keysA_ren) { Tryz.keysA with } Fence.wide _ trivial rfl (by omega) g b f.length D0 _ hg hcell h1
  have cS := AnyZI.sorted_in Tryz.sortedA Fence.wide 5 trivial trivial trivial trivial rfl (by omega) (sortsA _) (enters_of Tryz.func48 (by kernel_rfl) rfl) 120 #[.pointer (some ⟨g, 0, none⟩)] trivial (enters_of Tryz.func120 (by kernel_rfl) rfl) _ _ (by simp only [maxLen]; omega) (by omega) _ hseq
  refine (callsIn_wide.1 cS).mono ?_
  rintro e w' ⟨v, ss, rfl, hS, hrow, hnil, hb⟩
  have hp := hS.trans h2
  have hl : ss.length = f.length := by rw [hp.length_eq, List.length_map]
  have e1 : ss.mergeSort (fun x y => decide (x ≤ y)) = rising (f.map (·.1)) := rising_perm hp
  rw [e1, hl] at hrow
  exact ⟨v, rfl, owns_new (own_drop hO) hrow hb, same_below hb⟩
end YtlmkcnkidkoilaaGreat.H
end Go.Proofs
#print axioms Go.Proofs.YtlmkcnkidkoilaaGreat.H.sorted_run
#print axioms Go.Proofs.YtlmkcnkidkoilaaGreat.H.sortsA
set_option linter.unusedVariables false
set_option linter.unusedSimpArgs false
set_option maxRecDepth 100000
namespace Go.Proofs.YtlmkcnkidkoilaaGreat.H
open Go.RowKit
/-- A sector. -/
abbrev Sec := List UInt8
/-- A block: what lasts, its versions that do not, whether it is bad. -/
structure Blk where
  s : Sec
  vs : List Sec
  bad : Bool
def secs (l : List Sec) : List Value := l.flatMap bcs
theorem secs_length {l : List Sec} (h : ∀ s ∈ l, s.length = 32) : (secs l).length = l.length * 32 := by
  induction l with
  | nil => rfl
  | cons s l ih =>
    have e : secs (s :: l) = bcs s ++ secs l := rfl
    rw [e, List.length_append, ih (fun x hx => h x (List.mem_cons_of_mem _ hx)), bcs_length, h s (List.mem_cons_self ..), List.length_cons]
    omega
theorem secs_append (l l' : List Sec) : secs (l ++ l') = secs l ++ secs l' := List.flatMap_append
theorem secs_at {l : List Sec} (h : ∀ s ∈ l, s.length = 32) : ∀ {k : Nat} {s : Sec}, l[k]? = some s → ∀ {j : Nat} {u : Value}, (bcs s)[j]? = some u → (secs l)[k * 32 + j]? = some u := by
  induction l with
  | nil => intro k s hk; simp at hk
  | cons s0 l ih =>
    intro k s hk j u hu
    have e : secs (s0 :: l) = bcs s0 ++ secs l := rfl
    have h0 : (bcs s0).length = 32 := by rw [bcs_length, h s0 (List.mem_cons_self ..)]
    rw [e]
    cases k with
    | zero =>
      have es : s0 = s := by simpa using hk
      subst es
      rw [Nat.zero_mul, Nat.zero_add, List.getElem?_append_left (List.getElem?_eq_some_iff.1 hu).1]
      exact hu
    | succ k =>
      rw [List.getElem?_append_right (by omega), h0, show (k + 1) * 32 + j - 32 = k * 32 + j by omega]
      exact ih (fun x hx => h x (List.mem_cons_of_mem _ hx)) (by simpa using hk) hu
/-- Something that reads as these slices of sectors. -/
def rdV (l : List (Value × List Sec)) : HP := fun p q => ∀ w : World, p.le w → q.le w → ∀ x ∈ l, Rd w 32 x.1 x.2.length (secs x.2)
section
variable {w : World} {L : List HP} {l l' : List (Value × List Sec)}
theorem rdV_rd (h : Own w (rdV l :: L)) {x : Value × List Sec} (hx : x ∈ l) : Rd w 32 x.1 x.2.length (secs x.2) := by
  obtain ⟨p1, q1, p2, q2, hA, hB, h1, h2, _⟩ := own_cons.1 h
  exact hA w h1 h2 x hx
theorem rdV_nil (h : Own w L) : Own w (rdV [] :: L) := own_head (own_emp.2 h) (fun _ _ _ _ _ _ _ _ x hx => by simp at hx)
theorem rdV_cons {v : Value} {ss : List Sec} (h : Own w (rdA 32 v ss.length (secs ss) :: rdV l :: L)) : Own w (rdV ((v, ss) :: l) :: L) := by
  refine own_head (own_sep.2 h) (fun p q hp hq hA => ?_)
  obtain ⟨p1, q1, p2, q2, h1, h2, d1, d2, d3, a, rfl, rfl⟩ := hA
  intro w' e1 e2 x hx
  rcases List.mem_cons.1 hx with rfl | hx
  · exact h1 w' (mrg_le e1) (mrg_le e2)
  · exact h2 w' (mrg_le_right d1.agr e1) (mrg_le_right a e2) x hx
theorem rdV_sub (h : Own w (rdV l :: L)) (hs : ∀ x ∈ l', x ∈ l) : Own w (rdV l' :: L) := own_head h (fun p q _ _ hA w' e1 e2 x hx => hA w' e1 e2 x (hs x hx))
end
/-- What the disk's maps say of its blocks. -/
structure DiskOk (m : List Blk) (fv fb : List (Int × Value)) (l : List (Value × List Sec)) : Prop where
  len : m.length ≤ 96
  s32 : ∀ b ∈ m, b.s.length = 32
  v32 : ∀ b ∈ m, ∀ s ∈ b.vs, s.length = 32
  keyv : ∀ q ∈ fv, ∃ (i : Nat) (b : Blk), m[i]? = some b ∧ q.1 = i ∧ b.vs ≠ []
  vers : ∀ (i : Nat) (b : Blk), m[i]? = some b → ∃ A c, (mget fv i).getD (.slice none 0 0) = .slice A b.vs.length c ∧ ((.slice A b.vs.length c, b.vs) ∈ l)
  keyb : ∀ q ∈ fb, ∃ i : Nat, i < m.length ∧ q.1 = i
  bads : ∀ (i : Nat) (b : Blk), m[i]? = some b → (mget fb i).getD (.bool false) = .bool b.bad
/-- Block d is a disk of these blocks. -/
def diskX (d : Nat) (m : List Blk) (lv : Value) (bv bb : Nat) (fv fb : List (Int × Value)) (l : List (Value × List Sec)) : HP :=
  sep (pur (DiskOk m fv fb l)) (seps [pts d (.cells #[lv, .map (some bv), .map (some bb)] 90), owns 43 32 lv m.length (secs (m.map (·.s))), mapP bv fv, mapP bb fb, rdV l])
def diskP (d : Nat) (m : List Blk) : HP := ex fun lv => ex fun bv => ex fun bb => ex fun fv => ex fun fb => ex fun l => diskX d m lv bv bb fv fb l
theorem disk_open {w : World} {L : List HP} {d : Nat} {m : List Blk} : Own w (diskP d m :: L) ↔ ∃ lv bv bb fv fb l, DiskOk m fv fb l ∧ Own w (pts d (.cells #[lv, .map (some bv), .map (some bb)] 90) :: owns 43 32 lv m.length (secs (m.map (·.s))) :: mapP bv fv :: mapP bb fb :: rdV l :: L) := by
  unfold diskP diskX
  simp only [own_ex, own_sep, own_pur, own_seps, List.cons_append, List.nil_append]
/-- The reference's. -/
def rblk (v : Value) (b : Blk) : List Value := bcs b.s ++ [v, .bool b.bad]
end Go.Proofs.YtlmkcnkidkoilaaGreat.H
set_option linter.unusedVariables false
set_option linter.unusedSimpArgs false
namespace Go.Proofs.YtlmkcnkidkoilaaGreat.H
/-- A patch that waits: its number, the patch, those that it comes behind. -/
structure Wt where
  n : Nat
  p : Pat
  beh : List Int
/-- An engine: its disk, what waits, what stood in the last Write of a block, how many there were. -/
structure Eng where
  m : List Blk
  l : List Wt
  s : Nat → List Int
  next : Nat
/-- Numbers rise, and one comes behind smaller ones alone. -/
structure Asc (l : List Wt) : Prop where
  asc : l.Pairwise fun a b => a.n < b.n
  beh : ∀ x ∈ l, ∀ d ∈ x.beh, d < (x.n : Int)
def wnums (l : List Wt) : List Int := l.map fun x => (x.n : Int)
/-- May x be written behind those of out? -/
def okW (ws : List Int) (i : Int) (out : List Int) (x : Wt) : Bool := decide (x.p.blk = i) && x.beh.all fun d => !ws.contains d || out.contains d
def readyGo (ws : List Int) (i : Int) : List Wt → List Int → List Int
  | [], out => out
  | x :: r, out => if okW ws i out x then readyGo ws i r (out ++ [(x.n : Int)]) else readyGo ws i r out
/-- What could be written now of block i. -/
def readyL (l : List Wt) (i : Int) : List Int := readyGo (wnums l) i l []
theorem readyGo_mono (ws : List Int) (i : Int) : ∀ (l : List Wt) (out : List Int) (d : Int), d ∈ out → d ∈ readyGo ws i l out
  | [], out, d, h => h
  | x :: r, out, d, h => by
    unfold readyGo
    split
    · exact readyGo_mono ws i r _ d (List.mem_append_left _ h)
    · exact readyGo_mono ws i r _ d h
theorem readyGo_of (ws : List Int) (i : Int) : ∀ (l : List Wt) (out : List Int) (d : Int), d ∈ readyGo ws i l out → d ∈ out ∨ ∃ x ∈ l, d = (x.n : Int)
  | [], out, d, h => .inl h
  | x :: r, out, d, h => by
    unfold readyGo at h
    split at h
    · rcases readyGo_of ws i r _ d h with h | ⟨y, hy, e⟩
      · rcases List.mem_append.1 h with h | h
        · exact .inl h
        · exact .inr ⟨x, List.mem_cons_self .., List.mem_singleton.1 h⟩
      · exact .inr ⟨y, List.mem_cons_of_mem _ hy, e⟩
    · rcases readyGo_of ws i r _ d h with h | ⟨y, hy, e⟩
      · exact .inl h
      · exact .inr ⟨y, List.mem_cons_of_mem _ hy, e⟩
theorem readyGo_split (ws : List Int) (i : Int) : ∀ (a b : List Wt) (out : List Int), readyGo ws i (a ++ b) out = readyGo ws i b (readyGo ws i a out)
  | [], b, out => rfl
  | x :: a, b, out => by
    simp only [List.cons_append, readyGo]
    split
    · exact readyGo_split ws i a b _
    · exact readyGo_split ws i a b _
/-- It is the list of the numbers of some of them, in order. -/
theorem readyGo_app (ws : List Int) (i : Int) : ∀ (l : List Wt) (out : List Int), ∃ t, readyGo ws i l out = out ++ t ∧ t.Sublist (wnums l)
  | [], out => ⟨[], by simp [readyGo], List.nil_sublist _⟩
  | x :: r, out => by
    unfold readyGo
    split
    · obtain ⟨t, h1, h2⟩ := readyGo_app ws i r (out ++ [(x.n : Int)])
      exact ⟨(x.n : Int) :: t, by rw [h1, List.append_assoc]; rfl, h2.cons_cons _⟩
    · obtain ⟨t, h1, h2⟩ := readyGo_app ws i r out
      exact ⟨t, h1, h2.cons _⟩
theorem asc_inj {l : List Wt} (h : l.Pairwise fun a b => a.n < b.n) {x y : Wt} (hx : x ∈ l) (hy : y ∈ l) (e : x.n = y.n) : x = y := by
  induction l with
  | nil => cases hx
  | cons a l ih =>
    rw [List.pairwise_cons] at h
    rcases List.mem_cons.1 hx with e1 | hx2
    · rcases List.mem_cons.1 hy with e2 | hy2
      · rw [e1, e2]
      · have := h.1 y hy2; rw [← e1] at this; omega
    · rcases List.mem_cons.1 hy with e2 | hy2
      · have := h.1 x hx2; rw [← e2] at this; omega
      · exact ih h.2 hx2 hy2
theorem asc_before {l a b : List Wt} {x y : Wt} (hl : l = a ++ x :: b) (h : l.Pairwise fun a b => a.n < b.n) (hy : y ∈ l) (e : y.n < x.n) : y ∈ a := by
  subst hl
  rcases List.mem_append.1 hy with hy | hy
  · exact hy
  · rw [List.pairwise_append] at h
    rcases List.mem_cons.1 hy with rfl | hy
    · omega
    · have := (List.pairwise_cons.1 h.2.1).1 y hy
      omega
/-- What stands ahead of x is decided ahead of x. -/
theorem ready_iff {l : List Wt} (hA : Asc l) {i : Int} {x : Wt} (hx : x ∈ l) : (x.n : Int) ∈ readyL l i ↔ x.p.blk = i ∧ ∀ d ∈ x.beh, d ∈ wnums l → d ∈ readyL l i := by
  obtain ⟨a, b, hl⟩ := List.append_of_mem hx
  have hnotin : ∀ y ∈ b, x.n < y.n := fun y hy => by
    have h := hA.asc
    rw [hl, List.pairwise_append] at h
    exact (List.pairwise_cons.1 h.2.1).1 y hy
  have hnota : ∀ y ∈ a, y.n < x.n := fun y hy => by
    have h := hA.asc
    rw [hl, List.pairwise_append] at h
    exact h.2.2 y hy x (List.mem_cons_self ..)
  have eR : readyL l i = readyGo (wnums l) i b (if okW (wnums l) i (readyGo (wnums l) i a []) x then readyGo (wnums l) i a [] ++ [(x.n : Int)] else readyGo (wnums l) i a []) := by
    have h0 : readyL l i = readyGo (wnums l) i (a ++ x :: b) [] := congrArg (fun t => readyGo (wnums l) i t []) hl
    rw [h0, readyGo_split]
    simp only [readyGo]
    split <;> rfl
  have hkeep : ∀ d : Int, d < (x.n : Int) → (d ∈ readyL l i ↔ d ∈ readyGo (wnums l) i a []) := fun d hd => by
    rw [eR]
    constructor
    · intro h
      rcases readyGo_of _ i b _ d h with h | ⟨y, hy, e⟩
      · split at h
        · rcases List.mem_append.1 h with h | h
          · exact h
          · have := List.mem_singleton.1 h; omega
        · exact h
      · have := hnotin y hy; omega
    · intro h
      refine readyGo_mono _ i b _ d ?_
      split
      · exact List.mem_append_left _ h
      · exact h
  have hself : (x.n : Int) ∈ readyL l i ↔ okW (wnums l) i (readyGo (wnums l) i a []) x = true := by
    rw [eR]
    constructor
    · intro h
      rcases readyGo_of _ i b _ _ h with h | ⟨y, hy, e⟩
      · split at h
        · assumption
        · rcases readyGo_of _ i a _ _ h with h | ⟨y, hy, e⟩
          · simp at h
          · have := hnota y hy; omega
      · have := hnotin y hy; omega
    · intro h
      rw [if_pos h]
      exact readyGo_mono _ i b _ _ (List.mem_append_right _ (List.mem_singleton.2 rfl))
  rw [hself]
  unfold okW
  rw [Bool.and_eq_true, decide_eq_true_eq, List.all_eq_true]
  constructor
  · rintro ⟨h1, h2⟩
    refine ⟨h1, fun d hd hw => ?_⟩
    have := h2 d hd
    rw [hkeep d (hA.beh x hx d hd)]
    simp only [Bool.or_eq_true, Bool.not_eq_true', List.contains_eq_mem, decide_eq_false_iff_not, decide_eq_true_eq] at this
    rcases this with h | h
    · exact absurd hw h
    · exact h
  · rintro ⟨h1, h2⟩
    refine ⟨h1, fun d hd => ?_⟩
    simp only [Bool.or_eq_true, Bool.not_eq_true', List.contains_eq_mem, decide_eq_false_iff_not, decide_eq_true_eq]
    by_cases hw : d ∈ wnums l
    · exact .inr ((hkeep d (hA.beh x hx d hd)).1 (h2 d hd hw))
    · exact .inl hw
/-- Those of some numbers, in order. -/
def pickW (l : List Wt) (s : List Int) : List Wt := l.filter fun x => s.contains (x.n : Int)
theorem ready_nums {l : List Wt} (hA : Asc l) (i : Int) : wnums (pickW l (readyL l i)) = readyL l i := by
  obtain ⟨t, h1, h2⟩ := readyGo_app (wnums l) i l []
  rw [List.nil_append] at h1
  have hs : (readyL l i).Sublist (wnums l) := by unfold readyL; rw [h1]; exact h2
  have hasc : (wnums l).Pairwise (· < ·) := List.pairwise_map.2 (hA.asc.imp fun h => by omega)
  have e1 : wnums (pickW l (readyL l i)) = (wnums l).filter fun d => (readyL l i).contains d := by
    unfold wnums pickW
    rw [List.filter_map]
    rfl
  rw [e1]
  generalize readyL l i = R at *
  generalize wnums l = W at *
  clear h1 h2 e1 hA
  induction hs with
  | slnil => rfl
  | @cons r w a hs ih =>
    rw [List.pairwise_cons] at hasc
    have ha : a ∉ r := fun h => by have := hasc.1 a (hs.subset h); omega
    rw [List.filter_cons, if_neg (by simpa using ha)]
    exact ih hasc.2
  | @cons_cons r w a hs ih =>
    rw [List.pairwise_cons] at hasc
    rw [List.filter_cons, if_pos (by simp)]
    congr 1
    rw [← ih hasc.2]
    refine List.filter_congr (fun d hd => ?_)
    have : d ≠ a := fun e => by have := hasc.1 d hd; omega
    rw [ih hasc.2]
    simp [this]
/-- The program's way: take away one that may not be, again and again. -/
theorem ready_last {l : List Wt} (hA : Asc l) {i : Int} {cur : List Wt} (h1 : cur.Sublist (l.filter fun x => decide (x.p.blk = i))) (h2 : (pickW l (readyL l i)).Sublist cur) (h3 : ∀ x ∈ cur, ∀ d ∈ x.beh, d ∈ wnums l → d ∈ wnums cur) : cur = pickW l (readyL l i) := by
  have hsub : cur.Sublist l := h1.trans List.filter_sublist
  have key : ∀ (k : Nat) (x : Wt), x.n = k → x ∈ cur → (x.n : Int) ∈ readyL l i := by
    intro k
    induction k using Nat.strongRecOn with
    | _ k ih =>
      intro x hk hx
      have hxl := hsub.subset hx
      refine (ready_iff hA hxl).2 ⟨?_, fun d hd hw => ?_⟩
      · have := (List.mem_filter.1 (h1.subset hx)).2
        simpa using this
      · obtain ⟨y, hy, e⟩ := List.mem_map.1 (h3 x hx d hd hw)
        have hlt := hA.beh x hxl d hd
        have e : ((y.n : Nat) : Int) = d := e
        rw [← e]
        exact ih y.n (by omega) y rfl hy
  have h4 : cur.Sublist (pickW l (readyL l i)) := by
    have : cur = cur.filter fun x => (readyL l i).contains (x.n : Int) := (List.filter_eq_self.2 fun x hx => by simpa using key x.n x rfl hx).symm
    rw [this]
    exact List.Sublist.filter _ hsub
  exact h4.eq_of_length_le h2.length_le
/-- One that may not be is not among them. -/
theorem ready_drop {l : List Wt} (hA : Asc l) {i : Int} {cur : List Wt} (h1 : cur.Sublist (l.filter fun x => decide (x.p.blk = i))) (h2 : (pickW l (readyL l i)).Sublist cur) {k : Nat} {x : Wt} (hk : cur[k]? = some x) {d : Int} (hd : d ∈ x.beh) (hw : d ∈ wnums l) (hn : d ∉ wnums cur) : (pickW l (readyL l i)).Sublist (cur.eraseIdx k) := by
  have hsub : cur.Sublist l := h1.trans List.filter_sublist
  have hx := List.mem_of_getElem? hk
  have hxl := hsub.subset hx
  have hno : (x.n : Int) ∉ readyL l i := fun h => by
    have h5 := ((ready_iff hA hxl).1 h).2 d hd hw
    rw [← ready_nums hA i] at h5
    obtain ⟨y, hy, e⟩ := List.mem_map.1 h5
    exact hn (List.mem_map.2 ⟨y, h2.subset hy, e⟩)
  have hnx : x ∉ pickW l (readyL l i) := fun h => hno (by simpa using (List.mem_filter.1 h).2)
  have hca : cur.Pairwise fun a b => a.n < b.n := List.Pairwise.sublist hsub hA.asc
  have e : pickW l (readyL l i) = (pickW l (readyL l i)).filter fun y => !decide (y.n = x.n) := (List.filter_eq_self.2 fun y hy => by
    simp only [Bool.not_eq_true', decide_eq_false_iff_not]
    intro e
    exact hnx (asc_inj hA.asc (List.filter_sublist.subset hy) hxl e ▸ hy)).symm
  have e2 : (cur.filter fun y => !decide (y.n = x.n)) = cur.eraseIdx k := by
    clear h1 h2 hno hnx e hxl hsub hn
    induction cur generalizing k with
    | nil => simp at hk
    | cons a r ih =>
      rw [List.pairwise_cons] at hca
      cases k with
      | zero =>
        have ea : a = x := by simpa using hk
        subst ea
        rw [List.filter_cons, if_neg (by simp), List.eraseIdx_cons_zero]
        exact List.filter_eq_self.2 fun y hy => by have := hca.1 y hy; simp; omega
      | succ k =>
        have hk' : r[k]? = some x := by simpa using hk
        have hlt := hca.1 x (List.mem_of_getElem? hk')
        rw [List.filter_cons, if_pos (by simp; omega), List.eraseIdx_cons_succ, ih hk' (List.mem_of_getElem? hk') hca.2]
  rw [e, ← e2]
  exact h2.filter _
end Go.Proofs.YtlmkcnkidkoilaaGreat.H
set_option linter.unusedVariables false
set_option linter.unusedSimpArgs false
namespace Go.Proofs.YtlmkcnkidkoilaaGreat.H
open Go.RowKit
/-- A slice that reads so: the cells of an element, the slice, its length, the cells. -/
structure RdI where
  sz : Nat
  v : Value
  n : Nat
  xs : List Value
def RdI.ok (x : RdI) (w : World) : Prop := Rd w x.sz x.v x.n x.xs
/-- Something that reads as these slices. -/
def rdG (l : List RdI) : HP := fun p q => ∀ w : World, p.le w → q.le w → ∀ x ∈ l, x.ok w
section
variable {w : World} {L : List HP} {l l' : List RdI}
theorem rdG_rd (h : Own w (rdG l :: L)) {sz n : Nat} {v : Value} {xs : List Value} (hx : ⟨sz, v, n, xs⟩ ∈ l) : Rd w sz v n xs := by
  obtain ⟨p1, q1, p2, q2, hA, hB, h1, h2, _⟩ := own_cons.1 h
  exact hA w h1 h2 _ hx
theorem rdG_none (h : Own w L) : Own w (rdG [] :: L) := own_head (own_emp.2 h) (fun _ _ _ _ _ _ _ _ x hx => by simp at hx)
theorem rdG_cons {sz n : Nat} {v : Value} {xs : List Value} (h : Own w (rdA sz v n xs :: rdG l :: L)) : Own w (rdG (⟨sz, v, n, xs⟩ :: l) :: L) := by
  refine own_head (own_sep.2 h) (fun p q hp hq hA => ?_)
  obtain ⟨p1, q1, p2, q2, h1, h2, d1, d2, d3, a, rfl, rfl⟩ := hA
  intro w' e1 e2 x hx
  rcases List.mem_cons.1 hx with rfl | hx
  · exact h1 w' (mrg_le e1) (mrg_le e2)
  · exact h2 w' (mrg_le_right d1.agr e1) (mrg_le_right a e2) x hx
theorem rdG_app (h : Own w (rdG l :: rdG l' :: L)) : Own w (rdG (l ++ l') :: L) := by
  refine own_head (own_sep.2 h) (fun p q hp hq hA => ?_)
  obtain ⟨p1, q1, p2, q2, h1, h2, d1, d2, d3, a, rfl, rfl⟩ := hA
  intro w' e1 e2 x hx
  rcases List.mem_append.1 hx with hx | hx
  · exact h1 w' (mrg_le e1) (mrg_le e2) x hx
  · exact h2 w' (mrg_le_right d1.agr e1) (mrg_le_right a e2) x hx
theorem rdG_sub (h : Own w (rdG l :: L)) (hs : ∀ x ∈ l', x ∈ l) : Own w (rdG l' :: L) := own_head h (fun p q _ _ hA w' e1 e2 x hx => hA w' e1 e2 x (hs x hx))
theorem rdG_nil (h : Own w (rdG l :: L)) (sz : Nat) : Own w (rdG (⟨sz, .slice none 0 0, 0, []⟩ :: l) :: L) := rdG_cons (rdA_nil h)
theorem rdG_owns {e sz n : Nat} {v : Value} {xs : List Value} (h : Own w (owns e sz v n xs :: rdG l :: L)) : Own w (rdG (⟨sz, v, n, xs⟩ :: l) :: L) := rdG_cons (rdA_owns h)
end
/-- Numbers as cells. -/
abbrev zs (l : List Int) : List Value := l.map encZ
theorem zs_one (l : List Int) : ∀ u ∈ zs l, u.oneCell' = true := by
  intro u hu
  obtain ⟨x, _, rfl⟩ := List.mem_map.1 hu
  rfl
theorem zs_cell {w : World} {ad : Addr} {n c k : Nat} {l : List Int} {x : Int} (h : Rd w 1 (.slice (some ad) n c) n (zs l)) (hx : l[k]? = some x) : w.cell? (ad.add k) = some (.int .i64 x) := by
  have h1 : w.cell? ((ad.add (k * 1)).add 0) = some (.int .i64 x) := h.cell (by rw [Nat.mul_one, Nat.add_zero]; unfold zs; rw [List.getElem?_map, hx]; rfl)
  rwa [addr_add, Nat.mul_one, Nat.add_zero] at h1
/-- One that waits, as it lies in memory: the slice of those that it comes behind is v. -/
abbrev We := Wt × Value
def We.cells (x : We) : List Value := [.int .i64 x.1.n, .int .i64 x.1.p.blk, .int .i64 x.1.p.off, .string x.1.p.dat, x.2]
def cellsW (l : List We) : List Value := l.flatMap We.cells
theorem cellsW_length (l : List We) : (cellsW l).length = l.length * 5 := by
  induction l with
  | nil => rfl
  | cons d l ih => simp only [cellsW, List.flatMap_cons, List.length_append, List.length_cons] at ih ⊢; rw [ih]; simp [We.cells]; omega
theorem cellsW_app (a b : List We) : cellsW (a ++ b) = cellsW a ++ cellsW b := List.flatMap_append
theorem cellsW_at (l : List We) (k : Nat) (d : We) (hk : l[k]? = some d) (j : Nat) (u : Value) (hu : (We.cells d)[j]? = some u) : (cellsW l)[k * 5 + j]? = some u := by
  induction l generalizing k with
  | nil => simp at hk
  | cons e l ih =>
    have h5 : (We.cells e).length = 5 := rfl
    have e1 : cellsW (e :: l) = We.cells e ++ cellsW l := rfl
    rw [e1]
    cases k with
    | zero =>
      have ed : e = d := by simpa using hk
      subst ed
      rw [Nat.zero_mul, Nat.zero_add, List.getElem?_append_left (List.getElem?_eq_some_iff.1 hu).1]
      exact hu
    | succ k =>
      rw [List.getElem?_append_right (by omega), h5, show (k + 1) * 5 + j - 5 = k * 5 + j by omega]
      exact ih k (by simpa using hk)
/-- These wait; what g reads has them. -/
structure WOk (we : List We) (wv : Value) (g : List RdI) : Prop where
  cap : ∀ A n c, wv = .slice A n c → A = none → c = 0
  rd : ∃ A c, wv = .slice A we.length c ∧ (⟨5, .slice A we.length c, we.length, cellsW we⟩ : RdI) ∈ g
  beh : ∀ x ∈ we, ∃ A c, x.2 = .slice A x.1.beh.length c ∧ (⟨1, .slice A x.1.beh.length c, x.1.beh.length, zs x.1.beh⟩ : RdI) ∈ g
theorem WOk.mono {we : List We} {wv : Value} {g g' : List RdI} (h : WOk we wv g) (hs : ∀ x ∈ g, x ∈ g') : WOk we wv g' :=
  ⟨h.cap, let ⟨A, c, e, h1⟩ := h.rd; ⟨A, c, e, hs _ h1⟩, fun x hx => let ⟨A, c, e, h1⟩ := h.beh x hx; ⟨A, c, e, hs _ h1⟩⟩
/-- The map of what stood in the last Write of a block. -/
structure SOk (n : Nat) (s : Nat → List Int) (fs : List (Int × Value)) (g : List RdI) : Prop where
  key : ∀ q ∈ fs, ∃ i : Nat, i < n ∧ q.1 = (i : Int)
  val : ∀ i, i < n → ∃ A c, (mget fs i).getD (.slice none 0 0) = .slice A (s i).length c ∧ (⟨1, .slice A (s i).length c, (s i).length, zs (s i)⟩ : RdI) ∈ g
  out : ∀ i, n ≤ i → s i = []
theorem SOk.mono {n : Nat} {s : Nat → List Int} {fs : List (Int × Value)} {g g' : List RdI} (h : SOk n s fs g) (hs : ∀ x ∈ g, x ∈ g') : SOk n s fs g' :=
  ⟨h.key, fun i hi => let ⟨A, c, e, h1⟩ := h.val i hi; ⟨A, c, e, hs _ h1⟩, h.out⟩
theorem sok_nil {n : Nat} {g : List RdI} (h : (⟨1, .slice none 0 0, 0, []⟩ : RdI) ∈ g) : SOk n (fun _ => []) [] g :=
  ⟨fun q hq => by simp at hq, fun i _ => ⟨none, 0, rfl, h⟩, fun _ _ => rfl⟩
theorem owns_nilcap {w : World} {L : List HP} {e sz n m : Nat} {A : Option Addr} {c : Nat} {xs : List Value} (h : Own w (owns e sz (.slice A m c) n xs :: L)) (hA : A = none) : c = 0 := by
  subst hA
  rcases (owns_row h).2 with ⟨e1, _⟩ | ⟨g, cap, cur, e1, _⟩
  · cases e1; rfl
  · cases e1
/-- What an engine may be. -/
structure Eng.Ok (E : Eng) : Prop where
  asc : Asc E.l
  pos : 0 < E.m.length
  right : ∀ x ∈ E.l, rightB x.p = true ∧ x.p.blk < (E.m.length : Int)
  lt : ∀ x ∈ E.l, x.n < E.next
  len : E.l.length ≤ 200
  lim : E.next ≤ 1000000
  behl : ∀ x ∈ E.l, x.beh.length ≤ 1000000
  sl : ∀ i, (E.s i).length ≤ 200
/-- Block e is the program's engine. -/
def engX (e : Nat) (E : Eng) (d : Nat) (wv : Value) (bs : Nat) (fs : List (Int × Value)) (we : List We) (g : List RdI) : HP :=
  sep (pur (we.map (·.1) = E.l ∧ WOk we wv g ∧ SOk E.m.length E.s fs g)) (seps [pts e (.cells #[.pointer (some ⟨d, 0, none⟩), wv, .map (some bs), .int .i64 E.next] 72), diskP d E.m, mapP bs fs, rdG g])
def engP (e : Nat) (E : Eng) : HP := ex fun d => ex fun wv => ex fun bs => ex fun fs => ex fun we => ex fun g => engX e E d wv bs fs we g
theorem eng_open {w : World} {L : List HP} {e : Nat} {E : Eng} : Own w (engP e E :: L) ↔ ∃ d wv bs fs we g, (we.map (·.1) = E.l ∧ WOk we wv g ∧ SOk E.m.length E.s fs g) ∧ Own w (pts e (.cells #[.pointer (some ⟨d, 0, none⟩), wv, .map (some bs), .int .i64 E.next] 72) :: diskP d E.m :: mapP bs fs :: rdG g :: L) := by
  unfold engP engX
  simp only [own_ex, own_sep, own_pur, own_seps, List.cons_append, List.nil_append]
end Go.Proofs.YtlmkcnkidkoilaaGreat.H
set_option linter.unusedVariables false
set_option linter.unusedSimpArgs false
set_option maxRecDepth 100000
namespace Go.Proofs.YtlmkcnkidkoilaaGreat.H
open Go.RowKit
theorem row_secs : isRowB Tryz.prog 86 = some false := by kernel_rfl
theorem row_mv : isRowB Tryz.prog 87 = some false := by kernel_rfl
theorem row_mb : isRowB Tryz.prog 88 = some false := by kernel_rfl
theorem row_sec : isRowB Tryz.prog 43 = some true := by kernel_rfl
theorem sz_sec : (Tryz.prog.info? 43).map (·.size) = some 32 := by kernel_rfl
theorem und_mv : Tryz.prog.underlying 87 = some (.map 3 86) := by kernel_rfl
theorem und_mb : Tryz.prog.underlying 88 = some (.map 3 4) := by kernel_rfl
theorem und_i : Tryz.prog.underlying 3 = some (.int .i64) := by kernel_rfl
theorem zero_secs : (Tryz.prog.info? 86).map (·.zero) = some (some (.slice none 0 0)) := by kernel_rfl
theorem zero_b : (Tryz.prog.info? 4).map (·.zero) = some (some (.bool false)) := by kernel_rfl
theorem zero_sec : (Tryz.prog.info? 43).map (·.zero) = some (some (.agg (Array.replicate 32 (.int .u8 0)))) := by kernel_rfl
section
variable (w : World) (L : List HP) (d : Nat) (m : List Blk)
theorem may_nil (i : Int) (hO : Own w L) : Calls Tryz.prog 47 #[.pointer none, .int .i64 i] w (Ret w (.int .i64 1) L) := by
  go_enter Tryz.func47, Tryz.ntmps47
  go_wp2
  go_ret
  exact ⟨rfl, hO, Same.refl _⟩
theorem may_ok (i : Nat) (b : Blk) (hO : Own w (diskP d m :: L)) (hi : m[i]? = some b) : Calls Tryz.prog 47 #[.pointer (some ⟨d, 0, none⟩), .int .i64 i] w (Ret w (.int .i64 0) (diskP d m :: L)) := by
  have hO0 := hO
  obtain ⟨lv, bv, bb, fv, fb, l, hk, hO⟩ := disk_open.1 hO
  have hK := Lib.hid hO0
  have hl : i < m.length := (List.getElem?_eq_some_iff.1 hi).1
  obtain ⟨A, c, rfl⟩ := (owns_rd (own_at hO (k := 1) rfl)).slice
  have h1 : ¬ ((i : Int) < 0) := by omega
  have h2 : ¬ ((m.length : Int) ≤ i) := by omega
  clear hO0 hk hi
  go_enter Tryz.func47, Tryz.ntmps47
  go_wp2_with (first | (apply own_load1 rfl rfl rfl; (first | exact row_secs | exact row_mv | exact row_mb); (first | exact own_get 0 hO rfl | exact own_get 1 hO rfl | exact own_get 2 hO rfl | exact own_get 3 hO rfl | exact own_get 4 hO rfl | exact own_get 5 hO rfl | exact own_get 6 hO rfl | exact own_get 7 hO rfl); (first | (simp only [List.getElem?_toArray, List.getElem?_cons_succ, List.getElem?_cons_zero]; rfl) | rfl)))
  go_ret
  exact ⟨rfl, hK.out, Same.refl _⟩
theorem may_no (i : Int) (hO : Own w (diskP d m :: L)) (hi : i < 0 ∨ (m.length : Int) ≤ i) : Calls Tryz.prog 47 #[.pointer (some ⟨d, 0, none⟩), .int .i64 i] w (Ret w (.int .i64 2) (diskP d m :: L)) := by
  have hO0 := hO
  obtain ⟨lv, bv, bb, fv, fb, l, hk, hO⟩ := disk_open.1 hO
  have hK := Lib.hid hO0
  obtain ⟨A, c, rfl⟩ := (owns_rd (own_at hO (k := 1) rfl)).slice
  clear hO0 hk
  rcases hi with h1 | h2
  · go_enter Tryz.func47, Tryz.ntmps47
    go_wp2_with (first | (apply own_load1 rfl rfl rfl; (first | exact row_secs | exact row_mv | exact row_mb); (first | exact own_get 0 hO rfl | exact own_get 1 hO rfl | exact own_get 2 hO rfl | exact own_get 3 hO rfl | exact own_get 4 hO rfl | exact own_get 5 hO rfl | exact own_get 6 hO rfl | exact own_get 7 hO rfl); (first | (simp only [List.getElem?_toArray, List.getElem?_cons_succ, List.getElem?_cons_zero]; rfl) | rfl)))
    go_ret
    exact ⟨rfl, hK.out, Same.refl _⟩
  · have h1 : ¬ (i < 0) := by omega
    go_enter Tryz.func47, Tryz.ntmps47
    go_wp2_with (first | (apply own_load1 rfl rfl rfl; (first | exact row_secs | exact row_mv | exact row_mb); (first | exact own_get 0 hO rfl | exact own_get 1 hO rfl | exact own_get 2 hO rfl | exact own_get 3 hO rfl | exact own_get 4 hO rfl | exact own_get 5 hO rfl | exact own_get 6 hO rfl | exact own_get 7 hO rfl); (first | (simp only [List.getElem?_toArray, List.getElem?_cons_succ, List.getElem?_cons_zero]; rfl) | rfl)))
    go_ret
    exact ⟨rfl, hK.out, Same.refl _⟩
theorem size_nil (hO : Own w L) : Calls Tryz.prog 45 #[.pointer none] w (Ret w (.int .i64 0) L) := by
  go_enter Tryz.func45, Tryz.ntmps45
  go_wp2
  go_ret
  exact ⟨rfl, hO, Same.refl _⟩
theorem size_c (hO : Own w (diskP d m :: L)) : Calls Tryz.prog 45 #[.pointer (some ⟨d, 0, none⟩)] w (Ret w (.int .i64 m.length) (diskP d m :: L)) := by
  have hO0 := hO
  obtain ⟨lv, bv, bb, fv, fb, l, hk, hO⟩ := disk_open.1 hO
  have hK := Lib.hid hO0
  obtain ⟨A, c, rfl⟩ := (owns_rd (own_at hO (k := 1) rfl)).slice
  clear hO0 hk
  go_enter Tryz.func45, Tryz.ntmps45
  go_wp2_with (first | (apply own_load1 rfl rfl rfl; (first | exact row_secs | exact row_mv | exact row_mb); (first | exact own_get 0 hO rfl | exact own_get 1 hO rfl | exact own_get 2 hO rfl | exact own_get 3 hO rfl | exact own_get 4 hO rfl | exact own_get 5 hO rfl | exact own_get 6 hO rfl | exact own_get 7 hO rfl); (first | (simp only [List.getElem?_toArray, List.getElem?_cons_succ, List.getElem?_cons_zero]; rfl) | rfl)))
  go_ret
  exact ⟨rfl, hK.out, Same.refl _⟩
/-- The versions of the i-th. -/
def vsAt (m : List Blk) (i : Int) : Nat := if 0 ≤ i then ((m[i.toNat]?).map (·.vs.length)).getD 0 else 0
theorem mget_vs {m : List Blk} {fv fb : List (Int × Value)} {l : List (Value × List Sec)} (hk : DiskOk m fv fb l) (i : Int) : ∃ A c, (mget fv i).getD (.slice none 0 0) = .slice A (vsAt m i) c := by
  unfold vsAt
  by_cases h0 : 0 ≤ i
  · rw [if_pos h0]
    cases hm : m[i.toNat]? with
    | none =>
      refine ⟨none, 0, ?_⟩
      rw [mget_none (fun q hq e => ?_)]
      · rfl
      · obtain ⟨j, b, h1, h2, _⟩ := hk.keyv q hq
        have : i.toNat = j := by omega
        rw [this, h1] at hm
        cases hm
    | some b =>
      obtain ⟨A, c, h1, _⟩ := hk.vers _ b hm
      rw [Int.toNat_of_nonneg h0] at h1
      exact ⟨A, c, h1⟩
  · rw [if_neg h0]
    refine ⟨none, 0, ?_⟩
    rw [mget_none (fun q hq e => ?_)]
    · rfl
    · obtain ⟨j, b, h1, h2, _⟩ := hk.keyv q hq
      omega
end
end Go.Proofs.YtlmkcnkidkoilaaGreat.H
