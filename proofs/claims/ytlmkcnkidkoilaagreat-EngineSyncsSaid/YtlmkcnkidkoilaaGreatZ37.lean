/- slices.Sort and slices.Compact at ints, over owned memory. Dirty of the program's engine. Both disks do the same; the law's do. The law's same. The law's same: both engines tell the same. -/
import Derived.Test.YtlmkcnkidkoilaaGreatZ07
import Derived.Test.YtlmkcnkidkoilaaGreatZ36
import Derived.Test.YtlmkcnkidkoilaaGreatZ22
import Derived.Test.YtlmkcnkidkoilaaGreatZ27
import Derived.Test.YtlmkcnkidkoilaaGreatZ23
set_option linter.unusedVariables false
set_option linter.unusedSimpArgs false
namespace Go.Proofs
open Go.RowKit Go.Sort Go.Shelf
namespace YtlmkcnkidkoilaaGreat.H
theorem own_holds {w : World} {L : List HP} {t : TypeId} {g : Nat} {l : List Int} {rest : List Value} (h : Own w (pts g (.cells (zs l ++ rest).toArray t) :: L)) : Sort.Holds (Value.int .i64) w g 0 l.toArray := fun j hj => by
  have hj : j < l.length := by simpa using hj
  constructor
  · refine own_cell 0 (0 + j) h rfl ?_
    rw [Nat.zero_add, List.getElem?_toArray, List.getElem?_append_left (by simpa using hj)]
    simp [zs, encZ, hj]
  · have h1 := own_get 0 h rfl
    simp [World.frozen?, h1]
theorem put_cells (l l' : List Int) (rest : List Value) (hl : l'.length = l.length) : putCells (Value.int .i64) 0 l'.toArray (zs l ++ rest).toArray = (zs l' ++ rest).toArray := by
  apply Array.ext_getElem?
  intro k
  simp only [putCells, Array.getElem?_mapIdx, List.getElem?_toArray]
  by_cases hk : k < l.length
  · rw [List.getElem?_append_left (by simpa using hk), List.getElem?_append_left (by simpa [hl] using hk)]
    have hk' : k < l'.length := by omega
    simp [zs, encZ, hk, hk']
  · rw [List.getElem?_append_right (by simpa using hk), List.getElem?_append_right (by simpa [hl] using hk)]
    have e : ¬ (0 ≤ k ∧ k < 0 + l'.toArray.size) := by simp; omega
    simp only [e, if_false]
    simp [zs, hl]
theorem own_putrow {w : World} {L : List HP} {t : TypeId} {g q : Nat} {l l' : List Int} {rest : List Value} (os : Array Obj) (h : Own w (pts g (.cells (zs l ++ rest).toArray t) :: L)) (hl : l'.length = l.length) :
    Own (grow (putRow (Value.int .i64) (Sort.ahead w q) g 0 l'.toArray) os) (pts g (.cells (zs l' ++ rest).toArray t) :: L) := by
  have h1 := own_get 0 h rfl
  have hg : g < w.heap.size := (Array.getElem?_eq_some_iff.1 h1).1
  refine own_put h (fun i hi x hx => ?_) ?_
  · have hlt := (Array.getElem?_eq_some_iff.1 hx).1
    show ((w.heap.modify g _) ++ os)[i]? = some x
    rw [Array.getElem?_append_left (by simpa using hlt), Array.getElem?_modify, if_neg (fun e => hi e.symm)]
    exact hx
  · show ((w.heap.modify g _) ++ os)[g]? = _
    rw [Array.getElem?_append_left (by simpa using hg), Array.getElem?_modify, if_pos rfl, h1, Option.map_some]
    simp only [onCells]
    rw [put_cells l l' rest hl]
theorem same_putrow (w : World) (g q : Nat) (l : Array Int) (os : Array Obj) : Same w (grow (putRow (Value.int .i64) (Sort.ahead w q) g 0 l) os) := ⟨rfl, rfl, rfl, by
  show w.heap.size ≤ ((w.heap.modify g _) ++ os).size
  rw [Array.size_append, Array.size_modify]; omega⟩
theorem grow_none (w : World) : grow w #[] = w := by simp [grow]
/-- slices.Sort. -/
theorem sort_c (w : World) (L : List HP) (v : Value) (l : List Int) (hO : Own w (owns 3 1 v l.length (zs l) :: L)) (hl : l.length ≤ 1000000) : Calls Tryz.prog 48 #[v] w (Ret w (.tuple #[]) (owns 3 1 v l.length (zs (rising l)) :: L)) := by
  by_cases hv : v = .slice none 0 0
  · subst hv
    have hn : l = [] := by
      have h1 := (owns_rd hO).slice
      obtain ⟨A, c, e⟩ := h1
      injection e with _ e2 _
      exact List.length_eq_zero_iff.1 e2.symm
    subst hn
    refine (calls_of_in fun D => AnyS.slices_Sort_int_none_alone Tryz.laysSort D none 0 w).mono ?_
    rintro e w' ⟨rfl, rfl⟩
    refine ⟨rfl, ?_, Same.refl _⟩
    have e1 : rising ([] : List Int) = [] := by unfold rising; simp
    rw [e1]
    exact hO
  · obtain ⟨g, cap, rest, rfl, h1, h2, h3, h4, hO⟩ := owns_open hO hv
    have h5 := own_get 0 hO rfl
    refine (calls_of_in fun D => AnyS.slices_Sort_int_alone Tryz.laysSort D g 0 cap l w (own_holds hO) (Array.getElem?_eq_some_iff.1 h5).1 (by omega)).mono ?_
    rintro e w' ⟨rfl, n, os, rfl⟩
    have hlen : (rising l).length = l.length := by unfold rising; simp
    have h6 := own_putrow (q := n) os hO hlen
    refine ⟨rfl, owns_of_pts h6 ?_ h1 h2 ?_, same_putrow _ _ _ _ _⟩
    · rw [List.size_toArray, List.length_append, List.length_map, hlen]
      rw [List.length_append, List.length_map] at h3
      exact h3
    · rw [Nat.mul_one]
      show (zs (rising l) ++ rest).take l.length = _
      have e : l.length = (zs (rising l)).length := by rw [List.length_map, hlen]
      rw [e, List.take_left]
/-- slices.Compact. -/
theorem compact_c (w : World) (L : List HP) (v : Value) (l : List Int) (hO : Own w (owns 3 1 v l.length (zs l) :: L)) (hl : l.length ≤ 1000000) : Calls Tryz.prog 49 #[v] w (RetX w (fun v' : Value => v') (fun v' => owns 3 1 v' (Lib.compact l).length (zs (Lib.compact l)) :: L)) := by
  by_cases hv : v = .slice none 0 0
  · subst hv
    have hn : l = [] := by
      have h1 := (owns_rd hO).slice
      obtain ⟨A, c, e⟩ := h1
      injection e with _ e2 _
      exact List.length_eq_zero_iff.1 e2.symm
    subst hn
    refine (Any.slices_Compact_int_empty Tryz.laysCompact none 0 w).mono ?_
    rintro e w' ⟨rfl, rfl⟩
    exact ⟨_, rfl, hO, Same.refl _⟩
  · obtain ⟨g, cap, rest, rfl, h1, h2, h3, h4, hO⟩ := owns_open hO hv
    refine (Any.slices_Compact_int Tryz.laysCompact g 0 cap l w (own_holds hO) (by omega) h1).mono ?_
    rintro e w' ⟨rfl, q, rfl⟩
    have hle : (Lib.compact l).length ≤ l.length := by
      unfold Lib.compact Lib.compactUpTo
      rw [List.length_map]
      refine Nat.le_trans (List.length_filter_le _ _) ?_
      simp
    have hlen : (Lib.compact l ++ List.replicate (l.length - (Lib.compact l).length) 0).length = l.length := by
      rw [List.length_append, List.length_replicate]; omega
    have h6 := own_putrow (q := q) #[] hO hlen
    rw [grow_none] at h6
    have hS := same_putrow w g q (Lib.compact l ++ List.replicate (l.length - (Lib.compact l).length) 0).toArray #[]
    rw [grow_none] at hS
    refine ⟨_, rfl, owns_of_pts h6 ?_ (by omega) h2 ?_, hS⟩
    · rw [List.size_toArray, List.length_append, List.length_map, hlen]
      rw [List.length_append, List.length_map] at h3
      exact h3
    · rw [Nat.mul_one]
      show (zs (Lib.compact l ++ List.replicate (l.length - (Lib.compact l).length) 0) ++ rest).take (Lib.compact l).length = _
      have e : (Lib.compact l).length = (zs (Lib.compact l)).length := by rw [List.length_map]
      have e2 : zs (Lib.compact l ++ List.replicate (l.length - (Lib.compact l).length) 0) = zs (Lib.compact l) ++ zs (List.replicate (l.length - (Lib.compact l).length) 0) := by unfold zs; rw [List.map_append]
      rw [e2, List.append_assoc, e, List.take_left]
theorem sort_n (w : World) (L : List HP) (v : Value) (n : Nat) (l : List Int) (hn : n = l.length) (hO : Own w (owns 3 1 v n (zs l) :: L)) (hl : n ≤ 1000000) : Calls Tryz.prog 48 #[v] w (Ret w (.tuple #[]) (owns 3 1 v n (zs (rising l)) :: L)) := by
  subst hn
  exact sort_c w L v l hO hl
theorem compact_n (w : World) (L : List HP) (v : Value) (n : Nat) (l : List Int) (hn : n = l.length) (hO : Own w (owns 3 1 v n (zs l) :: L)) (hl : n ≤ 1000000) : Calls Tryz.prog 49 #[v] w (RetX w (fun v' : Value => v') (fun v' => owns 3 1 v' (Lib.compact l).length (zs (Lib.compact l)) :: L)) := by
  subst hn
  exact compact_c w L v l hO hl
/-- Rising lists with the same numbers are one. -/
theorem asc_ext : ∀ {a b : List Int}, a.Pairwise (· < ·) → b.Pairwise (· < ·) → (∀ x, x ∈ a ↔ x ∈ b) → a = b
  | [], [], _, _, _ => rfl
  | [], y :: b, _, _, h => absurd ((h y).2 (List.mem_cons_self ..)) (by simp)
  | x :: a, [], _, _, h => absurd ((h x).1 (List.mem_cons_self ..)) (by simp)
  | x :: a, y :: b, ha, hb, h => by
    rw [List.pairwise_cons] at ha hb
    have hxy : x = y := by
      rcases List.mem_cons.1 ((h x).1 (List.mem_cons_self ..)) with e | hx
      · exact e
      · rcases List.mem_cons.1 ((h y).2 (List.mem_cons_self ..)) with e | hy
        · exact e.symm
        · have h1 := hb.1 x hx
          have h2 := ha.1 y hy
          omega
    subst hxy
    congr 1
    refine asc_ext ha.2 hb.2 (fun z => ?_)
    constructor
    · intro hz
      rcases List.mem_cons.1 ((h z).1 (List.mem_cons_of_mem _ hz)) with rfl | h1
      · have := ha.1 z hz; omega
      · exact h1
    · intro hz
      rcases List.mem_cons.1 ((h z).2 (List.mem_cons_of_mem _ hz)) with rfl | h1
      · have := hb.1 z hz; omega
      · exact h1
theorem rising_sorted (l : List Int) : (rising l).Pairwise (· ≤ ·) := by
  have h := List.pairwise_mergeSort (le := fun x y : Int => decide (x ≤ y)) (fun a b c h1 h2 => by simp only [decide_eq_true_eq] at *; omega) (fun a b => by simp only [Bool.or_eq_true, decide_eq_true_eq]; omega) l
  exact h.imp fun h => by simpa using h
theorem compact_mem {l : List Int} (hs : l.Pairwise (· ≤ ·)) : (Lib.compact l).Pairwise (· < ·) ∧ ∀ x, x ∈ Lib.compact l ↔ x ∈ l := by
  have key : ∀ m, m ≤ l.length → (Lib.compactUpTo l.toArray m).Pairwise (· < ·) ∧ (∀ x, x ∈ Lib.compactUpTo l.toArray m ↔ x ∈ l.take m) ∧ (∀ y, (Lib.compactUpTo l.toArray m).getLast? = some y → (l.take m).getLast? = some y) := by
    intro m
    induction m with
    | zero => exact fun _ => ⟨List.Pairwise.nil, fun x => by simp [Lib.compactUpTo], fun y h => by simp [Lib.compactUpTo] at h⟩
    | succ m ih =>
      intro hm
      obtain ⟨i1, i2, i3⟩ := ih (by omega)
      have hlm : m < l.length := by omega
      have eg : l.toArray[m]! = l[m] := by simp [hlm]
      have et : l.take (m + 1) = l.take m ++ [l[m]] := by rw [List.take_add_one, List.getElem?_eq_getElem hlm]; rfl
      rw [Lib.compactUpTo_succ, et, eg]
      have hle : ∀ x ∈ l.take m, x ≤ l[m] := fun x hx => by
        obtain ⟨i, hi, e⟩ := List.mem_iff_getElem.1 hx
        rw [List.length_take] at hi
        rw [← e, List.getElem_take]
        exact List.pairwise_iff_getElem.1 hs i m (by omega) hlm (by omega)
      by_cases hk : Lib.keeps l.toArray m = true
      · rw [if_pos hk]
        refine ⟨?_, fun x => by rw [List.mem_append, List.mem_append, i2 x], fun y h => by rw [List.getLast?_append] at h ⊢; simpa using h⟩
        rw [List.pairwise_append]
        refine ⟨i1, List.pairwise_singleton _ _, fun a ha b hb => ?_⟩
        rw [List.mem_singleton.1 hb]
        have h1 := (i2 a).1 ha
        have hm0 : 0 < m := by
          rcases Nat.eq_zero_or_pos m with h | h
          · subst h; simp at h1
          · exact h
        simp only [Lib.keeps, decide_eq_true_eq] at hk
        have hne : l.toArray[m]! ≠ l.toArray[m - 1]! := by
          rcases hk with h | h
          · omega
          · exact h
        have eg1 : l.toArray[m - 1]! = l[m - 1]'(by omega) := by simp [show m - 1 < l.length by omega]
        rw [eg, eg1] at hne
        obtain ⟨i, hi, e⟩ := List.mem_iff_getElem.1 h1
        rw [List.length_take] at hi
        rw [List.getElem_take] at e
        have h2 : l[i]'(by omega) ≤ l[m - 1]'(by omega) := by
          rcases Nat.lt_or_ge i (m - 1) with h | h
          · exact List.pairwise_iff_getElem.1 hs i (m - 1) (by omega) (by omega) h
          · have : i = m - 1 := by omega
            subst this
            exact Int.le_refl _
        have h3 : l[m - 1]'(by omega) ≤ l[m] := List.pairwise_iff_getElem.1 hs (m - 1) m (by omega) hlm (by omega)
        omega
      · rw [if_neg hk, List.append_nil]
        simp only [Lib.keeps, decide_eq_true_eq, not_or, Decidable.not_not] at hk
        obtain ⟨k1, k2⟩ := hk
        have eg1 : l.toArray[m - 1]! = l[m - 1]'(by omega) := by simp [show m - 1 < l.length by omega]
        rw [eg, eg1] at k2
        have hin : l[m] ∈ l.take m := by
          rw [k2]
          exact List.mem_iff_getElem.2 ⟨m - 1, by rw [List.length_take]; omega, by rw [List.getElem_take]⟩
        refine ⟨i1, fun x => ?_, fun y h => ?_⟩
        · rw [i2 x, List.mem_append, List.mem_singleton]
          exact ⟨.inl, fun h => h.elim id (fun e => e ▸ hin)⟩
        · have h1 := i3 y h
          rw [List.getLast?_append]
          simp
          have h4 : (l.take m).getLast? = some (l[m - 1]'(by omega)) := by
            rw [List.getLast?_eq_getElem?, List.length_take, Nat.min_eq_left (by omega), List.getElem?_take, if_pos (by omega), List.getElem?_eq_getElem]
          rw [h4] at h1
          rw [k2]
          simpa using h1
  obtain ⟨h1, h2, _⟩ := key l.length (Nat.le_refl _)
  rw [List.take_length] at h2
  exact ⟨h1, h2⟩
/-- Sorted and compacted: the numbers, rising, each once. -/
theorem compact_rising {l d : List Int} (hd : d.Pairwise (· < ·)) (hm : ∀ x, x ∈ d ↔ x ∈ l) : Lib.compact (rising l) = d := by
  obtain ⟨h1, h2⟩ := compact_mem (rising_sorted l)
  refine asc_ext h1 hd (fun x => ?_)
  rw [h2 x, hm x]
  unfold rising
  exact List.mem_mergeSort
end YtlmkcnkidkoilaaGreat.H
end Go.Proofs
set_option linter.unusedVariables false
set_option linter.unusedSimpArgs false
set_option maxRecDepth 100000
namespace Go.Proofs.YtlmkcnkidkoilaaGreat.H
open Go.RowKit
def blksW (l : List Wt) : List Int := l.map fun x => x.p.blk
theorem dirty_asc (E : Eng) : E.dirty.Pairwise (· < ·) := by
  unfold Eng.dirty Eng.dirtyN
  rw [List.pairwise_map]
  exact (List.pairwise_lt_range.filter _).imp fun h => by omega
theorem dirty_mem {E : Eng} (hk : E.Ok) (x : Int) : x ∈ E.dirty ↔ x ∈ blksW E.l := by
  unfold Eng.dirty Eng.dirtyN blksW
  rw [List.mem_map, List.mem_map]
  constructor
  · rintro ⟨i, hi, rfl⟩
    obtain ⟨_, h2⟩ := List.mem_filter.1 hi
    obtain ⟨y, hy, h3⟩ := List.any_eq_true.1 h2
    exact ⟨y, hy, by simpa using h3⟩
  · rintro ⟨y, hy, rfl⟩
    obtain ⟨h1, h2⟩ := hk.right y hy
    obtain ⟨p1, p2, p3, p4, p5, p6⟩ := rightB_iff.1 h1
    refine ⟨y.p.blk.toNat, List.mem_filter.2 ⟨List.mem_range.2 (by omega), List.any_eq_true.2 ⟨y, hy, ?_⟩⟩, by omega⟩
    simp only [decide_eq_true_eq]
    omega
section
variable (w : World) (L : List HP) (e : Nat) (E : Eng)
theorem edirty_c (hO : Own w (engP e E :: L)) (hk : E.Ok) : Calls Tryz.prog 20 #[.pointer (some ⟨e, 0, none⟩)] w (RetX w (fun v : Value => v) (fun v => owns 3 1 v E.dirty.length (zs E.dirty) :: engP e E :: L)) := by
  obtain ⟨d, wv, bs, fs, we, g, ⟨h1, h2, h3⟩, hO⟩ := eng_open.1 hO
  have HK := Lib.hid (And.intro h1 (And.intro h2 h3))
  have hwl : we.length = E.l.length := by rw [← h1, List.length_map]
  have hlen := hk.len
  obtain ⟨A, c, rfl, hm⟩ := h2.rd
  have hmx := (rdG_rd (own_at hO (k := 3) rfl) hm).max
  have HW := Lib.hid h2
  have HL2 : Hid (we.length ≤ 200) := by show _ ≤ _; omega
  have HEND : Hid (blksW (we.map (·.1)) = blksW E.l) := by show _ = _; rw [h1]
  have HDC : Hid (Lib.compact (rising (blksW E.l)) = E.dirty) := compact_rising (dirty_asc E) (dirty_mem hk)
  have HBL : Hid ((blksW E.l).length = we.length ∧ we.length ≤ 1000000 ∧ (rising (blksW E.l)).length = (blksW E.l).length) := by
    refine ⟨by unfold blksW; rw [List.length_map, hwl], by omega, by unfold rising; simp⟩
  have hS := Same.refl w
  have hwl2 := HL2.out
  clear h1 h2 h3 hk hm hwl
  go_enter Tryz.func20, Tryz.ntmps20
  go_wp2_with (first | (apply own_load1 rfl rfl rfl; (first | exact row_dptr | exact row_ents | exact row_mint | exact row_int); (first | exact own_get 0 hO rfl | exact own_get 1 hO rfl | exact own_get 2 hO rfl | exact own_get 3 hO rfl | exact own_get 4 hO rfl | exact own_get 5 hO rfl | exact own_get 6 hO rfl | exact own_get 7 hO rfl); (first | (simp only [List.getElem?_toArray, List.getElem?_cons_succ, List.getElem?_cons_zero]; rfl) | rfl)))
  go_loopw [3, 13] (fun o iv wr => ∃ k : Nat, k ≤ we.length ∧ iv = .int .i64 k ∧ Own wr (owns 3 1 o k (zs (blksW ((we.take k).map (·.1)))) :: pts e (.cells #[.pointer (some ⟨d, 0, none⟩), .slice A we.length c, .map (some bs), .int .i64 E.next] 72) :: diskP d E.m :: mapP bs fs :: rdG g :: L) ∧ Same w wr) (fun _ iv _ => we.length - (intOf iv).toNat)
  case atStart => exact ⟨0, Nat.zero_le _, rfl, owns_nil hO, hS⟩
  case round =>
    clear hO hS
    obtain ⟨k, hk, rfl, hO, hS⟩ := hrel
    by_cases hlt : k < we.length
    · obtain ⟨⟨x, xv⟩, hx⟩ : ∃ x, we[k]? = some x := ⟨_, List.getElem?_eq_getElem hlt⟩
      obtain ⟨A2, c2, e2, _⟩ := HW.out.beh _ (List.mem_of_getElem? hx)
      have e2 : xv = .slice A2 x.beh.length c2 := e2
      subst e2
      obtain ⟨ad, c', e1, hc⟩ := wat HW.out hx (own_at hO (k := 4) rfl)
      obtain ⟨rfl, rfl⟩ : A = some ad ∧ c = c' := by injection e1 with a1 _ a3; exact ⟨a1, a3⟩
      have HC := Lib.hid (hc _ wr (own_at hO (k := 4) rfl))
      have hm1 : (k : Int) < we.length := by omega
      have HNX : Hid (zs (blksW ((we.take (k + 1)).map (·.1))) = zs (blksW ((we.take k).map (·.1))) ++ [.int .i64 x.p.blk]) := by
        show _ = _
        rw [List.take_add_one, hx]
        simp [blksW, zs, encZ]
      clear hx hc e1
      go_upto_region 7 with (first | (refine own_loadrow_at (ad := ad.add (k * 5)) (vs := We.cells (x, .slice A2 x.beh.length c2)) rfl rfl rfl row_ent sz_ent rfl HC.out ?_) | (refine own_alloc (T := 76) rfl rfl zero_ent rfl hO ?_; clear hO; intro gx u hO hSn; replace hS := hS.trans hSn; clear hSn) | (apply own_store_all (k := 0) rfl rfl rfl rfl sz_ent hO rfl; (focus rfl); (focus rfl); (focus rfl); clear hO; intro u hO hSn; replace hS := hS.trans hSn; clear hSn; simp only [List.set_cons_zero, List.set_cons_succ] at hO))
      have hO := own_perm hO (List.Perm.swap _ _ _)
      go_wp2_with (first | (refine own_load1 (b := gx) (off := 1) (cs := (We.cells (x, .slice A2 x.beh.length c2)).toArray) (t := 76) (v := .int .i64 x.p.blk) rfl rfl rfl row_int (own_get 1 hO rfl) rfl ?_) | (refine own_append (m := 1) (n := k) (xs := (zs (blksW ((we.take k).map (·.1))))) (news := [.int .i64 x.p.blk]) rfl rfl rfl rfl Tryz.underlying38 info_z3 rfl (by decide) (own_perm (own_alloc_new hO (.cells #[.int .i64 x.p.blk] 3)) (List.Perm.swap _ _ _)) ?_ (by intro u hu; rw [List.mem_singleton.1 hu]; rfl) ?_ ?_ ?_; (exact rd_block (own_get 1 (own_perm (own_alloc_new hO (.cells #[.int .i64 x.p.blk] 3)) (List.Perm.swap _ _ _)) rfl) rfl (by simp) (by simp) (by simp)); (have := HL2.out; unfold maxLen; omega); (have := HL2.out; omega); clear hO; intro v' w9 hO hS9 hv'))
      go_roundw
      case rel => exact ⟨k + 1, by omega, by go_num, by rw [HNX.out]; exact own_skip (own_skip hO), hS.trans ((Same.alloc _ _).trans hS9)⟩
      case measure => simp [intOf]; omega
    · have hke : k = we.length := by omega
      subst hke
      rw [List.take_length, HEND.out] at hO
      go_wp2_with (first | (go_at_call 48; (with_reducible refine Calls.mono (sort_n _ _ _ we.length _ HBL.out.1.symm hO HBL.out.2.1) ?_); clear hO; rintro e u ⟨rfl, hO, hSn⟩; replace hS := hS.trans hSn; clear hSn) | (go_at_call 49; (with_reducible refine Calls.mono (compact_n _ _ _ we.length (rising (blksW E.l)) (by rw [HBL.out.2.2, HBL.out.1]) hO HBL.out.2.1) ?_); clear hO; rintro e u ⟨v, rfl, hO, hSn⟩; replace hS := hS.trans hSn; clear hSn; rw [HDC.out] at hO))
      go_ret
      exact ⟨_, rfl, own_perm (eng_open.2 ⟨d, .slice A we.length c, bs, fs, we, g, HK.out, own_under hO⟩) (List.Perm.swap _ _ _), hS⟩
end
end Go.Proofs.YtlmkcnkidkoilaaGreat.H
set_option linter.unusedVariables false
set_option linter.unusedSimpArgs false
set_option maxRecDepth 100000
namespace Go.Proofs.YtlmkcnkidkoilaaGreat.H
open Go.RowKit
abbrev Lim (n : Nat) (m : List Blk) : Prop := ∀ b ∈ m, b.vs.length ≤ n
/-- All sectors are of one byte each. -/
def Uni (m : List Blk) : Prop := ∀ b ∈ m, (∃ c, b.s = sec c) ∧ ∀ s ∈ b.vs, ∃ c, s = sec c
/-- What a deed leaves of a disk. -/
structure Gd (m m' : List Blk) : Prop where
  len : m'.length = m.length
  lim : ∀ n, Lim n m → Lim (n + 1) m'
  uni : Uni m → Uni m'
theorem Gd.refl (m : List Blk) : Gd m m := ⟨rfl, fun n h b hb => Nat.le_succ_of_le (h b hb), fun h => h⟩
theorem set_uni {m : List Blk} {i : Nat} {b' : Blk} (h : Uni m) (h1 : (∃ c, b'.s = sec c) ∧ ∀ s ∈ b'.vs, ∃ c, s = sec c) : Uni (m.set i b') := fun x hx => by
  rcases List.mem_or_eq_of_mem_set hx with hx | rfl
  · exact h x hx
  · exact h1
theorem set_lim {m : List Blk} {i n : Nat} {b' : Blk} (h : Lim n m) (h1 : b'.vs.length ≤ n) : Lim n (m.set i b') := fun x hx => by
  rcases List.mem_or_eq_of_mem_set hx with hx | rfl
  · exact h x hx
  · exact h1
theorem gd_write {m : List Blk} {i : Nat} {b : Blk} (hi : m[i]? = some b) (c : UInt8) : Gd m (m.set i (b.wr (sec c))) where
  len := List.length_set ..
  lim := fun n h => set_lim (fun x hx => Nat.le_succ_of_le (h x hx)) (by have := h b (List.mem_of_getElem? hi); simp; omega)
  uni := fun h => set_uni h ⟨(h b (List.mem_of_getElem? hi)).1, fun s hs => by
    rcases List.mem_append.1 hs with hs | hs
    · exact (h b (List.mem_of_getElem? hi)).2 s hs
    · exact ⟨c, List.mem_singleton.1 hs⟩⟩
theorem gd_spoil {m : List Blk} {i : Nat} {b : Blk} (hi : m[i]? = some b) (bad : Bool) : Gd m (m.set i ⟨b.s, b.vs, bad⟩) where
  len := List.length_set ..
  lim := fun n h => set_lim (fun x hx => Nat.le_succ_of_le (h x hx)) (Nat.le_succ_of_le (h b (List.mem_of_getElem? hi)))
  uni := fun h => set_uni h (h b (List.mem_of_getElem? hi))
theorem sett_mem (v : Int) (b : Blk) : sett v b = b.s ∨ sett v b ∈ b.vs := by
  unfold sett
  split
  · cases h : b.vs[(v - 1).toNat]? with
    | none => exact .inl rfl
    | some s => exact .inr (List.mem_of_getElem? h)
  · exact .inl rfl
theorem crashL_mem (pk : Nat → Nat → Int) : ∀ (m : List Blk) (k : Nat) (x : Blk), x ∈ crashL pk k m → ∃ b ∈ m, x = b ∨ ∃ v, x = ⟨sett v b, [], b.bad⟩
  | [], k, x, h => by simp [crashL] at h
  | b :: r, k, x, h => by
    unfold crashL at h
    split at h
    · rcases List.mem_cons.1 h with rfl | h
      · exact ⟨x, List.mem_cons_self .., .inl rfl⟩
      · obtain ⟨b', h1, h2⟩ := crashL_mem pk r k x h
        exact ⟨b', List.mem_cons_of_mem _ h1, h2⟩
    · rcases List.mem_cons.1 h with rfl | h
      · exact ⟨b, List.mem_cons_self .., .inr ⟨_, rfl⟩⟩
      · obtain ⟨b', h1, h2⟩ := crashL_mem pk r (k + 1) x h
        exact ⟨b', List.mem_cons_of_mem _ h1, h2⟩
theorem gd_crash (pk : Nat → Nat → Int) (m : List Blk) : Gd m (crashL pk 0 m) where
  len := crashL_len pk m 0
  lim := fun n h x hx => by
    obtain ⟨b, hb, rfl | ⟨v, rfl⟩⟩ := crashL_mem pk m 0 x hx
    · exact Nat.le_succ_of_le (h x hb)
    · exact Nat.zero_le _
  uni := fun h x hx => by
    obtain ⟨b, hb, rfl | ⟨v, rfl⟩⟩ := crashL_mem pk m 0 x hx
    · exact h x hb
    · refine ⟨?_, fun s hs => by simp at hs⟩
      rcases sett_mem v b with e | e
      · rw [show (⟨sett v b, [], b.bad⟩ : Blk).s = b.s from e]; exact (h b hb).1
      · exact (h b hb).2 _ e
theorem dcases (m : List Blk) (i : Int) : (∃ (k : Nat) (b : Blk), i = (k : Int) ∧ m[k]? = some b) ∨ (i < 0 ∨ (m.length : Int) ≤ i) := by
  by_cases h : 0 ≤ i ∧ i < m.length
  · exact .inl ⟨i.toNat, m[i.toNat]'(by omega), by omega, List.getElem?_eq_getElem _⟩
  · exact .inr (by omega)
/-- A call that both answer alike. -/
abbrev BothD (f g : FuncId) (m m' : List Blk) (ag : Value → Array Value) (r : Value) : Prop :=
  (∀ (w : World) (L : List HP) (d : Nat), Own w (diskP d m :: L) → Calls Tryz.prog f (ag (.pointer (some ⟨d, 0, none⟩))) w (Ret w r (diskP d m' :: L))) ∧
  (∀ (w : World) (L : List HP) (q : Nat), Own w (rdiskP q m :: L) → Calls Tryz.prog g (ag (.pointer (some ⟨q, 0, none⟩))) w (Ret w r (rdiskP q m' :: L)))
section
variable (m : List Blk)
theorem write_both (i : Int) (c : UInt8) (hl : Lim 1000000 m) : ∃ (e : Int) (m' : List Blk), BothD 39 99 m m' (fun y => #[y, .int .i64 i, secV (sec c)]) (.int .i64 e) ∧ Gd m m' := by
  rcases dcases m i with ⟨k, b, rfl, hk⟩ | h
  · cases hb : b.bad with
    | true => exact ⟨_, _, ⟨fun w L d hO => write_bad w L d m k b _ hO hk hb, fun w L q hO => rwrite_bad w L q m k b _ hO hk hb⟩, Gd.refl m⟩
    | false => exact ⟨_, _, ⟨fun w L d hO => write_ok w L d m k b _ hO hk hb (by simp) (hl b (List.mem_of_getElem? hk)), fun w L q hO => rwrite_ok w L q m k b _ hO hk hb (by simp) (hl b (List.mem_of_getElem? hk))⟩, gd_write hk c⟩
  · exact ⟨_, _, ⟨fun w L d hO => write_no w L d m i _ hO h, fun w L q hO => rwrite_no w L q m i _ hO h⟩, Gd.refl m⟩
theorem spoil_both (i : Int) (bad : Bool) : ∃ (e : Int) (m' : List Blk), BothD 44 101 m m' (fun y => #[y, .int .i64 i, .bool bad]) (.int .i64 e) ∧ Gd m m' := by
  rcases dcases m i with ⟨k, b, rfl, hk⟩ | h
  · exact ⟨_, _, ⟨fun w L d hO => spoil_ok w L d m k b bad hO hk, fun w L q hO => rspoil_ok w L q m k b bad hO hk⟩, gd_spoil hk bad⟩
  · exact ⟨_, _, ⟨fun w L d hO => spoil_no w L d m i bad hO h, fun w L q hO => rspoil_no w L q m i bad hO h⟩, Gd.refl m⟩
theorem flush_both (h0 : 0 < m.length) (hl : Lim 1000000 m) : BothD 42 73 m (crashL allV 0 m) (fun y => #[y]) (.int .i64 0) :=
  ⟨fun w L d hO => flush_c w L d m hO h0 hl, fun w L q hO => rflush_c w L q m hO⟩
end
def DoD (w : World) (L : List HP) (d q : Nat) (m : List Blk) (e : Ending) (w' : World) : Prop := ∃ m', Gd m m' ∧ Ret w (.bool true) (diskP d m' :: rdiskP q m' :: L) e w'
section
variable (w : World) (L : List HP) (d q : Nat) (m : List Blk)
end
end Go.Proofs.YtlmkcnkidkoilaaGreat.H
set_option linter.unusedVariables false
set_option linter.unusedSimpArgs false
set_option maxRecDepth 100000
namespace Go.Proofs.YtlmkcnkidkoilaaGreat.H
open Go.RowKit
/-- All sectors have 32 bytes. -/
def S32 (m : List Blk) : Prop := ∀ b ∈ m, b.s.length = 32 ∧ ∀ s ∈ b.vs, s.length = 32
theorem s32_of {w : World} {L : List HP} {d : Nat} {m : List Blk} (hO : Own w (diskP d m :: L)) : S32 m ∧ m.length ≤ 96 := by
  obtain ⟨lv, bv, bb, fv, fb, l, hk, _⟩ := disk_open.1 hO
  exact ⟨fun b hb => ⟨hk.s32 b hb, hk.v32 b hb⟩, hk.len⟩
theorem now_len {b : Blk} (h : b.s.length = 32 ∧ ∀ s ∈ b.vs, s.length = 32) : b.now.length = 32 := by
  unfold Blk.now
  cases hg : b.vs.getLast? with
  | none => exact h.1
  | some s => exact h.2 s (List.mem_of_getLast? hg)
section
variable (m : List Blk)
theorem lasting_both (hs : S32 m) (i : Int) : ∃ (s : Sec) (e : Int), s.length = 32 ∧ BothD 18 55 m m (fun y => #[y, .int .i64 i]) (.tuple #[secV s, .int .i64 e]) := by
  rcases dcases m i with ⟨k, b, rfl, hk⟩ | h
  · exact ⟨b.s, 0, (hs b (List.mem_of_getElem? hk)).1, fun w L d hO => lasting_ok w L d m k b hO hk, fun w L q hO => rlasting_ok w L q m k b hO hk⟩
  · exact ⟨sec0, 2, by simp, fun w L d hO => lasting_no w L d m i hO h, fun w L q hO => rlasting_no w L q m i hO h⟩
theorem vsAt_yes {m : List Blk} {k : Nat} {b : Blk} (h : m[k]? = some b) : vsAt m k = b.vs.length := by
  unfold vsAt
  rw [if_pos (by omega), Int.toNat_natCast, h]
  rfl
theorem vsAt_no {m : List Blk} {i : Int} (h : i < 0 ∨ (m.length : Int) ≤ i) : vsAt m i = 0 := by
  unfold vsAt
  split
  · rw [List.getElem?_eq_none (by omega)]; rfl
  · rfl
theorem size_both : BothD 45 86 m m (fun y => #[y]) (.int .i64 m.length) :=
  ⟨fun w L d hO => size_c w L d m hO, fun w L q hO => rsize_c w L q m hO⟩
end
theorem und_arr : Tryz.prog.underlying 42 = some (.array 32 5) := by kernel_rfl
end Go.Proofs.YtlmkcnkidkoilaaGreat.H
set_option linter.unusedVariables false
set_option linter.unusedSimpArgs false
set_option maxRecDepth 100000
namespace Go.Proofs.YtlmkcnkidkoilaaGreat.H
open Go.RowKit
/-- Both hand over what reads as the same. -/
structure BothR (f g : FuncId) (E : Eng) (args : Value → Array Value) (sz n : Nat) (xs : List Value) (V : Value → Value) : Prop where
  a : ∀ (w : World) (L : List HP) (e : Nat), Own w (engP e E :: L) → Calls Tryz.prog f (args (.pointer (some ⟨e, 0, none⟩))) w (RetX w V (fun v => rdA sz v n xs :: engP e E :: L))
  b : ∀ (w : World) (L : List HP) (r : Nat), Own w (rengP r E :: L) → Calls Tryz.prog g (args (.pointer (some ⟨r, 0, none⟩))) w (RetX w V (fun v => rdA sz v n xs :: rengP r E :: L))
theorem dA_of {w : World} {L : List HP} {f : FuncId} {args : Array Value} {e : TypeId} {V : Value → Value} {sz n : Nat} {xs : List Value} (h : Calls Tryz.prog f args w (RetX w V (fun v => owns e sz v n xs :: L))) : Calls Tryz.prog f args w (RetX w V (fun v => rdA sz v n xs :: L)) := by
  refine h.mono ?_
  rintro e w' ⟨v, rfl, h1, h2⟩
  exact ⟨v, rfl, rdA_owns h1, h2⟩
theorem nA_of {w : World} {L : List HP} {f : FuncId} {args : Array Value} (V : Value → Value) (sz : Nat) (h : Calls Tryz.prog f args w (Ret w (V (.slice none 0 0)) L)) : Calls Tryz.prog f args w (RetX w V (fun v => rdA sz v 0 [] :: L)) := by
  refine h.mono ?_
  rintro e w' ⟨rfl, h1, h2⟩
  exact ⟨_, rfl, rdA_nil h1, h2⟩
section
variable {k : Nat} {E : Eng}
theorem block_bothE (h : Pk k E) (i : Int) : ∃ (n : Nat) (T : List UInt8) (x : Int), n = T.length ∧ BothR 13 51 E (fun y => #[y, .int .i64 i]) 1 n (bcs T) (fun v => .tuple #[v, .int .i64 x]) := by
  rcases icases E.m.length i with ⟨j, rfl, hj⟩ | hi
  · obtain ⟨b, hb⟩ : ∃ b, E.m[j]? = some b := ⟨_, List.getElem?_eq_getElem hj⟩
    have h32 : (E.bytes j b fun _ => true).length = 32 := by
      unfold Eng.bytes
      refine appAll_32 (h.inv.s32 b (List.mem_of_getElem? hb)) (fun p hp => ?_)
      obtain ⟨x, hx, rfl⟩ := List.mem_map.1 hp
      exact (h.ok.right x (List.filter_sublist.subset hx)).1
    refine ⟨32, _, 0, h32.symm, fun w L e hO => ?_, fun w L r hO => dA_of (rblock_ok w L r E j b hO h.ok hb)⟩
    refine (eblock_ok w L e E j b hO h.ok hb).mono ?_
    rintro e w' ⟨g, rfl, h1, h2⟩
    exact ⟨_, rfl, rdA_pts h32 h1, h2⟩
  · exact ⟨0, [], 2, rfl, fun w L e hO => nA_of (fun v => .tuple #[v, .int .i64 2]) 1 (eblock_no w L e E i hO hi), fun w L r hO => nA_of (fun v => .tuple #[v, .int .i64 2]) 1 (rblock_no w L r E i hO hi)⟩
theorem ready_bothE (h : Pk k E) (i : Int) : ∃ (n : Nat) (R : List Int), n = R.length ∧ BothR 34 53 E (fun y => #[y, .int .i64 i]) 1 n (zs R) (fun v => v) := by
  rcases icases E.m.length i with ⟨j, rfl, hj⟩ | hi
  · exact ⟨_, readyL E.l j, rfl, fun w L e hO => dA_of (eready_ok w L e E j hO h.ok hj), fun w L r hO => dA_of (rready_ok w L r E j hO h.ok hj)⟩
  · exact ⟨0, [], rfl, fun w L e hO => nA_of (fun v => v) 1 (eready_no w L e E i hO hi), fun w L r hO => nA_of (fun v => v) 1 (rready_no w L r E i hO hi)⟩
theorem waiting_bothE (h : Pk k E) : ∃ (n : Nat) (R : List Int), n = R.length ∧ BothR 19 56 E (fun y => #[y]) 1 n (zs R) (fun v => v) := by
  have hl : E.l.length = (wnums E.l).length := by unfold wnums; rw [List.length_map]
  refine ⟨(wnums E.l).length, wnums E.l, rfl, fun w L e hO => ?_, fun w L r hO => dA_of (rwaiting_e w L r E hO h.ok.len)⟩
  have h1 := ewaiting_c w L e E hO h.ok
  rw [hl] at h1
  exact dA_of h1
theorem dirty_bothE (h : Pk k E) : ∃ (n : Nat) (R : List Int), n = R.length ∧ BothR 20 57 E (fun y => #[y]) 1 n (zs R) (fun v => v) :=
  ⟨_, E.dirty, rfl, fun w L e hO => dA_of (edirty_c w L e E hO h.ok), fun w L r hO => dA_of (rdirty_e w L r E hO h.ok.len (by have := h.m5; omega))⟩
end
theorem rsame_yes (w : World) (L : List HP) (u v : Value) (n : Nat) (l : List Int) (hn : n = l.length) (hO : Own w L) (hu : ∀ w', Own w' L → Rd w' 1 u n (zs l)) (hv : ∀ w', Own w' L → Rd w' 1 v n (zs l)) :
    Calls Tryz.prog 52 #[u, v] w (Ret w (.bool true) L) := by
  have h := grsame_c w L u v n n l l hn hn hO hu hv
  rwa [decide_eq_true rfl] at h
section
variable (w : World) (L : List HP) (p q k : Nat) (E : Eng)
set_option maxHeartbeats 6400000 in
theorem same_e (pv : Value) (pl : List Int) (hO : Own w (engP p E :: rengP q E :: L)) (h : Pk k E) (hk : k ≤ 1000) (hr : ∀ w', Own w' L → Rd w' 1 pv pl.length (pl.map encZ)) (hi : ∀ x ∈ pl, inI x) :
    Calls Tryz.prog 21 #[.pointer (some ⟨p, 0, none⟩), .pointer (some ⟨q, 0, none⟩), pv] w (Ret w (.bool true) (engP p E :: rengP q E :: L)) := by
  have HPK := Lib.hid h
  have HM5 : Hid ((E.m.length : Int) = 5) := by have := h.m5; show _ = _; omega
  have HRS : Hid (∀ (w' : World) (L' : List HP), Own w' (rengP q E :: L') → Calls Tryz.prog 50 #[.pointer (some ⟨q, 0, none⟩)] w' (Ret w' (.int .i64 5) (rengP q E :: L'))) := Lib.hid fun w' L' h' => by
    have h2 := rsize_e w' L' q E h'
    rwa [HM5.out] at h2
  have HES : Hid (∀ (w' : World) (L' : List HP), Own w' (engP p E :: L') → Calls Tryz.prog 58 #[.pointer (some ⟨p, 0, none⟩)] w' (Ret w' (.int .i64 5) (engP p E :: L'))) := Lib.hid fun w' L' h' => by
    have h2 := esize_c w' L' p E h'
    rwa [HM5.out] at h2
  have HVL : Hid (Vl 1000000 E) := h.vl.mono (by omega)
  have HR := Lib.hid hr
  have HI := Lib.hid hi
  have hS := Same.refl w
  clear h hr hi
  go_enter Tryz.func21, Tryz.ntmps21
  go_wp2
  go_loopw [7] (fun iv wr => ∃ j : Nat, j ≤ 7 ∧ iv = .int .i64 ((j : Int) - 1) ∧ Own wr (engP p E :: rengP q E :: L) ∧ Same w wr) (fun iv _ => 7 - (intOf iv + 1).toNat)
  case atStart => exact ⟨0, by omega, rfl, hO, hS⟩
  case round =>
    clear hO hS
    obtain ⟨j, hj, rfl, hO, hS⟩ := hrel
    by_cases hlt : j < 7
    · obtain ⟨n, T, x, hn, hB⟩ := block_bothE HPK.out ((j : Int) - 1)
      obtain ⟨nr, R, hnr, hR⟩ := ready_bothE HPK.out ((j : Int) - 1)
      have HB := Lib.hid hB
      have HRD := Lib.hid hR
      have HN := Lib.hid hn
      have HNR := Lib.hid hnr
      have HLT := Lib.hid hlt
      have hle : (j : Int) - 1 ≤ 5 := by omega
      clear hB hR hn hnr
      go_wp2_with (first | (go_at_call 50; (with_reducible refine Calls.mono (call_at 1 (fun L' h => HRS.out _ L' h) rfl hO) ?_); clear hO; rintro e u ⟨rfl, hO, hSn⟩; replace hS := hS.trans hSn; clear hSn; simp only [List.set_cons_zero, List.set_cons_succ] at hO) | (go_at_call 13; (with_reducible refine Calls.mono (HB.out.a _ _ p (own_order [0] hO rfl)) ?_); clear hO; rintro e u ⟨va, rfl, hO, hSn⟩; replace hS := hS.trans hSn; clear hSn) | (go_at_call 51; (with_reducible refine Calls.mono (HB.out.b _ _ q (own_order [2] hO rfl)) ?_); clear hO; rintro e u ⟨vb, rfl, hO, hSn⟩; replace hS := hS.trans hSn; clear hSn) | (refine own_string (v := va) (n := n) (bs := T) rfl rfl rfl Tryz.underlying23 Tryz.underlying5 Tryz.underlying9 HN.out (rdA_rd (own_at hO (k := 2) rfl)) ?_) | (refine own_string (v := vb) (n := n) (bs := T) rfl rfl rfl Tryz.underlying23 Tryz.underlying5 Tryz.underlying9 HN.out (rdA_rd (own_at hO (k := 0) rfl)) ?_) | (go_at_call 34; (with_reducible refine Calls.mono (HRD.out.a _ _ p (own_order [3] hO rfl)) ?_); clear hO; rintro e u ⟨ra, rfl, hO, hSn⟩; replace hS := hS.trans hSn; clear hSn) | (go_at_call 53; (with_reducible refine Calls.mono (HRD.out.b _ _ q (own_order [3] hO rfl)) ?_); clear hO; rintro e u ⟨rb, rfl, hO, hSn⟩; replace hS := hS.trans hSn; clear hSn) | (go_at_call 52; (with_reducible refine Calls.mono (rsame_yes _ _ ra rb nr R HNR.out hO (fun w' h => rdA_rd (own_at h (k := 2) rfl)) (fun w' h => rdA_rd (own_at h (k := 0) rfl))) ?_); clear hO; rintro e u ⟨rfl, hO, hSn⟩; replace hS := hS.trans hSn; clear hSn))
      have hO := own_sub (own_order [3, 1] hO rfl) (.cons_cons _ (.cons_cons _ (.cons _ (.cons _ (.cons _ (.cons _ (List.Sublist.refl _)))))))
      go_roundw
      case rel => exact ⟨j + 1, by have := HLT.out; omega, by go_num, hO, hS⟩
      case measure => have := HLT.out; simp [intOf]; omega
    · have hje : j = 7 := by omega
      subst hje
      clear hj hlt
      go_upto_region 9 with (first | (go_at_call 50; (with_reducible refine Calls.mono (call_at 1 (fun L' h => HRS.out _ L' h) rfl hO) ?_); clear hO; rintro e u ⟨rfl, hO, hSn⟩; replace hS := hS.trans hSn; clear hSn; simp only [List.set_cons_zero, List.set_cons_succ] at hO) | (go_at_call 17; (with_reducible refine Calls.mono (ecrash_c _ _ p E pv pl hO HPK.out.ok HVL.out (fun w' h => HR.out w' (own_drop h))) ?_); clear hO; rintro e u ⟨f, rfl, hO, hSn⟩; replace hS := hS.trans hSn; clear hSn) | (go_at_call 54; (with_reducible refine Calls.mono (rcrash_e _ _ q E pv pl (own_order [2] hO rfl) HVL.out (fun w' h => HR.out w' (own_drop (own_drop h))) HI.out) ?_); clear hO; rintro e u ⟨g, rfl, hO, hSn⟩; replace hS := hS.trans hSn; clear hSn))
      obtain ⟨m', hm'⟩ : ∃ m', m' = crashL (pickV pl) 0 E.m := ⟨_, rfl⟩
      have HML : Hid (m'.length = 5) := by show _ = _; rw [hm', crashL_len]; exact HPK.out.m5
      rw [← hm'] at hO
      have hO : Own u (diskP f m' :: rdiskP g m' :: engP p E :: rengP q E :: L) := own_order [2, 0, 1] hO rfl
      obtain ⟨hs32, hlm⟩ := s32_of hO
      have HS32 := Lib.hid hs32
      clear hs32 hlm hm'
      go_wp2
      go_loopw [14] (fun iv wr => ∃ j : Nat, j ≤ 5 ∧ iv = .int .i64 j ∧ Own wr (diskP f m' :: rdiskP g m' :: engP p E :: rengP q E :: L) ∧ Same w wr) (fun iv _ => 5 - (intOf iv).toNat)
      case atStart => exact ⟨0, by omega, rfl, hO, hS⟩
      case round =>
        clear hO hS
        obtain ⟨j, hj, rfl, hO, hS⟩ := hrel
        by_cases hlt : j < 5
        · obtain ⟨s, x, hs, hL⟩ := lasting_both m' HS32.out (j : Int)
          have HL := Lib.hid hL
          have HL1 := Lib.hid hs
          have hm1 : (j : Int) < 5 := by omega
          obtain ⟨i0, hi0⟩ := u8_info
          have HE1 : Hid (∀ w', (Op.equalIn 10000 42 (secV s) (secV s)).run Tryz.prog w' = .ok true w') := Lib.hid fun w' => by
            have h := eq_sec w' (n := 0) und_arr hi0 9998 hs hs
            simpa using h
          clear hL hs hi0
          go_upto_region 13 with (first | (go_at_call 50; (with_reducible refine Calls.mono (call_at 3 (fun L' h => HRS.out _ L' h) rfl hO) ?_); clear hO; rintro e u ⟨rfl, hO, hSn⟩; replace hS := hS.trans hSn; clear hSn; simp only [List.set_cons_zero, List.set_cons_succ] at hO) | (go_at_call 18; (with_reducible refine Calls.mono (call_at 0 (fun L' h => HL.out.1 _ L' f h) rfl hO) ?_); clear hO; rintro e u ⟨rfl, hO, hSn⟩; replace hS := hS.trans hSn; clear hSn; simp only [List.set_cons_zero, List.set_cons_succ] at hO) | (refine own_alloc (T := 43) rfl rfl zero_sec rfl hO ?_; clear hO; intro g1 u hO hSn; replace hS := hS.trans hSn; clear hSn) | (refine own_store_all (k := 0) rfl rfl rfl rfl sz_sec hO rfl (secA_size HL1.out) (by rfl) (bcs_all _) ?_; clear hO; intro u hO hSn; replace hS := hS.trans hSn; clear hSn; simp only [List.set_cons_zero, List.set_cons_succ] at hO))
          go_upto_region 14 with (first | (go_at_call 55; (with_reducible refine Calls.mono (call_at 2 (fun L' h => HL.out.2 _ L' g h) rfl hO) ?_); clear hO; rintro e u ⟨rfl, hO, hSn⟩; replace hS := hS.trans hSn; clear hSn; simp only [List.set_cons_zero, List.set_cons_succ] at hO) | (refine own_alloc (T := 94) rfl rfl zero_rsec rfl hO ?_; clear hO; intro g2 u hO hSn; replace hS := hS.trans hSn; clear hSn) | (refine own_store_all (k := 0) rfl rfl rfl rfl sz_rsec hO rfl (secA_size HL1.out) (by rfl) (bcs_all _) ?_; clear hO; intro u hO hSn; replace hS := hS.trans hSn; clear hSn; simp only [List.set_cons_zero, List.set_cons_succ] at hO))
          refine wp_plain_seq (Cls _ (_)) 3 (cls_here hO) ?_
          simp only [List.append_eq, List.cons_append, List.nil_append, List.take_succ_cons, List.take_zero]
          repeat (first
            | (apply wv_skip rfl; simp only [Act.put, List.setIfInBounds_toArray, List.set_cons_zero, List.set_cons_succ])
            | (apply wv_load1 rfl rfl rfl; (first | exact row_int | exact row_str | exact row_bool | exact row_u8 | exact row_bys | exact row_pats | exact row_err); (intro w h; (first | exact own_get 0 h.1 rfl | exact own_get 1 h.1 rfl | exact own_get 2 h.1 rfl | exact own_get 3 h.1 rfl | exact own_get 4 h.1 rfl | exact own_get 5 h.1 rfl | exact own_get 6 h.1 rfl | exact own_get 7 h.1 rfl)); (first | (simp only [List.getElem?_toArray, List.getElem?_cons_succ, List.getElem?_cons_zero]; rfl) | rfl); simp only [Act.put, List.setIfInBounds_toArray, List.set_cons_zero, List.set_cons_succ])
            | (apply wv_loadrow rfl rfl rfl; (first | exact row_pat); exact sz_pat; (intro w h; (first | exact own_get 0 h.1 rfl | exact own_get 1 h.1 rfl | exact own_get 2 h.1 rfl | exact own_get 3 h.1 rfl | exact own_get 4 h.1 rfl | exact own_get 5 h.1 rfl | exact own_get 6 h.1 rfl | exact own_get 7 h.1 rfl)); (focus (simp; done)); (first | (simp only [List.drop_zero, List.drop_succ_cons, List.take_succ_cons, List.take_zero]; rfl) | rfl); simp only [Act.put, List.setIfInBounds_toArray, List.set_cons_zero, List.set_cons_succ])
            | (refine wv_loadrow (b := g1) (off := 0) (cs := (bcs s).toArray) (t := 43) (vs := bcs s) rfl rfl rfl row_sec sz_sec (fun w h => own_get 1 h.1 rfl) (by simp [bcs_length, HL1.out]) (by rw [List.drop_zero]; exact List.take_of_length_le (by simp [bcs_length, HL1.out])) ?_; simp only [Act.put, List.setIfInBounds_toArray, List.set_cons_zero, List.set_cons_succ])
            | (refine wv_loadrow (b := g2) (off := 0) (cs := (bcs s).toArray) (t := 94) (vs := bcs s) rfl rfl rfl row_rsec sz_rsec (fun w h => own_get 0 h.1 rfl) (by simp [bcs_length, HL1.out]) (by rw [List.drop_zero]; exact List.take_of_length_le (by simp [bcs_length, HL1.out])) ?_; simp only [Act.put, List.setIfInBounds_toArray, List.set_cons_zero, List.set_cons_succ])
            | (apply wv_run rfl; (focus (intro w h; go_simp; simp only [HE1.out w]; first | done | rfl)); simp only [Act.put, List.setIfInBounds_toArray, List.set_cons_zero, List.set_cons_succ])
            | (apply wv_run rfl; (focus (intro w h; go_simp; first | done | rfl)); simp only [Act.put, List.setIfInBounds_toArray, List.set_cons_zero, List.set_cons_succ])
            | (apply wv_call rfl; (focus (intro w; go_simp; first | done | exact ⟨rfl, rfl⟩)); (focus (intro w h; apply cls_call h; fail)); simp only [Act.put, List.setIfInBounds_toArray, List.set_cons_zero, List.set_cons_succ]))
          refine wv_nil ?_
          simp only [List.drop_succ_cons, List.drop_zero]
          intro w9 ⟨hO9, hS9⟩
          clear hO
          have hO := own_drop (own_drop hO9)
          replace hS := hS.trans hS9
          clear hO9 hS9
          go_wp2
          go_roundw
          case rel => exact ⟨j + 1, by omega, by go_num, hO, hS⟩
          case measure => simp [intOf]; omega
        · have hje : j = 5 := by omega
          subst hje
          clear hj hlt
          obtain ⟨n, W, hn, hW⟩ := waiting_bothE HPK.out
          obtain ⟨nd, D, hnd, hD⟩ := dirty_bothE HPK.out
          have HW := Lib.hid hW
          have HD := Lib.hid hD
          have HN := Lib.hid hn
          have HND := Lib.hid hnd
          have hO := own_drop (own_drop hO)
          clear hW hD hn hnd
          go_wp2_with (first | (go_at_call 50; (with_reducible refine Calls.mono (call_at 1 (fun L' h => HRS.out _ L' h) rfl hO) ?_); clear hO; rintro e u ⟨rfl, hO, hSn⟩; replace hS := hS.trans hSn; clear hSn; simp only [List.set_cons_zero, List.set_cons_succ] at hO) | (go_at_call 50; (with_reducible refine Calls.mono (call_at 3 (fun L' h => HRS.out _ L' h) rfl hO) ?_); clear hO; rintro e u ⟨rfl, hO, hSn⟩; replace hS := hS.trans hSn; clear hSn; simp only [List.set_cons_zero, List.set_cons_succ] at hO) | (go_at_call 58; (with_reducible refine Calls.mono (call_at 0 (fun L' h => HES.out _ L' h) rfl hO) ?_); clear hO; rintro e u ⟨rfl, hO, hSn⟩; replace hS := hS.trans hSn; clear hSn; simp only [List.set_cons_zero, List.set_cons_succ] at hO) | (go_at_call 19; (with_reducible refine Calls.mono (HW.out.a _ _ p (own_order [0] hO rfl)) ?_); clear hO; rintro e u ⟨va, rfl, hO, hSn⟩; replace hS := hS.trans hSn; clear hSn) | (go_at_call 56; (with_reducible refine Calls.mono (HW.out.b _ _ q (own_order [2] hO rfl)) ?_); clear hO; rintro e u ⟨vb, rfl, hO, hSn⟩; replace hS := hS.trans hSn; clear hSn) | (go_at_call 20; (with_reducible refine Calls.mono (HD.out.a _ _ p (own_order [0] hO rfl)) ?_); clear hO; rintro e u ⟨da, rfl, hO, hSn⟩; replace hS := hS.trans hSn; clear hSn) | (go_at_call 57; (with_reducible refine Calls.mono (HD.out.b _ _ q (own_order [2] hO rfl)) ?_); clear hO; rintro e u ⟨db, rfl, hO, hSn⟩; replace hS := hS.trans hSn; clear hSn) | (go_at_call 52; (first | (with_reducible refine Calls.mono (rsame_yes _ _ va vb n W HN.out hO (fun w' h => rdA_rd (own_at h (k := 2) rfl)) (fun w' h => rdA_rd (own_at h (k := 0) rfl))) ?_) | (with_reducible refine Calls.mono (rsame_yes _ _ da db nd D HND.out hO (fun w' h => rdA_rd (own_at h (k := 2) rfl)) (fun w' h => rdA_rd (own_at h (k := 0) rfl))) ?_)); clear hO; rintro e u ⟨rfl, hO, hSn⟩; replace hS := hS.trans hSn; clear hSn; replace hO := own_sub (own_order [3, 1] hO rfl) (.cons_cons _ (.cons_cons _ (.cons _ (.cons _ (List.Sublist.refl _)))))) | (go_at_call 14; (with_reducible refine Calls.mono (call_at 0 (fun L' h => enext_c _ L' p E h) rfl hO) ?_); clear hO; rintro e u ⟨rfl, hO, hSn⟩; replace hS := hS.trans hSn; clear hSn; simp only [List.set_cons_zero, List.set_cons_succ] at hO) | (go_at_call 24; (with_reducible refine Calls.mono (call_at 1 (fun L' h => rnext_e _ L' q E h) rfl hO) ?_); clear hO; rintro e u ⟨rfl, hO, hSn⟩; replace hS := hS.trans hSn; clear hSn; simp only [List.set_cons_zero, List.set_cons_succ] at hO))
          go_ret
          exact ⟨rfl, hO, hS⟩
end
end Go.Proofs.YtlmkcnkidkoilaaGreat.H
