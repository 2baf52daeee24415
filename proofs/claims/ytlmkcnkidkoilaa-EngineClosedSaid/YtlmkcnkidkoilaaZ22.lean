/- The reference's graph: Has, Right, Closed. The plain law behind EngineBehind: what lasts has all that it comes behind. -/
import Derived.Test.YtlmkcnkidkoilaaZ19
import Derived.Test.YtlmkcnkidkoilaaZ21
set_option linter.unusedVariables false
set_option linter.unusedSimpArgs false
set_option maxRecDepth 100000
namespace Go.Proofs.Ytlmkcnkidkoilaa.H
open Go.RowKit
/-- Bools as cells. -/
def bvs (l : List Bool) : List Value := l.map fun b => Value.bool b
theorem bvs_set (l : List Bool) (i : Nat) (b : Bool) : (bvs l).toArray.setIfInBounds i (.bool b) = (bvs (l.set i b)).toArray := by
  simp [bvs, List.map_set]
theorem made_bvs (n : Nat) : madeCells #[.bool false] n = (bvs (List.replicate n false)).toArray := by
  rw [made_one]; simp [bvs]
theorem made_bvs1 (n : Nat) : madeCells (Value.bool false).cells (n * 1) = (bvs (List.replicate n false)).toArray := by rw [Nat.mul_one]; exact made_bvs n
theorem bvs_at {l : List Bool} {i : Nat} {b : Bool} (h : l[i]? = some b) : (bvs l).toArray[i]? = some (.bool b) := by
  simp [bvs, h]
theorem bvs_length (l : List Bool) : (bvs l).length = l.length := by simp [bvs]
/-- Those of some numbers are marked. -/
def marksL (n : Nat) (s : List Int) : List Bool := (List.range n).map fun i : Nat => s.contains (i : Int)
theorem marks_len (n : Nat) (s : List Int) : (marksL n s).length = n := by simp [marksL]
theorem marks_none (n : Nat) : marksL n [] = List.replicate n false := by
  refine List.ext_getElem? (fun i => ?_)
  by_cases h : i < n <;> simp [marksL, h]
theorem marks_at {n i : Nat} {s : List Int} (h : i < n) : (marksL n s)[i]? = some (s.contains (i : Int)) := by
  simp [marksL, h]
theorem marks_set (n j : Nat) (s : List Int) : (marksL n s).set j true = marksL n (s ++ [(j : Int)]) := by
  refine List.ext_getElem? (fun i => ?_)
  by_cases h : i < n
  · rw [marks_at h, List.getElem?_set]
    by_cases e : j = i
    · subst e
      rw [if_pos rfl, marks_len, if_pos h]
      simp
    · rw [if_neg e, marks_at h]
      have : ¬ ((i : Int) = (j : Int)) := by omega
      simp [this]
  · rw [List.getElem?_eq_none (by rw [List.length_set, marks_len]; omega), List.getElem?_eq_none (by rw [marks_len]; omega)]
/-- v reads as these slices of numbers. -/
structure DRd (w : World) (v : Value) (vs : List Value) (ds : List (List Int)) : Prop where
  rd : Rd w 1 v ds.length vs
  el : ∀ (k : Nat) (l : List Int), ds[k]? = some l → ∃ A c, vs[k]? = some (.slice A l.length c) ∧ Rd w 1 (.slice A l.length c) l.length (zs l)
theorem drd_at {w : World} {L : List HP} {VA : Option Addr} {n c : Nat} {vs : List Value} {ds : List (List Int)} (hr : ∀ w', Own w' L → DRd w' (.slice VA n c) vs ds) (hO : Own w L) {k : Nat} {l : List Int} (hk : ds[k]? = some l) :
    ∃ ad A cc, VA = some ad ∧ ∀ w', Own w' L → w'.cell? (ad.add k) = some (.slice A l.length cc) ∧ Rd w' 1 (.slice A l.length cc) l.length (zs l) := by
  have h0 := (hr w hO).rd
  obtain ⟨A, cc, e1, _⟩ := (hr w hO).el k l hk
  have hn : n = ds.length := by
    obtain ⟨A', c', e⟩ := h0.slice
    injection e
  subst hn
  obtain ⟨ad, rfl⟩ := h0.addr (by have := (List.getElem?_eq_some_iff.1 e1).1; omega)
  refine ⟨ad, A, cc, rfl, fun w' h' => ?_⟩
  have h1 : w'.cell? ((ad.add (k * 1)).add 0) = some (.slice A l.length cc) := (hr w' h').rd.cell (by rw [Nat.mul_one, Nat.add_zero]; exact e1)
  obtain ⟨A2, c2, e2, h2⟩ := (hr w' h').el k l hk
  rw [e1] at e2
  cases e2
  exact ⟨by rwa [addr_add, Nat.mul_one, Nat.add_zero] at h1, h2⟩
section
variable (w : World) (L : List HP)
theorem ghas_c (v : Value) (n : Nat) (l : List Int) (d : Int) {r : Bool} (hn : n = l.length) (hx : l.contains d = r) (hO : Own w L) (hr : ∀ w', Own w' L → Rd w' 1 v n (zs l)) : Calls Try.prog 12 #[v, .int .i64 d] w (Ret w (.bool r) L) := by
  subst hn
  have HR := Lib.hid hr
  have HX := Lib.hid hx
  have hS := Same.refl w
  obtain ⟨A, c, rfl⟩ := (hr w hO).slice
  have hmx := (hr w hO).max
  clear hr hx
  go_enter Try.func12, Try.ntmps12
  go_wp2
  go_loopw [5] (fun i wr => ∃ k : Nat, k ≤ l.length ∧ i = .int .i64 k ∧ Hid ((l.take k).contains d = false) ∧ Own wr L ∧ Same w wr) (fun i _ => l.length - (intOf i).toNat)
  case atStart => exact ⟨0, Nat.zero_le _, rfl, Lib.hid rfl, hO, hS⟩
  case round =>
    clear hO hS
    obtain ⟨k, hk, rfl, HNO, hO, hS⟩ := hrel
    by_cases hlt : k < l.length
    · obtain ⟨x, hx⟩ : ∃ y, l[k]? = some y := ⟨_, List.getElem?_eq_getElem hlt⟩
      obtain ⟨ad, rfl⟩ := (HR.out _ hO).addr (by unfold zs; rw [List.length_map]; omega)
      have HC := Lib.hid (zs_cell (HR.out _ hO) hx)
      have hm1 : (k : Int) < l.length := by omega
      by_cases he : x = d
      · have HT : Hid (r = true) := by
          show r = true
          rw [← HX.out]
          simp only [List.contains_eq_mem, decide_eq_true_eq]
          rw [← he]
          exact List.mem_of_getElem? hx
        clear hx
        subst he
        go_wp2_with (first | (refine own_load1_at (ad := ad.add k) (v := .int .i64 x) rfl rfl rfl row_int HC.out ?_))
        go_ret
        exact ⟨by rw [HT.out]; rfl, hO, hS⟩
      · have HNX : Hid ((l.take (k + 1)).contains d = false) := by
          show _ = _
          rw [List.take_add_one, hx]
          have h1 := HNO.out
          simp only [List.contains_eq_mem, decide_eq_false_iff_not, Option.toList_some, List.mem_append, List.mem_singleton, not_or] at h1 ⊢
          exact ⟨h1, fun e => he e.symm⟩
        have hne : (x == d) = false := by simpa using he
        clear hx he
        go_wp2_with (first | (refine own_load1_at (ad := ad.add k) (v := .int .i64 x) rfl rfl rfl row_int HC.out ?_))
        go_roundw
        case rel => exact ⟨k + 1, by omega, by go_num, HNX, hO, hS⟩
        case measure => simp [intOf]; omega
    · have hke : k = l.length := by omega
      subst hke
      have HF : Hid (r = false) := by
        show r = false
        rw [← HX.out]
        have := HNO.out
        rwa [List.take_length] at this
      go_wp2
      go_ret
      exact ⟨by rw [HF.out]; rfl, hO, hS⟩
set_option maxHeartbeats 800000 in
theorem gright_c (v : Value) (vs : List Value) (ds : List (List Int)) (hO : Own w L) (hr : ∀ w', Own w' L → DRd w' v vs ds) (h256 : ds.length ≤ 256) (hl : ∀ l ∈ ds, l.length ≤ 256) (hin : ∀ (k : Nat) (l : List Int), ds[k]? = some l → ∀ d ∈ l, 0 ≤ d ∧ d < (k : Int)) : Calls Try.prog 47 #[v] w (Ret w (.bool true) L) := by
  have HR := Lib.hid hr
  have HL := Lib.hid hl
  have HIN := Lib.hid hin
  have hS := Same.refl w
  obtain ⟨VA, vc, rfl⟩ := (hr w hO).rd.slice
  have hmx := (hr w hO).rd.max
  have hg : ¬ (256 < (ds.length : Int)) := by omega
  clear hr hl hin
  go_enter Try.func47, Try.ntmps47
  go_wp2
  go_loopw [3] (fun i wr => ∃ k : Nat, k ≤ ds.length ∧ i = .int .i64 k ∧ Own wr L ∧ Same w wr) (fun i _ => ds.length - (intOf i).toNat)
  case atStart => exact ⟨0, Nat.zero_le _, rfl, hO, hS⟩
  case round =>
    clear hO hS
    obtain ⟨k, hk, rfl, hO, hS⟩ := hrel
    by_cases hlt : k < ds.length
    · obtain ⟨l, hx⟩ : ∃ y, ds[k]? = some y := ⟨_, List.getElem?_eq_getElem hlt⟩
      obtain ⟨ad, A1, c1, e1, hat⟩ := drd_at HR.out hO hx
      subst e1
      have HAT := Lib.hid hat
      have hm1 : (k : Int) < ds.length := by omega
      have hll : l.length ≤ 256 := HL.out l (List.mem_of_getElem? hx)
      have hlg : ¬ (256 < (l.length : Int)) := by omega
      have HI := Lib.hid (HIN.out k l hx)
      clear hx hat
      go_wp2_with (first | (refine own_load1_at (ad := ad.add k) (v := .slice A1 l.length c1) rfl rfl rfl row_zs (HAT.out _ hO).1 ?_))
      go_loopw [4] (fun j wr => ∃ m : Nat, m ≤ l.length ∧ j = .int .i64 m ∧ Own wr L ∧ Same w wr) (fun j _ => l.length - (intOf j).toNat)
      case atStart => exact ⟨0, Nat.zero_le _, rfl, hO, hS⟩
      case round =>
        clear hO hS
        obtain ⟨m, hm, rfl, hO, hS⟩ := hrel
        by_cases hlt2 : m < l.length
        · obtain ⟨x, hx⟩ : ∃ y, l[m]? = some y := ⟨_, List.getElem?_eq_getElem hlt2⟩
          obtain ⟨ad2, e2⟩ := (HAT.out _ hO).2.addr (by unfold zs; rw [List.length_map]; omega)
          subst e2
          have HC := Lib.hid (zs_cell (HAT.out _ hO).2 hx)
          have hm2 : (m : Int) < l.length := by omega
          have hx0 := (HI.out x (List.mem_of_getElem? hx)).1
          have hxk := (HI.out x (List.mem_of_getElem? hx)).2
          have hg1 : ¬ (x < 0) := by omega
          have hg2 : ¬ ((k : Int) ≤ x) := by omega
          clear hx
          go_wp2_with (first | (refine own_load1_at (ad := ad.add k) (v := .slice (some ad2) l.length c1) rfl rfl rfl row_zs (HAT.out _ hO).1 ?_) | (refine own_load1_at (ad := ad2.add m) (v := .int .i64 x) rfl rfl rfl row_int HC.out ?_))
          go_roundw
          case rel => exact ⟨m + 1, by omega, by go_num, hO, hS⟩
          case measure => simp [intOf]; omega
        · have hme : m = l.length := by omega
          subst hme
          go_wp2_with (first | (refine own_load1_at (ad := ad.add k) (v := .slice A1 l.length c1) rfl rfl rfl row_zs (HAT.out _ hO).1 ?_))
          go_roundw
          case rel => exact ⟨k + 1, by omega, by go_num, hO, hS⟩
          case measure => simp [intOf]; omega
    · have hke : k = ds.length := by omega
      subst hke
      go_wp2
      go_ret
      exact ⟨rfl, hO, hS⟩
theorem row_bvs : isRowB Try.prog 85 = some false := by kernel_rfl
theorem row_bl : isRowB Try.prog 4 = some false := by kernel_rfl
theorem sz_bl : (Try.prog.info? 4).map (·.size) = some 1 := by kernel_rfl
theorem info_bl3 : (Try.prog.info? 4).map (fun i => (i.zero, i.size, i.bytes)) = some (some (.bool false), 1, 1) := by kernel_rfl
set_option maxHeartbeats 1600000 in
theorem gclosed_c (v : Value) (vs : List Value) (ds : List (List Int)) (sv : Value) (n : Nat) (set : List Int) (hn : n = set.length) (hO : Own w L) (hr : ∀ w', Own w' L → DRd w' v vs ds) (hs : ∀ w', Own w' L → Rd w' 1 sv n (zs set)) (h256 : ds.length ≤ 256) (hl : ∀ l ∈ ds, l.length ≤ 256) (hin : ∀ (k : Nat) (l : List Int), ds[k]? = some l → ∀ d ∈ l, 0 ≤ d ∧ d < (k : Int))
    (hset : ∀ d ∈ set, 0 ≤ d ∧ d < (ds.length : Int)) (hcl : ∀ (k : Nat) (l : List Int), ds[k]? = some l → (k : Int) ∈ set → ∀ d ∈ l, d ∈ set) : Calls Try.prog 13 #[v, sv] w (Ret w (.bool true) L) := by
  subst hn
  have HR := Lib.hid hr
  have HSR := Lib.hid hs
  have HL := Lib.hid hl
  have HIN := Lib.hid hin
  have HSET := Lib.hid hset
  have HCL := Lib.hid hcl
  have H256 := Lib.hid h256
  have hS := Same.refl w
  obtain ⟨VA, vc, rfl⟩ := (hr w hO).rd.slice
  have hmx := (hr w hO).rd.max
  obtain ⟨SA, sc, rfl⟩ := (hs w hO).slice
  have hmx2 := (hs w hO).max
  clear hr hs hl hin hset hcl
  go_enter Try.func13, Try.ntmps13
  go_wp2_with (first | (go_at_call 47; (with_reducible refine Calls.mono (gright_c _ _ (.slice VA ds.length vc) vs ds hO HR.out H256.out HL.out HIN.out) ?_); clear hO; rintro e u ⟨rfl, hO, hSn⟩; replace hS := hS.trans hSn; clear hSn) | (at_make; refine own_make (n := ds.length) rfl rfl rfl rfl Try.underlying85 info_bl3 (by have := H256.out; omega) (by have := H256.out; omega) (made_bvs1 ds.length) hO ?_; clear hO; intro g u hO hSn; replace hS := hS.trans hSn; clear hSn))
  rw [← marks_none] at hO
  go_loopw [6] (fun i wr => ∃ k : Nat, k ≤ set.length ∧ i = .int .i64 k ∧ Own wr (pts g (.cells (bvs (marksL ds.length (set.take k))).toArray 4) :: L) ∧ Same w wr) (fun i _ => set.length - (intOf i).toNat)
  case atStart => exact ⟨0, Nat.zero_le _, rfl, hO, hS⟩
  case round =>
    clear hO hS
    obtain ⟨k, hk, rfl, hO, hS⟩ := hrel
    by_cases hlt : k < set.length
    · obtain ⟨x, hx⟩ : ∃ y, set[k]? = some y := ⟨_, List.getElem?_eq_getElem hlt⟩
      obtain ⟨ad, e1⟩ := (HSR.out _ (own_drop hO)).addr (by unfold zs; rw [List.length_map]; omega)
      subst e1
      have hx0 := (HSET.out x (List.mem_of_getElem? hx)).1
      have hxn := (HSET.out x (List.mem_of_getElem? hx)).2
      obtain ⟨j, rfl⟩ : ∃ j : Nat, x = (j : Int) := ⟨x.toNat, by omega⟩
      have HC := Lib.hid (zs_cell (HSR.out _ (own_drop hO)) hx)
      have hm1 : (k : Int) < set.length := by omega
      have hg1 : ¬ ((j : Int) < 0) := by omega
      have hg2 : ¬ ((ds.length : Int) ≤ (j : Int)) := by omega
      have HNX : Hid (bvs ((marksL ds.length (set.take k)).set j true) = bvs (marksL ds.length (set.take (k + 1)))) := by
        show _ = _
        rw [marks_set, List.take_add_one, hx]
        rfl
      have HFIT : Hid (j < (bvs (marksL ds.length (set.take k))).toArray.size) := by
        show _ < _
        rw [List.size_toArray, bvs_length, marks_len]
        omega
      clear hx
      go_wp2_with (first | (refine own_load1_at (ad := ad.add k) (v := .int .i64 j) rfl rfl rfl row_int HC.out ?_) | (refine own_store1 (k := 0) (b := g) (off := j) rfl rfl rfl rfl sz_bl hO rfl rfl HFIT.out (bvs_set _ _ _) ?_; clear hO; intro u hO hSn; replace hS := hS.trans hSn; clear hSn; simp only [List.set_cons_zero] at hO))
      go_roundw
      case rel => exact ⟨k + 1, by omega, by go_num, by rw [← HNX.out]; exact hO, hS⟩
      case measure => simp [intOf]; omega
    · have hke : k = set.length := by omega
      subst hke
      rw [List.take_length] at hO
      have hmn : ds.length ≤ 256 := H256.out
      go_wp2
      go_loopw [7] (fun i wr => ∃ k : Nat, k ≤ ds.length ∧ i = .int .i64 k ∧ Own wr (pts g (.cells (bvs (marksL ds.length set)).toArray 4) :: L) ∧ Same w wr) (fun i _ => ds.length - (intOf i).toNat)
      case atStart => exact ⟨0, Nat.zero_le _, rfl, hO, hS⟩
      case round =>
        clear hO hS
        obtain ⟨k, hk, rfl, hO, hS⟩ := hrel
        by_cases hlt : k < ds.length
        · obtain ⟨l, hx⟩ : ∃ y, ds[k]? = some y := ⟨_, List.getElem?_eq_getElem hlt⟩
          obtain ⟨ad, A1, c1, e1, hat⟩ := drd_at HR.out (own_drop hO) hx
          subst e1
          have HAT := Lib.hid hat
          have hm1 : (k : Int) < ds.length := by omega
          have hll : l.length ≤ 256 := HL.out l (List.mem_of_getElem? hx)
          have HI := Lib.hid (HIN.out k l hx)
          have HCK := Lib.hid (HCL.out k l hx)
          clear hx hat
          go_wp2
          go_loopw [8] (fun j wr => ∃ m : Nat, m ≤ l.length ∧ j = .int .i64 m ∧ Own wr (pts g (.cells (bvs (marksL ds.length set)).toArray 4) :: L) ∧ Same w wr) (fun j _ => l.length - (intOf j).toNat)
          case atStart => exact ⟨0, Nat.zero_le _, rfl, hO, hS⟩
          case round =>
            clear hO hS
            obtain ⟨m, hm, rfl, hO, hS⟩ := hrel
            by_cases hlt2 : m < l.length
            · obtain ⟨x, hx⟩ : ∃ y, l[m]? = some y := ⟨_, List.getElem?_eq_getElem hlt2⟩
              obtain ⟨ad2, e2⟩ := (HAT.out _ (own_drop hO)).2.addr (by unfold zs; rw [List.length_map]; omega)
              subst e2
              have hx0 := (HI.out x (List.mem_of_getElem? hx)).1
              have hxk := (HI.out x (List.mem_of_getElem? hx)).2
              obtain ⟨j, rfl⟩ : ∃ j : Nat, x = (j : Int) := ⟨x.toNat, by omega⟩
              have HC := Lib.hid (zs_cell (HAT.out _ (own_drop hO)).2 hx)
              have hm2 : (m : Int) < l.length := by omega
              have hjn : j < ds.length := by omega
              have hjn2 : (j : Int) < ds.length := by omega
              have HBK : Hid ((bvs (marksL ds.length set)).toArray[k]? = some (.bool (set.contains (k : Int)))) := bvs_at (marks_at hlt)
              have HBJ : Hid ((bvs (marksL ds.length set)).toArray[j]? = some (.bool (set.contains (j : Int)))) := bvs_at (marks_at hjn)
              have himp : set.contains (k : Int) = true → set.contains (j : Int) = true := fun h => by
                simp only [List.contains_eq_mem, decide_eq_true_eq] at h ⊢
                exact HCK.out h _ (List.mem_of_getElem? hx)
              clear hx
              cases hb : set.contains (k : Int) with
              | true =>
                have hb2 := himp hb
                rw [hb] at HBK
                rw [hb2] at HBJ
                clear himp hb hb2
                go_wp2_with (first | (refine own_load1_at (ad := ad.add k) (v := .slice (some ad2) l.length c1) rfl rfl rfl row_zs (HAT.out _ (own_drop hO)).1 ?_) | (refine own_load1_at (ad := ad2.add m) (v := .int .i64 j) rfl rfl rfl row_int HC.out ?_) | (refine own_load1 (b := g) (off := k) (t := 4) (v := .bool true) rfl rfl rfl row_bl (own_get 0 hO rfl) HBK.out ?_) | (refine own_load1 (b := g) (off := j) (t := 4) (v := .bool true) rfl rfl rfl row_bl (own_get 0 hO rfl) HBJ.out ?_))
                go_roundw
                case rel => exact ⟨m + 1, by omega, by go_num, hO, hS⟩
                case measure => simp [intOf]; omega
              | false =>
                rw [hb] at HBK
                clear himp hb
                go_wp2_with (first | (refine own_load1_at (ad := ad.add k) (v := .slice (some ad2) l.length c1) rfl rfl rfl row_zs (HAT.out _ (own_drop hO)).1 ?_) | (refine own_load1 (b := g) (off := k) (t := 4) (v := .bool false) rfl rfl rfl row_bl (own_get 0 hO rfl) HBK.out ?_))
                go_roundw
                case rel => exact ⟨m + 1, by omega, by go_num, hO, hS⟩
                case measure => simp [intOf]; omega
            · have hme : m = l.length := by omega
              subst hme
              go_wp2_with (first | (refine own_load1_at (ad := ad.add k) (v := .slice A1 l.length c1) rfl rfl rfl row_zs (HAT.out _ (own_drop hO)).1 ?_))
              go_roundw
              case rel => exact ⟨k + 1, by omega, by go_num, hO, hS⟩
              case measure => simp [intOf]; omega
        · have hke : k = ds.length := by omega
          subst hke
          go_wp2
          go_ret
          exact ⟨rfl, own_drop hO, hS⟩
end
end Go.Proofs.Ytlmkcnkidkoilaa.H
set_option linter.unusedVariables false
set_option linter.unusedSimpArgs false
namespace Go.Proofs.Ytlmkcnkidkoilaa.H
open Go.RowKit
/-- What is said of each number: what it must come behind. -/
structure Beh (ds : List (List Int)) (E : Eng) : Prop where
  next : E.next = ds.length
  right : ∀ (n : Nat) (l : List Int), ds[n]? = some l → ∀ d ∈ l, 0 ≤ d ∧ d < (n : Int)
  up : ∀ (n : Nat) (l : List Int), ds[n]? = some l → (n : Int) ∉ wnums E.l → ∀ d ∈ l, d ∉ wnums E.l
  link : ∀ x ∈ E.l, ∀ l, ds[x.n]? = some l → ∀ d ∈ l, d ∈ x.beh
theorem Beh.fresh (m : List Blk) : Beh [] ⟨m, [], fun _ => [], 0⟩ :=
  ⟨rfl, fun n l h => by simp at h, fun n l h => by simp at h, fun x hx => (by cases hx)⟩
theorem write_l (E : Eng) (i : Nat) : (E.writeM i).2.l = E.l := by
  rcases write_cases E i with h | ⟨b, _, _, _, _, h⟩ <;> rw [h]
theorem write_next (E : Eng) (i : Nat) : (E.writeM i).2.next = E.next := by
  rcases write_cases E i with h | ⟨b, _, _, _, _, h⟩ <;> rw [h]
theorem write_len (E : Eng) (i : Nat) : (E.writeM i).2.m.length = E.m.length := by
  rcases write_cases E i with h | ⟨b, _, _, _, _, h⟩ <;> rw [h]
  exact List.length_set
theorem flushed_len (E : Eng) : E.flushed.m.length = E.m.length := by
  show (crashL allV 0 E.m).length = _
  rw [crashL_len]
theorem Beh.write {ds : List (List Int)} {E : Eng} (h : Beh ds E) (i : Nat) : Beh ds (E.writeM i).2 :=
  ⟨by rw [write_next]; exact h.next, h.right, by rw [write_l]; exact h.up, by rw [write_l]; exact h.link⟩
theorem wnums_filter_sub {l : List Wt} {f : Wt → Bool} {d : Int} (h : d ∈ wnums (l.filter f)) : d ∈ wnums l := by
  obtain ⟨x, hx, e⟩ := List.mem_map.1 h
  exact List.mem_map.2 ⟨x, List.filter_sublist.subset hx, e⟩
theorem Beh.flushed {ds : List (List Int)} {E : Eng} (h : Beh ds E) (hI : E.Inv) (hA : E.Ok) : Beh ds E.flushed := by
  refine ⟨h.next, h.right, fun n l hl hn d hd hw => ?_, fun x hx l hl => h.link x (List.filter_sublist.subset hx) l hl⟩
  have hn : (n : Int) ∉ wnums (E.l.filter fun x => !inAny E.m.length E.s x.n) := hn
  have hw : d ∈ wnums (E.l.filter fun x => !inAny E.m.length E.s x.n) := hw
  have hwl := wnums_filter_sub hw
  by_cases h1 : (n : Int) ∈ wnums E.l
  · obtain ⟨x, hx, e⟩ := List.mem_map.1 h1
    have e : (x.n : Int) = n := e
    have e2 : x.n = n := by omega
    subst e2
    have h2 : inAny E.m.length E.s x.n = true := by
      cases h3 : inAny E.m.length E.s x.n with
      | true => rfl
      | false => exact absurd (List.mem_map.2 ⟨x, List.mem_filter.2 ⟨hx, by rw [h3]; rfl⟩, rfl⟩) hn
    unfold inAny at h2
    obtain ⟨i, hi, h4⟩ := List.any_eq_true.1 h2
    have h5 := hI.closed i x hx (by simpa using h4) d (h.link x hx l hl d hd) hwl
    obtain ⟨y, hy, e3⟩ := List.mem_map.1 hw
    have e3 : (y.n : Int) = d := e3
    have h6 := (List.mem_filter.1 hy).2
    have h7 : inAny E.m.length E.s y.n = true := by
      unfold inAny
      exact List.any_eq_true.2 ⟨i, hi, by rw [e3]; simpa using h5⟩
    have h6 : (!inAny E.m.length E.s (y.n : Int)) = true := h6
    rw [h7] at h6
    cases h6
  · exact h.up n l hl h1 d hd hwl
theorem Beh.add1 {ds : List (List Int)} {E : Eng} (h : Beh ds E) (hA : E.Ok) (first : Nat) (x : It) (hx : ∀ d ∈ x.deps, 0 ≤ d ∧ d < (E.next : Int)) : Beh (ds ++ [x.deps]) (E.add1 first x) := by
  have hw : wnums (E.add1 first x).l = wnums E.l ++ [(E.next : Int)] := by
    show wnums (E.l ++ [_]) = _
    unfold wnums
    rw [List.map_append]
    rfl
  have hold : ∀ (n : Nat) (l : List Int), (ds ++ [x.deps])[n]? = some l → (n < ds.length ∧ ds[n]? = some l) ∨ (n = E.next ∧ l = x.deps) := fun n l hl => by
    by_cases hn : n < ds.length
    · rw [List.getElem?_append_left hn] at hl
      exact .inl ⟨hn, hl⟩
    · rw [List.getElem?_append_right (by omega)] at hl
      have h1 := (List.getElem?_eq_some_iff.1 hl).1
      rw [List.length_singleton] at h1
      have e : n - ds.length = 0 := by omega
      rw [e] at hl
      have e2 : x.deps = l := by simpa using hl
      exact .inr ⟨by rw [h.next]; omega, e2.symm⟩
  refine ⟨?_, fun n l hl => ?_, fun n l hl hn d hd hd2 => ?_, fun y hy l hl d hd => ?_⟩
  · show E.next + 1 = _
    rw [List.length_append, List.length_singleton, h.next]
  · rcases hold n l hl with ⟨_, h1⟩ | ⟨rfl, rfl⟩
    · exact h.right n l h1
    · exact hx
  · rw [hw] at hn hd2
    rcases hold n l hl with ⟨h0, h1⟩ | ⟨rfl, rfl⟩
    · rcases List.mem_append.1 hd2 with hd2 | hd2
      · exact h.up n l h1 (fun hh => hn (List.mem_append_left _ hh)) d hd hd2
      · have h2 := (h.right n l h1 d hd).2
        have h3 := List.mem_singleton.1 hd2
        rw [h.next] at h3
        omega
    · exact hn (List.mem_append_right _ (List.mem_singleton.2 rfl))
  · have hy : y ∈ E.l ++ [_] := hy
    rcases List.mem_append.1 hy with hy | hy
    · rcases hold y.n l hl with ⟨h0, h1⟩ | ⟨h0, _⟩
      · exact h.link y hy l h1 d hd
      · have := hA.lt y hy
        omega
    · rw [List.mem_singleton.1 hy] at hl ⊢
      rcases hold E.next l hl with ⟨h0, _⟩ | ⟨_, rfl⟩
      · rw [h.next] at h0; omega
      · refine List.mem_append_left _ (List.mem_map.2 ⟨d, hd, ?_⟩)
        unfold Eng.depOf
        rw [if_neg (by have := (hx d hd).1; omega)]
/-- Those that last. -/
def doneL (ds : List (List Int)) (E : Eng) : List Nat := (List.range ds.length).filter fun n : Nat => !(wnums E.l).contains (n : Int)
theorem Beh.closed {ds : List (List Int)} {E : Eng} (h : Beh ds E) {n : Nat} {l : List Int} (hl : ds[n]? = some l) (hn : n ∈ doneL ds E) {d : Int} (hd : d ∈ l) : d.toNat ∈ doneL ds E ∧ 0 ≤ d ∧ d < (n : Int) := by
  have h1 := (List.mem_filter.1 hn).2
  have h2 := h.right n l hl d hd
  have h3 := (List.getElem?_eq_some_iff.1 hl).1
  have h4 := h.up n l hl (by simpa using h1) d hd
  refine ⟨List.mem_filter.2 ⟨List.mem_range.2 (by omega), ?_⟩, h2⟩
  have e : ((d.toNat : Nat) : Int) = d := Int.toNat_of_nonneg h2.1
  rw [e]
  simpa using h4
end Go.Proofs.Ytlmkcnkidkoilaa.H
