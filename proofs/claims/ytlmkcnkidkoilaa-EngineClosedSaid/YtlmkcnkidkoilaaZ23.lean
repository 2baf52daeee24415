/- EngineBehind's walk. -/
import Derived.Test.YtlmkcnkidkoilaaZ21
import Derived.Test.YtlmkcnkidkoilaaZ22
set_option linter.unusedVariables false
set_option linter.unusedSimpArgs false
set_option maxRecDepth 100000
namespace Go.Proofs.Ytlmkcnkidkoilaa.H
open Go.RowKit
/-- Slices of numbers, as they lie in memory. -/
structure DOk (vs : List Value) (ds : List (List Int)) (g : List RdI) : Prop where
  len : vs.length = ds.length
  el : ∀ (k : Nat) (l : List Int), ds[k]? = some l → ∃ A c, vs[k]? = some (.slice A l.length c) ∧ (⟨1, .slice A l.length c, l.length, zs l⟩ : RdI) ∈ g
def depsP (v : Value) (ds : List (List Int)) : HP := ex fun vs => ex fun g => sep (pur (DOk vs ds g)) (seps [owns 31 1 v ds.length vs, rdG g])
theorem deps_open {w : World} {L : List HP} {v : Value} {ds : List (List Int)} : Own w (depsP v ds :: L) ↔ ∃ vs g, DOk vs ds g ∧ Own w (owns 31 1 v ds.length vs :: rdG g :: L) := by
  unfold depsP
  simp only [own_ex, own_sep, own_pur, own_seps, List.cons_append, List.nil_append]
theorem deps_none {w : World} {L : List HP} (h : Own w L) : Own w (depsP (.slice none 0 0) [] :: L) :=
  deps_open.2 ⟨[], [], ⟨rfl, fun k l hk => by simp at hk⟩, owns_nil (rdG_none h)⟩
theorem deps_slice {w : World} {L : List HP} {v : Value} {ds : List (List Int)} (h : Own w (depsP v ds :: L)) : ∃ A c, v = .slice A ds.length c := by
  obtain ⟨vs, g, _, h⟩ := deps_open.1 h
  exact (owns_rd h).slice
theorem deps_rd {w : World} {L : List HP} {v : Value} {ds : List (List Int)} {vs : List Value} {g : List RdI} (hd : DOk vs ds g) (h : Own w (owns 31 1 v ds.length vs :: rdG g :: L)) : DRd w v vs ds :=
  ⟨owns_rd h, fun k l hk => by
    obtain ⟨A, c, e, hm⟩ := hd.el k l hk
    exact ⟨A, c, e, rdG_rd (own_drop h) hm⟩⟩
/-- One more. -/
theorem deps_more {w : World} {L : List HP} {v' : Value} {ds : List (List Int)} {vs : List Value} {g : List RdI} {A : Option Addr} {c : Nat} {l : List Int} (hd : DOk vs ds g) (h : Own w (owns 31 1 v' (ds.length + 1) (vs ++ [.slice A l.length c]) :: owns 3 1 (.slice A l.length c) l.length (zs l) :: rdG g :: L)) : Own w (depsP v' (ds ++ [l]) :: L) := by
  refine deps_open.2 ⟨vs ++ [.slice A l.length c], ⟨1, .slice A l.length c, l.length, zs l⟩ :: g, ⟨by simp [hd.len], fun k m hk => ?_⟩, ?_⟩
  · by_cases h1 : k < ds.length
    · rw [List.getElem?_append_left h1] at hk
      obtain ⟨A', c', e, hm⟩ := hd.el k m hk
      exact ⟨A', c', by rw [List.getElem?_append_left (by rw [hd.len]; exact h1)]; exact e, List.mem_cons_of_mem _ hm⟩
    · rw [List.getElem?_append_right (by omega)] at hk
      have h2 := (List.getElem?_eq_some_iff.1 hk).1
      rw [List.length_singleton] at h2
      have e : k - ds.length = 0 := by omega
      rw [e] at hk
      have e2 : l = m := by simpa using hk
      subst e2
      exact ⟨A, c, by rw [List.getElem?_append_right (by rw [hd.len]; omega), hd.len, e]; rfl, List.mem_cons_self ..⟩
  · have e : (ds ++ [l]).length = ds.length + 1 := by simp
    rw [e]
    exact own_swap (rdG_owns (own_order [1, 1] h rfl))
/-- One item, behind numbers that there are. -/
theorem addM_one {E : Eng} {x : It} (hd : ∀ d ∈ x.deps, 0 ≤ d ∧ d < (E.next : Int)) (hl : E.l.length < 200) : (E.formB [x] = true ∧ E.addM [x] = ((0, 3), E)) ∨ (E.formB [x] = false ∧ E.addM [x] = (((E.next : Int), 0), E.add1 E.next x)) := by
  have hr : E.rangeB [x] = false := by
    unfold Eng.rangeB
    simp only [List.zipIdx_cons, List.zipIdx_nil, List.any_cons, List.any_nil, Bool.or_false]
    unfold Eng.depB
    rw [List.any_eq_false]
    intro d h
    have := hd d h
    simp only [Bool.or_eq_true, decide_eq_true_eq, not_or]
    omega
  unfold Eng.addM
  cases hf : E.formB [x] with
  | true => exact .inl ⟨rfl, by rw [if_pos rfl]⟩
  | false =>
    refine .inr ⟨rfl, ?_⟩
    rw [if_neg (by simp), hr, if_neg (by simp), if_neg (by simp; omega)]
    rfl
/-- What is true of the engine and the numbers behind some items. -/
structure Bk (k : Nat) (E : Eng) (ds : List (List Int)) : Prop where
  beh : Beh ds E
  ok : E.Ok
  inv : E.Inv
  vl : Vl 0 E
  next : E.next ≤ k
  len : E.l.length ≤ k
  m5 : E.m.length = 5
  six : ∀ l ∈ ds, l.length ≤ 6
theorem Bk.fresh : Bk 0 (eng0 5) [] := ⟨Beh.fresh _, eng0_ok 5 (by decide), eng0_inv 5, Vl.fresh0 0 5, Nat.zero_le _, Nat.zero_le _, by show (crashL allV 0 _).length = 5; rw [crashL_len]; simp, fun l h => by cases h⟩
theorem Bk.mono {k k' : Nat} {E : Eng} {ds : List (List Int)} (h : Bk k E ds) (hk : k ≤ k') : Bk k' E ds := ⟨h.beh, h.ok, h.inv, h.vl, Nat.le_trans h.next hk, Nat.le_trans h.len hk, h.m5, h.six⟩
theorem Bk.add {k : Nat} {E : Eng} {ds : List (List Int)} (h : Bk k E ds) (hk : k ≤ 20) {x : It} (hd : ∀ d ∈ x.deps, 0 ≤ d ∧ d < (ds.length : Int)) (h6 : x.deps.length ≤ 6) (hf : E.addM [x] = (((E.next : Int), 0), E.add1 E.next x)) : Bk (k + 1) (E.add1 E.next x) (ds ++ [x.deps]) := by
  have hn := h.next
  have hl := h.len
  have hok := addM_ok h.ok h.inv (l := [x]) (fun y hy => by rw [List.mem_singleton.1 hy]; omega) (by rw [List.length_singleton]; omega)
  rw [hf] at hok
  refine ⟨h.beh.add1 h.ok E.next x (fun d hh => by rw [h.beh.next]; exact hd d hh), hok.1, hok.2, h.vl, by show E.next + 1 ≤ k + 1; omega, by show (E.l ++ [_]).length ≤ k + 1; rw [List.length_append, List.length_singleton]; omega, h.m5, fun l hl => ?_⟩
  rcases List.mem_append.1 hl with hl | hl
  · exact h.six l hl
  · rw [List.mem_singleton.1 hl]; exact h6
theorem pat_of_item {x : It} {v u : Value} {j : Nat} (h : [Value.int .i64 x.p.blk, .int .i64 x.p.off, .string x.p.dat][j]? = some u) : (Iv.cells (x, v))[j]? = some u := by
  rcases j with _ | _ | _ | j
  · exact h
  · exact h
  · exact h
  · simp at h
theorem own_fl {w : World} {L : List HP} {A : HP} {v : Value} {fl : List Int} {q : Int} (h : Own w (owns 3 1 v (fl.length + 1) (zs fl ++ [.int .i64 q]) :: A :: L)) : Own w (owns 3 1 v (fl ++ [q]).length (zs (fl ++ [q])) :: L) := by
  have e1 : (fl ++ [q]).length = fl.length + 1 := by simp
  have e2 : zs (fl ++ [q]) = zs fl ++ [.int .i64 q] := by simp [zs, encZ]
  rw [e1, e2]
  exact own_drop (own_swap h)
/-- What is true behind some Writes. -/
structure Wk (i : Nat) (E : Eng) (ds : List (List Int)) : Prop where
  beh : Beh ds E
  ok : E.Ok
  inv : E.Inv
  vl : Vl i E
  m5 : E.m.length = 5
  six : ∀ l ∈ ds, l.length ≤ 6
  few : ds.length ≤ 20
theorem Wk.start {k : Nat} {E : Eng} {ds : List (List Int)} (h : Bk k E ds) (hk : k ≤ 20) : Wk 0 E ds := ⟨h.beh, h.ok, h.inv, h.vl, h.m5, h.six, by have h1 := h.beh.next; have h2 := h.next; omega⟩
theorem Wk.write {i : Nat} {E : Eng} {ds : List (List Int)} (h : Wk i E ds) (q : Nat) : Wk (i + 1) (E.writeM q).2 ds := ⟨h.beh.write q, h.ok.write q, h.inv.write h.ok q, h.vl.write q, by rw [write_len]; exact h.m5, h.six, h.few⟩
theorem Wk.flushed {i : Nat} {E : Eng} {ds : List (List Int)} (h : Wk i E ds) : Wk i E.flushed ds := ⟨h.beh.flushed h.inv h.ok, h.ok.flushed, h.inv.flushed h.ok, Vl.flushed i, by rw [flushed_len]; exact h.m5, h.six, h.few⟩
theorem bcs_cell1 {w : World} {ad : Addr} {n c k : Nat} {l : List UInt8} {x : UInt8} (h : Rd w 1 (.slice (some ad) n c) n (bcs l)) (hx : l[k]? = some x) : w.cell? (ad.add k) = some (.int .u8 (x.toNat : Int)) := by
  have h1 : w.cell? ((ad.add (k * 1)).add 0) = some (.int .u8 (x.toNat : Int)) := h.cell (by rw [Nat.mul_one, Nat.add_zero]; unfold bcs; rw [List.getElem?_map, hx]; rfl)
  rwa [addr_add, Nat.mul_one, Nat.add_zero] at h1
/-- Those of the first numbers that do not wait. -/
def doneZ (E : Eng) (j : Nat) : List Int := ((List.range j).filter fun n : Nat => !(wnums E.l).contains (n : Int)).map fun n : Nat => (n : Int)
theorem doneZ_next (E : Eng) (j : Nat) {r : Bool} (h : (wnums E.l).contains (j : Int) = r) : doneZ E (j + 1) = doneZ E j ++ (if r then [] else [(j : Int)]) := by
  unfold doneZ
  rw [List.range_succ, List.filter_append, List.map_append]
  have e : List.filter (fun n : Nat => !(wnums E.l).contains (n : Int)) [j] = if r then [] else [j] := by
    rw [List.filter_cons, h]
    cases r <;> rfl
  rw [e]
  cases r <;> rfl
theorem doneZ_len (E : Eng) (j : Nat) : (doneZ E j).length ≤ j := by
  unfold doneZ
  rw [List.length_map]
  have := List.length_filter_le (fun n : Nat => !(wnums E.l).contains (n : Int)) (List.range j)
  rwa [List.length_range] at this
theorem doneZ_mem {ds : List (List Int)} {E : Eng} {n : Nat} : (n : Int) ∈ doneZ E ds.length ↔ n ∈ doneL ds E := by
  unfold doneZ doneL
  rw [List.mem_map]
  constructor
  · rintro ⟨m, hm, e⟩
    have : m = n := by omega
    subst this
    exact hm
  · exact fun h => ⟨n, h, rfl⟩
theorem info_zs3 : (Try.prog.info? 31).map (fun i => (i.zero, i.size, i.bytes)) = some (some (.slice none 0 0), 1, 24) := by kernel_rfl
section
variable (w : World) (L : List HP)
set_option maxHeartbeats 6400000 in
theorem behind_walk (v : Value) (n : Nat) (is : List Iv) (B : Option Addr) (nb cb : Nat) (ws : List UInt8) (hn : n = is.length) (hnb : nb = ws.length) (hO : Own w L) (hrd : ∀ w', Own w' L → Rd w' 4 v n (cellsI is)) (hdep : ∀ x ∈ is, ∃ A c, x.2 = .slice A x.1.deps.length c ∧ ∀ w', Own w' L → Rd w' 1 (.slice A x.1.deps.length c) x.1.deps.length (zs x.1.deps)) (hw : ∀ w', Own w' L → Rd w' 1 (.slice B nb cb) nb (bcs ws)) :
    Calls Try.prog 3 #[v, .slice B nb cb] w (Ret w (.bool true) L) := by
  subst hn
  subst hnb
  have HRD := Lib.hid hrd
  have HDEP := Lib.hid hdep
  have HW := Lib.hid hw
  have hS := Same.refl w
  obtain ⟨VA, vc, rfl⟩ := (hrd w hO).slice
  have hmx := (hrd w hO).max
  have hmxw := (hw w hO).max
  clear hrd hdep hw
  go_enter Try.func3, Try.ntmps3
  go_wp2_with (first | (go_at_call 7; (with_reducible refine Calls.mono (new_ok _ _ 5 hO (by decide) (by decide)) ?_); clear hO; rintro e u ⟨dd, rfl, hO, hSn⟩; replace hS := hS.trans hSn; clear hSn) | (go_at_call 6; (with_reducible refine Calls.mono (enew_c _ _ dd _ hO (by decide) (by decide)) ?_); clear hO; rintro e u ⟨e, rfl, hO, hSn⟩; replace hS := hS.trans hSn; clear hSn))
  have hO : Own u (engP e (eng0 5) :: L) := own_drop (own_swap hO)
  have hO := deps_none hO
  go_loopw [6, 7] (fun dv iv wr => ∃ (k : Nat) (E : Eng) (ds : List (List Int)), k ≤ is.length ∧ k ≤ 20 ∧ iv = .int .i64 k ∧ Hid (Bk k E ds) ∧ Own wr (depsP dv ds :: engP e E :: L) ∧ Same w wr) (fun _ iv _ => is.length - (intOf iv).toNat)
  case atStart => exact ⟨0, eng0 5, [], Nat.zero_le _, Nat.zero_le _, rfl, Bk.fresh, hO, hS⟩
  case round =>
    clear hO hS
    obtain ⟨k, E, ds, hk, hk20, rfl, HB, hO, hS⟩ := hrel
    by_cases hlt : k < is.length ∧ k < 20
    · obtain ⟨hlt, hk2⟩ := hlt
      obtain ⟨⟨x, xv⟩, hx⟩ : ∃ y, is[k]? = some y := ⟨_, List.getElem?_eq_getElem hlt⟩
      obtain ⟨DA, dc, e2, hdr⟩ := HDEP.out _ (List.mem_of_getElem? hx)
      have e2 : xv = .slice DA x.deps.length dc := e2
      subst e2
      have HDR : Hid (∀ w', Own w' L → Rd w' 1 (.slice DA x.deps.length dc) x.deps.length (zs x.deps)) := hdr
      have hL := own_drop (own_drop hO)
      obtain ⟨ad, e1⟩ := (HRD.out _ hL).addr (by rw [cellsI_length]; omega)
      subst e1
      have HCI : Hid (∀ w', Own w' L → ∀ (j : Nat) (u : Value), (Iv.cells (x, .slice DA x.deps.length dc))[j]? = some u → w'.cell? ((ad.add (k * 4)).add j) = some u) := Lib.hid fun w' h => item_cells (HRD.out w' h) hx
      have hm1 : (k : Int) < is.length := by omega
      have hm2 : (k : Int) < 20 := by omega
      obtain ⟨DV, dvc, e3⟩ := deps_slice hO
      subst e3
      have hdl : ds.length ≤ 20 := by have h1 := HB.out.beh.next; have h2 := HB.out.next; omega
      clear hx hdr hL
      go_upto_region 7 with (first | (refine own_loadrow_at (ad := ad.add (k * 4)) (vs := [.int .i64 x.p.blk, .int .i64 x.p.off, .string x.p.dat]) rfl rfl rfl row_pat sz_pat rfl (fun j u hu => HCI.out _ (own_drop (own_drop hO)) j u (pat_of_item hu)) ?_) | (refine own_alloc (T := 33) (cs := #[.int .i64 0, .int .i64 0, .string ⟨#[]⟩, .slice none 0 0]) rfl rfl zero_item rfl hO ?_; clear hO; intro gx u hO hSn; replace hS := hS.trans hSn; clear hSn) | (refine own_store_all (k := 0) (b := gx) (vs := #[.int .i64 x.p.blk, .int .i64 x.p.off, .string x.p.dat, .slice none 0 0]) rfl rfl rfl rfl sz_item hO rfl rfl rfl rfl ?_; clear hO; intro u hO hSn; replace hS := hS.trans hSn; clear hSn; simp only [List.set_cons_zero] at hO))
      have hO := owns_nil (e := 3) (size := 1) hO
      go_wp2
      go_loopw [9] (fun jv wr => ∃ (j : Nat) (vb : Value) (fl : List Int), j ≤ x.deps.length ∧ j ≤ 6 ∧ jv = .int .i64 j ∧ fl.length ≤ j ∧ Hid (∀ d ∈ fl, 0 ≤ d ∧ d < (ds.length : Int)) ∧ Own wr (owns 3 1 vb fl.length (zs fl) :: pts gx (.cells #[.int .i64 x.p.blk, .int .i64 x.p.off, .string x.p.dat, vb] 33) :: depsP (.slice DV ds.length dvc) ds :: engP e E :: L) ∧ Same w wr) (fun jv _ => x.deps.length - (intOf jv).toNat)
      case atStart => exact ⟨0, _, [], Nat.zero_le _, Nat.zero_le _, rfl, Nat.zero_le _, Lib.hid (fun d hd => by cases hd), hO, hS⟩
      case round =>
        clear hO hS
        obtain ⟨j, vb, fl, hj, hj6, rfl, hfl, HFL, hO, hS⟩ := hrel
        have hL : Own wr L := own_drop (own_drop (own_drop (own_drop hO)))
        by_cases hlt2 : j < x.deps.length ∧ j < 6
        · obtain ⟨hlt2, hj62⟩ := hlt2
          obtain ⟨q, hq⟩ : ∃ q, x.deps[j]? = some q := ⟨_, List.getElem?_eq_getElem hlt2⟩
          obtain ⟨ad2, hda⟩ := (HDR.out _ hL).addr (by unfold zs; rw [List.length_map]; omega)
          subst hda
          have HC := Lib.hid (HCI.out _ hL 3 _ rfl)
          have HCL := Lib.hid (zs_cell (HDR.out _ hL) hq)
          have hm3 : (j : Int) < x.deps.length := by omega
          have hm4 : (j : Int) < 6 := by omega
          have hxd : x.deps.length ≤ 9223372036854775807 := by have := (HDR.out _ hL).max; omega
          have HBL : Hid (fl.length ≤ 1000000) := by show _ ≤ _; omega
          clear hq hL
          by_cases hq0 : 0 ≤ q
          · by_cases hqn : q < (ds.length : Int)
            · have HFN : Hid (∀ d ∈ fl ++ [q], 0 ≤ d ∧ d < (ds.length : Int)) := Lib.hid fun d hd => by
                rcases List.mem_append.1 hd with hd | hd
                · exact HFL.out d hd
                · rw [List.mem_singleton.1 hd]; exact ⟨hq0, hqn⟩
              go_wp2_with (first | (refine own_load1_at (ad := (ad.add (k * 4)).add 3) (v := .slice (some ad2) x.deps.length dc) rfl rfl rfl row_zs HC.out ?_) | (refine own_load1_at (ad := ad2.add j) (v := .int .i64 q) rfl rfl rfl row_int HCL.out ?_) | (refine own_load1 (b := gx) (off := 3) (cs := #[.int .i64 x.p.blk, .int .i64 x.p.off, .string x.p.dat, vb]) (t := 33) (v := vb) rfl rfl rfl row_zs (own_get 1 hO rfl) rfl ?_) | (refine own_append (m := 1) (n := fl.length) (xs := (zs fl)) (news := [.int .i64 q]) rfl rfl rfl rfl Try.underlying31 info_z3 rfl (by decide) (own_perm (own_alloc_new hO (.cells #[.int .i64 q] 3)) (List.Perm.swap _ _ _)) ?_ (by intro u hu; rw [List.mem_singleton.1 hu]; rfl) ?_ ?_ ?_; (exact rd_block (own_get 1 (own_perm (own_alloc_new hO (.cells #[.int .i64 q] 3)) (List.Perm.swap _ _ _)) rfl) rfl (by simp) (by simp) (by simp)); (have := HBL.out; unfold maxLen; omega); (have := HBL.out; omega); clear hO; intro v' w9 hO hS9 hv') | (refine own_store1 (k := 2) (b := gx) (off := 3) (cs' := #[.int .i64 x.p.blk, .int .i64 x.p.off, .string x.p.dat, v']) rfl rfl rfl rfl sz_zs hO rfl (owns_cell1 hO) (by show 3 < 4; decide) rfl ?_; clear hO; intro u hO hSn; replace hS := hS.trans ((Same.alloc _ _).trans (hS9.trans hSn)); clear hSn; simp only [List.set_cons_zero, List.set_cons_succ] at hO))
              go_roundw
              case rel => exact ⟨j + 1, v', fl ++ [q], by omega, by omega, by go_num, by rw [List.length_append, List.length_singleton]; omega, HFN, own_fl hO, hS⟩
              case measure => simp [intOf]; omega
            · go_wp2_with (first | (refine own_load1_at (ad := (ad.add (k * 4)).add 3) (v := .slice (some ad2) x.deps.length dc) rfl rfl rfl row_zs HC.out ?_) | (refine own_load1_at (ad := ad2.add j) (v := .int .i64 q) rfl rfl rfl row_int HCL.out ?_) | (refine own_load1 (b := gx) (off := 3) (cs := #[.int .i64 x.p.blk, .int .i64 x.p.off, .string x.p.dat, vb]) (t := 33) (v := vb) rfl rfl rfl row_zs (own_get 1 hO rfl) rfl ?_))
              go_roundw
              case rel => exact ⟨j + 1, vb, fl, by omega, by omega, by go_num, by omega, HFL, hO, hS⟩
              case measure => simp [intOf]; omega
          · go_wp2_with (first | (refine own_load1_at (ad := (ad.add (k * 4)).add 3) (v := .slice (some ad2) x.deps.length dc) rfl rfl rfl row_zs HC.out ?_) | (refine own_load1_at (ad := ad2.add j) (v := .int .i64 q) rfl rfl rfl row_int HCL.out ?_) | (refine own_load1 (b := gx) (off := 3) (cs := #[.int .i64 x.p.blk, .int .i64 x.p.off, .string x.p.dat, vb]) (t := 33) (v := vb) rfl rfl rfl row_zs (own_get 1 hO rfl) rfl ?_))
            go_roundw
            case rel => exact ⟨j + 1, vb, fl, by omega, by omega, by go_num, by omega, HFL, hO, hS⟩
            case measure => simp [intOf]; omega
        · have hL2 := hL
          clear hL
          obtain ⟨FA, fc, e4⟩ := (owns_rd hO).slice
          subst e4
          have HC := Lib.hid (HCI.out _ hL2 3 _ rfl)
          have hxd : x.deps.length ≤ 9223372036854775807 := by have := (HDR.out _ hL2).max; omega
          have hd1 : ∀ d ∈ fl, 0 ≤ d ∧ d < (E.next : Int) := by rw [HB.out.beh.next]; exact HFL.out
          have hE := HB.out.beh.next
          have hEl : E.l.length < 200 := by have := HB.out.len; omega
          have HGEN : Hid (∀ (w' : World) (gi : Nat), Own w' (engP e (E) :: pts gi (.cells (cellsI [(⟨x.p, fl⟩, .slice FA fl.length fc)]).toArray 33) :: owns 3 1 (.slice FA fl.length fc) fl.length (zs fl) :: pts gx (.cells #[.int .i64 x.p.blk, .int .i64 x.p.off, .string x.p.dat, .slice FA fl.length fc] 33) :: depsP (.slice DV ds.length dvc) ds :: L) → Calls Try.prog 8 #[.pointer (some ⟨e, 0, none⟩), .slice (some ⟨gi, 0, none⟩) 1 1] w' (Ret w' (.tuple #[.int .i64 (E.addM [⟨x.p, fl⟩]).1.1, .int .i64 (E.addM [⟨x.p, fl⟩]).1.2]) (engP e ((E.addM [⟨x.p, fl⟩]).2) :: pts gi (.cells (cellsI [(⟨x.p, fl⟩, .slice FA fl.length fc)]).toArray 33) :: owns 3 1 (.slice FA fl.length fc) fl.length (zs fl) :: pts gx (.cells #[.int .i64 x.p.blk, .int .i64 x.p.off, .string x.p.dat, .slice FA fl.length fc] 33) :: depsP (.slice DV ds.length dvc) ds :: L))) := Lib.hid fun w' gi h => by
            refine eadd_c w' _ e E (.slice (some ⟨gi, 0, none⟩) 1 1) 1 [(⟨x.p, fl⟩, .slice FA fl.length fc)] h HB.out.ok rfl (by decide) (fun w2 h2 => rd_items h2 (by show 1 ≤ 1000000; decide)) (fun y hy => ?_) (fun y hy => ?_) (fun y hy => ?_)
            · rw [List.mem_singleton.1 hy]
              exact ⟨FA, fc, rfl, fun w2 h2 => owns_rd (own_order [1] h2 rfl)⟩
            · rw [List.mem_singleton.1 hy]
              intro d hd
              have := (HFL.out d hd).1
              omega
            · rw [List.mem_singleton.1 hy]
              show fl.length ≤ 1000000
              omega
          have hex : j = x.deps.length ∨ (j < x.deps.length ∧ j = 6) := by omega
          rcases addM_one (x := ⟨x.p, fl⟩) hd1 hEl with ⟨_, hA⟩ | ⟨_, hA⟩
          · rw [hA] at HGEN
            clear hd1 hE hEl hA hL2
            rcases hex with hje | ⟨hje1, hje2⟩
            · subst hje
              go_wp2_with (first | (refine own_load1_at (ad := (ad.add (k * 4)).add 3) (v := .slice DA x.deps.length dc) rfl rfl rfl row_zs HC.out ?_) | (refine own_loadrow (b := gx) (off := 0) (cs := #[.int .i64 x.p.blk, .int .i64 x.p.off, .string x.p.dat, .slice FA fl.length fc]) (t := 33) (vs := [.int .i64 x.p.blk, .int .i64 x.p.off, .string x.p.dat, .slice FA fl.length fc]) rfl rfl rfl row_item sz_item (own_get 1 hO rfl) (by show 4 ≤ 4; decide) rfl ?_) | (refine own_is1g (⟨x.p, fl⟩, .slice FA fl.length fc) rfl rfl rfl hO ?_; clear hO; intro gi u hO hSn; replace hS := hS.trans hSn; clear hSn; replace hO := own_order [4] hO rfl; simp only [List.eraseIdx_cons_succ, List.eraseIdx_zero, List.tail_cons] at hO; simp only [Act.put, List.setIfInBounds_toArray, List.set_cons_zero, List.set_cons_succ]) | (go_at_call 8; (with_reducible refine Calls.mono (HGEN.out _ gi hO) ?_); clear hO; rintro e u ⟨rfl, hO, hSn⟩; replace hS := hS.trans hSn; clear hSn))
              go_roundw
              case rel => exact ⟨k + 1, E, ds, by omega, by omega, by go_num, HB.out.mono (by omega), own_swap (own_sub hO (.cons_cons _ (.cons _ (.cons _ (.cons _ (.cons_cons _ (List.Sublist.refl _))))))), hS⟩
              case measure => simp [intOf]; omega
            · subst hje2
              go_wp2_with (first | (refine own_load1_at (ad := (ad.add (k * 4)).add 3) (v := .slice DA x.deps.length dc) rfl rfl rfl row_zs HC.out ?_) | (refine own_loadrow (b := gx) (off := 0) (cs := #[.int .i64 x.p.blk, .int .i64 x.p.off, .string x.p.dat, .slice FA fl.length fc]) (t := 33) (vs := [.int .i64 x.p.blk, .int .i64 x.p.off, .string x.p.dat, .slice FA fl.length fc]) rfl rfl rfl row_item sz_item (own_get 1 hO rfl) (by show 4 ≤ 4; decide) rfl ?_) | (refine own_is1g (⟨x.p, fl⟩, .slice FA fl.length fc) rfl rfl rfl hO ?_; clear hO; intro gi u hO hSn; replace hS := hS.trans hSn; clear hSn; replace hO := own_order [4] hO rfl; simp only [List.eraseIdx_cons_succ, List.eraseIdx_zero, List.tail_cons] at hO; simp only [Act.put, List.setIfInBounds_toArray, List.set_cons_zero, List.set_cons_succ]) | (go_at_call 8; (with_reducible refine Calls.mono (HGEN.out _ gi hO) ?_); clear hO; rintro e u ⟨rfl, hO, hSn⟩; replace hS := hS.trans hSn; clear hSn))
              go_roundw
              case rel => exact ⟨k + 1, E, ds, by omega, by omega, by go_num, HB.out.mono (by omega), own_swap (own_sub hO (.cons_cons _ (.cons _ (.cons _ (.cons _ (.cons_cons _ (List.Sublist.refl _))))))), hS⟩
              case measure => simp [intOf]; omega
          · have HBN := Lib.hid (HB.out.add hk20 (x := ⟨x.p, fl⟩) HFL.out (by show fl.length ≤ 6; omega) hA)
            rw [hA] at HGEN
            rw [hE] at HGEN HBN
            clear hd1 hEl hA hL2
            rcases hex with hje | ⟨hje1, hje2⟩
            · subst hje
              go_upto_region 15 with (first | (refine own_load1_at (ad := (ad.add (k * 4)).add 3) (v := .slice DA x.deps.length dc) rfl rfl rfl row_zs HC.out ?_) | (refine own_loadrow (b := gx) (off := 0) (cs := #[.int .i64 x.p.blk, .int .i64 x.p.off, .string x.p.dat, .slice FA fl.length fc]) (t := 33) (vs := [.int .i64 x.p.blk, .int .i64 x.p.off, .string x.p.dat, .slice FA fl.length fc]) rfl rfl rfl row_item sz_item (own_get 1 hO rfl) (by show 4 ≤ 4; decide) rfl ?_) | (refine own_is1g (⟨x.p, fl⟩, .slice FA fl.length fc) rfl rfl rfl hO ?_; clear hO; intro gi u hO hSn; replace hS := hS.trans hSn; clear hSn; replace hO := own_order [4] hO rfl; simp only [List.eraseIdx_cons_succ, List.eraseIdx_zero, List.tail_cons] at hO; simp only [Act.put, List.setIfInBounds_toArray, List.set_cons_zero, List.set_cons_succ]) | (go_at_call 8; (with_reducible refine Calls.mono (HGEN.out _ gi hO) ?_); clear hO; rintro e u ⟨rfl, hO, hSn⟩; replace hS := hS.trans hSn; clear hSn))
              obtain ⟨vs, g, hdo, hO⟩ := deps_open.1 (own_order [4] hO rfl)
              have HDO := Lib.hid hdo
              clear hdo
              go_wp2_with (first | (refine own_load1 (b := gx) (off := 3) (cs := #[.int .i64 x.p.blk, .int .i64 x.p.off, .string x.p.dat, .slice FA fl.length fc]) (t := 33) (v := .slice FA fl.length fc) rfl rfl rfl row_zs (own_get 5 hO rfl) rfl ?_) | (refine own_append (m := 1) (n := ds.length) (xs := vs) (news := [.slice FA fl.length fc]) rfl rfl rfl rfl Try.underlying28 info_zs3 rfl (by decide) (own_perm (own_alloc_new hO (.cells #[.slice FA fl.length fc] 31)) (List.Perm.swap _ _ _)) ?_ (by intro u hu; rw [List.mem_singleton.1 hu]; rfl) ?_ ?_ ?_; (exact rd_block (own_get 1 (own_perm (own_alloc_new hO (.cells #[.slice FA fl.length fc] 31)) (List.Perm.swap _ _ _)) rfl) rfl (by simp) (by simp) (by simp)); (have := hdl; unfold maxLen; omega); (have := hdl; omega); clear hO; intro v' w9 hO hS9 hv'))
              go_roundw
              case rel => exact ⟨k + 1, E.add1 ds.length ⟨x.p, fl⟩, ds ++ [fl], by omega, by omega, by go_num, HBN, own_sub (own_order [0, 1] (deps_more HDO.out (own_order [0, 4, 1] hO rfl)) rfl) (.cons_cons _ (.cons_cons _ (.cons _ (.cons _ (.cons _ (List.Sublist.refl _)))))), hS.trans ((Same.alloc _ _).trans hS9)⟩
              case measure => simp [intOf]; omega
            · subst hje2
              go_upto_region 15 with (first | (refine own_load1_at (ad := (ad.add (k * 4)).add 3) (v := .slice DA x.deps.length dc) rfl rfl rfl row_zs HC.out ?_) | (refine own_loadrow (b := gx) (off := 0) (cs := #[.int .i64 x.p.blk, .int .i64 x.p.off, .string x.p.dat, .slice FA fl.length fc]) (t := 33) (vs := [.int .i64 x.p.blk, .int .i64 x.p.off, .string x.p.dat, .slice FA fl.length fc]) rfl rfl rfl row_item sz_item (own_get 1 hO rfl) (by show 4 ≤ 4; decide) rfl ?_) | (refine own_is1g (⟨x.p, fl⟩, .slice FA fl.length fc) rfl rfl rfl hO ?_; clear hO; intro gi u hO hSn; replace hS := hS.trans hSn; clear hSn; replace hO := own_order [4] hO rfl; simp only [List.eraseIdx_cons_succ, List.eraseIdx_zero, List.tail_cons] at hO; simp only [Act.put, List.setIfInBounds_toArray, List.set_cons_zero, List.set_cons_succ]) | (go_at_call 8; (with_reducible refine Calls.mono (HGEN.out _ gi hO) ?_); clear hO; rintro e u ⟨rfl, hO, hSn⟩; replace hS := hS.trans hSn; clear hSn))
              obtain ⟨vs, g, hdo, hO⟩ := deps_open.1 (own_order [4] hO rfl)
              have HDO := Lib.hid hdo
              clear hdo
              go_wp2_with (first | (refine own_load1 (b := gx) (off := 3) (cs := #[.int .i64 x.p.blk, .int .i64 x.p.off, .string x.p.dat, .slice FA fl.length fc]) (t := 33) (v := .slice FA fl.length fc) rfl rfl rfl row_zs (own_get 5 hO rfl) rfl ?_) | (refine own_append (m := 1) (n := ds.length) (xs := vs) (news := [.slice FA fl.length fc]) rfl rfl rfl rfl Try.underlying28 info_zs3 rfl (by decide) (own_perm (own_alloc_new hO (.cells #[.slice FA fl.length fc] 31)) (List.Perm.swap _ _ _)) ?_ (by intro u hu; rw [List.mem_singleton.1 hu]; rfl) ?_ ?_ ?_; (exact rd_block (own_get 1 (own_perm (own_alloc_new hO (.cells #[.slice FA fl.length fc] 31)) (List.Perm.swap _ _ _)) rfl) rfl (by simp) (by simp) (by simp)); (have := hdl; unfold maxLen; omega); (have := hdl; omega); clear hO; intro v' w9 hO hS9 hv'))
              go_roundw
              case rel => exact ⟨k + 1, E.add1 ds.length ⟨x.p, fl⟩, ds ++ [fl], by omega, by omega, by go_num, HBN, own_sub (own_order [0, 1] (deps_more HDO.out (own_order [0, 4, 1] hO rfl)) rfl) (.cons_cons _ (.cons_cons _ (.cons _ (.cons _ (.cons _ (List.Sublist.refl _)))))), hS.trans ((Same.alloc _ _).trans hS9)⟩
              case measure => simp [intOf]; omega
    · have hex : k = is.length ∨ (k < is.length ∧ k = 20) := by omega
      obtain ⟨DV, dvc, e3⟩ := deps_slice hO
      subst e3
      rcases hex with hke | ⟨hke1, hke2⟩
      · subst hke
        obtain ⟨vs, g, hdo, hO⟩ := deps_open.1 hO
        have HDO := Lib.hid hdo
        have HWK0 := Lib.hid (Wk.start HB.out hk20)
        clear hdo
        go_wp2
        go_loopw [13] (fun iv wr => ∃ (i : Nat) (F : Eng), i ≤ ws.length ∧ i ≤ 30 ∧ iv = .int .i64 i ∧ Hid (Wk i F ds) ∧ Own wr (owns 31 1 (.slice DV ds.length dvc) ds.length vs :: rdG g :: engP e F :: L) ∧ Same w wr) (fun iv _ => ws.length - (intOf iv).toNat)
        case atStart => exact ⟨0, E, Nat.zero_le _, Nat.zero_le _, rfl, HWK0.out, hO, hS⟩
        case round =>
          clear hO hS HWK0
          obtain ⟨i, F, hi, hi30, rfl, HWK, hO, hS⟩ := hrel
          by_cases hlt3 : i < ws.length ∧ i < 30
          · obtain ⟨hlt3, hi3⟩ := hlt3
            obtain ⟨y, hy⟩ : ∃ y, ws[i]? = some y := ⟨_, List.getElem?_eq_getElem hlt3⟩
            have hL := own_drop (own_drop (own_drop hO))
            obtain ⟨ad3, e3⟩ := (HW.out _ hL).addr (by rw [bcs_length]; omega)
            subst e3
            have HCB : Hid (∀ w', Own w' L → w'.cell? (ad3.add i) = some (.int .u8 (y.toNat : Int))) := Lib.hid fun w' h => bcs_cell1 (HW.out w' h) hy
            have hn1 : (i : Int) < ws.length := by omega
            have hn2 : (i : Int) < 30 := by omega
            have hyb : (y.toNat : Int) ≤ 255 := by have := y.toNat_lt; omega
            obtain ⟨q, hq⟩ : ∃ q, q = y.toNat % 5 := ⟨_, rfl⟩
            have hq5 : q < 5 := by omega
            have hK : (y.toNat : Int).tmod 5 = (q : Int) := by rw [Int.tmod_eq_emod_of_nonneg (by omega), hq]; rfl
            obtain ⟨F2, hF2⟩ : ∃ F2, F2 = (F.writeM q).2 := ⟨_, rfl⟩
            have HWK2 : Hid (Wk (i + 1) F2 ds) := Lib.hid (by rw [hF2]; exact HWK.out.write q)
            have HWR : Hid (∀ (w' : World) (L' : List HP), Own w' (engP e F :: L') → Calls Try.prog 9 #[.pointer (some ⟨e, 0, none⟩), .int .i64 q] w' (Ret w' (.tuple #[.int .i64 (F.writeM q).1.1, .int .i64 (F.writeM q).1.2]) (engP e F2 :: L'))) := Lib.hid fun w' L' h => by rw [hF2]; exact ewrite_c w' L' e F q h HWK.out.ok (by rw [HWK.out.m5]; omega) (fun b hb => by have := HWK.out.vl b hb; omega)
            clear hy hL hq hF2
            go_upto_region 20 with (first | (refine own_load1_at (ad := ad3.add i) (v := .int .u8 (y.toNat : Int)) rfl rfl rfl row_u8 (HCB.out _ (own_drop (own_drop (own_drop hO)))) ?_) | (go_at_call 9; (with_reducible refine Calls.mono (call_at 2 (fun L' h => HWR.out _ L' h) rfl hO) ?_); clear hO; rintro e u ⟨rfl, hO, hSn⟩; replace hS := hS.trans hSn; clear hSn; simp only [List.set_cons_zero, List.set_cons_succ] at hO))
            obtain ⟨r3, hr3⟩ : ∃ r3, (y.toNat : Int).tmod 3 = r3 := ⟨_, rfl⟩
            by_cases h30 : r3 = 0
            · subst h30
              have HWK3 : Hid (Wk (i + 1) F2.flushed ds) := Lib.hid HWK2.out.flushed
              have HFL2 : Hid (∀ (w' : World) (L' : List HP), Own w' (engP e F2 :: L') → Calls Try.prog 10 #[.pointer (some ⟨e, 0, none⟩)] w' (Ret w' (.int .i64 0) (engP e F2.flushed :: L'))) := Lib.hid fun w' L' h => eflush_c w' L' e F2 h HWK2.out.ok (fun b hb => by have := HWK2.out.vl b hb; omega)
              go_upto_region 22 with (first | (refine own_load1_at (ad := ad3.add i) (v := .int .u8 (y.toNat : Int)) rfl rfl rfl row_u8 (HCB.out _ (own_drop (own_drop (own_drop hO)))) ?_) | (go_at_call 10; (with_reducible refine Calls.mono (call_at 2 (fun L' h => HFL2.out _ L' h) rfl hO) ?_); clear hO; rintro e u ⟨rfl, hO, hSn⟩; replace hS := hS.trans hSn; clear hSn; simp only [List.set_cons_zero, List.set_cons_succ] at hO))
              clear HFL2 HWR
              obtain ⟨F3, hF3⟩ : ∃ F3, F3 = F2.flushed := ⟨_, rfl⟩
              rw [← hF3] at hO HWK3
              clear hF3
              have HWT : Hid (∀ (w' : World) (L' : List HP), Own w' (engP e F3 :: L') → Calls Try.prog 11 #[.pointer (some ⟨e, 0, none⟩)] w' (RetX w' (fun v : Value => v) (fun v => owns 3 1 v (wnums F3.l).length (zs (wnums F3.l)) :: engP e F3 :: L'))) := Lib.hid fun w' L' h => by
                have h2 := ewaiting_c w' L' e F3 h HWK3.out.ok
                have e2 : (wnums F3.l).length = F3.l.length := by simp [wnums]
                rw [e2]
                exact h2
              have hdl3 : ds.length ≤ 20 := HWK3.out.few
              go_wp2_with (first | (go_at_call 11; (with_reducible refine Calls.mono (call_atX 2 (fun L' h => HWT.out _ L' h) rfl hO) ?_); clear hO; rintro e u ⟨wv, rfl, hO, hSn⟩; replace hS := hS.trans hSn; clear hSn; simp only [List.set_cons_zero, List.set_cons_succ] at hO))
              go_loopw [15, 16] (fun pv jv wr => ∃ (j : Nat) (ov : Value), j ≤ ds.length ∧ ov = pv ∧ jv = .int .i64 j ∧ Own wr (owns 3 1 ov (doneZ F3 j).length (zs (doneZ F3 j)) :: owns 3 1 wv (wnums F3.l).length (zs (wnums F3.l)) :: owns 31 1 (.slice DV ds.length dvc) ds.length vs :: rdG g :: engP e F3 :: L) ∧ Same w wr) (fun _ jv _ => ds.length - (intOf jv).toNat)
              case atStart => exact ⟨0, _, Nat.zero_le _, rfl, rfl, owns_nil hO, hS⟩
              case round =>
                clear hO hS HWT
                obtain ⟨j, ov, hj, hov, rfl, hO, hS⟩ := hrel
                subst hov
                by_cases hlt4 : j < ds.length
                · have hm4 : (j : Int) < ds.length := by omega
                  obtain ⟨r, hr⟩ : ∃ r, (wnums F3.l).contains (j : Int) = r := ⟨_, rfl⟩
                  have HRR := Lib.hid hr
                  have HNX := Lib.hid (doneZ_next F3 j hr)
                  have HBL : Hid ((doneZ F3 j).length ≤ 20) := by have := doneZ_len F3 j; show _ ≤ _; omega
                  clear hr
                  cases r with
                  | true =>
                    go_wp2_with (first | (go_at_call 12; (with_reducible refine Calls.mono (ghas_c _ _ wv (wnums F3.l).length (wnums F3.l) (j : Int) rfl HRR.out hO (fun w' h => owns_rd (own_order [1] h rfl))) ?_); clear hO; rintro e u ⟨rfl, hO, hSn⟩; replace hS := hS.trans hSn; clear hSn))
                    go_roundw
                    case rel => exact ⟨j + 1, ov, by omega, rfl, by go_num, by rw [HNX.out]; simpa using hO, hS⟩
                    case measure => simp [intOf]; omega
                  | false =>
                    go_wp2_with (first | (go_at_call 12; (with_reducible refine Calls.mono (ghas_c _ _ wv (wnums F3.l).length (wnums F3.l) (j : Int) rfl HRR.out hO (fun w' h => owns_rd (own_order [1] h rfl))) ?_); clear hO; rintro e u ⟨rfl, hO, hSn⟩; replace hS := hS.trans hSn; clear hSn) | (refine own_append (m := 1) (n := (doneZ F3 j).length) (xs := (zs (doneZ F3 j))) (news := [.int .i64 (j : Int)]) rfl rfl rfl rfl Try.underlying31 info_z3 rfl (by decide) (own_perm (own_alloc_new hO (.cells #[.int .i64 (j : Int)] 3)) (List.Perm.swap _ _ _)) ?_ (by intro u hu; rw [List.mem_singleton.1 hu]; rfl) ?_ ?_ ?_; (exact rd_block (own_get 1 (own_perm (own_alloc_new hO (.cells #[.int .i64 (j : Int)] 3)) (List.Perm.swap _ _ _)) rfl) rfl (by simp) (by simp) (by simp)); (have := HBL.out; unfold maxLen; omega); (have := HBL.out; omega); clear hO; intro v' w9 hO hS9 hv'))
                    go_roundw
                    case rel => exact ⟨j + 1, v', by omega, rfl, by go_num, by rw [HNX.out]; exact own_fl hO, hS.trans ((Same.alloc _ _).trans hS9)⟩
                    case measure => simp [intOf]; omega
                · have hje : j = ds.length := by omega
                  subst hje
                  have HCC : Hid (∀ w', Own w' (owns 3 1 ov (doneZ F3 ds.length).length (zs (doneZ F3 ds.length)) :: owns 3 1 wv (wnums F3.l).length (zs (wnums F3.l)) :: owns 31 1 (.slice DV ds.length dvc) ds.length vs :: rdG g :: engP e F3 :: L) → Calls Try.prog 13 #[.slice DV ds.length dvc, ov] w' (Ret w' (.bool true) (owns 3 1 ov (doneZ F3 ds.length).length (zs (doneZ F3 ds.length)) :: owns 3 1 wv (wnums F3.l).length (zs (wnums F3.l)) :: owns 31 1 (.slice DV ds.length dvc) ds.length vs :: rdG g :: engP e F3 :: L))) := Lib.hid fun w' h => by
                    refine gclosed_c w' _ (.slice DV ds.length dvc) vs ds ov (doneZ F3 ds.length).length (doneZ F3 ds.length) rfl h (fun w2 h2 => deps_rd HDO.out (own_order [2, 2] h2 rfl)) (fun w2 h2 => owns_rd h2) (by omega) (fun l hl => by have := HWK3.out.six l hl; omega) HWK3.out.beh.right (fun d hd => ?_) (fun k l hl hk d hd => ?_)
                    · obtain ⟨n, hn, e5⟩ := List.mem_map.1 hd
                      have := List.mem_range.1 (List.mem_filter.1 hn).1
                      have e5 : ((n : Nat) : Int) = d := e5
                      omega
                    · obtain ⟨h1, h2, _⟩ := HWK3.out.beh.closed hl (doneZ_mem.1 hk) hd
                      have e5 : ((d.toNat : Nat) : Int) = d := Int.toNat_of_nonneg h2
                      rw [← e5]
                      exact doneZ_mem.2 h1
                  go_wp2_with (first | (go_at_call 13; (with_reducible refine Calls.mono (HCC.out _ hO) ?_); clear hO; rintro e u ⟨rfl, hO, hSn⟩; replace hS := hS.trans hSn; clear hSn))
                  go_roundw
                  case rel => exact ⟨i + 1, F3, by omega, by omega, by go_num, HWK3, own_drop (own_drop hO), hS⟩
                  case measure => simp [intOf]; omega
            · have h31 : (r3 == 0) = false := by simpa using h30
              go_upto_region 22 with (first | (refine own_load1_at (ad := ad3.add i) (v := .int .u8 (y.toNat : Int)) rfl rfl rfl row_u8 (HCB.out _ (own_drop (own_drop (own_drop hO)))) ?_))
              clear HWR
              obtain ⟨F3, hF3⟩ : ∃ F3, F3 = F2 := ⟨_, rfl⟩
              have HWK3 : Hid (Wk (i + 1) F3 ds) := by rw [hF3]; exact HWK2
              rw [← hF3] at hO
              clear hF3
              have HWT : Hid (∀ (w' : World) (L' : List HP), Own w' (engP e F3 :: L') → Calls Try.prog 11 #[.pointer (some ⟨e, 0, none⟩)] w' (RetX w' (fun v : Value => v) (fun v => owns 3 1 v (wnums F3.l).length (zs (wnums F3.l)) :: engP e F3 :: L'))) := Lib.hid fun w' L' h => by
                have h2 := ewaiting_c w' L' e F3 h HWK3.out.ok
                have e2 : (wnums F3.l).length = F3.l.length := by simp [wnums]
                rw [e2]
                exact h2
              have hdl3 : ds.length ≤ 20 := HWK3.out.few
              go_wp2_with (first | (go_at_call 11; (with_reducible refine Calls.mono (call_atX 2 (fun L' h => HWT.out _ L' h) rfl hO) ?_); clear hO; rintro e u ⟨wv, rfl, hO, hSn⟩; replace hS := hS.trans hSn; clear hSn; simp only [List.set_cons_zero, List.set_cons_succ] at hO))
              go_loopw [15, 16] (fun pv jv wr => ∃ (j : Nat) (ov : Value), j ≤ ds.length ∧ ov = pv ∧ jv = .int .i64 j ∧ Own wr (owns 3 1 ov (doneZ F3 j).length (zs (doneZ F3 j)) :: owns 3 1 wv (wnums F3.l).length (zs (wnums F3.l)) :: owns 31 1 (.slice DV ds.length dvc) ds.length vs :: rdG g :: engP e F3 :: L) ∧ Same w wr) (fun _ jv _ => ds.length - (intOf jv).toNat)
              case atStart => exact ⟨0, _, Nat.zero_le _, rfl, rfl, owns_nil hO, hS⟩
              case round =>
                clear hO hS HWT
                obtain ⟨j, ov, hj, hov, rfl, hO, hS⟩ := hrel
                subst hov
                by_cases hlt4 : j < ds.length
                · have hm4 : (j : Int) < ds.length := by omega
                  obtain ⟨r, hr⟩ : ∃ r, (wnums F3.l).contains (j : Int) = r := ⟨_, rfl⟩
                  have HRR := Lib.hid hr
                  have HNX := Lib.hid (doneZ_next F3 j hr)
                  have HBL : Hid ((doneZ F3 j).length ≤ 20) := by have := doneZ_len F3 j; show _ ≤ _; omega
                  clear hr
                  cases r with
                  | true =>
                    go_wp2_with (first | (go_at_call 12; (with_reducible refine Calls.mono (ghas_c _ _ wv (wnums F3.l).length (wnums F3.l) (j : Int) rfl HRR.out hO (fun w' h => owns_rd (own_order [1] h rfl))) ?_); clear hO; rintro e u ⟨rfl, hO, hSn⟩; replace hS := hS.trans hSn; clear hSn))
                    go_roundw
                    case rel => exact ⟨j + 1, ov, by omega, rfl, by go_num, by rw [HNX.out]; simpa using hO, hS⟩
                    case measure => simp [intOf]; omega
                  | false =>
                    go_wp2_with (first | (go_at_call 12; (with_reducible refine Calls.mono (ghas_c _ _ wv (wnums F3.l).length (wnums F3.l) (j : Int) rfl HRR.out hO (fun w' h => owns_rd (own_order [1] h rfl))) ?_); clear hO; rintro e u ⟨rfl, hO, hSn⟩; replace hS := hS.trans hSn; clear hSn) | (refine own_append (m := 1) (n := (doneZ F3 j).length) (xs := (zs (doneZ F3 j))) (news := [.int .i64 (j : Int)]) rfl rfl rfl rfl Try.underlying31 info_z3 rfl (by decide) (own_perm (own_alloc_new hO (.cells #[.int .i64 (j : Int)] 3)) (List.Perm.swap _ _ _)) ?_ (by intro u hu; rw [List.mem_singleton.1 hu]; rfl) ?_ ?_ ?_; (exact rd_block (own_get 1 (own_perm (own_alloc_new hO (.cells #[.int .i64 (j : Int)] 3)) (List.Perm.swap _ _ _)) rfl) rfl (by simp) (by simp) (by simp)); (have := HBL.out; unfold maxLen; omega); (have := HBL.out; omega); clear hO; intro v' w9 hO hS9 hv'))
                    go_roundw
                    case rel => exact ⟨j + 1, v', by omega, rfl, by go_num, by rw [HNX.out]; exact own_fl hO, hS.trans ((Same.alloc _ _).trans hS9)⟩
                    case measure => simp [intOf]; omega
                · have hje : j = ds.length := by omega
                  subst hje
                  have HCC : Hid (∀ w', Own w' (owns 3 1 ov (doneZ F3 ds.length).length (zs (doneZ F3 ds.length)) :: owns 3 1 wv (wnums F3.l).length (zs (wnums F3.l)) :: owns 31 1 (.slice DV ds.length dvc) ds.length vs :: rdG g :: engP e F3 :: L) → Calls Try.prog 13 #[.slice DV ds.length dvc, ov] w' (Ret w' (.bool true) (owns 3 1 ov (doneZ F3 ds.length).length (zs (doneZ F3 ds.length)) :: owns 3 1 wv (wnums F3.l).length (zs (wnums F3.l)) :: owns 31 1 (.slice DV ds.length dvc) ds.length vs :: rdG g :: engP e F3 :: L))) := Lib.hid fun w' h => by
                    refine gclosed_c w' _ (.slice DV ds.length dvc) vs ds ov (doneZ F3 ds.length).length (doneZ F3 ds.length) rfl h (fun w2 h2 => deps_rd HDO.out (own_order [2, 2] h2 rfl)) (fun w2 h2 => owns_rd h2) (by omega) (fun l hl => by have := HWK3.out.six l hl; omega) HWK3.out.beh.right (fun d hd => ?_) (fun k l hl hk d hd => ?_)
                    · obtain ⟨n, hn, e5⟩ := List.mem_map.1 hd
                      have := List.mem_range.1 (List.mem_filter.1 hn).1
                      have e5 : ((n : Nat) : Int) = d := e5
                      omega
                    · obtain ⟨h1, h2, _⟩ := HWK3.out.beh.closed hl (doneZ_mem.1 hk) hd
                      have e5 : ((d.toNat : Nat) : Int) = d := Int.toNat_of_nonneg h2
                      rw [← e5]
                      exact doneZ_mem.2 h1
                  go_wp2_with (first | (go_at_call 13; (with_reducible refine Calls.mono (HCC.out _ hO) ?_); clear hO; rintro e u ⟨rfl, hO, hSn⟩; replace hS := hS.trans hSn; clear hSn))
                  go_roundw
                  case rel => exact ⟨i + 1, F3, by omega, by omega, by go_num, HWK3, own_drop (own_drop hO), hS⟩
                  case measure => simp [intOf]; omega
          · have hex3 : i = ws.length ∨ (i < ws.length ∧ i = 30) := by omega
            rcases hex3 with hie | ⟨hie1, hie2⟩
            · subst hie
              go_wp2_with (first | (go_at_call 14; (with_reducible refine Calls.mono (elive_c _ _ hO) ?_); clear hO; rintro e u ⟨rfl, hO, hSn⟩; replace hS := hS.trans hSn; clear hSn))
              go_ret
              exact ⟨rfl, own_drop (own_drop (own_drop hO)), hS⟩
            · subst hie2
              have hw6 : (30 : Int) < ws.length := by omega
              go_wp2_with (first | (go_at_call 14; (with_reducible refine Calls.mono (elive_c _ _ hO) ?_); clear hO; rintro e u ⟨rfl, hO, hSn⟩; replace hS := hS.trans hSn; clear hSn))
              go_ret
              exact ⟨rfl, own_drop (own_drop (own_drop hO)), hS⟩
      · have hk6 : ¬ ((k : Int) < 20) := by omega
        have hk7 : (k : Int) < is.length := by omega
        clear hke1 hke2
        obtain ⟨vs, g, hdo, hO⟩ := deps_open.1 hO
        have HDO := Lib.hid hdo
        have HWK0 := Lib.hid (Wk.start HB.out hk20)
        clear hdo
        go_wp2
        go_loopw [13] (fun iv wr => ∃ (i : Nat) (F : Eng), i ≤ ws.length ∧ i ≤ 30 ∧ iv = .int .i64 i ∧ Hid (Wk i F ds) ∧ Own wr (owns 31 1 (.slice DV ds.length dvc) ds.length vs :: rdG g :: engP e F :: L) ∧ Same w wr) (fun iv _ => ws.length - (intOf iv).toNat)
        case atStart => exact ⟨0, E, Nat.zero_le _, Nat.zero_le _, rfl, HWK0.out, hO, hS⟩
        case round =>
          clear hO hS HWK0
          obtain ⟨i, F, hi, hi30, rfl, HWK, hO, hS⟩ := hrel
          by_cases hlt3 : i < ws.length ∧ i < 30
          · obtain ⟨hlt3, hi3⟩ := hlt3
            obtain ⟨y, hy⟩ : ∃ y, ws[i]? = some y := ⟨_, List.getElem?_eq_getElem hlt3⟩
            have hL := own_drop (own_drop (own_drop hO))
            obtain ⟨ad3, e3⟩ := (HW.out _ hL).addr (by rw [bcs_length]; omega)
            subst e3
            have HCB : Hid (∀ w', Own w' L → w'.cell? (ad3.add i) = some (.int .u8 (y.toNat : Int))) := Lib.hid fun w' h => bcs_cell1 (HW.out w' h) hy
            have hn1 : (i : Int) < ws.length := by omega
            have hn2 : (i : Int) < 30 := by omega
            have hyb : (y.toNat : Int) ≤ 255 := by have := y.toNat_lt; omega
            obtain ⟨q, hq⟩ : ∃ q, q = y.toNat % 5 := ⟨_, rfl⟩
            have hq5 : q < 5 := by omega
            have hK : (y.toNat : Int).tmod 5 = (q : Int) := by rw [Int.tmod_eq_emod_of_nonneg (by omega), hq]; rfl
            obtain ⟨F2, hF2⟩ : ∃ F2, F2 = (F.writeM q).2 := ⟨_, rfl⟩
            have HWK2 : Hid (Wk (i + 1) F2 ds) := Lib.hid (by rw [hF2]; exact HWK.out.write q)
            have HWR : Hid (∀ (w' : World) (L' : List HP), Own w' (engP e F :: L') → Calls Try.prog 9 #[.pointer (some ⟨e, 0, none⟩), .int .i64 q] w' (Ret w' (.tuple #[.int .i64 (F.writeM q).1.1, .int .i64 (F.writeM q).1.2]) (engP e F2 :: L'))) := Lib.hid fun w' L' h => by rw [hF2]; exact ewrite_c w' L' e F q h HWK.out.ok (by rw [HWK.out.m5]; omega) (fun b hb => by have := HWK.out.vl b hb; omega)
            clear hy hL hq hF2
            go_upto_region 20 with (first | (refine own_load1_at (ad := ad3.add i) (v := .int .u8 (y.toNat : Int)) rfl rfl rfl row_u8 (HCB.out _ (own_drop (own_drop (own_drop hO)))) ?_) | (go_at_call 9; (with_reducible refine Calls.mono (call_at 2 (fun L' h => HWR.out _ L' h) rfl hO) ?_); clear hO; rintro e u ⟨rfl, hO, hSn⟩; replace hS := hS.trans hSn; clear hSn; simp only [List.set_cons_zero, List.set_cons_succ] at hO))
            obtain ⟨r3, hr3⟩ : ∃ r3, (y.toNat : Int).tmod 3 = r3 := ⟨_, rfl⟩
            by_cases h30 : r3 = 0
            · subst h30
              have HWK3 : Hid (Wk (i + 1) F2.flushed ds) := Lib.hid HWK2.out.flushed
              have HFL2 : Hid (∀ (w' : World) (L' : List HP), Own w' (engP e F2 :: L') → Calls Try.prog 10 #[.pointer (some ⟨e, 0, none⟩)] w' (Ret w' (.int .i64 0) (engP e F2.flushed :: L'))) := Lib.hid fun w' L' h => eflush_c w' L' e F2 h HWK2.out.ok (fun b hb => by have := HWK2.out.vl b hb; omega)
              go_upto_region 22 with (first | (refine own_load1_at (ad := ad3.add i) (v := .int .u8 (y.toNat : Int)) rfl rfl rfl row_u8 (HCB.out _ (own_drop (own_drop (own_drop hO)))) ?_) | (go_at_call 10; (with_reducible refine Calls.mono (call_at 2 (fun L' h => HFL2.out _ L' h) rfl hO) ?_); clear hO; rintro e u ⟨rfl, hO, hSn⟩; replace hS := hS.trans hSn; clear hSn; simp only [List.set_cons_zero, List.set_cons_succ] at hO))
              clear HFL2 HWR
              obtain ⟨F3, hF3⟩ : ∃ F3, F3 = F2.flushed := ⟨_, rfl⟩
              rw [← hF3] at hO HWK3
              clear hF3
              have HWT : Hid (∀ (w' : World) (L' : List HP), Own w' (engP e F3 :: L') → Calls Try.prog 11 #[.pointer (some ⟨e, 0, none⟩)] w' (RetX w' (fun v : Value => v) (fun v => owns 3 1 v (wnums F3.l).length (zs (wnums F3.l)) :: engP e F3 :: L'))) := Lib.hid fun w' L' h => by
                have h2 := ewaiting_c w' L' e F3 h HWK3.out.ok
                have e2 : (wnums F3.l).length = F3.l.length := by simp [wnums]
                rw [e2]
                exact h2
              have hdl3 : ds.length ≤ 20 := HWK3.out.few
              go_wp2_with (first | (go_at_call 11; (with_reducible refine Calls.mono (call_atX 2 (fun L' h => HWT.out _ L' h) rfl hO) ?_); clear hO; rintro e u ⟨wv, rfl, hO, hSn⟩; replace hS := hS.trans hSn; clear hSn; simp only [List.set_cons_zero, List.set_cons_succ] at hO))
              go_loopw [15, 16] (fun pv jv wr => ∃ (j : Nat) (ov : Value), j ≤ ds.length ∧ ov = pv ∧ jv = .int .i64 j ∧ Own wr (owns 3 1 ov (doneZ F3 j).length (zs (doneZ F3 j)) :: owns 3 1 wv (wnums F3.l).length (zs (wnums F3.l)) :: owns 31 1 (.slice DV ds.length dvc) ds.length vs :: rdG g :: engP e F3 :: L) ∧ Same w wr) (fun _ jv _ => ds.length - (intOf jv).toNat)
              case atStart => exact ⟨0, _, Nat.zero_le _, rfl, rfl, owns_nil hO, hS⟩
              case round =>
                clear hO hS HWT
                obtain ⟨j, ov, hj, hov, rfl, hO, hS⟩ := hrel
                subst hov
                by_cases hlt4 : j < ds.length
                · have hm4 : (j : Int) < ds.length := by omega
                  obtain ⟨r, hr⟩ : ∃ r, (wnums F3.l).contains (j : Int) = r := ⟨_, rfl⟩
                  have HRR := Lib.hid hr
                  have HNX := Lib.hid (doneZ_next F3 j hr)
                  have HBL : Hid ((doneZ F3 j).length ≤ 20) := by have := doneZ_len F3 j; show _ ≤ _; omega
                  clear hr
                  cases r with
                  | true =>
                    go_wp2_with (first | (go_at_call 12; (with_reducible refine Calls.mono (ghas_c _ _ wv (wnums F3.l).length (wnums F3.l) (j : Int) rfl HRR.out hO (fun w' h => owns_rd (own_order [1] h rfl))) ?_); clear hO; rintro e u ⟨rfl, hO, hSn⟩; replace hS := hS.trans hSn; clear hSn))
                    go_roundw
                    case rel => exact ⟨j + 1, ov, by omega, rfl, by go_num, by rw [HNX.out]; simpa using hO, hS⟩
                    case measure => simp [intOf]; omega
                  | false =>
                    go_wp2_with (first | (go_at_call 12; (with_reducible refine Calls.mono (ghas_c _ _ wv (wnums F3.l).length (wnums F3.l) (j : Int) rfl HRR.out hO (fun w' h => owns_rd (own_order [1] h rfl))) ?_); clear hO; rintro e u ⟨rfl, hO, hSn⟩; replace hS := hS.trans hSn; clear hSn) | (refine own_append (m := 1) (n := (doneZ F3 j).length) (xs := (zs (doneZ F3 j))) (news := [.int .i64 (j : Int)]) rfl rfl rfl rfl Try.underlying31 info_z3 rfl (by decide) (own_perm (own_alloc_new hO (.cells #[.int .i64 (j : Int)] 3)) (List.Perm.swap _ _ _)) ?_ (by intro u hu; rw [List.mem_singleton.1 hu]; rfl) ?_ ?_ ?_; (exact rd_block (own_get 1 (own_perm (own_alloc_new hO (.cells #[.int .i64 (j : Int)] 3)) (List.Perm.swap _ _ _)) rfl) rfl (by simp) (by simp) (by simp)); (have := HBL.out; unfold maxLen; omega); (have := HBL.out; omega); clear hO; intro v' w9 hO hS9 hv'))
                    go_roundw
                    case rel => exact ⟨j + 1, v', by omega, rfl, by go_num, by rw [HNX.out]; exact own_fl hO, hS.trans ((Same.alloc _ _).trans hS9)⟩
                    case measure => simp [intOf]; omega
                · have hje : j = ds.length := by omega
                  subst hje
                  have HCC : Hid (∀ w', Own w' (owns 3 1 ov (doneZ F3 ds.length).length (zs (doneZ F3 ds.length)) :: owns 3 1 wv (wnums F3.l).length (zs (wnums F3.l)) :: owns 31 1 (.slice DV ds.length dvc) ds.length vs :: rdG g :: engP e F3 :: L) → Calls Try.prog 13 #[.slice DV ds.length dvc, ov] w' (Ret w' (.bool true) (owns 3 1 ov (doneZ F3 ds.length).length (zs (doneZ F3 ds.length)) :: owns 3 1 wv (wnums F3.l).length (zs (wnums F3.l)) :: owns 31 1 (.slice DV ds.length dvc) ds.length vs :: rdG g :: engP e F3 :: L))) := Lib.hid fun w' h => by
                    refine gclosed_c w' _ (.slice DV ds.length dvc) vs ds ov (doneZ F3 ds.length).length (doneZ F3 ds.length) rfl h (fun w2 h2 => deps_rd HDO.out (own_order [2, 2] h2 rfl)) (fun w2 h2 => owns_rd h2) (by omega) (fun l hl => by have := HWK3.out.six l hl; omega) HWK3.out.beh.right (fun d hd => ?_) (fun k l hl hk d hd => ?_)
                    · obtain ⟨n, hn, e5⟩ := List.mem_map.1 hd
                      have := List.mem_range.1 (List.mem_filter.1 hn).1
                      have e5 : ((n : Nat) : Int) = d := e5
                      omega
                    · obtain ⟨h1, h2, _⟩ := HWK3.out.beh.closed hl (doneZ_mem.1 hk) hd
                      have e5 : ((d.toNat : Nat) : Int) = d := Int.toNat_of_nonneg h2
                      rw [← e5]
                      exact doneZ_mem.2 h1
                  go_wp2_with (first | (go_at_call 13; (with_reducible refine Calls.mono (HCC.out _ hO) ?_); clear hO; rintro e u ⟨rfl, hO, hSn⟩; replace hS := hS.trans hSn; clear hSn))
                  go_roundw
                  case rel => exact ⟨i + 1, F3, by omega, by omega, by go_num, HWK3, own_drop (own_drop hO), hS⟩
                  case measure => simp [intOf]; omega
            · have h31 : (r3 == 0) = false := by simpa using h30
              go_upto_region 22 with (first | (refine own_load1_at (ad := ad3.add i) (v := .int .u8 (y.toNat : Int)) rfl rfl rfl row_u8 (HCB.out _ (own_drop (own_drop (own_drop hO)))) ?_))
              clear HWR
              obtain ⟨F3, hF3⟩ : ∃ F3, F3 = F2 := ⟨_, rfl⟩
              have HWK3 : Hid (Wk (i + 1) F3 ds) := by rw [hF3]; exact HWK2
              rw [← hF3] at hO
              clear hF3
              have HWT : Hid (∀ (w' : World) (L' : List HP), Own w' (engP e F3 :: L') → Calls Try.prog 11 #[.pointer (some ⟨e, 0, none⟩)] w' (RetX w' (fun v : Value => v) (fun v => owns 3 1 v (wnums F3.l).length (zs (wnums F3.l)) :: engP e F3 :: L'))) := Lib.hid fun w' L' h => by
                have h2 := ewaiting_c w' L' e F3 h HWK3.out.ok
                have e2 : (wnums F3.l).length = F3.l.length := by simp [wnums]
                rw [e2]
                exact h2
              have hdl3 : ds.length ≤ 20 := HWK3.out.few
              go_wp2_with (first | (go_at_call 11; (with_reducible refine Calls.mono (call_atX 2 (fun L' h => HWT.out _ L' h) rfl hO) ?_); clear hO; rintro e u ⟨wv, rfl, hO, hSn⟩; replace hS := hS.trans hSn; clear hSn; simp only [List.set_cons_zero, List.set_cons_succ] at hO))
              go_loopw [15, 16] (fun pv jv wr => ∃ (j : Nat) (ov : Value), j ≤ ds.length ∧ ov = pv ∧ jv = .int .i64 j ∧ Own wr (owns 3 1 ov (doneZ F3 j).length (zs (doneZ F3 j)) :: owns 3 1 wv (wnums F3.l).length (zs (wnums F3.l)) :: owns 31 1 (.slice DV ds.length dvc) ds.length vs :: rdG g :: engP e F3 :: L) ∧ Same w wr) (fun _ jv _ => ds.length - (intOf jv).toNat)
              case atStart => exact ⟨0, _, Nat.zero_le _, rfl, rfl, owns_nil hO, hS⟩
              case round =>
                clear hO hS HWT
                obtain ⟨j, ov, hj, hov, rfl, hO, hS⟩ := hrel
                subst hov
                by_cases hlt4 : j < ds.length
                · have hm4 : (j : Int) < ds.length := by omega
                  obtain ⟨r, hr⟩ : ∃ r, (wnums F3.l).contains (j : Int) = r := ⟨_, rfl⟩
                  have HRR := Lib.hid hr
                  have HNX := Lib.hid (doneZ_next F3 j hr)
                  have HBL : Hid ((doneZ F3 j).length ≤ 20) := by have := doneZ_len F3 j; show _ ≤ _; omega
                  clear hr
                  cases r with
                  | true =>
                    go_wp2_with (first | (go_at_call 12; (with_reducible refine Calls.mono (ghas_c _ _ wv (wnums F3.l).length (wnums F3.l) (j : Int) rfl HRR.out hO (fun w' h => owns_rd (own_order [1] h rfl))) ?_); clear hO; rintro e u ⟨rfl, hO, hSn⟩; replace hS := hS.trans hSn; clear hSn))
                    go_roundw
                    case rel => exact ⟨j + 1, ov, by omega, rfl, by go_num, by rw [HNX.out]; simpa using hO, hS⟩
                    case measure => simp [intOf]; omega
                  | false =>
                    go_wp2_with (first | (go_at_call 12; (with_reducible refine Calls.mono (ghas_c _ _ wv (wnums F3.l).length (wnums F3.l) (j : Int) rfl HRR.out hO (fun w' h => owns_rd (own_order [1] h rfl))) ?_); clear hO; rintro e u ⟨rfl, hO, hSn⟩; replace hS := hS.trans hSn; clear hSn) | (refine own_append (m := 1) (n := (doneZ F3 j).length) (xs := (zs (doneZ F3 j))) (news := [.int .i64 (j : Int)]) rfl rfl rfl rfl Try.underlying31 info_z3 rfl (by decide) (own_perm (own_alloc_new hO (.cells #[.int .i64 (j : Int)] 3)) (List.Perm.swap _ _ _)) ?_ (by intro u hu; rw [List.mem_singleton.1 hu]; rfl) ?_ ?_ ?_; (exact rd_block (own_get 1 (own_perm (own_alloc_new hO (.cells #[.int .i64 (j : Int)] 3)) (List.Perm.swap _ _ _)) rfl) rfl (by simp) (by simp) (by simp)); (have := HBL.out; unfold maxLen; omega); (have := HBL.out; omega); clear hO; intro v' w9 hO hS9 hv'))
                    go_roundw
                    case rel => exact ⟨j + 1, v', by omega, rfl, by go_num, by rw [HNX.out]; exact own_fl hO, hS.trans ((Same.alloc _ _).trans hS9)⟩
                    case measure => simp [intOf]; omega
                · have hje : j = ds.length := by omega
                  subst hje
                  have HCC : Hid (∀ w', Own w' (owns 3 1 ov (doneZ F3 ds.length).length (zs (doneZ F3 ds.length)) :: owns 3 1 wv (wnums F3.l).length (zs (wnums F3.l)) :: owns 31 1 (.slice DV ds.length dvc) ds.length vs :: rdG g :: engP e F3 :: L) → Calls Try.prog 13 #[.slice DV ds.length dvc, ov] w' (Ret w' (.bool true) (owns 3 1 ov (doneZ F3 ds.length).length (zs (doneZ F3 ds.length)) :: owns 3 1 wv (wnums F3.l).length (zs (wnums F3.l)) :: owns 31 1 (.slice DV ds.length dvc) ds.length vs :: rdG g :: engP e F3 :: L))) := Lib.hid fun w' h => by
                    refine gclosed_c w' _ (.slice DV ds.length dvc) vs ds ov (doneZ F3 ds.length).length (doneZ F3 ds.length) rfl h (fun w2 h2 => deps_rd HDO.out (own_order [2, 2] h2 rfl)) (fun w2 h2 => owns_rd h2) (by omega) (fun l hl => by have := HWK3.out.six l hl; omega) HWK3.out.beh.right (fun d hd => ?_) (fun k l hl hk d hd => ?_)
                    · obtain ⟨n, hn, e5⟩ := List.mem_map.1 hd
                      have := List.mem_range.1 (List.mem_filter.1 hn).1
                      have e5 : ((n : Nat) : Int) = d := e5
                      omega
                    · obtain ⟨h1, h2, _⟩ := HWK3.out.beh.closed hl (doneZ_mem.1 hk) hd
                      have e5 : ((d.toNat : Nat) : Int) = d := Int.toNat_of_nonneg h2
                      rw [← e5]
                      exact doneZ_mem.2 h1
                  go_wp2_with (first | (go_at_call 13; (with_reducible refine Calls.mono (HCC.out _ hO) ?_); clear hO; rintro e u ⟨rfl, hO, hSn⟩; replace hS := hS.trans hSn; clear hSn))
                  go_roundw
                  case rel => exact ⟨i + 1, F3, by omega, by omega, by go_num, HWK3, own_drop (own_drop hO), hS⟩
                  case measure => simp [intOf]; omega
          · have hex3 : i = ws.length ∨ (i < ws.length ∧ i = 30) := by omega
            rcases hex3 with hie | ⟨hie1, hie2⟩
            · subst hie
              go_wp2_with (first | (go_at_call 14; (with_reducible refine Calls.mono (elive_c _ _ hO) ?_); clear hO; rintro e u ⟨rfl, hO, hSn⟩; replace hS := hS.trans hSn; clear hSn))
              go_ret
              exact ⟨rfl, own_drop (own_drop (own_drop hO)), hS⟩
            · subst hie2
              have hw6 : (30 : Int) < ws.length := by omega
              go_wp2_with (first | (go_at_call 14; (with_reducible refine Calls.mono (elive_c _ _ hO) ?_); clear hO; rintro e u ⟨rfl, hO, hSn⟩; replace hS := hS.trans hSn; clear hSn))
              go_ret
              exact ⟨rfl, own_drop (own_drop (own_drop hO)), hS⟩
end
end Go.Proofs.Ytlmkcnkidkoilaa.H
