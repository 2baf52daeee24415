/- The reference's engine: Add. -/
import Derived.Test.YtlmkcnkidkoilaaGreatZ31
import Derived.Test.YtlmkcnkidkoilaaGreatZ34
set_option linter.unusedVariables false
set_option linter.unusedSimpArgs false
set_option maxRecDepth 100000
namespace Go.Proofs.YtlmkcnkidkoilaaGreat.H
open Go.RowKit
theorem item_parts {w : World} {ad : Addr} {n : Nat} {x : It} {v : Value} (h : ∀ (j : Nat) (u : Value), (Iv.cells (x, v))[j]? = some u → w.cell? ((ad.add n).add j) = some u) : w.cell? (ad.add n) = some (.int .i64 x.p.blk) ∧ (∀ (j : Nat) (u : Value), [Value.int .i64 x.p.blk, .int .i64 x.p.off, .string x.p.dat][j]? = some u → w.cell? ((ad.add n).add j) = some u) ∧ w.cell? ((ad.add n).add 3) = some v := by
  refine ⟨?_, fun j u hu => h j u ?_, h 3 _ rfl⟩
  · have := h 0 _ rfl
    rwa [addr_add, Nat.add_zero] at this
  · rcases j with _ | _ | _ | j
    · exact hu
    · exact hu
    · exact hu
    · simp at hu
theorem rover_v (w : World) (L : List HP) (a0 a1 b0 b1 : Int) (s t : ByteArray) {r : Bool} (hr : overB ⟨a0, a1, s⟩ ⟨b0, b1, t⟩ = r) (hO : Own w L) :
    Calls Tryz.prog 97 #[.agg #[.int .i64 a0, .int .i64 a1, .string s], .agg #[.int .i64 b0, .int .i64 b1, .string t]] w (Ret w (.bool r) L) := by
  have h := rover_c w L a0 a1 b0 b1 s t hO
  rw [hr] at h
  exact h
theorem addM_form {E : Eng} {is : List Iv} {x : Iv} (hx : x ∈ is) (h : E.formI x.1 = true) : E.addM (is.map (·.1)) = ((0, 3), E) := by
  unfold Eng.addM
  rw [if_pos]
  rw [← form_any]
  exact List.any_eq_true.2 ⟨x, hx, h⟩
theorem form_not {E : Eng} {is : List Iv} (h : ∀ x ∈ is, E.formI x.1 = false) : E.formB (is.map (·.1)) = false := by
  rw [← form_any, List.any_eq_false]
  intro x hx
  rw [h x hx]
  decide
theorem addM_range {E : Eng} {is : List Iv} (h0 : ∀ x ∈ is, E.formI x.1 = false) {k : Nat} {x : Iv} (hx : is[k]? = some x) {d : Int} (hd : d ∈ x.1.deps) (h : E.depI k d = true) : E.addM (is.map (·.1)) = ((0, 2), E) := by
  unfold Eng.addM
  rw [if_neg (by rw [form_not h0]; decide), if_pos]
  unfold Eng.rangeB
  refine List.any_eq_true.2 ⟨(x.1, k), List.mem_iff_getElem?.2 ⟨k, by rw [List.getElem?_zipIdx, List.getElem?_map, hx]; simp⟩, ?_⟩
  exact List.any_eq_true.2 ⟨d, hd, h⟩
theorem addM_rest {E : Eng} {is : List Iv} (h0 : ∀ x ∈ is, E.formI x.1 = false) (h1 : ∀ (k : Nat) (x : Iv), is[k]? = some x → ∀ d ∈ x.1.deps, E.depI k d = false) : E.addM (is.map (·.1)) = if 200 < E.l.length + is.length then ((0, 11), E) else (((E.next : Int), 0), (is.map (·.1)).foldl (Eng.add1 E.next) E) := by
  unfold Eng.addM
  rw [if_neg (by rw [form_not h0]; decide), if_neg, List.length_map]
  intro h
  obtain ⟨k, x, h2, h3⟩ := range_yes h
  rw [List.getElem?_map] at h2
  obtain ⟨y, hy, rfl⟩ := Option.map_eq_some_iff.1 h2
  obtain ⟨d, hd, h4⟩ := List.any_eq_true.1 h3
  rw [h1 k y hy d hd] at h4
  cases h4
/-- The end of a round of Add: what waits is the engine's. -/
theorem radd_close {w : World} {L : List HP} {r q : Nat} {BA DA : Option Addr} {bc dc : Nat} {bl : List Int} {p : Pat} {g : List RdI} {we : List We} {ws : List Ws} {lv wv : Value} {F : Eng} (hk : we.map (·.1) = F.l ∧ WOk we lv g ∧ RSOk F.m.length F.s ws wv g)
    (hO : Own w (owns 125 5 (.slice DA (we.length + 1) dc) (we.length + 1) (cellsW we ++ We.cells (nWe ⟨F.next, p, bl⟩ BA bc)) :: owns 3 1 (.slice BA bl.length bc) bl.length (zs bl) :: rO r q (.slice DA (we.length + 1) dc) wv (F.next + 1) F.m g L)) :
    Own w (rengP r ⟨F.m, F.l ++ [⟨F.next, p, bl⟩], F.s, F.next + 1⟩ :: L) := by
  have hcap : DA = none → dc = 0 := fun hA => owns_nilcap hO hA
  have h3 := rdG_owns (own_order [1, 3] hO rfl)
  have h5 := rdG_owns (own_order [1] h3 rfl)
  have el : (we ++ [nWe ⟨F.next, p, bl⟩ BA bc]).length = we.length + 1 := by simp
  have ec : cellsW (we ++ [nWe ⟨F.next, p, bl⟩ BA bc]) = cellsW we ++ We.cells (nWe ⟨F.next, p, bl⟩ BA bc) := by rw [cellsW_app]; simp [cellsW]
  have hw := wok_add hk.2.1 ⟨F.next, p, bl⟩ (A := DA) (B := BA) (c := dc) (cb := bc) hcap
  rw [el, ec] at hw
  refine reng_open.2 ⟨q, .slice DA (we.length + 1) dc, wv, we ++ [nWe ⟨F.next, p, bl⟩ BA bc], ws, _, ⟨?_, hw, hk.2.2.mono fun x hx => List.mem_cons_of_mem _ (List.mem_cons_of_mem _ hx)⟩, own_order [1, 1, 0] h5 rfl⟩
  rw [List.map_append, hk.1]; rfl
theorem y_loadrow_atF {P : Program} {ops : Array Oper} {C : World → Prop} {aF : Act} {o : Oper} {T : TypeId} {x : Operand} {ad : Addr} {n : Nat} {vs : List Value} (hw : Region.wanted o (yielded ops aF.tmps) = true) (ho : o.op = .load T x) (hx : aF.eval x = .pointer (some ad))
    (hT : isRowB P T = some true) (hsz : (P.info? T).map (·.size) = some n) (hn : vs.length = n) (hc : ∀ w, C w → ∀ (j : Nat) (u : Value), vs[j]? = some u → w.cell? (ad.add j) = some u) : YieldsIn P ops C o (.agg vs.toArray) aF := by
  refine y_run hw (fun w hC => ?_)
  simp only [execOp, ho, hx, Sem.run_bind, run_loadrow_at hT hsz hn (hc w hC)]
  rfl
theorem run_ws1 (x : We) (w : World) : (Instr.buildSlice 103 1 #[(0, .agg (We.cells x).toArray)]).run Tryz.prog w = .ok (.slice (some ⟨w.heap.size, 0, none⟩) 1 1) (w.alloc (.cells (We.cells x).toArray 125)) := by
  obtain ⟨i, hi, hz⟩ := Option.map_eq_some_iff.1 zero_wt
  have hsz : i.size = 5 := by have := sz_wt; rw [hi] at this; simpa using this
  have hk : ∀ cs : List Value, cs.length = 5 → Instr.fill (fun i => some (i * 5, 5)) cs.toArray [(0, .agg (We.cells x).toArray)] = some (We.cells x).toArray := fun cs hcs => fill_one rfl hcs
  simp [Instr.buildSlice, run_underlying Tryz.underlying103, sizeOf, typeInfo, zeroValue, hi, hz, hsz, Value.cells, hk, newRow]
theorem own_ws1 {ops : Array Oper} {rest : List Oper} {o : Oper} {a : Act} {Q : Exit → Act → World → Prop} {w : World} {x : Operand} (y : We) (hw : Region.wanted o (yielded ops a.tmps) = true) (ho : o.op = .buildSlice 103 1 #[(0, x)]) (hx : a.eval x = .agg (We.cells y).toArray) (h : wpList Tryz.prog ops Q rest (a.put o.dst (.slice (some ⟨w.heap.size, 0, none⟩) 1 1)) (w.alloc (.cells (We.cells y).toArray 125))) : wpList Tryz.prog ops Q (o :: rest) a w := by
  refine ev hw ?_ h
  have e : (#[(0, x)] : Array (Nat × Operand)).map (fun (i, x) => (i, a.eval x)) = #[(0, .agg (We.cells y).toArray)] := by simp [hx]
  simp only [execOp, ho, e, Sem.run_bind, run_ws1 y]
  rfl
theorem owns_w1 {w : World} {L : List HP} {g : Nat} {x : We} (hO : Own w (pts g (.cells (We.cells x).toArray 125) :: L)) : Own w (owns 125 5 (.slice (some ⟨g, 0, none⟩) 1 1) 1 (We.cells x) :: L) :=
  owns_of_pts hO rfl (Nat.le_refl _) (by decide) (List.take_of_length_le (Nat.le_refl _))
section
variable (w : World) (L : List HP) (r : Nat) (E : Eng)
set_option maxHeartbeats 12800000 in
theorem radd_e (v : Value) (n : Nat) (is : List Iv) (hO : Own w (rengP r E :: L)) (hk : E.Ok) (hn : n = is.length) (h6 : n ≤ 1000000) (hrd : ∀ w', Own w' L → Rd w' 4 v n (cellsI is)) (hdep : ∀ x ∈ is, ∃ A c, x.2 = .slice A x.1.deps.length c ∧ ∀ w', Own w' L → Rd w' 1 (.slice A x.1.deps.length c) x.1.deps.length (zs x.1.deps)) (hdl : ∀ x ∈ is, x.1.deps.length ≤ 1000000) :
    Calls Tryz.prog 67 #[.pointer (some ⟨r, 0, none⟩), v] w (Ret w (.tuple #[.int .i64 (E.addM (is.map (·.1))).1.1, .int .i64 (E.addM (is.map (·.1))).1.2]) (rengP r (E.addM (is.map (·.1))).2 :: L)) := by
  subst hn
  obtain ⟨P, hP⟩ : ∃ P, P = E.addM (is.map (·.1)) := ⟨_, rfl⟩
  rw [← hP]
  have HP1 : Hid (∀ x ∈ is, E.formI x.1 = true → P = ((0, 3), E)) := Lib.hid fun x hx h => hP.trans (addM_form hx h)
  have HP2 : Hid ((∀ x ∈ is, E.formI x.1 = false) → ∀ (k : Nat) (x : Iv), is[k]? = some x → ∀ d ∈ x.1.deps, E.depI k d = true → P = ((0, 2), E)) := Lib.hid fun h0 k x hx d hd h => hP.trans (addM_range h0 hx hd h)
  have HP3 : Hid ((∀ x ∈ is, E.formI x.1 = false) → (∀ (k : Nat) (x : Iv), is[k]? = some x → ∀ d ∈ x.1.deps, E.depI k d = false) → P = if 200 < E.l.length + is.length then ((0, 11), E) else (((E.next : Int), 0), (is.map (·.1)).foldl (Eng.add1 E.next) E)) := Lib.hid fun h0 h1 => hP.trans (addM_rest h0 h1)
  have HOK := Lib.hid hk
  have HRD := Lib.hid hrd
  have HDEP := Lib.hid hdep
  have HDL := Lib.hid hdl
  have H6 := Lib.hid h6
  have HN6 : Hid (E.next ≤ 1000000) := hk.lim
  have HLE : Hid (E.l.length ≤ 200) := hk.len
  have hS := Same.refl w
  obtain ⟨VA, vc, rfl⟩ := (hrd w (own_drop hO)).slice
  have hmx := (hrd w (own_drop hO)).max
  obtain ⟨q, lv, wv, we, ws, g, hkk, hO⟩ := reng_open.1 hO
  have HK := Lib.hid hkk
  clear hk hrd hdep hdl hP hkk
  go_enter Tryz.func67, Tryz.ntmps67
  go_wp2
  go_loopw [6] (fun iv wr => ∃ k : Nat, k ≤ is.length ∧ iv = .int .i64 k ∧ Hid (∀ x ∈ is.take k, E.formI x.1 = false) ∧ Own wr (rO r q lv wv E.next E.m g L) ∧ Same w wr) (fun iv _ => is.length - (intOf iv).toNat)
  case atStart => exact ⟨0, Nat.zero_le _, rfl, Lib.hid (fun x hx => by simp at hx), hO, hS⟩
  case round =>
    clear hO hS
    obtain ⟨k, hk, rfl, HNO, hO, hS⟩ := hrel
    by_cases hlt : k < is.length
    ·
      obtain ⟨⟨x, xv⟩, hx⟩ : ∃ y, is[k]? = some y := ⟨_, List.getElem?_eq_getElem hlt⟩
      obtain ⟨DA, dc, e2, hdr⟩ := HDEP.out _ (List.mem_of_getElem? hx)
      have e2 : xv = .slice DA x.deps.length dc := e2
      subst e2
      have HXM : Hid ((x, Value.slice DA x.deps.length dc) ∈ is) := List.mem_of_getElem? hx
      have HXK : Hid (is[k]? = some (x, Value.slice DA x.deps.length dc)) := hx
      have HK6 : Hid (k ≤ 1000000) := by have := H6.out; show _ ≤ _; omega
      have HNOW := Lib.hid hO
      obtain ⟨ad, e1⟩ := (HRD.out _ (own_drop (own_drop (own_drop hO)))).addr (by rw [cellsI_length]; omega)
      subst e1
      have hO := HNOW.out
      have HC : Hid (∀ w', Own w' L → w'.cell? (ad.add (k * 4)) = some (.int .i64 x.p.blk) ∧ (∀ (j : Nat) (u : Value), [Value.int .i64 x.p.blk, .int .i64 x.p.off, .string x.p.dat][j]? = some u → w'.cell? ((ad.add (k * 4)).add j) = some u) ∧ w'.cell? ((ad.add (k * 4)).add 3) = some (.slice DA x.deps.length dc)) := Lib.hid fun w' h => item_parts (item_cells (HRD.out w' h) hx)
      have hm1 : (k : Int) < is.length := by omega
      have HDR : Hid (∀ w', Own w' L → Rd w' 1 (.slice DA x.deps.length dc) x.deps.length (zs x.deps)) := hdr
      clear hx hdr HNOW
      have HNX : Hid (E.formI x = false → ∀ x ∈ is.take (k + 1), E.formI x.1 = false) := Lib.hid fun h0 y hy => by
        rw [List.take_add_one, HXK.out] at hy
        rcases List.mem_append.1 hy with hy | hy
        · exact HNO.out y hy
        · have e : y = (x, Value.slice DA x.deps.length dc) := by simpa using hy
          rw [e]; exact h0
      obtain ⟨rb, hrb⟩ : ∃ rb, rightB x.p = rb := ⟨_, rfl⟩
      have HRB := Lib.hid hrb
      go_upto_region 6 with fail
      cases rb with
      | false =>
        have HF : Hid (P = ((0, 3), E)) := HP1.out _ HXM.out (by unfold Eng.formI; rw [hrb]; rfl)
        clear hrb
        refine wp_region_seq (Cls _ (rO r q lv wv E.next E.m g L)) 21 192 mixed (by kernel_rfl) rfl (cls_drew hO) ?_
        simp only [List.append_eq, List.cons_append, List.nil_append, List.take_succ_cons, List.take_zero]
        repeat (first
          | (apply wv_skip rfl; simp only [Act.put, List.setIfInBounds_toArray, List.set_cons_zero, List.set_cons_succ])
          | (refine wv_loadrow_at (ad := ad.add (k * 4)) (vs := [.int .i64 x.p.blk, .int .i64 x.p.off, .string x.p.dat]) rfl rfl rfl row_pat sz_pat rfl (fun w h => (HC.out _ (own_drop (own_drop (own_drop h.1)))).2.1) ?_; simp only [Act.put, List.setIfInBounds_toArray, List.set_cons_zero, List.set_cons_succ])
          | (refine wv_load1_at (ad := ad.add (k * 4)) (v := .int .i64 x.p.blk) rfl rfl rfl row_int (fun w h => (HC.out _ (own_drop (own_drop (own_drop h.1)))).1) ?_; simp only [Act.put, List.setIfInBounds_toArray, List.set_cons_zero, List.set_cons_succ])
          | (refine wv_load1 (b := r) (off := 0) (cs := #[.pointer (some ⟨q, 0, none⟩), lv, wv, .int .i64 E.next]) (t := 106) (v := .pointer (some ⟨q, 0, none⟩)) rfl rfl rfl row_rdptr (fun w h => own_get 0 h.1 rfl) rfl ?_; simp only [Act.put, List.setIfInBounds_toArray, List.set_cons_zero, List.set_cons_succ])
          | (apply wv_load1 rfl rfl rfl; (first | exact row_int | exact row_str | exact row_bool | exact row_u8 | exact row_bys | exact row_pats | exact row_err); (intro w h; (first | exact own_get 0 h.1 rfl | exact own_get 1 h.1 rfl | exact own_get 2 h.1 rfl | exact own_get 3 h.1 rfl | exact own_get 4 h.1 rfl | exact own_get 5 h.1 rfl | exact own_get 6 h.1 rfl | exact own_get 7 h.1 rfl)); (first | (simp only [List.getElem?_toArray, List.getElem?_cons_succ, List.getElem?_cons_zero]; rfl) | rfl); simp only [Act.put, List.setIfInBounds_toArray, List.set_cons_zero, List.set_cons_succ])
          | (apply wv_loadrow rfl rfl rfl; (first | exact row_pat); exact sz_pat; (intro w h; (first | exact own_get 0 h.1 rfl | exact own_get 1 h.1 rfl | exact own_get 2 h.1 rfl | exact own_get 3 h.1 rfl | exact own_get 4 h.1 rfl | exact own_get 5 h.1 rfl | exact own_get 6 h.1 rfl | exact own_get 7 h.1 rfl)); (focus (simp; done)); (first | (simp only [List.drop_zero, List.drop_succ_cons, List.take_succ_cons, List.take_zero]; rfl) | rfl); simp only [Act.put, List.setIfInBounds_toArray, List.set_cons_zero, List.set_cons_succ])
          | (apply wv_run rfl; (focus (intro w h; go_simp; first | done | rfl)); simp only [Act.put, List.setIfInBounds_toArray, List.set_cons_zero, List.set_cons_succ])
          | (apply wv_call rfl; (focus (intro w; go_simp; first | done | exact ⟨rfl, rfl⟩)); (focus (intro w h; apply cls_call h; (exact rright_v _ _ x.p.blk x.p.off x.p.dat (r := false) HRB.out h.1))); simp only [Act.put, List.setIfInBounds_toArray, List.set_cons_zero, List.set_cons_succ]))
        refine wv_nil ?_
        simp only [List.drop_succ_cons, List.drop_zero]
        intro w5 ⟨hO5, hS5⟩
        clear hO
        go_wp2
        go_ret2
        exact ⟨by rw [HF.out]; rfl, by rw [HF.out]; exact reng_open.2 ⟨_, _, _, _, _, _, HK.out, hO5⟩, hS.trans hS5⟩
      | true =>
        by_cases hge : (E.m.length : Int) ≤ x.p.blk
        · have HF : Hid (P = ((0, 3), E)) := HP1.out _ HXM.out (by unfold Eng.formI; rw [hrb]; simpa using hge)
          clear hrb
          refine wp_region_seq (Cls _ (rO r q lv wv E.next E.m g L)) 21 192 mixed (by kernel_rfl) rfl (cls_drew hO) ?_
          simp only [List.append_eq, List.cons_append, List.nil_append, List.take_succ_cons, List.take_zero]
          repeat (first
            | (apply wv_skip rfl; simp only [Act.put, List.setIfInBounds_toArray, List.set_cons_zero, List.set_cons_succ])
            | (refine wv_loadrow_at (ad := ad.add (k * 4)) (vs := [.int .i64 x.p.blk, .int .i64 x.p.off, .string x.p.dat]) rfl rfl rfl row_pat sz_pat rfl (fun w h => (HC.out _ (own_drop (own_drop (own_drop h.1)))).2.1) ?_; simp only [Act.put, List.setIfInBounds_toArray, List.set_cons_zero, List.set_cons_succ])
            | (refine wv_load1_at (ad := ad.add (k * 4)) (v := .int .i64 x.p.blk) rfl rfl rfl row_int (fun w h => (HC.out _ (own_drop (own_drop (own_drop h.1)))).1) ?_; simp only [Act.put, List.setIfInBounds_toArray, List.set_cons_zero, List.set_cons_succ])
            | (refine wv_load1 (b := r) (off := 0) (cs := #[.pointer (some ⟨q, 0, none⟩), lv, wv, .int .i64 E.next]) (t := 106) (v := .pointer (some ⟨q, 0, none⟩)) rfl rfl rfl row_rdptr (fun w h => own_get 0 h.1 rfl) rfl ?_; simp only [Act.put, List.setIfInBounds_toArray, List.set_cons_zero, List.set_cons_succ])
            | (apply wv_load1 rfl rfl rfl; (first | exact row_int | exact row_str | exact row_bool | exact row_u8 | exact row_bys | exact row_pats | exact row_err); (intro w h; (first | exact own_get 0 h.1 rfl | exact own_get 1 h.1 rfl | exact own_get 2 h.1 rfl | exact own_get 3 h.1 rfl | exact own_get 4 h.1 rfl | exact own_get 5 h.1 rfl | exact own_get 6 h.1 rfl | exact own_get 7 h.1 rfl)); (first | (simp only [List.getElem?_toArray, List.getElem?_cons_succ, List.getElem?_cons_zero]; rfl) | rfl); simp only [Act.put, List.setIfInBounds_toArray, List.set_cons_zero, List.set_cons_succ])
            | (apply wv_loadrow rfl rfl rfl; (first | exact row_pat); exact sz_pat; (intro w h; (first | exact own_get 0 h.1 rfl | exact own_get 1 h.1 rfl | exact own_get 2 h.1 rfl | exact own_get 3 h.1 rfl | exact own_get 4 h.1 rfl | exact own_get 5 h.1 rfl | exact own_get 6 h.1 rfl | exact own_get 7 h.1 rfl)); (focus (simp; done)); (first | (simp only [List.drop_zero, List.drop_succ_cons, List.take_succ_cons, List.take_zero]; rfl) | rfl); simp only [Act.put, List.setIfInBounds_toArray, List.set_cons_zero, List.set_cons_succ])
            | (apply wv_run rfl; (focus (intro w h; go_simp; first | done | rfl)); simp only [Act.put, List.setIfInBounds_toArray, List.set_cons_zero, List.set_cons_succ])
            | (apply wv_call rfl; (focus (intro w; go_simp; first | done | exact ⟨rfl, rfl⟩)); (focus (intro w h; apply cls_call h; (first | exact rright_v _ _ x.p.blk x.p.off x.p.dat (r := true) HRB.out h.1 | exact call_at 1 (fun L' h' => rsize_c _ L' q E.m h') rfl h.1))); simp only [Act.put, List.setIfInBounds_toArray, List.set_cons_zero, List.set_cons_succ]))
          refine wv_nil ?_
          simp only [List.drop_succ_cons, List.drop_zero]
          intro w5 ⟨hO5, hS5⟩
          clear hO
          go_wp2
          go_ret2
          exact ⟨by rw [HF.out]; rfl, by rw [HF.out]; exact reng_open.2 ⟨_, _, _, _, _, _, HK.out, hO5⟩, hS.trans hS5⟩
        · have HF : Hid (∀ x ∈ is.take (k + 1), E.formI x.1 = false) := HNX.out (by unfold Eng.formI; rw [hrb]; simpa using hge)
          clear hrb
          refine wp_region_seq (Cls _ (rO r q lv wv E.next E.m g L)) 21 192 mixed (by kernel_rfl) rfl (cls_drew hO) ?_
          simp only [List.append_eq, List.cons_append, List.nil_append, List.take_succ_cons, List.take_zero]
          repeat (first
            | (apply wv_skip rfl; simp only [Act.put, List.setIfInBounds_toArray, List.set_cons_zero, List.set_cons_succ])
            | (refine wv_loadrow_at (ad := ad.add (k * 4)) (vs := [.int .i64 x.p.blk, .int .i64 x.p.off, .string x.p.dat]) rfl rfl rfl row_pat sz_pat rfl (fun w h => (HC.out _ (own_drop (own_drop (own_drop h.1)))).2.1) ?_; simp only [Act.put, List.setIfInBounds_toArray, List.set_cons_zero, List.set_cons_succ])
            | (refine wv_load1_at (ad := ad.add (k * 4)) (v := .int .i64 x.p.blk) rfl rfl rfl row_int (fun w h => (HC.out _ (own_drop (own_drop (own_drop h.1)))).1) ?_; simp only [Act.put, List.setIfInBounds_toArray, List.set_cons_zero, List.set_cons_succ])
            | (refine wv_load1 (b := r) (off := 0) (cs := #[.pointer (some ⟨q, 0, none⟩), lv, wv, .int .i64 E.next]) (t := 106) (v := .pointer (some ⟨q, 0, none⟩)) rfl rfl rfl row_rdptr (fun w h => own_get 0 h.1 rfl) rfl ?_; simp only [Act.put, List.setIfInBounds_toArray, List.set_cons_zero, List.set_cons_succ])
            | (apply wv_load1 rfl rfl rfl; (first | exact row_int | exact row_str | exact row_bool | exact row_u8 | exact row_bys | exact row_pats | exact row_err); (intro w h; (first | exact own_get 0 h.1 rfl | exact own_get 1 h.1 rfl | exact own_get 2 h.1 rfl | exact own_get 3 h.1 rfl | exact own_get 4 h.1 rfl | exact own_get 5 h.1 rfl | exact own_get 6 h.1 rfl | exact own_get 7 h.1 rfl)); (first | (simp only [List.getElem?_toArray, List.getElem?_cons_succ, List.getElem?_cons_zero]; rfl) | rfl); simp only [Act.put, List.setIfInBounds_toArray, List.set_cons_zero, List.set_cons_succ])
            | (apply wv_loadrow rfl rfl rfl; (first | exact row_pat); exact sz_pat; (intro w h; (first | exact own_get 0 h.1 rfl | exact own_get 1 h.1 rfl | exact own_get 2 h.1 rfl | exact own_get 3 h.1 rfl | exact own_get 4 h.1 rfl | exact own_get 5 h.1 rfl | exact own_get 6 h.1 rfl | exact own_get 7 h.1 rfl)); (focus (simp; done)); (first | (simp only [List.drop_zero, List.drop_succ_cons, List.take_succ_cons, List.take_zero]; rfl) | rfl); simp only [Act.put, List.setIfInBounds_toArray, List.set_cons_zero, List.set_cons_succ])
            | (apply wv_run rfl; (focus (intro w h; go_simp; first | done | rfl)); simp only [Act.put, List.setIfInBounds_toArray, List.set_cons_zero, List.set_cons_succ])
            | (apply wv_call rfl; (focus (intro w; go_simp; first | done | exact ⟨rfl, rfl⟩)); (focus (intro w h; apply cls_call h; (first | exact rright_v _ _ x.p.blk x.p.off x.p.dat (r := true) HRB.out h.1 | exact call_at 1 (fun L' h' => rsize_c _ L' q E.m h') rfl h.1))); simp only [Act.put, List.setIfInBounds_toArray, List.set_cons_zero, List.set_cons_succ]))
          refine wv_nil ?_
          simp only [List.drop_succ_cons, List.drop_zero]
          intro w5 ⟨hO5, hS5⟩
          clear hO
          go_wp2
          go_roundw
          case rel => exact ⟨k + 1, by omega, by go_num, HF, hO5, hS.trans hS5⟩
          case measure => simp [intOf]; omega
    have hke : k = is.length := by omega
    subst hke
    rw [List.take_length] at HNO
    go_wp2
    go_loopw [7] (fun iv wr => ∃ k : Nat, k ≤ is.length ∧ iv = .int .i64 k ∧ Hid (∀ (j : Nat) (x : Iv), j < k → is[j]? = some x → ∀ d ∈ x.1.deps, E.depI j d = false) ∧ Own wr (rO r q lv wv E.next E.m g L) ∧ Same w wr) (fun iv _ => is.length - (intOf iv).toNat)
    case atStart => exact ⟨0, Nat.zero_le _, rfl, Lib.hid (fun j x h => by omega), hO, hS⟩
    case round =>
      clear hO hS
      obtain ⟨k, hk, rfl, HNR, hO, hS⟩ := hrel
      by_cases hlt : k < is.length
      ·
        obtain ⟨⟨x, xv⟩, hx⟩ : ∃ y, is[k]? = some y := ⟨_, List.getElem?_eq_getElem hlt⟩
        obtain ⟨DA, dc, e2, hdr⟩ := HDEP.out _ (List.mem_of_getElem? hx)
        have e2 : xv = .slice DA x.deps.length dc := e2
        subst e2
        have HXM : Hid ((x, Value.slice DA x.deps.length dc) ∈ is) := List.mem_of_getElem? hx
        have HXK : Hid (is[k]? = some (x, Value.slice DA x.deps.length dc)) := hx
        have HK6 : Hid (k ≤ 1000000) := by have := H6.out; show _ ≤ _; omega
        have HNOW := Lib.hid hO
        obtain ⟨ad, e1⟩ := (HRD.out _ (own_drop (own_drop (own_drop hO)))).addr (by rw [cellsI_length]; omega)
        subst e1
        have hO := HNOW.out
        have HC : Hid (∀ w', Own w' L → w'.cell? (ad.add (k * 4)) = some (.int .i64 x.p.blk) ∧ (∀ (j : Nat) (u : Value), [Value.int .i64 x.p.blk, .int .i64 x.p.off, .string x.p.dat][j]? = some u → w'.cell? ((ad.add (k * 4)).add j) = some u) ∧ w'.cell? ((ad.add (k * 4)).add 3) = some (.slice DA x.deps.length dc)) := Lib.hid fun w' h => item_parts (item_cells (HRD.out w' h) hx)
        have hm1 : (k : Int) < is.length := by omega
        have HDR : Hid (∀ w', Own w' L → Rd w' 1 (.slice DA x.deps.length dc) x.deps.length (zs x.deps)) := hdr
        clear hx hdr HNOW
        have HRA : Hid (∀ d ∈ x.deps, E.depI k d = true → P = ((0, 2), E)) := Lib.hid fun d hd h => HP2.out HNO.out k _ HXK.out d hd h
        go_wp2
        go_loopw [8] (fun jv wr => ∃ j : Nat, j ≤ x.deps.length ∧ jv = .int .i64 j ∧ Hid (∀ d ∈ x.deps.take j, E.depI k d = false) ∧ Own wr (rO r q lv wv E.next E.m g L) ∧ Same w wr) (fun jv _ => x.deps.length - (intOf jv).toNat)
        case atStart => exact ⟨0, Nat.zero_le _, rfl, Lib.hid (fun d hd => by simp at hd), hO, hS⟩
        case round =>
          clear hO hS
          obtain ⟨j, hj, rfl, HNJ, hO, hS⟩ := hrel
          by_cases hlt2 : j < x.deps.length
          · obtain ⟨d, hd⟩ : ∃ y, x.deps[j]? = some y := ⟨_, List.getElem?_eq_getElem hlt2⟩
            have hrb := HDR.out _ (own_drop (own_drop (own_drop hO)))
            have HNOW := Lib.hid hO
            obtain ⟨dad, e5⟩ := hrb.addr (by unfold zs; rw [List.length_map]; omega)
            subst e5
            have hO := HNOW.out
            have HCD : Hid (∀ (w' : World), Own w' L → w'.cell? (dad.add j) = some (.int .i64 d)) := Lib.hid fun w' h => zs_cell (HDR.out w' h) hd
            have HDM : Hid (d ∈ x.deps) := List.mem_of_getElem? hd
            have HDK : Hid (x.deps.take (j + 1) = x.deps.take j ++ [d]) := by show _ = _; rw [List.take_add_one, hd]; rfl
            have hm2 : (j : Int) < x.deps.length := by omega
            have hmd := hrb.max
            have hxd : x.deps.length ≤ 1000000 := HDL.out _ HXM.out
            have hneg : IntKind.i64.wrap (-(k : Int)) = -(k : Int) := by have := HK6.out; rw [IntKind.wrap_i64] <;> omega
            clear hd hrb HNOW
            by_cases h1 : (E.next : Int) ≤ d
            · have HF : Hid (P = ((0, 2), E)) := HRA.out d HDM.out (by unfold Eng.depI; simp [h1])
              go_wp2_with (first | (apply own_load1 rfl rfl rfl; (first | exact row_rdptr | exact row_wts | exact row_wrs | exact row_int); (first | exact own_get 0 hO rfl | exact own_get 1 hO rfl | exact own_get 2 hO rfl | exact own_get 3 hO rfl | exact own_get 4 hO rfl | exact own_get 5 hO rfl | exact own_get 6 hO rfl | exact own_get 7 hO rfl); (first | (simp only [List.getElem?_toArray, List.getElem?_cons_succ, List.getElem?_cons_zero]; rfl) | rfl)) | (refine own_load1_at (ad := (ad.add (k * 4)).add 3) (v := .slice (some dad) x.deps.length dc) rfl rfl rfl row_zs (HC.out _ (own_drop (own_drop (own_drop hO)))).2.2 ?_) | (refine own_load1_at (ad := dad.add j) (v := .int .i64 d) rfl rfl rfl row_int (HCD.out _ (own_drop (own_drop (own_drop hO)))) ?_))
              go_ret2
              exact ⟨by rw [HF.out]; rfl, by rw [HF.out]; exact reng_open.2 ⟨_, _, _, _, _, _, HK.out, hO⟩, hS⟩
            · by_cases h2 : d < -(k : Int)
              · have HF : Hid (P = ((0, 2), E)) := HRA.out d HDM.out (by unfold Eng.depI; simp [h2])
                go_wp2_with (first | (apply own_load1 rfl rfl rfl; (first | exact row_rdptr | exact row_wts | exact row_wrs | exact row_int); (first | exact own_get 0 hO rfl | exact own_get 1 hO rfl | exact own_get 2 hO rfl | exact own_get 3 hO rfl | exact own_get 4 hO rfl | exact own_get 5 hO rfl | exact own_get 6 hO rfl | exact own_get 7 hO rfl); (first | (simp only [List.getElem?_toArray, List.getElem?_cons_succ, List.getElem?_cons_zero]; rfl) | rfl)) | (refine own_load1_at (ad := (ad.add (k * 4)).add 3) (v := .slice (some dad) x.deps.length dc) rfl rfl rfl row_zs (HC.out _ (own_drop (own_drop (own_drop hO)))).2.2 ?_) | (refine own_load1_at (ad := dad.add j) (v := .int .i64 d) rfl rfl rfl row_int (HCD.out _ (own_drop (own_drop (own_drop hO)))) ?_))
                go_ret2
                exact ⟨by rw [HF.out]; rfl, by rw [HF.out]; exact reng_open.2 ⟨_, _, _, _, _, _, HK.out, hO⟩, hS⟩
              · have HF : Hid (∀ d ∈ x.deps.take (j + 1), E.depI k d = false) := Lib.hid fun d' hd' => by
                  rw [HDK.out] at hd'
                  rcases List.mem_append.1 hd' with hd' | hd'
                  · exact HNJ.out d' hd'
                  · rw [List.mem_singleton.1 hd']
                    unfold Eng.depI
                    simp [h1, h2]
                go_wp2_with (first | (apply own_load1 rfl rfl rfl; (first | exact row_rdptr | exact row_wts | exact row_wrs | exact row_int); (first | exact own_get 0 hO rfl | exact own_get 1 hO rfl | exact own_get 2 hO rfl | exact own_get 3 hO rfl | exact own_get 4 hO rfl | exact own_get 5 hO rfl | exact own_get 6 hO rfl | exact own_get 7 hO rfl); (first | (simp only [List.getElem?_toArray, List.getElem?_cons_succ, List.getElem?_cons_zero]; rfl) | rfl)) | (refine own_load1_at (ad := (ad.add (k * 4)).add 3) (v := .slice (some dad) x.deps.length dc) rfl rfl rfl row_zs (HC.out _ (own_drop (own_drop (own_drop hO)))).2.2 ?_) | (refine own_load1_at (ad := dad.add j) (v := .int .i64 d) rfl rfl rfl row_int (HCD.out _ (own_drop (own_drop (own_drop hO)))) ?_))
                go_roundw
                case rel => exact ⟨j + 1, by omega, by go_num, HF, hO, hS⟩
                case measure => simp [intOf]; omega
          · have hje : j = x.deps.length := by omega
            subst hje
            rw [List.take_length] at HNJ
            have HNX : Hid (∀ (j : Nat) (x : Iv), j < k + 1 → is[j]? = some x → ∀ d ∈ x.1.deps, E.depI j d = false) := Lib.hid fun j y hj hy => by
              rcases Nat.lt_or_ge j k with h | h
              · exact HNR.out j y h hy
              · have : j = k := by omega
                subst this
                rw [HXK.out] at hy
                cases hy
                exact HNJ.out
            go_wp2_with (first | (apply own_load1 rfl rfl rfl; (first | exact row_rdptr | exact row_wts | exact row_wrs | exact row_int); (first | exact own_get 0 hO rfl | exact own_get 1 hO rfl | exact own_get 2 hO rfl | exact own_get 3 hO rfl | exact own_get 4 hO rfl | exact own_get 5 hO rfl | exact own_get 6 hO rfl | exact own_get 7 hO rfl); (first | (simp only [List.getElem?_toArray, List.getElem?_cons_succ, List.getElem?_cons_zero]; rfl) | rfl)) | (refine own_load1_at (ad := (ad.add (k * 4)).add 3) (v := .slice DA x.deps.length dc) rfl rfl rfl row_zs (HC.out _ (own_drop (own_drop (own_drop hO)))).2.2 ?_))
            go_roundw
            case rel => exact ⟨k + 1, by omega, by go_num, HNX, hO, hS⟩
            case measure => simp [intOf]; omega
      have hke : k = is.length := by omega
      subst hke
      have HALL : Hid (P = if 200 < E.l.length + is.length then ((0, 11), E) else (((E.next : Int), 0), (is.map (·.1)).foldl (Eng.add1 E.next) E)) := HP3.out HNO.out (fun k x hx d hd => HNR.out k x (List.getElem?_eq_some_iff.1 hx).1 hx d hd)
      obtain ⟨WA, wc, e9, hm⟩ := HK.out.2.1.rd
      have HNOW := Lib.hid hO
      subst e9
      have hO := HNOW.out
      have hwl : we.length = E.l.length := by rw [← HK.out.1, List.length_map]
      have hw2 : we.length ≤ 200 := by have := HLE.out; omega
      have hwr : IntKind.i64.wrap (200 - (we.length : Int)) = 200 - (we.length : Int) := by rw [IntKind.wrap_i64] <;> omega
      have hmw := (rdG_rd (own_at hO (k := 2) rfl) hm).max
      clear hm HNOW
      by_cases hfull : 200 < E.l.length + is.length
      · have HF : Hid (P = ((0, 11), E)) := HALL.out.trans (if_pos hfull)
        have hf1 : 200 - (we.length : Int) < is.length := by omega
        clear hwl hfull
        go_wp2_with (first | (apply own_load1 rfl rfl rfl; (first | exact row_rdptr | exact row_wts | exact row_wrs | exact row_int); (first | exact own_get 0 hO rfl | exact own_get 1 hO rfl | exact own_get 2 hO rfl | exact own_get 3 hO rfl | exact own_get 4 hO rfl | exact own_get 5 hO rfl | exact own_get 6 hO rfl | exact own_get 7 hO rfl); (first | (simp only [List.getElem?_toArray, List.getElem?_cons_succ, List.getElem?_cons_zero]; rfl) | rfl)))
        go_ret2
        exact ⟨by rw [HF.out]; rfl, by rw [HF.out]; exact reng_open.2 ⟨_, _, _, _, _, _, HK.out, hO⟩, hS⟩
      · have HF : Hid (P = (((E.next : Int), 0), (is.map (·.1)).foldl (Eng.add1 E.next) E)) := HALL.out.trans (if_neg hfull)
        have HRM : Hid (E.l.length + is.length ≤ 200) := by show _ ≤ _; omega
        have hf1 : ¬ (200 - (we.length : Int) < is.length) := by omega
        clear hwl hfull
        go_wp2_with (first | (apply own_load1 rfl rfl rfl; (first | exact row_rdptr | exact row_wts | exact row_wrs | exact row_int); (first | exact own_get 0 hO rfl | exact own_get 1 hO rfl | exact own_get 2 hO rfl | exact own_get 3 hO rfl | exact own_get 4 hO rfl | exact own_get 5 hO rfl | exact own_get 6 hO rfl | exact own_get 7 hO rfl); (first | (simp only [List.getElem?_toArray, List.getElem?_cons_succ, List.getElem?_cons_zero]; rfl) | rfl)))
        replace hO := reng_open.2 ⟨_, _, _, _, _, _, HK.out, hO⟩
        clear HK HALL hf1 hw2 hwr hmw HP1 HP2 HP3
        go_loopw [11] (fun iv wr => ∃ k : Nat, k ≤ is.length ∧ iv = .int .i64 k ∧ Own wr (rengP r (((is.take k).map (·.1)).foldl (Eng.add1 E.next) E) :: L) ∧ Same w wr) (fun iv _ => is.length - (intOf iv).toNat)
        case atStart => exact ⟨0, Nat.zero_le _, rfl, hO, hS⟩
        case round =>
          clear hO hS
          obtain ⟨k, hk, rfl, hO, hS⟩ := hrel
          by_cases hlt : k < is.length
          ·
            obtain ⟨⟨x, xv⟩, hx⟩ : ∃ y, is[k]? = some y := ⟨_, List.getElem?_eq_getElem hlt⟩
            obtain ⟨DA, dc, e2, hdr⟩ := HDEP.out _ (List.mem_of_getElem? hx)
            have e2 : xv = .slice DA x.deps.length dc := e2
            subst e2
            have HXM : Hid ((x, Value.slice DA x.deps.length dc) ∈ is) := List.mem_of_getElem? hx
            have HXK : Hid (is[k]? = some (x, Value.slice DA x.deps.length dc)) := hx
            have HK6 : Hid (k ≤ 1000000) := by have := H6.out; show _ ≤ _; omega
            have HNOW := Lib.hid hO
            obtain ⟨ad, e1⟩ := (HRD.out _ (own_drop hO)).addr (by rw [cellsI_length]; omega)
            subst e1
            have hO := HNOW.out
            have HC : Hid (∀ w', Own w' L → w'.cell? (ad.add (k * 4)) = some (.int .i64 x.p.blk) ∧ (∀ (j : Nat) (u : Value), [Value.int .i64 x.p.blk, .int .i64 x.p.off, .string x.p.dat][j]? = some u → w'.cell? ((ad.add (k * 4)).add j) = some u) ∧ w'.cell? ((ad.add (k * 4)).add 3) = some (.slice DA x.deps.length dc)) := Lib.hid fun w' h => item_parts (item_cells (HRD.out w' h) hx)
            have hm1 : (k : Int) < is.length := by omega
            have HDR : Hid (∀ w', Own w' L → Rd w' 1 (.slice DA x.deps.length dc) x.deps.length (zs x.deps)) := hdr
            clear hx hdr HNOW
            have HXD : Hid (x.deps.length ≤ 1000000) := HDL.out _ HXM.out
            have HDN : Hid (∀ d ∈ x.deps, d < (E.next : Int) ∧ -(k : Int) ≤ d) := Lib.hid fun d hd => by
              have h2 := HNR.out k _ (List.getElem?_eq_some_iff.1 HXK.out).1 HXK.out d hd
              unfold Eng.depI at h2
              simp only [Bool.or_eq_false_iff, decide_eq_false_iff_not] at h2
              omega
            obtain ⟨F, hF⟩ : ∃ F, F = ((is.take k).map (·.1)).foldl (Eng.add1 E.next) E := ⟨_, rfl⟩
            rw [← hF] at hO
            have hlk : ((is.take k).map (·.1)).length = k := by rw [List.length_map, List.length_take]; omega
            have HFN : Hid (F.next = E.next + k) := by show _ = _; rw [hF, Eng.addK_next, hlk]
            have HFL : Hid (F.l.length < 200) := by have := Eng.addK_len E E.next ((is.take k).map (·.1)); rw [← hF, hlk] at this; have := HRM.out; show _ < _; omega
            have HFX : Hid (((is.take (k + 1)).map (·.1)).foldl (Eng.add1 E.next) E = F.add1 E.next x) := by
              show _ = _
              rw [add_take (x := x) (by rw [List.getElem?_map, HXK.out]; rfl), hF]
            have HF6 : Hid (F.next ≤ 2000000) := by have := HN6.out; have := HK6.out; have := HFN.out; show _ ≤ _; omega
            clear hF hlk
            obtain ⟨q, lv, wv, we, ws, g, hkk, hO⟩ := reng_open.1 hO
            obtain ⟨WA, wc, rfl, hm⟩ := hkk.2.1.rd
            have HK := Lib.hid hkk
            have HM := Lib.hid hm
            have HWL : Hid (we.length < 200) := by have := HFL.out; rw [← hkk.1, List.length_map] at this; exact this
            have hmw := (rdG_rd (own_at hO (k := 2) rfl) hm).max
            clear hm hkk
            go_wp2
            go_loopw [12, 13] (fun pv jv wr => ∃ (j : Nat) (vb : Value), j ≤ x.deps.length ∧ vb = pv ∧ jv = .int .i64 j ∧ Own wr (owns 3 1 vb ((x.deps.take j).map (Eng.depOf E.next)).length (zs ((x.deps.take j).map (Eng.depOf E.next))) :: rO r q (.slice WA we.length wc) wv F.next F.m g L) ∧ Same w wr) (fun _ jv _ => x.deps.length - (intOf jv).toNat)
            case atStart => exact ⟨0, _, Nat.zero_le _, rfl, rfl, owns_nil hO, hS⟩
            case round =>
              clear hO hS
              obtain ⟨j, vb, hj, hvb, rfl, hO, hS⟩ := hrel
              subst hvb
              by_cases hlt2 : j < x.deps.length
              · obtain ⟨d, hd⟩ : ∃ y, x.deps[j]? = some y := ⟨_, List.getElem?_eq_getElem hlt2⟩
                have hrb := HDR.out _ (own_drop (own_drop (own_drop (own_drop hO))))
                have HNOW := Lib.hid hO
                obtain ⟨dad, e5⟩ := hrb.addr (by unfold zs; rw [List.length_map]; omega)
                subst e5
                have hO := HNOW.out
                have HCD : Hid (∀ (w' : World), Own w' L → w'.cell? (dad.add j) = some (.int .i64 d)) := Lib.hid fun w' h => zs_cell (HDR.out w' h) hd
                have hm2 : (j : Int) < x.deps.length := by omega
                have hmd := hrb.max
                obtain ⟨bl, hbl⟩ : ∃ bl, bl = (x.deps.take j).map (Eng.depOf E.next) := ⟨_, rfl⟩
                rw [← hbl] at hO
                have HBL : Hid (bl.length ≤ 1000000) := by have := HXD.out; show _ ≤ _; rw [hbl, List.length_map, List.length_take]; omega
                have HNX : Hid ((x.deps.take (j + 1)).map (Eng.depOf E.next) = bl ++ [Eng.depOf E.next d]) := by
                  show _ = _
                  rw [List.take_add_one, hd, List.map_append, hbl]
                  rfl
                have HQ := Lib.hid (HDN.out d (List.mem_of_getElem? hd))
                clear hd hrb HNOW hbl
                by_cases hneg : d < 0
                · have hadd1 : IntKind.i64.wrap ((E.next : Int) - d) = (E.next : Int) - d := by
                    have h1 := HQ.out
                    have h2 := HN6.out
                    have h3 := HK6.out
                    rw [IntKind.wrap_i64] <;> omega
                  have hadd2 : IntKind.i64.wrap ((E.next : Int) - d - 1) = (E.next : Int) - d - 1 := by
                    have h1 := HQ.out
                    have h2 := HN6.out
                    have h3 := HK6.out
                    rw [IntKind.wrap_i64] <;> omega
                  have HDQ : Hid (Eng.depOf E.next d = (E.next : Int) - d - 1) := by show _ = _; unfold Eng.depOf; rw [if_pos hneg]
                  go_wp2_with (first | (refine own_load1_at (ad := (ad.add (k * 4)).add 3) (v := .slice (some dad) x.deps.length dc) rfl rfl rfl row_zs (HC.out _ (own_drop (own_drop (own_drop (own_drop hO))))).2.2 ?_) | (refine own_load1_at (ad := dad.add j) (v := .int .i64 d) rfl rfl rfl row_int (HCD.out _ (own_drop (own_drop (own_drop (own_drop hO))))) ?_) | (refine own_append (m := 1) (n := bl.length) (xs := (zs bl)) (news := [.int .i64 ((E.next : Int) - d - 1)]) rfl rfl rfl rfl Tryz.underlying38 info_z3 rfl (by decide) (own_perm (own_alloc_new hO (.cells #[.int .i64 ((E.next : Int) - d - 1)] 3)) (List.Perm.swap _ _ _)) ?_ (by intro u hu; rw [List.mem_singleton.1 hu]; rfl) ?_ ?_ ?_; (exact rd_block (own_get 1 (own_perm (own_alloc_new hO (.cells #[.int .i64 ((E.next : Int) - d - 1)] 3)) (List.Perm.swap _ _ _)) rfl) rfl (by simp) (by simp) (by simp)); (have := HBL.out; unfold maxLen; omega); (have := HBL.out; omega); clear hO; intro v' w9 hO hS9 hv'))
                  go_roundw
                  case rel => exact ⟨j + 1, v', by omega, rfl, by go_num, by rw [HNX.out, HDQ.out]; exact own_flr hO, hS.trans ((Same.alloc _ _).trans hS9)⟩
                  case measure => simp [intOf]; omega
                · have HDQ : Hid (Eng.depOf E.next d = d) := by show _ = _; unfold Eng.depOf; rw [if_neg hneg]
                  go_wp2_with (first | (refine own_load1_at (ad := (ad.add (k * 4)).add 3) (v := .slice (some dad) x.deps.length dc) rfl rfl rfl row_zs (HC.out _ (own_drop (own_drop (own_drop (own_drop hO))))).2.2 ?_) | (refine own_load1_at (ad := dad.add j) (v := .int .i64 d) rfl rfl rfl row_int (HCD.out _ (own_drop (own_drop (own_drop (own_drop hO))))) ?_) | (refine own_append (m := 1) (n := bl.length) (xs := (zs bl)) (news := [.int .i64 (d)]) rfl rfl rfl rfl Tryz.underlying38 info_z3 rfl (by decide) (own_perm (own_alloc_new hO (.cells #[.int .i64 (d)] 3)) (List.Perm.swap _ _ _)) ?_ (by intro u hu; rw [List.mem_singleton.1 hu]; rfl) ?_ ?_ ?_; (exact rd_block (own_get 1 (own_perm (own_alloc_new hO (.cells #[.int .i64 (d)] 3)) (List.Perm.swap _ _ _)) rfl) rfl (by simp) (by simp) (by simp)); (have := HBL.out; unfold maxLen; omega); (have := HBL.out; omega); clear hO; intro v' w9 hO hS9 hv'))
                  go_roundw
                  case rel => exact ⟨j + 1, v', by omega, rfl, by go_num, by rw [HNX.out, HDQ.out]; exact own_flr hO, hS.trans ((Same.alloc _ _).trans hS9)⟩
                  case measure => simp [intOf]; omega
              · have hje : j = x.deps.length := by omega
                subst hje
                rw [List.take_length] at hO
                obtain ⟨D, hD⟩ : ∃ D, D = x.deps.map (Eng.depOf E.next) := ⟨_, rfl⟩
                have HDL3 : Hid (D.length ≤ 1000000) := by have := HXD.out; show _ ≤ _; rw [hD, List.length_map]; exact this
                rw [← hD] at hO
                have HDD := Lib.hid hD
                clear hD hlt2 hj
                go_wp2_with (first | (refine own_load1_at (ad := (ad.add (k * 4)).add 3) (v := .slice DA x.deps.length dc) rfl rfl rfl row_zs (HC.out _ (own_drop (own_drop (own_drop (own_drop hO))))).2.2 ?_))
                go_loopw [12, 15] (fun pv jv wr => ∃ (j : Nat) (vb : Value), j ≤ we.length ∧ vb = pv ∧ jv = .int .i64 j ∧ Own wr (owns 3 1 vb (D ++ lapW x.p (we.take j)).length (zs (D ++ lapW x.p (we.take j))) :: rO r q (.slice WA we.length wc) wv F.next F.m g L) ∧ Same w wr) (fun _ jv _ => we.length - (intOf jv).toNat)
                case atStart => exact ⟨0, vb, Nat.zero_le _, rfl, rfl, by rw [List.take_zero]; unfold lapW wnums; simp only [List.map_nil, List.filter_nil, List.append_nil]; exact hO, hS⟩
                case round =>
                  clear hO hS
                  obtain ⟨j, vb, hj, hvb, rfl, hO, hS⟩ := hrel
                  subst hvb
                  by_cases hlt2 : j < we.length
                  · obtain ⟨⟨y, yv⟩, hy⟩ : ∃ y, we[j]? = some y := ⟨_, List.getElem?_eq_getElem hlt2⟩
                    obtain ⟨ad2, c', e1, hc⟩ := wat HK.out.2.1 hy (own_at hO (k := 3) rfl)
                    have e3 : WA = some ad2 := by injection e1
                    have HNOW := Lib.hid hO
                    subst e3
                    have hO := HNOW.out
                    have HC2 : Hid (∀ (w' : World) (L' : List HP), Own w' (rdG g :: L') → w'.cell? (ad2.add (j * 5)) = some (.int .i64 y.n) ∧ ∀ (i : Nat) (u : Value), [Value.int .i64 y.p.blk, .int .i64 y.p.off, .string y.p.dat][i]? = some u → w'.cell? (((ad2.add (j * 5)).add 1).add i) = some u) := Lib.hid fun w' L' h => ⟨ent_cell0 (hc _ w' h), (wt_cell (hc _ w' h)).2⟩
                    have hm2 : (j : Int) < we.length := by omega
                    have HLN := Lib.hid (lap_next x.p hy)
                    have HBL : Hid ((D ++ lapW x.p (we.take j)).length ≤ 2000000) := by
                      have h1 := HDL3.out
                      have h2 := HWL.out
                      have h3 : (lapW x.p (we.take j)).length ≤ we.length := by
                        unfold lapW wnums
                        rw [List.length_map]
                        refine Nat.le_trans (List.length_filter_le _ _) ?_
                        rw [List.length_map, List.length_take]
                        omega
                      show _ ≤ _
                      rw [List.length_append]
                      omega
                    obtain ⟨bl, hbl⟩ : ∃ bl, bl = D ++ lapW x.p (we.take j) := ⟨_, rfl⟩
                    have HBB := Lib.hid hbl
                    rw [← hbl] at hO HBL
                    obtain ⟨r0, hr⟩ : ∃ r0, overB y.p x.p = r0 := ⟨_, rfl⟩
                    have HOV := Lib.hid hr
                    have hlap : lapW x.p (we.take (j + 1)) = lapW x.p (we.take j) ++ (if r0 then [(y.n : Int)] else []) := by rw [HLN.out]; rw [hr]
                    clear hy hc e1 hbl hr HNOW
                    go_upto_region 34 with (first | (apply own_load1 rfl rfl rfl; (first | exact row_rdptr | exact row_wts | exact row_wrs | exact row_int); (first | exact own_get 0 hO rfl | exact own_get 1 hO rfl | exact own_get 2 hO rfl | exact own_get 3 hO rfl | exact own_get 4 hO rfl | exact own_get 5 hO rfl | exact own_get 6 hO rfl | exact own_get 7 hO rfl); (first | (simp only [List.getElem?_toArray, List.getElem?_cons_succ, List.getElem?_cons_zero]; rfl) | rfl)))
                    cases r0 with
                    | true =>
                      have HNX : Hid (D ++ lapW x.p (we.take (j + 1)) = bl ++ [(y.n : Int)]) := by show _ = _; rw [hlap, HBB.out, List.append_assoc]; rfl
                      clear hlap
                      refine wp_region_seq (Cls _ (owns 3 1 vb bl.length (zs bl) :: rO r q (.slice (some ad2) we.length wc) wv F.next F.m g L)) 14 192 mixed (by kernel_rfl) rfl (cls_drew hO) ?_
                      simp only [List.append_eq, List.cons_append, List.nil_append, List.take_succ_cons, List.take_zero]
                      repeat (first
                        | (apply wv_skip rfl; simp only [Act.put, List.setIfInBounds_toArray, List.set_cons_zero, List.set_cons_succ])
                        | (refine wv_load1 (b := r) (off := 1) (cs := #[.pointer (some ⟨q, 0, none⟩), .slice (some ad2) we.length wc, wv, .int .i64 F.next]) (t := 106) (v := .slice (some ad2) we.length wc) rfl rfl rfl row_wts (fun w h => own_get 1 h.1 rfl) rfl ?_; simp only [Act.put, List.setIfInBounds_toArray, List.set_cons_zero, List.set_cons_succ])
                        | (refine wv_loadrow_at (ad := ad.add (k * 4)) (vs := [.int .i64 x.p.blk, .int .i64 x.p.off, .string x.p.dat]) rfl rfl rfl row_pat sz_pat rfl (fun w h => (HC.out _ (own_drop (own_drop (own_drop (own_drop h.1))))).2.1) ?_; simp only [Act.put, List.setIfInBounds_toArray, List.set_cons_zero, List.set_cons_succ])
                        | (refine wv_loadrow_at (ad := (ad2.add (j * 5)).add 1) (vs := [.int .i64 y.p.blk, .int .i64 y.p.off, .string y.p.dat]) rfl rfl rfl row_pat sz_pat rfl (fun w h => (HC2.out _ _ (own_at h.1 (k := 3) rfl)).2) ?_; simp only [Act.put, List.setIfInBounds_toArray, List.set_cons_zero, List.set_cons_succ])
                        | (apply wv_load1 rfl rfl rfl; (first | exact row_int | exact row_str | exact row_bool | exact row_u8 | exact row_bys | exact row_pats | exact row_err); (intro w h; (first | exact own_get 0 h.1 rfl | exact own_get 1 h.1 rfl | exact own_get 2 h.1 rfl | exact own_get 3 h.1 rfl | exact own_get 4 h.1 rfl | exact own_get 5 h.1 rfl | exact own_get 6 h.1 rfl | exact own_get 7 h.1 rfl)); (first | (simp only [List.getElem?_toArray, List.getElem?_cons_succ, List.getElem?_cons_zero]; rfl) | rfl); simp only [Act.put, List.setIfInBounds_toArray, List.set_cons_zero, List.set_cons_succ])
                        | (apply wv_loadrow rfl rfl rfl; (first | exact row_pat); exact sz_pat; (intro w h; (first | exact own_get 0 h.1 rfl | exact own_get 1 h.1 rfl | exact own_get 2 h.1 rfl | exact own_get 3 h.1 rfl | exact own_get 4 h.1 rfl | exact own_get 5 h.1 rfl | exact own_get 6 h.1 rfl | exact own_get 7 h.1 rfl)); (focus (simp; done)); (first | (simp only [List.drop_zero, List.drop_succ_cons, List.take_succ_cons, List.take_zero]; rfl) | rfl); simp only [Act.put, List.setIfInBounds_toArray, List.set_cons_zero, List.set_cons_succ])
                        | (apply wv_run rfl; (focus (intro w h; go_simp; first | done | rfl)); simp only [Act.put, List.setIfInBounds_toArray, List.set_cons_zero, List.set_cons_succ])
                        | (apply wv_call rfl; (focus (intro w; go_simp; first | done | exact ⟨rfl, rfl⟩)); (focus (intro w h; apply cls_call h; (exact rover_v _ _ y.p.blk y.p.off x.p.blk x.p.off y.p.dat x.p.dat (r := true) HOV.out h.1))); simp only [Act.put, List.setIfInBounds_toArray, List.set_cons_zero, List.set_cons_succ]))
                      refine wv_nil ?_
                      simp only [List.drop_succ_cons, List.drop_zero]
                      intro w5 ⟨hO5, hS5⟩
                      clear hO
                      have hO := hO5
                      replace hS := hS.trans hS5
                      clear hO5 hS5
                      go_wp2_with (first | (apply own_load1 rfl rfl rfl; (first | exact row_rdptr | exact row_wts | exact row_wrs | exact row_int); (first | exact own_get 0 hO rfl | exact own_get 1 hO rfl | exact own_get 2 hO rfl | exact own_get 3 hO rfl | exact own_get 4 hO rfl | exact own_get 5 hO rfl | exact own_get 6 hO rfl | exact own_get 7 hO rfl); (first | (simp only [List.getElem?_toArray, List.getElem?_cons_succ, List.getElem?_cons_zero]; rfl) | rfl)) | (refine own_load1_at (ad := ad2.add (j * 5)) (v := .int .i64 y.n) rfl rfl rfl row_int (HC2.out _ _ (own_at hO (k := 3) rfl)).1 ?_) | (refine own_append (m := 1) (n := bl.length) (xs := (zs bl)) (news := [.int .i64 (y.n)]) rfl rfl rfl rfl Tryz.underlying38 info_z3 rfl (by decide) (own_perm (own_alloc_new hO (.cells #[.int .i64 (y.n)] 3)) (List.Perm.swap _ _ _)) ?_ (by intro u hu; rw [List.mem_singleton.1 hu]; rfl) ?_ ?_ ?_; (exact rd_block (own_get 1 (own_perm (own_alloc_new hO (.cells #[.int .i64 (y.n)] 3)) (List.Perm.swap _ _ _)) rfl) rfl (by simp) (by simp) (by simp)); (have := HBL.out; unfold maxLen; omega); (have := HBL.out; omega); clear hO; intro v' w9 hO hS9 hv'))
                      go_roundw
                      case rel => exact ⟨j + 1, v', by omega, rfl, by go_num, by rw [HNX.out]; exact own_flr hO, hS.trans ((Same.alloc _ _).trans hS9)⟩
                      case measure => simp [intOf]; omega
                    | false =>
                      have HNX : Hid (D ++ lapW x.p (we.take (j + 1)) = bl) := by show _ = _; rw [hlap, HBB.out]; simp
                      clear hlap
                      refine wp_region_seq (Cls _ (owns 3 1 vb bl.length (zs bl) :: rO r q (.slice (some ad2) we.length wc) wv F.next F.m g L)) 14 192 mixed (by kernel_rfl) rfl (cls_drew hO) ?_
                      simp only [List.append_eq, List.cons_append, List.nil_append, List.take_succ_cons, List.take_zero]
                      repeat (first
                        | (apply wv_skip rfl; simp only [Act.put, List.setIfInBounds_toArray, List.set_cons_zero, List.set_cons_succ])
                        | (refine wv_load1 (b := r) (off := 1) (cs := #[.pointer (some ⟨q, 0, none⟩), .slice (some ad2) we.length wc, wv, .int .i64 F.next]) (t := 106) (v := .slice (some ad2) we.length wc) rfl rfl rfl row_wts (fun w h => own_get 1 h.1 rfl) rfl ?_; simp only [Act.put, List.setIfInBounds_toArray, List.set_cons_zero, List.set_cons_succ])
                        | (refine wv_loadrow_at (ad := ad.add (k * 4)) (vs := [.int .i64 x.p.blk, .int .i64 x.p.off, .string x.p.dat]) rfl rfl rfl row_pat sz_pat rfl (fun w h => (HC.out _ (own_drop (own_drop (own_drop (own_drop h.1))))).2.1) ?_; simp only [Act.put, List.setIfInBounds_toArray, List.set_cons_zero, List.set_cons_succ])
                        | (refine wv_loadrow_at (ad := (ad2.add (j * 5)).add 1) (vs := [.int .i64 y.p.blk, .int .i64 y.p.off, .string y.p.dat]) rfl rfl rfl row_pat sz_pat rfl (fun w h => (HC2.out _ _ (own_at h.1 (k := 3) rfl)).2) ?_; simp only [Act.put, List.setIfInBounds_toArray, List.set_cons_zero, List.set_cons_succ])
                        | (apply wv_load1 rfl rfl rfl; (first | exact row_int | exact row_str | exact row_bool | exact row_u8 | exact row_bys | exact row_pats | exact row_err); (intro w h; (first | exact own_get 0 h.1 rfl | exact own_get 1 h.1 rfl | exact own_get 2 h.1 rfl | exact own_get 3 h.1 rfl | exact own_get 4 h.1 rfl | exact own_get 5 h.1 rfl | exact own_get 6 h.1 rfl | exact own_get 7 h.1 rfl)); (first | (simp only [List.getElem?_toArray, List.getElem?_cons_succ, List.getElem?_cons_zero]; rfl) | rfl); simp only [Act.put, List.setIfInBounds_toArray, List.set_cons_zero, List.set_cons_succ])
                        | (apply wv_loadrow rfl rfl rfl; (first | exact row_pat); exact sz_pat; (intro w h; (first | exact own_get 0 h.1 rfl | exact own_get 1 h.1 rfl | exact own_get 2 h.1 rfl | exact own_get 3 h.1 rfl | exact own_get 4 h.1 rfl | exact own_get 5 h.1 rfl | exact own_get 6 h.1 rfl | exact own_get 7 h.1 rfl)); (focus (simp; done)); (first | (simp only [List.drop_zero, List.drop_succ_cons, List.take_succ_cons, List.take_zero]; rfl) | rfl); simp only [Act.put, List.setIfInBounds_toArray, List.set_cons_zero, List.set_cons_succ])
                        | (apply wv_run rfl; (focus (intro w h; go_simp; first | done | rfl)); simp only [Act.put, List.setIfInBounds_toArray, List.set_cons_zero, List.set_cons_succ])
                        | (apply wv_call rfl; (focus (intro w; go_simp; first | done | exact ⟨rfl, rfl⟩)); (focus (intro w h; apply cls_call h; (exact rover_v _ _ y.p.blk y.p.off x.p.blk x.p.off y.p.dat x.p.dat (r := false) HOV.out h.1))); simp only [Act.put, List.setIfInBounds_toArray, List.set_cons_zero, List.set_cons_succ]))
                      refine wv_nil ?_
                      simp only [List.drop_succ_cons, List.drop_zero]
                      intro w5 ⟨hO5, hS5⟩
                      clear hO
                      go_wp2
                      go_roundw
                      case rel => exact ⟨j + 1, vb, by omega, rfl, by go_num, by rw [HNX.out]; exact hO5, hS.trans hS5⟩
                      case measure => simp [intOf]; omega
                  · have hje : j = we.length := by omega
                    subst hje
                    rw [List.take_length] at hO
                    obtain ⟨bl, hbl⟩ : ∃ bl, bl = D ++ lapW x.p we := ⟨_, rfl⟩
                    rw [← hbl] at hO
                    obtain ⟨BA, bc, hvb⟩ := (owns_rd hO).slice
                    subst hvb
                    have HFA : Hid (F.add1 E.next x = ⟨F.m, F.l ++ [⟨F.next, x.p, bl⟩], F.s, F.next + 1⟩) := by
                      show _ = _
                      unfold Eng.add1
                      rw [hbl, HDD.out]
                      unfold lapW
                      rw [HK.out.1]
                    have hwrap : IntKind.i64.wrap ((F.next : Int) + 1) = ((F.next + 1 : Nat) : Int) := by have := HF6.out; rw [IntKind.wrap_i64] <;> omega
                    clear hbl hlt2 hj
                    go_upto_region 36 with (first | (apply own_load1 rfl rfl rfl; (first | exact row_rdptr | exact row_wts | exact row_wrs | exact row_int); (first | exact own_get 0 hO rfl | exact own_get 1 hO rfl | exact own_get 2 hO rfl | exact own_get 3 hO rfl | exact own_get 4 hO rfl | exact own_get 5 hO rfl | exact own_get 6 hO rfl | exact own_get 7 hO rfl); (first | (simp only [List.getElem?_toArray, List.getElem?_cons_succ, List.getElem?_cons_zero]; rfl) | rfl)))
                    have HONE : Hid (∀ u ∈ cellsW we, u.oneCell' = true) := Lib.hid (cellsW_one fun x hx => by obtain ⟨A2, c2, e2, _⟩ := HK.out.2.1.beh x hx; rw [e2]; rfl)
                    have HITM : Hid (∀ (u : World) (L2 : List HP), Own u (([owns 3 1 (.slice BA bl.length bc) bl.length (zs bl), pts r (.cells #[.pointer (some ⟨q, 0, none⟩), .slice WA we.length wc, wv, .int .i64 F.next] 106), rdiskP q F.m, rdG g] ++ L) ++ L2) → ∀ (j : Nat) (v : Value), [Value.int .i64 x.p.blk, .int .i64 x.p.off, .string x.p.dat][j]? = some v → u.cell? ((ad.add (k * 4)).add j) = some v) := Lib.hid fun u L2 h => (HC.out u (own_sub h (.cons _ (.cons _ (.cons _ (.cons _ (List.sublist_append_left _ _))))))).2.1
                    refine wp_region_own (α := Nat → Value) (fun y => .pointer (some ⟨r, 0, none⟩) :: y 1 :: .pointer (some ⟨r, 0, none⟩) :: .pointer (some ⟨r, 0, none⟩) :: .pointer (some ⟨r, 1, none⟩) :: .slice WA we.length wc :: y 6 :: .pointer (some ⟨r, 0, none⟩) :: .pointer (some ⟨r, 0, none⟩) :: .pointer (some ⟨r, 3, none⟩) :: .int .i64 F.next :: .slice (some ad) is.length vc :: .int .i64 k :: .pointer (some (ad.add (k * 4))) :: .pointer (some (ad.add (k * 4))) :: .agg #[.int .i64 x.p.blk, .int .i64 x.p.off, .string x.p.dat] :: .slice BA bl.length bc :: .agg #[.int .i64 F.next, .int .i64 x.p.blk, .int .i64 x.p.off, .string x.p.dat, .slice BA bl.length bc] :: y 18 :: y 19 :: .pointer (some ⟨r, 0, none⟩) :: .pointer (some ⟨r, 1, none⟩) :: undef :: [])
                      (stB 22 ([owns 3 1 (.slice BA bl.length bc) bl.length (zs bl), pts r (.cells #[.pointer (some ⟨q, 0, none⟩), .slice WA we.length wc, wv, .int .i64 F.next] 106), rdiskP q F.m, rdG g] ++ L) (fun y => [owns 3 1 (.slice BA bl.length bc) bl.length (zs bl), pts r (.cells #[.pointer (some ⟨q, 0, none⟩), y 19, wv, .int .i64 F.next] 106), rdiskP q F.m, rdG g] ++ L) [(1, some 6, fun v => owns 125 5 v 0 []), (6, some 19, fun v => owns 125 5 v we.length (cellsW we)), (18, some 19, fun v => owns 125 5 v 1 (We.cells (nWe ⟨F.next, x.p, bl⟩ BA bc))), (19, none, fun v => owns 125 5 v (we.length + 1) (cellsW we ++ We.cells (nWe ⟨F.next, x.p, bl⟩ BA bc)))]) wr (fun _ => undef) 192 (fun _ => rfl) mixed (by kernel_rfl) rfl (by rw [stB_no rfl, owL_none, List.append_nil]; exact own_heap hO (fun _ _ h => h)) (Same.drew _) (fun _ _ _ _ hd h => ⟨hd ▸ h.1, h.2⟩) ?_ ?_
                    · refine ⟨?_, ?_, ?_, ?_, ?_, ?_, ?_, ?_, ?_, ?_, ?_, ?_, ?_, ?_, ?_, ?_, ?_, ?_, ?_, ?_, ?_, ?_, ?_, trivial⟩
                      · refine fs_lift 22 (by decide) (by kernel_rfl) ?_; (refine fs_pure (fun _ _ => rfl) (fun D gh hD hcl hp => ?_); simp only [putO]; simp only [Act.put, List.setIfInBounds_toArray, List.set_cons_zero, List.set_cons_succ]; first | exact y_skip rfl | exact (rfl) | exact y_run rfl (by intro w h; go_simp; first | done | rfl))
                      · refine fs_lift 22 (by decide) (by kernel_rfl) ?_; (refine @fs_new _ _ _ _ _ _ _ _ _ _ _ _ [] (fun v => v) rfl rfl (by kernel_rfl) (by kernel_rfl) (by intro j; rcases j with _ | j; (focus (first | exact .inr fun _ _ => rfl | exact .inl (by kernel_rfl))); rcases j with _ | j; (focus (first | exact .inr fun _ _ => rfl | exact .inl (by kernel_rfl))); rcases j with _ | j; (focus (first | exact .inr fun _ _ => rfl | exact .inl (by kernel_rfl))); rcases j with _ | j; (focus (first | exact .inr fun _ _ => rfl | exact .inl (by kernel_rfl))); rcases j with _ | j; (focus (first | exact .inr fun _ _ => rfl | exact .inl (by kernel_rfl))); rcases j with _ | j; (focus (first | exact .inr fun _ _ => rfl | exact .inl (by kernel_rfl))); rcases j with _ | j; (focus (first | exact .inr fun _ _ => rfl | exact .inl (by kernel_rfl))); rcases j with _ | j; (focus (first | exact .inr fun _ _ => rfl | exact .inl (by kernel_rfl))); rcases j with _ | j; (focus (first | exact .inr fun _ _ => rfl | exact .inl (by kernel_rfl))); rcases j with _ | j; (focus (first | exact .inr fun _ _ => rfl | exact .inl (by kernel_rfl))); rcases j with _ | j; (focus (first | exact .inr fun _ _ => rfl | exact .inl (by kernel_rfl))); rcases j with _ | j; (focus (first | exact .inr fun _ _ => rfl | exact .inl (by kernel_rfl))); rcases j with _ | j; (focus (first | exact .inr fun _ _ => rfl | exact .inl (by kernel_rfl))); rcases j with _ | j; (focus (first | exact .inr fun _ _ => rfl | exact .inl (by kernel_rfl))); rcases j with _ | j; (focus (first | exact .inr fun _ _ => rfl | exact .inl (by kernel_rfl))); rcases j with _ | j; (focus (first | exact .inr fun _ _ => rfl | exact .inl (by kernel_rfl))); rcases j with _ | j; (focus (first | exact .inr fun _ _ => rfl | exact .inl (by kernel_rfl))); rcases j with _ | j; (focus (first | exact .inr fun _ _ => rfl | exact .inl (by kernel_rfl))); rcases j with _ | j; (focus (first | exact .inr fun _ _ => rfl | exact .inl (by kernel_rfl))); rcases j with _ | j; (focus (first | exact .inr fun _ _ => rfl | exact .inl (by kernel_rfl))); rcases j with _ | j; (focus (first | exact .inr fun _ _ => rfl | exact .inl (by kernel_rfl))); rcases j with _ | j; (focus (first | exact .inr fun _ _ => rfl | exact .inl (by kernel_rfl))); rcases j with _ | j; (focus (first | exact .inr fun _ _ => rfl | exact .inl (by kernel_rfl))); exact .inr fun _ _ => rfl) (fun _ _ => rfl) ?_; intro D gh u hD hcl hp hO hS N hN; simp only [putO]; simp only [Act.put, List.setIfInBounds_toArray, List.set_cons_zero, List.set_cons_succ]; refine own_lit0 rfl rfl Tryz.underlying103 sz_wt hO (fun b w3 hO3 hS3 => hN _ _ _ rfl rfl hO3 hS3))
                      · refine fs_lift 22 (by decide) (by kernel_rfl) ?_; (refine fs_pure (fun _ _ => rfl) (fun D gh hD hcl hp => ?_); simp only [putO]; simp only [Act.put, List.setIfInBounds_toArray, List.set_cons_zero, List.set_cons_succ]; first | exact y_skip rfl | exact (rfl) | exact y_run rfl (by intro w h; go_simp; first | done | rfl))
                      · refine fs_lift 22 (by decide) (by kernel_rfl) ?_; (refine fs_pure (fun _ _ => rfl) (fun D gh hD hcl hp => ?_); simp only [putO]; simp only [Act.put, List.setIfInBounds_toArray, List.set_cons_zero, List.set_cons_succ]; first | exact y_skip rfl | exact (rfl) | exact y_run rfl (by intro w h; go_simp; first | done | rfl))
                      · refine fs_lift 22 (by decide) (by kernel_rfl) ?_; (refine fs_pure (fun _ _ => rfl) (fun D gh hD hcl hp => ?_); simp only [putO]; simp only [Act.put, List.setIfInBounds_toArray, List.set_cons_zero, List.set_cons_succ]; first | exact y_skip rfl | exact (rfl) | exact y_run rfl (by intro w h; go_simp; first | done | rfl))
                      · refine fs_lift 22 (by decide) (by kernel_rfl) ?_; (refine fs_pure (fun _ _ => rfl) (fun D gh hD hcl hp => ?_); simp only [putO]; simp only [Act.put, List.setIfInBounds_toArray, List.set_cons_zero, List.set_cons_succ]; first | exact y_skip rfl | exact (y_load1 (b := r) (off := 1) (cs := #[.pointer (some ⟨q, 0, none⟩), .slice WA we.length wc, wv, .int .i64 F.next]) (t := 106) (v := .slice WA we.length wc) rfl rfl rfl row_wts (fun w h => own_get 1 h.1 rfl) rfl) | exact y_run rfl (by intro w h; go_simp; first | done | rfl))
                      · refine fs_lift 22 (by decide) (by kernel_rfl) ?_; (refine @fs_new _ _ _ _ _ _ _ _ _ _ _ _ [(1, some 6, fun v => owns 125 5 v 0 [])] (fun v => v) rfl rfl (by kernel_rfl) (by kernel_rfl) (by intro j; rcases j with _ | j; (focus (first | exact .inr fun _ _ => rfl | exact .inl (by kernel_rfl))); rcases j with _ | j; (focus (first | exact .inr fun _ _ => rfl | exact .inl (by kernel_rfl))); rcases j with _ | j; (focus (first | exact .inr fun _ _ => rfl | exact .inl (by kernel_rfl))); rcases j with _ | j; (focus (first | exact .inr fun _ _ => rfl | exact .inl (by kernel_rfl))); rcases j with _ | j; (focus (first | exact .inr fun _ _ => rfl | exact .inl (by kernel_rfl))); rcases j with _ | j; (focus (first | exact .inr fun _ _ => rfl | exact .inl (by kernel_rfl))); rcases j with _ | j; (focus (first | exact .inr fun _ _ => rfl | exact .inl (by kernel_rfl))); rcases j with _ | j; (focus (first | exact .inr fun _ _ => rfl | exact .inl (by kernel_rfl))); rcases j with _ | j; (focus (first | exact .inr fun _ _ => rfl | exact .inl (by kernel_rfl))); rcases j with _ | j; (focus (first | exact .inr fun _ _ => rfl | exact .inl (by kernel_rfl))); rcases j with _ | j; (focus (first | exact .inr fun _ _ => rfl | exact .inl (by kernel_rfl))); rcases j with _ | j; (focus (first | exact .inr fun _ _ => rfl | exact .inl (by kernel_rfl))); rcases j with _ | j; (focus (first | exact .inr fun _ _ => rfl | exact .inl (by kernel_rfl))); rcases j with _ | j; (focus (first | exact .inr fun _ _ => rfl | exact .inl (by kernel_rfl))); rcases j with _ | j; (focus (first | exact .inr fun _ _ => rfl | exact .inl (by kernel_rfl))); rcases j with _ | j; (focus (first | exact .inr fun _ _ => rfl | exact .inl (by kernel_rfl))); rcases j with _ | j; (focus (first | exact .inr fun _ _ => rfl | exact .inl (by kernel_rfl))); rcases j with _ | j; (focus (first | exact .inr fun _ _ => rfl | exact .inl (by kernel_rfl))); rcases j with _ | j; (focus (first | exact .inr fun _ _ => rfl | exact .inl (by kernel_rfl))); rcases j with _ | j; (focus (first | exact .inr fun _ _ => rfl | exact .inl (by kernel_rfl))); rcases j with _ | j; (focus (first | exact .inr fun _ _ => rfl | exact .inl (by kernel_rfl))); rcases j with _ | j; (focus (first | exact .inr fun _ _ => rfl | exact .inl (by kernel_rfl))); rcases j with _ | j; (focus (first | exact .inr fun _ _ => rfl | exact .inl (by kernel_rfl))); exact .inr fun _ _ => rfl) (fun _ _ => rfl) ?_; intro D gh u hD hcl hp hO hS N hN; simp only [putO]; simp only [Act.put, List.setIfInBounds_toArray, List.set_cons_zero, List.set_cons_succ]; refine own_append (m := we.length) (n := 0) (xs := []) (news := cellsW we) rfl rfl rfl rfl Tryz.underlying103 info_wt3 (by simp [Value.cells]) (by decide) hO (rdG_rd (own_at hO (k := 4) rfl) HM.out) HONE.out ?_ ?_ (fun v3 w3 hO3 hS3 _ => hN _ _ _ rfl rfl (by rw [Nat.zero_add] at hO3; exact hO3) hS3); (have := HWL.out; simp only [maxLen]; omega); (have := HWL.out; omega))
                      · refine fs_lift 22 (by decide) (by kernel_rfl) ?_; (refine fs_pure (fun _ _ => rfl) (fun D gh hD hcl hp => ?_); simp only [putO]; simp only [Act.put, List.setIfInBounds_toArray, List.set_cons_zero, List.set_cons_succ]; first | exact y_skip rfl | exact (rfl) | exact y_run rfl (by intro w h; go_simp; first | done | rfl))
                      · refine fs_lift 22 (by decide) (by kernel_rfl) ?_; (refine fs_pure (fun _ _ => rfl) (fun D gh hD hcl hp => ?_); simp only [putO]; simp only [Act.put, List.setIfInBounds_toArray, List.set_cons_zero, List.set_cons_succ]; first | exact y_skip rfl | exact (rfl) | exact y_run rfl (by intro w h; go_simp; first | done | rfl))
                      · refine fs_lift 22 (by decide) (by kernel_rfl) ?_; (refine fs_pure (fun _ _ => rfl) (fun D gh hD hcl hp => ?_); simp only [putO]; simp only [Act.put, List.setIfInBounds_toArray, List.set_cons_zero, List.set_cons_succ]; first | exact y_skip rfl | exact (rfl) | exact y_run rfl (by intro w h; go_simp; first | done | rfl))
                      · refine fs_lift 22 (by decide) (by kernel_rfl) ?_; (refine fs_pure (fun _ _ => rfl) (fun D gh hD hcl hp => ?_); simp only [putO]; simp only [Act.put, List.setIfInBounds_toArray, List.set_cons_zero, List.set_cons_succ]; first | exact y_skip rfl | exact (y_load1 (b := r) (off := 3) (cs := #[.pointer (some ⟨q, 0, none⟩), .slice WA we.length wc, wv, .int .i64 F.next]) (t := 106) (v := .int .i64 F.next) rfl rfl rfl row_int (fun w h => own_get 1 h.1 rfl) rfl) | exact y_run rfl (by intro w h; go_simp; first | done | rfl))
                      · refine fs_lift 22 (by decide) (by kernel_rfl) ?_; (refine fs_pure (fun _ _ => rfl) (fun D gh hD hcl hp => ?_); simp only [putO]; simp only [Act.put, List.setIfInBounds_toArray, List.set_cons_zero, List.set_cons_succ]; first | exact y_skip rfl | exact (rfl) | exact y_run rfl (by intro w h; go_simp; first | done | rfl))
                      · refine fs_lift 22 (by decide) (by kernel_rfl) ?_; (refine fs_pure (fun _ _ => rfl) (fun D gh hD hcl hp => ?_); simp only [putO]; simp only [Act.put, List.setIfInBounds_toArray, List.set_cons_zero, List.set_cons_succ]; first | exact y_skip rfl | exact (rfl) | exact y_run rfl (by intro w h; go_simp; first | done | rfl))
                      · refine fs_lift 22 (by decide) (by kernel_rfl) ?_; (refine fs_pure (fun _ _ => rfl) (fun D gh hD hcl hp => ?_); simp only [putO]; simp only [Act.put, List.setIfInBounds_toArray, List.set_cons_zero, List.set_cons_succ]; first | exact y_skip rfl | exact (rfl) | exact y_run rfl (by intro w h; go_simp; first | done | rfl))
                      · refine fs_lift 22 (by decide) (by kernel_rfl) ?_; (refine fs_pure (fun _ _ => rfl) (fun D gh hD hcl hp => ?_); simp only [putO]; simp only [Act.put, List.setIfInBounds_toArray, List.set_cons_zero, List.set_cons_succ]; first | exact y_skip rfl | exact (rfl) | exact y_run rfl (by intro w h; go_simp; first | done | rfl))
                      · refine fs_lift 22 (by decide) (by kernel_rfl) ?_; (refine fs_pure (fun _ _ => rfl) (fun D gh hD hcl hp => ?_); simp only [putO]; simp only [Act.put, List.setIfInBounds_toArray, List.set_cons_zero, List.set_cons_succ]; first | exact y_skip rfl | exact (y_loadrow_atF (ad := ad.add (k * 4)) (vs := [.int .i64 x.p.blk, .int .i64 x.p.off, .string x.p.dat]) rfl rfl rfl row_pat sz_pat rfl (fun w h => HITM.out _ _ h.1)) | exact y_run rfl (by intro w h; go_simp; first | done | rfl))
                      · refine fs_lift 22 (by decide) (by kernel_rfl) ?_; (refine fs_pure (fun _ _ => rfl) (fun D gh hD hcl hp => ?_); simp only [putO]; simp only [Act.put, List.setIfInBounds_toArray, List.set_cons_zero, List.set_cons_succ]; first | exact y_skip rfl | exact (rfl) | exact y_run rfl (by intro w h; go_simp; first | done | rfl))
                      · refine fs_lift 22 (by decide) (by kernel_rfl) ?_; (refine fs_pure (fun _ _ => rfl) (fun D gh hD hcl hp => ?_); simp only [putO]; simp only [Act.put, List.setIfInBounds_toArray, List.set_cons_zero, List.set_cons_succ]; first | exact y_skip rfl | exact (rfl) | exact y_run rfl (by intro w h; go_simp; first | done | rfl))
                      · refine fs_lift 22 (by decide) (by kernel_rfl) ?_; (refine @fs_new _ _ _ _ _ _ _ _ _ _ _ _ [] (fun v => v) rfl rfl (by kernel_rfl) (by kernel_rfl) (by intro j; rcases j with _ | j; (focus (first | exact .inr fun _ _ => rfl | exact .inl (by kernel_rfl))); rcases j with _ | j; (focus (first | exact .inr fun _ _ => rfl | exact .inl (by kernel_rfl))); rcases j with _ | j; (focus (first | exact .inr fun _ _ => rfl | exact .inl (by kernel_rfl))); rcases j with _ | j; (focus (first | exact .inr fun _ _ => rfl | exact .inl (by kernel_rfl))); rcases j with _ | j; (focus (first | exact .inr fun _ _ => rfl | exact .inl (by kernel_rfl))); rcases j with _ | j; (focus (first | exact .inr fun _ _ => rfl | exact .inl (by kernel_rfl))); rcases j with _ | j; (focus (first | exact .inr fun _ _ => rfl | exact .inl (by kernel_rfl))); rcases j with _ | j; (focus (first | exact .inr fun _ _ => rfl | exact .inl (by kernel_rfl))); rcases j with _ | j; (focus (first | exact .inr fun _ _ => rfl | exact .inl (by kernel_rfl))); rcases j with _ | j; (focus (first | exact .inr fun _ _ => rfl | exact .inl (by kernel_rfl))); rcases j with _ | j; (focus (first | exact .inr fun _ _ => rfl | exact .inl (by kernel_rfl))); rcases j with _ | j; (focus (first | exact .inr fun _ _ => rfl | exact .inl (by kernel_rfl))); rcases j with _ | j; (focus (first | exact .inr fun _ _ => rfl | exact .inl (by kernel_rfl))); rcases j with _ | j; (focus (first | exact .inr fun _ _ => rfl | exact .inl (by kernel_rfl))); rcases j with _ | j; (focus (first | exact .inr fun _ _ => rfl | exact .inl (by kernel_rfl))); rcases j with _ | j; (focus (first | exact .inr fun _ _ => rfl | exact .inl (by kernel_rfl))); rcases j with _ | j; (focus (first | exact .inr fun _ _ => rfl | exact .inl (by kernel_rfl))); rcases j with _ | j; (focus (first | exact .inr fun _ _ => rfl | exact .inl (by kernel_rfl))); rcases j with _ | j; (focus (first | exact .inr fun _ _ => rfl | exact .inl (by kernel_rfl))); rcases j with _ | j; (focus (first | exact .inr fun _ _ => rfl | exact .inl (by kernel_rfl))); rcases j with _ | j; (focus (first | exact .inr fun _ _ => rfl | exact .inl (by kernel_rfl))); rcases j with _ | j; (focus (first | exact .inr fun _ _ => rfl | exact .inl (by kernel_rfl))); rcases j with _ | j; (focus (first | exact .inr fun _ _ => rfl | exact .inl (by kernel_rfl))); exact .inr fun _ _ => rfl) (fun _ _ => rfl) ?_; intro D gh u hD hcl hp hO hS N hN; simp only [putO]; simp only [Act.put, List.setIfInBounds_toArray, List.set_cons_zero, List.set_cons_succ]; refine own_ws1 (y := nWe ⟨F.next, x.p, bl⟩ BA bc) rfl rfl rfl (hN _ _ _ rfl rfl (owns_w1 (own_alloc_new hO _)) (Same.alloc _ _)))
                      · refine fs_lift 22 (by decide) (by kernel_rfl) ?_; (refine @fs_new _ _ _ _ _ _ _ _ _ _ _ _ [(6, some 19, fun v => owns 125 5 v we.length (cellsW we)), (18, some 19, fun v => owns 125 5 v 1 (We.cells (nWe ⟨F.next, x.p, bl⟩ BA bc)))] (fun v => v) rfl rfl (by kernel_rfl) (by kernel_rfl) (by intro j; rcases j with _ | j; (focus (first | exact .inr fun _ _ => rfl | exact .inl (by kernel_rfl))); rcases j with _ | j; (focus (first | exact .inr fun _ _ => rfl | exact .inl (by kernel_rfl))); rcases j with _ | j; (focus (first | exact .inr fun _ _ => rfl | exact .inl (by kernel_rfl))); rcases j with _ | j; (focus (first | exact .inr fun _ _ => rfl | exact .inl (by kernel_rfl))); rcases j with _ | j; (focus (first | exact .inr fun _ _ => rfl | exact .inl (by kernel_rfl))); rcases j with _ | j; (focus (first | exact .inr fun _ _ => rfl | exact .inl (by kernel_rfl))); rcases j with _ | j; (focus (first | exact .inr fun _ _ => rfl | exact .inl (by kernel_rfl))); rcases j with _ | j; (focus (first | exact .inr fun _ _ => rfl | exact .inl (by kernel_rfl))); rcases j with _ | j; (focus (first | exact .inr fun _ _ => rfl | exact .inl (by kernel_rfl))); rcases j with _ | j; (focus (first | exact .inr fun _ _ => rfl | exact .inl (by kernel_rfl))); rcases j with _ | j; (focus (first | exact .inr fun _ _ => rfl | exact .inl (by kernel_rfl))); rcases j with _ | j; (focus (first | exact .inr fun _ _ => rfl | exact .inl (by kernel_rfl))); rcases j with _ | j; (focus (first | exact .inr fun _ _ => rfl | exact .inl (by kernel_rfl))); rcases j with _ | j; (focus (first | exact .inr fun _ _ => rfl | exact .inl (by kernel_rfl))); rcases j with _ | j; (focus (first | exact .inr fun _ _ => rfl | exact .inl (by kernel_rfl))); rcases j with _ | j; (focus (first | exact .inr fun _ _ => rfl | exact .inl (by kernel_rfl))); rcases j with _ | j; (focus (first | exact .inr fun _ _ => rfl | exact .inl (by kernel_rfl))); rcases j with _ | j; (focus (first | exact .inr fun _ _ => rfl | exact .inl (by kernel_rfl))); rcases j with _ | j; (focus (first | exact .inr fun _ _ => rfl | exact .inl (by kernel_rfl))); rcases j with _ | j; (focus (first | exact .inr fun _ _ => rfl | exact .inl (by kernel_rfl))); rcases j with _ | j; (focus (first | exact .inr fun _ _ => rfl | exact .inl (by kernel_rfl))); rcases j with _ | j; (focus (first | exact .inr fun _ _ => rfl | exact .inl (by kernel_rfl))); rcases j with _ | j; (focus (first | exact .inr fun _ _ => rfl | exact .inl (by kernel_rfl))); exact .inr fun _ _ => rfl) (fun _ _ => rfl) ?_; intro D gh u hD hcl hp hO hS N hN; simp only [putO]; simp only [Act.put, List.setIfInBounds_toArray, List.set_cons_zero, List.set_cons_succ]; refine own_append (m := 1) (n := we.length) (xs := cellsW we) (news := We.cells (nWe ⟨F.next, x.p, bl⟩ BA bc)) rfl rfl rfl rfl Tryz.underlying103 info_wt3 (by simp [Value.cells]) (by decide) hO (owns_rd (own_drop hO)) (nwe_one _ _ _) ?_ ?_ (fun v3 w3 hO3 hS3 _ => hN _ _ _ rfl rfl (own_drop (own_swap hO3)) hS3); (have := HWL.out; simp only [maxLen]; omega); (have := HWL.out; omega))
                      · refine fs_lift 22 (by decide) (by kernel_rfl) ?_; (refine fs_pure (fun _ _ => rfl) (fun D gh hD hcl hp => ?_); simp only [putO]; simp only [Act.put, List.setIfInBounds_toArray, List.set_cons_zero, List.set_cons_succ]; first | exact y_skip rfl | exact (rfl) | exact y_run rfl (by intro w h; go_simp; first | done | rfl))
                      · refine fs_lift 22 (by decide) (by kernel_rfl) ?_; (refine fs_pure (fun _ _ => rfl) (fun D gh hD hcl hp => ?_); simp only [putO]; simp only [Act.put, List.setIfInBounds_toArray, List.set_cons_zero, List.set_cons_succ]; first | exact y_skip rfl | exact (rfl) | exact y_run rfl (by intro w h; go_simp; first | done | rfl))
                      · refine fs_end rfl rfl (by kernel_rfl) (by kernel_rfl) ?_
                        intro y w7 hO hS N hN
                        simp only [putO]
                        simp only [Act.put, List.setIfInBounds_toArray, List.set_cons_zero, List.set_cons_succ]
                        have hO : Own w7 (([owns 3 1 (.slice BA bl.length bc) bl.length (zs bl), pts r (.cells #[.pointer (some ⟨q, 0, none⟩), .slice WA we.length wc, wv, .int .i64 F.next] 106), rdiskP q F.m, rdG g] ++ L) ++ [owns 125 5 (y 19) (we.length + 1) (cellsW we ++ We.cells (nWe ⟨F.next, x.p, bl⟩ BA bc))]) := hO
                        have hv := owns_cell1 (own_perm hO (List.perm_append_singleton _ _))
                        refine own_store1 (k := 1) (b := r) (off := 1) rfl rfl rfl rfl sz_wts hO rfl hv (by show 1 < 4; decide) rfl (fun w8 hO8 hS8 => hN _ _ rfl ?_ hS8)
                        exact hO8
                    intro y w11 DD hDD hO hS10
                    rw [stB_yes (hDD 22 (by decide)), owL_end hDD (by kernel_rfl)] at hO
                    have hO : Own w11 (owns 125 5 (y 19) (we.length + 1) (cellsW we ++ We.cells (nWe ⟨F.next, x.p, bl⟩ BA bc)) :: ([owns 3 1 (.slice BA bl.length bc) bl.length (zs bl), pts r (.cells #[.pointer (some ⟨q, 0, none⟩), y 19, wv, .int .i64 F.next] 106), rdiskP q F.m, rdG g] ++ L)) := own_perm hO (List.perm_append_singleton _ _)
                    obtain ⟨QA, qc, e8⟩ := (owns_rd hO).slice
                    rw [e8] at hO
                    simp only [putO, e8]
                    simp only [Act.put, List.setIfInBounds_toArray, List.set_cons_zero, List.set_cons_succ]
                    simp only [Exit.then]
                    clear hDD e8
                    replace hS := hS.trans hS10
                    clear hS10
                    go_wp2_with (first | (refine own_load1 (b := r) (off := 3) (cs := #[.pointer (some ⟨q, 0, none⟩), .slice QA (we.length + 1) qc, wv, .int .i64 F.next]) (t := 106) (v := .int .i64 F.next) rfl rfl rfl row_int (own_get 2 hO rfl) rfl ?_) | (refine own_store1 (k := 2) (b := r) (off := 3) (cs' := #[.pointer (some ⟨q, 0, none⟩), .slice QA (we.length + 1) qc, wv, .int .i64 (F.next + 1 : Nat)]) rfl rfl rfl rfl sz_z hO rfl rfl (by show 3 < 4; decide) rfl ?_; clear hO; intro u hO hSn; replace hS := hS.trans hSn; clear hSn))
                    go_roundw
                    case rel => exact ⟨k + 1, by omega, by go_num, by rw [HFX.out, HFA.out]; exact radd_close HK.out hO, hS⟩
                    case measure => simp [intOf]; omega
          · have hke : k = is.length := by omega
            subst hke
            rw [List.take_length] at hO
            go_wp2
            go_ret2
            exact ⟨by rw [HF.out]; rfl, by rw [HF.out]; exact hO, hS⟩
end
end Go.Proofs.YtlmkcnkidkoilaaGreat.H
