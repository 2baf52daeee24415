/- Block and Write of the program's engine. -/
import Derived.Test.YtonohjhmnlfakaaZ19
set_option linter.unusedVariables false
set_option linter.unusedSimpArgs false
set_option maxRecDepth 100000
namespace Go.Proofs.Ytonohjhmnlfakaa.H
open Go.RowKit
theorem zero_zs : (Try.prog.info? 34).map (·.zero) = some (some (.slice none 0 0)) := by kernel_rfl
theorem sz_zs : (Try.prog.info? 34).map (·.size) = some 1 := by kernel_rfl
theorem und_mint : Try.prog.underlying 64 = some (.map 3 34) := by kernel_rfl
theorem wv_mlookup {P : Program} {ops : Array Oper} {C : World → Prop} {K' : Act → Prop} {ol : List Oper} {o : Oper} {aF : Act} {T K E : TypeId} {xm xk : Operand} {b : Nat} {f : List (Int × Value)} {k : Int} {z r : Value} (hw : Region.wanted o (yielded ops aF.tmps) = true) (ho : o.op = .lookup T xm xk false) (hm : aF.eval xm = .map (some b)) (hk : aF.eval xk = .int .i64 k)
    (ht : P.underlying T = some (.map K E)) (hK : P.underlying K = some (.int .i64)) (hz : (P.info? E).map (·.zero) = some (some z)) (hC : ∀ w, C w → ∃ L, Own w (mapP b f :: L)) (hr : (mget f k).getD z = r) (h : wpVals P ops C K' ol (aF.put o.dst r)) : wpVals P ops C K' (o :: ol) aF :=
  ⟨r, y_mlookup hw ho hm hk ht hK hz hC hr, h⟩
theorem sok_set {n : Nat} {s : Nat → List Int} {fs : List (Int × Value)} {g : List RdI} (h : SOk n s fs g) {i : Nat} (hi : i < n) (R : List Int) (A : Option Addr) (c : Nat) :
    SOk n (fun j => if j = i then R else s j) (mset fs i (.slice A R.length c)) (⟨1, .slice A R.length c, R.length, zs R⟩ :: g) where
  key := fun q hq => by
    rcases mem_mset hq with rfl | hq
    · exact ⟨i, hi, rfl⟩
    · exact h.key q hq
  val := fun j hj => by
    rw [mget_mset]
    by_cases e : j = i
    · subst e
      exact ⟨A, c, by rw [if_pos rfl, if_pos rfl]; rfl, by rw [if_pos rfl]; exact List.mem_cons_self ..⟩
    · obtain ⟨A', c', e1, h1⟩ := h.val j hj
      refine ⟨A', c', ?_, ?_⟩
      · rw [if_neg (by omega), if_neg e]; exact e1
      · rw [if_neg e]; exact List.mem_cons_of_mem _ h1
  out := fun j hj => by
    show (if j = i then R else s j) = []
    rw [if_neg (by omega)]
    exact h.out j hj
section
variable (w : World) (L : List HP) (e : Nat) (E : Eng)
theorem eblock_no (i : Int) (hO : Own w (engP e E :: L)) (hi : i < 0 ∨ (E.m.length : Int) ≤ i) : Calls Try.prog 25 #[.pointer (some ⟨e, 0, none⟩), .int .i64 i] w (Ret w (.tuple #[.slice none 0 0, .int .i64 2]) (engP e E :: L)) := by
  have HI := Lib.hid hi
  have hS := Same.refl w
  clear hi
  go_enter Try.func25, Try.ntmps25
  go_wp2_with (first | (go_at_call 50; (with_reducible refine Calls.mono (emay_no _ _ e E i hO HI.out) ?_); clear hO; rintro e u ⟨rfl, hO, hSn⟩; replace hS := hS.trans hSn; clear hSn))
  go_ret2
  exact ⟨rfl, hO, hS⟩
theorem eblock_ok (i : Nat) (b : Blk) (hO : Own w (engP e E :: L)) (hk : E.Ok) (hb : E.m[i]? = some b) : Calls Try.prog 25 #[.pointer (some ⟨e, 0, none⟩), .int .i64 i] w (RetX w (fun g : Nat => .tuple #[.slice (some ⟨g, 0, none⟩) 32 32, .int .i64 0]) (fun g => pts g (.cells (bcs (E.bytes i b fun _ => true)).toArray 47) :: engP e E :: L)) := by
  have HB := Lib.hid hb
  have HOK := Lib.hid hk
  have HI : Hid (i < E.m.length) := (List.getElem?_eq_some_iff.1 hb).1
  have hS := Same.refl w
  have HL : Hid ((E.bytes i b fun _ => true).length = 32) := by
    obtain ⟨d, wv, bs, fs, we, g, ⟨h1, h2, h3⟩, hO⟩ := eng_open.1 hO
    refine appAll_length _ _ (disk_s32 (own_at hO (k := 1) rfl) b (List.mem_of_getElem? hb)).1 (fun p hp => ?_)
    obtain ⟨x, hx, rfl⟩ := List.mem_map.1 hp
    exact (hk.right x (List.filter_sublist.subset hx)).1
  clear hk hb
  go_enter Try.func25, Try.ntmps25
  go_wp2_with (first | (go_at_call 50; (with_reducible refine Calls.mono (emay_ok _ _ e E i hO HI.out) ?_); clear hO; rintro e u ⟨rfl, hO, hSn⟩; replace hS := hS.trans hSn; clear hSn) | (go_at_call 53; (with_reducible refine Calls.mono (ebytes_all _ _ e E i b HOK.out HB.out hO) ?_); clear hO; rintro e u ⟨rfl, hO, hSn⟩; replace hS := hS.trans hSn; clear hSn) | (refine own_alloc (T := 47) (cs := (bcs sec0).toArray) rfl rfl zero_sec rfl hO ?_; clear hO; intro gs u hO hSn; replace hS := hS.trans hSn; clear hSn) | (refine own_store_all (k := 0) rfl rfl rfl rfl sz_sec hO rfl (secA_size HL.out) (by rfl) (bcs_all _) ?_; clear hO; intro u hO hSn; replace hS := hS.trans hSn; clear hSn; simp only [List.set_cons_zero, List.set_cons_succ] at hO))
  go_ret2
  exact ⟨gs, rfl, hO, hS⟩
theorem ewrite_no (i : Int) (hO : Own w (engP e E :: L)) (hi : i < 0 ∨ (E.m.length : Int) ≤ i) : Calls Try.prog 17 #[.pointer (some ⟨e, 0, none⟩), .int .i64 i] w (Ret w (.tuple #[.int .i64 0, .int .i64 2]) (engP e E :: L)) := by
  have HI := Lib.hid hi
  have hS := Same.refl w
  clear hi
  go_enter Try.func17, Try.ntmps17
  go_wp2_with (first | (go_at_call 50; (with_reducible refine Calls.mono (emay_no _ _ e E i hO HI.out) ?_); clear hO; rintro e u ⟨rfl, hO, hSn⟩; replace hS := hS.trans hSn; clear hSn))
  go_ret2
  exact ⟨rfl, hO, hS⟩
set_option maxHeartbeats 3200000 in
theorem ewrite_none (i : Nat) (b : Blk) (hO : Own w (engP e E :: L)) (hk : E.Ok) (hb : E.m[i]? = some b) (hz : readyL E.l i = []) : Calls Try.prog 17 #[.pointer (some ⟨e, 0, none⟩), .int .i64 i] w (Ret w (.tuple #[.int .i64 0, .int .i64 0]) (engP e E :: L)) := by
  have HB := Lib.hid hb
  have HOK := Lib.hid hk
  have HI : Hid (i < E.m.length) := (List.getElem?_eq_some_iff.1 hb).1
  have hS := Same.refl w
  obtain ⟨R, hR⟩ : ∃ R, R = readyL E.l i := ⟨_, rfl⟩
  have HR := Lib.hid hR
  have HRL : Hid (R.length ≤ 200) := by show _ ≤ _; rw [hR]; exact Nat.le_trans (ready_len _) hk.len
  have hz0 : ((R.length : Int) == 0) = true := by rw [hR, hz]; rfl
  clear hz
  clear hk hb hR
  go_enter Try.func17, Try.ntmps17
  go_upto_region 5 with (first | (go_at_call 50; (with_reducible refine Calls.mono (emay_ok _ _ e E i hO HI.out) ?_); clear hO; rintro e u ⟨rfl, hO, hSn⟩; replace hS := hS.trans hSn; clear hSn) | (go_at_call 51; (with_reducible refine Calls.mono (eready_ok _ _ e E i hO HOK.out HI.out) ?_); clear hO; rintro e u ⟨sv, rfl, hO, hSn⟩; replace hS := hS.trans hSn; clear hSn; (rw [← HR.out] at hO); obtain ⟨SA, sc, rfl⟩ := (owns_rd hO).slice) | (refine own_alloc (T := 34) rfl rfl zero_zs rfl hO ?_; clear hO; intro gx u hO hSn; replace hS := hS.trans hSn; clear hSn) | (refine own_store1 (k := 0) (off := 0) (cs' := #[.slice SA R.length sc]) rfl rfl rfl rfl sz_zs hO rfl rfl (by simp [Value.cells]) rfl ?_; clear hO; intro u hO hSn; replace hS := hS.trans hSn; clear hSn; simp only [List.set_cons_zero] at hO))
  have hO : Own u (engP e E :: pts gx (.cells #[.slice SA R.length sc] 34) :: owns 3 1 (.slice SA R.length sc) R.length (zs R) :: L) := own_at hO (k := 2) rfl
  obtain ⟨d, wv, bs, fs, we, g, hk, hO⟩ := eng_open.1 hO
  have HK := Lib.hid hk
  clear hk
  refine wp_region_seq (Cls _ (pts e (.cells #[.pointer (some ⟨d, 0, none⟩), wv, .map (some bs), .int .i64 E.next] 67) :: diskP d E.m :: mapP bs fs :: rdG g :: pts gx (.cells #[.slice SA R.length sc] 34) :: owns 3 1 (.slice SA R.length sc) R.length (zs R) :: L)) 13 55 mixed (by kernel_rfl) rfl (cls_drew hO) ?_
  simp only [List.append_eq, List.cons_append, List.nil_append, List.take_succ_cons, List.take_zero]
  repeat (first
    | (apply wv_skip rfl; simp only [Act.put, List.setIfInBounds_toArray, List.set_cons_zero, List.set_cons_succ])
    | (refine wv_load1 (b := gx) (off := 0) (cs := #[.slice SA R.length sc]) (t := 34) (v := .slice SA R.length sc) rfl rfl rfl row_zs (fun w h => own_get 4 h.1 rfl) rfl ?_; simp only [Act.put, List.setIfInBounds_toArray, List.set_cons_zero, List.set_cons_succ])
    | (apply wv_load1 rfl rfl rfl; (first | exact row_int | exact row_str | exact row_bool | exact row_u8 | exact row_bys | exact row_pats | exact row_err); (intro w h; (first | exact own_get 0 h.1 rfl | exact own_get 1 h.1 rfl | exact own_get 2 h.1 rfl | exact own_get 3 h.1 rfl | exact own_get 4 h.1 rfl | exact own_get 5 h.1 rfl | exact own_get 6 h.1 rfl | exact own_get 7 h.1 rfl)); (first | (simp only [List.getElem?_toArray, List.getElem?_cons_succ, List.getElem?_cons_zero]; rfl) | rfl); simp only [Act.put, List.setIfInBounds_toArray, List.set_cons_zero, List.set_cons_succ])
    | (apply wv_loadrow rfl rfl rfl; (first | exact row_pat); exact sz_pat; (intro w h; (first | exact own_get 0 h.1 rfl | exact own_get 1 h.1 rfl | exact own_get 2 h.1 rfl | exact own_get 3 h.1 rfl | exact own_get 4 h.1 rfl | exact own_get 5 h.1 rfl | exact own_get 6 h.1 rfl | exact own_get 7 h.1 rfl)); (focus (simp; done)); (first | (simp only [List.drop_zero, List.drop_succ_cons, List.take_succ_cons, List.take_zero]; rfl) | rfl); simp only [Act.put, List.setIfInBounds_toArray, List.set_cons_zero, List.set_cons_succ])
    | (apply wv_run rfl; (focus (intro w h; go_simp; first | done | rfl)); simp only [Act.put, List.setIfInBounds_toArray, List.set_cons_zero, List.set_cons_succ])
    | (apply wv_call rfl; (focus (intro w; go_simp; first | done | exact ⟨rfl, rfl⟩)); (focus (intro w h; apply cls_call h; fail)); simp only [Act.put, List.setIfInBounds_toArray, List.set_cons_zero, List.set_cons_succ]))
  refine wv_nil ?_
  simp only [List.drop_succ_cons, List.drop_zero]
  intro w5 ⟨hO5, hS5⟩
  clear hO
  go_wp2
  go_ret2
  exact ⟨rfl, own_sub (eng_open.2 ⟨_, _, _, _, _, _, HK.out, hO5⟩) (.cons_cons _ (.cons _ (.cons _ (List.Sublist.refl _)))), hS.trans hS5⟩
set_option maxHeartbeats 3200000 in
theorem ewrite_same (i : Nat) (b : Blk) (hO : Own w (engP e E :: L)) (hk : E.Ok) (hb : E.m[i]? = some b) (hz : readyL E.l i ≠ []) (hq : readyL E.l i = E.s i) : Calls Try.prog 17 #[.pointer (some ⟨e, 0, none⟩), .int .i64 i] w (Ret w (.tuple #[.int .i64 0, .int .i64 0]) (engP e E :: L)) := by
  have HB := Lib.hid hb
  have HOK := Lib.hid hk
  have HI : Hid (i < E.m.length) := (List.getElem?_eq_some_iff.1 hb).1
  have hS := Same.refl w
  obtain ⟨R, hR⟩ : ∃ R, R = readyL E.l i := ⟨_, rfl⟩
  have HR := Lib.hid hR
  have HRL : Hid (R.length ≤ 200) := by show _ ≤ _; rw [hR]; exact Nat.le_trans (ready_len _) hk.len
  have hz0 : ((R.length : Int) == 0) = false := by
    rw [beq_eq_false_iff_ne]
    intro h
    exact hz (by rw [← hR]; exact List.eq_nil_of_length_eq_zero (by omega))
  have HQ : Hid (decide (R = E.s i) = true) := by show _ = _; rw [hR, decide_eq_true_eq]; exact hq
  clear hz hq
  clear hk hb hR
  go_enter Try.func17, Try.ntmps17
  go_upto_region 5 with (first | (go_at_call 50; (with_reducible refine Calls.mono (emay_ok _ _ e E i hO HI.out) ?_); clear hO; rintro e u ⟨rfl, hO, hSn⟩; replace hS := hS.trans hSn; clear hSn) | (go_at_call 51; (with_reducible refine Calls.mono (eready_ok _ _ e E i hO HOK.out HI.out) ?_); clear hO; rintro e u ⟨sv, rfl, hO, hSn⟩; replace hS := hS.trans hSn; clear hSn; (rw [← HR.out] at hO); obtain ⟨SA, sc, rfl⟩ := (owns_rd hO).slice) | (refine own_alloc (T := 34) rfl rfl zero_zs rfl hO ?_; clear hO; intro gx u hO hSn; replace hS := hS.trans hSn; clear hSn) | (refine own_store1 (k := 0) (off := 0) (cs' := #[.slice SA R.length sc]) rfl rfl rfl rfl sz_zs hO rfl rfl (by simp [Value.cells]) rfl ?_; clear hO; intro u hO hSn; replace hS := hS.trans hSn; clear hSn; simp only [List.set_cons_zero] at hO))
  have hO : Own u (engP e E :: pts gx (.cells #[.slice SA R.length sc] 34) :: owns 3 1 (.slice SA R.length sc) R.length (zs R) :: L) := own_at hO (k := 2) rfl
  obtain ⟨d, wv, bs, fs, we, g, hk, hO⟩ := eng_open.1 hO
  have HK := Lib.hid hk
  clear hk
  obtain ⟨VA, vc, hv1, hv2⟩ := HK.out.2.2.val i HI.out
  have HV := Lib.hid hv1
  have HVM := Lib.hid hv2
  clear hv1 hv2
  refine wp_region_seq (Cls _ (pts e (.cells #[.pointer (some ⟨d, 0, none⟩), wv, .map (some bs), .int .i64 E.next] 67) :: diskP d E.m :: mapP bs fs :: rdG g :: pts gx (.cells #[.slice SA R.length sc] 34) :: owns 3 1 (.slice SA R.length sc) R.length (zs R) :: L)) 13 55 mixed (by kernel_rfl) rfl (cls_drew hO) ?_
  simp only [List.append_eq, List.cons_append, List.nil_append, List.take_succ_cons, List.take_zero]
  repeat (first
    | (apply wv_skip rfl; simp only [Act.put, List.setIfInBounds_toArray, List.set_cons_zero, List.set_cons_succ])
    | (refine wv_load1 (b := gx) (off := 0) (cs := #[.slice SA R.length sc]) (t := 34) (v := .slice SA R.length sc) rfl rfl rfl row_zs (fun w h => own_get 4 h.1 rfl) rfl ?_; simp only [Act.put, List.setIfInBounds_toArray, List.set_cons_zero, List.set_cons_succ])
    | (refine wv_load1 (b := e) (off := 2) (cs := #[.pointer (some ⟨d, 0, none⟩), wv, .map (some bs), .int .i64 E.next]) (t := 67) (v := .map (some bs)) rfl rfl rfl row_mint (fun w h => own_get 0 h.1 rfl) rfl ?_; simp only [Act.put, List.setIfInBounds_toArray, List.set_cons_zero, List.set_cons_succ])
    | (refine wv_mlookup (b := bs) (f := fs) (k := (i : Int)) (z := .slice none 0 0) (r := .slice VA (E.s i).length vc) rfl rfl rfl rfl und_mint und_i zero_zs (fun w h => ⟨_, own_at h.1 (k := 2) rfl⟩) HV.out ?_; simp only [Act.put, List.setIfInBounds_toArray, List.set_cons_zero, List.set_cons_succ])
    | (apply wv_load1 rfl rfl rfl; (first | exact row_int | exact row_str | exact row_bool | exact row_u8 | exact row_bys | exact row_pats | exact row_err); (intro w h; (first | exact own_get 0 h.1 rfl | exact own_get 1 h.1 rfl | exact own_get 2 h.1 rfl | exact own_get 3 h.1 rfl | exact own_get 4 h.1 rfl | exact own_get 5 h.1 rfl | exact own_get 6 h.1 rfl | exact own_get 7 h.1 rfl)); (first | (simp only [List.getElem?_toArray, List.getElem?_cons_succ, List.getElem?_cons_zero]; rfl) | rfl); simp only [Act.put, List.setIfInBounds_toArray, List.set_cons_zero, List.set_cons_succ])
    | (apply wv_loadrow rfl rfl rfl; (first | exact row_pat); exact sz_pat; (intro w h; (first | exact own_get 0 h.1 rfl | exact own_get 1 h.1 rfl | exact own_get 2 h.1 rfl | exact own_get 3 h.1 rfl | exact own_get 4 h.1 rfl | exact own_get 5 h.1 rfl | exact own_get 6 h.1 rfl | exact own_get 7 h.1 rfl)); (focus (simp; done)); (first | (simp only [List.drop_zero, List.drop_succ_cons, List.take_succ_cons, List.take_zero]; rfl) | rfl); simp only [Act.put, List.setIfInBounds_toArray, List.set_cons_zero, List.set_cons_succ])
    | (apply wv_run rfl; (focus (intro w h; go_simp; first | done | rfl)); simp only [Act.put, List.setIfInBounds_toArray, List.set_cons_zero, List.set_cons_succ])
    | (apply wv_call rfl; (focus (intro w; go_simp; first | done | exact ⟨rfl, rfl⟩)); (focus (intro w h; apply cls_call h; (exact equal_i _ _ (.slice SA R.length sc) (.slice VA (E.s i).length vc) R.length (E.s i).length R (E.s i) (r := true) rfl rfl HQ.out h.1 (fun w' h' => owns_rd (own_at h' (k := 5) rfl)) (fun w' h' => rdG_rd (own_at h' (k := 3) rfl) HVM.out)))); simp only [Act.put, List.setIfInBounds_toArray, List.set_cons_zero, List.set_cons_succ]))
  refine wv_nil ?_
  simp only [List.drop_succ_cons, List.drop_zero]
  intro w5 ⟨hO5, hS5⟩
  clear hO
  go_wp2
  go_ret2
  exact ⟨rfl, own_sub (eng_open.2 ⟨_, _, _, _, _, _, HK.out, hO5⟩) (.cons_cons _ (.cons _ (.cons _ (List.Sublist.refl _)))), hS.trans hS5⟩
set_option maxHeartbeats 3200000 in
theorem ewrite_bad (i : Nat) (b : Blk) (hO : Own w (engP e E :: L)) (hk : E.Ok) (hb : E.m[i]? = some b) (hz : readyL E.l i ≠ []) (hq : readyL E.l i ≠ E.s i) (hbad : b.bad = true) : Calls Try.prog 17 #[.pointer (some ⟨e, 0, none⟩), .int .i64 i] w (Ret w (.tuple #[.int .i64 0, .int .i64 10]) (engP e E :: L)) := by
  have HB := Lib.hid hb
  have HOK := Lib.hid hk
  have HI : Hid (i < E.m.length) := (List.getElem?_eq_some_iff.1 hb).1
  have hS := Same.refl w
  obtain ⟨R, hR⟩ : ∃ R, R = readyL E.l i := ⟨_, rfl⟩
  have HR := Lib.hid hR
  have HRL : Hid (R.length ≤ 200) := by show _ ≤ _; rw [hR]; exact Nat.le_trans (ready_len _) hk.len
  have hz0 : ((R.length : Int) == 0) = false := by
    rw [beq_eq_false_iff_ne]
    intro h
    exact hz (by rw [← hR]; exact List.eq_nil_of_length_eq_zero (by omega))
  have HQ : Hid (decide (R = E.s i) = false) := by show _ = _; rw [hR, decide_eq_false_iff_not]; exact hq
  have HBAD := Lib.hid hbad
  clear hz hq hbad
  clear hk hb hR
  go_enter Try.func17, Try.ntmps17
  go_upto_region 5 with (first | (go_at_call 50; (with_reducible refine Calls.mono (emay_ok _ _ e E i hO HI.out) ?_); clear hO; rintro e u ⟨rfl, hO, hSn⟩; replace hS := hS.trans hSn; clear hSn) | (go_at_call 51; (with_reducible refine Calls.mono (eready_ok _ _ e E i hO HOK.out HI.out) ?_); clear hO; rintro e u ⟨sv, rfl, hO, hSn⟩; replace hS := hS.trans hSn; clear hSn; (rw [← HR.out] at hO); obtain ⟨SA, sc, rfl⟩ := (owns_rd hO).slice) | (refine own_alloc (T := 34) rfl rfl zero_zs rfl hO ?_; clear hO; intro gx u hO hSn; replace hS := hS.trans hSn; clear hSn) | (refine own_store1 (k := 0) (off := 0) (cs' := #[.slice SA R.length sc]) rfl rfl rfl rfl sz_zs hO rfl rfl (by simp [Value.cells]) rfl ?_; clear hO; intro u hO hSn; replace hS := hS.trans hSn; clear hSn; simp only [List.set_cons_zero] at hO))
  have hO : Own u (engP e E :: pts gx (.cells #[.slice SA R.length sc] 34) :: owns 3 1 (.slice SA R.length sc) R.length (zs R) :: L) := own_at hO (k := 2) rfl
  obtain ⟨d, wv, bs, fs, we, g, hk, hO⟩ := eng_open.1 hO
  have HK := Lib.hid hk
  clear hk
  obtain ⟨VA, vc, hv1, hv2⟩ := HK.out.2.2.val i HI.out
  have HV := Lib.hid hv1
  have HVM := Lib.hid hv2
  clear hv1 hv2
  refine wp_region_seq (Cls _ (pts e (.cells #[.pointer (some ⟨d, 0, none⟩), wv, .map (some bs), .int .i64 E.next] 67) :: diskP d E.m :: mapP bs fs :: rdG g :: pts gx (.cells #[.slice SA R.length sc] 34) :: owns 3 1 (.slice SA R.length sc) R.length (zs R) :: L)) 13 55 mixed (by kernel_rfl) rfl (cls_drew hO) ?_
  simp only [List.append_eq, List.cons_append, List.nil_append, List.take_succ_cons, List.take_zero]
  repeat (first
    | (apply wv_skip rfl; simp only [Act.put, List.setIfInBounds_toArray, List.set_cons_zero, List.set_cons_succ])
    | (refine wv_load1 (b := gx) (off := 0) (cs := #[.slice SA R.length sc]) (t := 34) (v := .slice SA R.length sc) rfl rfl rfl row_zs (fun w h => own_get 4 h.1 rfl) rfl ?_; simp only [Act.put, List.setIfInBounds_toArray, List.set_cons_zero, List.set_cons_succ])
    | (refine wv_load1 (b := e) (off := 2) (cs := #[.pointer (some ⟨d, 0, none⟩), wv, .map (some bs), .int .i64 E.next]) (t := 67) (v := .map (some bs)) rfl rfl rfl row_mint (fun w h => own_get 0 h.1 rfl) rfl ?_; simp only [Act.put, List.setIfInBounds_toArray, List.set_cons_zero, List.set_cons_succ])
    | (refine wv_mlookup (b := bs) (f := fs) (k := (i : Int)) (z := .slice none 0 0) (r := .slice VA (E.s i).length vc) rfl rfl rfl rfl und_mint und_i zero_zs (fun w h => ⟨_, own_at h.1 (k := 2) rfl⟩) HV.out ?_; simp only [Act.put, List.setIfInBounds_toArray, List.set_cons_zero, List.set_cons_succ])
    | (apply wv_load1 rfl rfl rfl; (first | exact row_int | exact row_str | exact row_bool | exact row_u8 | exact row_bys | exact row_pats | exact row_err); (intro w h; (first | exact own_get 0 h.1 rfl | exact own_get 1 h.1 rfl | exact own_get 2 h.1 rfl | exact own_get 3 h.1 rfl | exact own_get 4 h.1 rfl | exact own_get 5 h.1 rfl | exact own_get 6 h.1 rfl | exact own_get 7 h.1 rfl)); (first | (simp only [List.getElem?_toArray, List.getElem?_cons_succ, List.getElem?_cons_zero]; rfl) | rfl); simp only [Act.put, List.setIfInBounds_toArray, List.set_cons_zero, List.set_cons_succ])
    | (apply wv_loadrow rfl rfl rfl; (first | exact row_pat); exact sz_pat; (intro w h; (first | exact own_get 0 h.1 rfl | exact own_get 1 h.1 rfl | exact own_get 2 h.1 rfl | exact own_get 3 h.1 rfl | exact own_get 4 h.1 rfl | exact own_get 5 h.1 rfl | exact own_get 6 h.1 rfl | exact own_get 7 h.1 rfl)); (focus (simp; done)); (first | (simp only [List.drop_zero, List.drop_succ_cons, List.take_succ_cons, List.take_zero]; rfl) | rfl); simp only [Act.put, List.setIfInBounds_toArray, List.set_cons_zero, List.set_cons_succ])
    | (apply wv_run rfl; (focus (intro w h; go_simp; first | done | rfl)); simp only [Act.put, List.setIfInBounds_toArray, List.set_cons_zero, List.set_cons_succ])
    | (apply wv_call rfl; (focus (intro w; go_simp; first | done | exact ⟨rfl, rfl⟩)); (focus (intro w h; apply cls_call h; (exact equal_i _ _ (.slice SA R.length sc) (.slice VA (E.s i).length vc) R.length (E.s i).length R (E.s i) (r := false) rfl rfl HQ.out h.1 (fun w' h' => owns_rd (own_at h' (k := 5) rfl)) (fun w' h' => rdG_rd (own_at h' (k := 3) rfl) HVM.out)))); simp only [Act.put, List.setIfInBounds_toArray, List.set_cons_zero, List.set_cons_succ]))
  refine wv_nil ?_
  simp only [List.drop_succ_cons, List.drop_zero]
  intro w5 ⟨hO5, hS5⟩
  clear hO
  obtain ⟨T, hT⟩ : ∃ T, T = E.bytes i b (fun x => R.contains (x.n : Int)) := ⟨_, rfl⟩
  have HT := Lib.hid hT
  have HT2 : Hid (T.length = 32) := by
    show _ = _
    rw [hT]
    refine appAll_length _ _ (disk_s32 (own_at hO5 (k := 1) rfl) b (List.mem_of_getElem? HB.out)).1 (fun p hp => ?_)
    obtain ⟨x, hx, rfl⟩ := List.mem_map.1 hp
    exact (HOK.out.right x (List.filter_sublist.subset hx)).1
  clear hT
  have hO := eng_open.2 ⟨_, _, _, _, _, _, HK.out, hO5⟩
  clear hO5 HK HV HVM
  have hS := hS.trans hS5
  clear hS5
  go_upto_region 8 with (first | (go_at_call 53; (with_reducible refine Calls.mono (ebytes_in _ _ e E i b gx (.slice SA R.length sc) R.length R HOK.out HB.out rfl hO) ?_); clear hO; rintro e u ⟨rfl, hO, hSn⟩; replace hS := hS.trans hSn; clear hSn; rw [← HT.out]) | (refine own_alloc (T := 47) (cs := (bcs sec0).toArray) rfl rfl zero_sec rfl hO ?_; clear hO; intro g8 u hO hSn; replace hS := hS.trans hSn; clear hSn) | (refine own_store_all (k := 0) rfl rfl rfl rfl sz_sec hO rfl (secA_size HT2.out) (by rfl) (bcs_all _) ?_; clear hO; intro u hO hSn; replace hS := hS.trans hSn; clear hSn; simp only [List.set_cons_zero, List.set_cons_succ] at hO))
  have hO := own_swap hO
  obtain ⟨d, wv, bs, fs, we, g, hk, hO⟩ := eng_open.1 hO
  have HK := Lib.hid hk
  clear hk
  have hO : Own u (pts g8 (.cells (bcs T).toArray 47) :: pts e (.cells #[.pointer (some ⟨d, 0, none⟩), wv, .map (some bs), .int .i64 E.next] 67) :: diskP d E.m :: mapP bs fs :: rdG g :: pts gx (.cells #[.slice SA R.length sc] 34) :: owns 3 1 (.slice SA R.length sc) R.length (zs R) :: L) := own_at hO (k := 4) rfl
  refine wp_region_seq (Cls _ (pts g8 (.cells (bcs T).toArray 47) :: pts e (.cells #[.pointer (some ⟨d, 0, none⟩), wv, .map (some bs), .int .i64 E.next] 67) :: diskP d E.m :: mapP bs fs :: rdG g :: pts gx (.cells #[.slice SA R.length sc] 34) :: owns 3 1 (.slice SA R.length sc) R.length (zs R) :: L)) 7 55 mixed (by kernel_rfl) rfl (cls_drew hO) ?_
  simp only [List.append_eq, List.cons_append, List.nil_append, List.take_succ_cons, List.take_zero]
  repeat (first
    | (apply wv_skip rfl; simp only [Act.put, List.setIfInBounds_toArray, List.set_cons_zero, List.set_cons_succ])
    | (refine wv_load1 (b := e) (off := 0) (cs := #[.pointer (some ⟨d, 0, none⟩), wv, .map (some bs), .int .i64 E.next]) (t := 67) (v := .pointer (some ⟨d, 0, none⟩)) rfl rfl rfl row_dptr (fun w h => own_get 1 h.1 rfl) rfl ?_; simp only [Act.put, List.setIfInBounds_toArray, List.set_cons_zero, List.set_cons_succ])
    | (refine wv_loadrow (b := g8) (off := 0) (cs := (bcs T).toArray) (t := 47) (vs := bcs T) rfl rfl rfl row_sec sz_sec (fun w h => own_get 0 h.1 rfl) (by simp [bcs_length, HT2.out]) (by rw [List.drop_zero]; exact List.take_of_length_le (by simp [bcs_length, HT2.out])) ?_; simp only [Act.put, List.setIfInBounds_toArray, List.set_cons_zero, List.set_cons_succ])
    | (apply wv_load1 rfl rfl rfl; (first | exact row_int | exact row_str | exact row_bool | exact row_u8 | exact row_bys | exact row_pats | exact row_err); (intro w h; (first | exact own_get 0 h.1 rfl | exact own_get 1 h.1 rfl | exact own_get 2 h.1 rfl | exact own_get 3 h.1 rfl | exact own_get 4 h.1 rfl | exact own_get 5 h.1 rfl | exact own_get 6 h.1 rfl | exact own_get 7 h.1 rfl)); (first | (simp only [List.getElem?_toArray, List.getElem?_cons_succ, List.getElem?_cons_zero]; rfl) | rfl); simp only [Act.put, List.setIfInBounds_toArray, List.set_cons_zero, List.set_cons_succ])
    | (apply wv_loadrow rfl rfl rfl; (first | exact row_pat); exact sz_pat; (intro w h; (first | exact own_get 0 h.1 rfl | exact own_get 1 h.1 rfl | exact own_get 2 h.1 rfl | exact own_get 3 h.1 rfl | exact own_get 4 h.1 rfl | exact own_get 5 h.1 rfl | exact own_get 6 h.1 rfl | exact own_get 7 h.1 rfl)); (focus (simp; done)); (first | (simp only [List.drop_zero, List.drop_succ_cons, List.take_succ_cons, List.take_zero]; rfl) | rfl); simp only [Act.put, List.setIfInBounds_toArray, List.set_cons_zero, List.set_cons_succ])
    | (apply wv_run rfl; (focus (intro w h; go_simp; first | done | rfl)); simp only [Act.put, List.setIfInBounds_toArray, List.set_cons_zero, List.set_cons_succ])
    | (apply wv_call rfl; (focus (intro w; go_simp; first | done | exact ⟨rfl, rfl⟩)); (focus (intro w h; apply cls_call h; fail)); simp only [Act.put, List.setIfInBounds_toArray, List.set_cons_zero, List.set_cons_succ]))
  refine wv_nil ?_
  simp only [List.drop_succ_cons, List.drop_zero]
  intro w5 ⟨hO, hS5⟩
  have hS := hS.trans hS5
  clear hS5
  go_wp2_with (first | (go_at_call 56; (with_reducible refine Calls.mono (call_at 2 (fun L' h => write_bad _ L' d E.m i b T h HB.out HBAD.out) rfl hO) ?_); clear hO; rintro e u ⟨rfl, hO, hSn⟩; replace hS := hS.trans hSn; clear hSn; simp only [List.set_cons_zero, List.set_cons_succ] at hO))
  go_ret2
  refine ⟨rfl, ?_, hS⟩
  exact own_sub (eng_open.2 ⟨_, _, _, _, _, _, HK.out, own_drop hO⟩) (.cons_cons _ (.cons _ (.cons _ (List.Sublist.refl _))))
set_option maxHeartbeats 3200000 in
theorem ewrite_did (i : Nat) (b : Blk) (hO : Own w (engP e E :: L)) (hk : E.Ok) (hb : E.m[i]? = some b) (hz : readyL E.l i ≠ []) (hq : readyL E.l i ≠ E.s i) (hbad : b.bad = false) (hlim : b.vs.length ≤ 1000000) : Calls Try.prog 17 #[.pointer (some ⟨e, 0, none⟩), .int .i64 i] w (Ret w (.tuple #[.int .i64 (readyL E.l i).length, .int .i64 0]) (engP e ⟨E.m.set i (b.wr (E.bytes i b fun x => (readyL E.l i).contains (x.n : Int))), E.l, fun j => if j = i then readyL E.l i else E.s j, E.next⟩ :: L)) := by
  have HB := Lib.hid hb
  have HOK := Lib.hid hk
  have HI : Hid (i < E.m.length) := (List.getElem?_eq_some_iff.1 hb).1
  have hS := Same.refl w
  obtain ⟨R, hR⟩ : ∃ R, R = readyL E.l i := ⟨_, rfl⟩
  have HR := Lib.hid hR
  have HRL : Hid (R.length ≤ 200) := by show _ ≤ _; rw [hR]; exact Nat.le_trans (ready_len _) hk.len
  have hz0 : ((R.length : Int) == 0) = false := by
    rw [beq_eq_false_iff_ne]
    intro h
    exact hz (by rw [← hR]; exact List.eq_nil_of_length_eq_zero (by omega))
  have HQ : Hid (decide (R = E.s i) = false) := by show _ = _; rw [hR, decide_eq_false_iff_not]; exact hq
  have HBAD := Lib.hid hbad
  have HLIM := Lib.hid hlim
  rw [← hR]
  clear hz hq hbad hlim
  clear hk hb hR
  go_enter Try.func17, Try.ntmps17
  go_upto_region 5 with (first | (go_at_call 50; (with_reducible refine Calls.mono (emay_ok _ _ e E i hO HI.out) ?_); clear hO; rintro e u ⟨rfl, hO, hSn⟩; replace hS := hS.trans hSn; clear hSn) | (go_at_call 51; (with_reducible refine Calls.mono (eready_ok _ _ e E i hO HOK.out HI.out) ?_); clear hO; rintro e u ⟨sv, rfl, hO, hSn⟩; replace hS := hS.trans hSn; clear hSn; (rw [← HR.out] at hO); obtain ⟨SA, sc, rfl⟩ := (owns_rd hO).slice) | (refine own_alloc (T := 34) rfl rfl zero_zs rfl hO ?_; clear hO; intro gx u hO hSn; replace hS := hS.trans hSn; clear hSn) | (refine own_store1 (k := 0) (off := 0) (cs' := #[.slice SA R.length sc]) rfl rfl rfl rfl sz_zs hO rfl rfl (by simp [Value.cells]) rfl ?_; clear hO; intro u hO hSn; replace hS := hS.trans hSn; clear hSn; simp only [List.set_cons_zero] at hO))
  have hO : Own u (engP e E :: pts gx (.cells #[.slice SA R.length sc] 34) :: owns 3 1 (.slice SA R.length sc) R.length (zs R) :: L) := own_at hO (k := 2) rfl
  obtain ⟨d, wv, bs, fs, we, g, hk, hO⟩ := eng_open.1 hO
  have HK := Lib.hid hk
  clear hk
  obtain ⟨VA, vc, hv1, hv2⟩ := HK.out.2.2.val i HI.out
  have HV := Lib.hid hv1
  have HVM := Lib.hid hv2
  clear hv1 hv2
  refine wp_region_seq (Cls _ (pts e (.cells #[.pointer (some ⟨d, 0, none⟩), wv, .map (some bs), .int .i64 E.next] 67) :: diskP d E.m :: mapP bs fs :: rdG g :: pts gx (.cells #[.slice SA R.length sc] 34) :: owns 3 1 (.slice SA R.length sc) R.length (zs R) :: L)) 13 55 mixed (by kernel_rfl) rfl (cls_drew hO) ?_
  simp only [List.append_eq, List.cons_append, List.nil_append, List.take_succ_cons, List.take_zero]
  repeat (first
    | (apply wv_skip rfl; simp only [Act.put, List.setIfInBounds_toArray, List.set_cons_zero, List.set_cons_succ])
    | (refine wv_load1 (b := gx) (off := 0) (cs := #[.slice SA R.length sc]) (t := 34) (v := .slice SA R.length sc) rfl rfl rfl row_zs (fun w h => own_get 4 h.1 rfl) rfl ?_; simp only [Act.put, List.setIfInBounds_toArray, List.set_cons_zero, List.set_cons_succ])
    | (refine wv_load1 (b := e) (off := 2) (cs := #[.pointer (some ⟨d, 0, none⟩), wv, .map (some bs), .int .i64 E.next]) (t := 67) (v := .map (some bs)) rfl rfl rfl row_mint (fun w h => own_get 0 h.1 rfl) rfl ?_; simp only [Act.put, List.setIfInBounds_toArray, List.set_cons_zero, List.set_cons_succ])
    | (refine wv_mlookup (b := bs) (f := fs) (k := (i : Int)) (z := .slice none 0 0) (r := .slice VA (E.s i).length vc) rfl rfl rfl rfl und_mint und_i zero_zs (fun w h => ⟨_, own_at h.1 (k := 2) rfl⟩) HV.out ?_; simp only [Act.put, List.setIfInBounds_toArray, List.set_cons_zero, List.set_cons_succ])
    | (apply wv_load1 rfl rfl rfl; (first | exact row_int | exact row_str | exact row_bool | exact row_u8 | exact row_bys | exact row_pats | exact row_err); (intro w h; (first | exact own_get 0 h.1 rfl | exact own_get 1 h.1 rfl | exact own_get 2 h.1 rfl | exact own_get 3 h.1 rfl | exact own_get 4 h.1 rfl | exact own_get 5 h.1 rfl | exact own_get 6 h.1 rfl | exact own_get 7 h.1 rfl)); (first | (simp only [List.getElem?_toArray, List.getElem?_cons_succ, List.getElem?_cons_zero]; rfl) | rfl); simp only [Act.put, List.setIfInBounds_toArray, List.set_cons_zero, List.set_cons_succ])
    | (apply wv_loadrow rfl rfl rfl; (first | exact row_pat); exact sz_pat; (intro w h; (first | exact own_get 0 h.1 rfl | exact own_get 1 h.1 rfl | exact own_get 2 h.1 rfl | exact own_get 3 h.1 rfl | exact own_get 4 h.1 rfl | exact own_get 5 h.1 rfl | exact own_get 6 h.1 rfl | exact own_get 7 h.1 rfl)); (focus (simp; done)); (first | (simp only [List.drop_zero, List.drop_succ_cons, List.take_succ_cons, List.take_zero]; rfl) | rfl); simp only [Act.put, List.setIfInBounds_toArray, List.set_cons_zero, List.set_cons_succ])
    | (apply wv_run rfl; (focus (intro w h; go_simp; first | done | rfl)); simp only [Act.put, List.setIfInBounds_toArray, List.set_cons_zero, List.set_cons_succ])
    | (apply wv_call rfl; (focus (intro w; go_simp; first | done | exact ⟨rfl, rfl⟩)); (focus (intro w h; apply cls_call h; (exact equal_i _ _ (.slice SA R.length sc) (.slice VA (E.s i).length vc) R.length (E.s i).length R (E.s i) (r := false) rfl rfl HQ.out h.1 (fun w' h' => owns_rd (own_at h' (k := 5) rfl)) (fun w' h' => rdG_rd (own_at h' (k := 3) rfl) HVM.out)))); simp only [Act.put, List.setIfInBounds_toArray, List.set_cons_zero, List.set_cons_succ]))
  refine wv_nil ?_
  simp only [List.drop_succ_cons, List.drop_zero]
  intro w5 ⟨hO5, hS5⟩
  clear hO
  obtain ⟨T, hT⟩ : ∃ T, T = E.bytes i b (fun x => R.contains (x.n : Int)) := ⟨_, rfl⟩
  have HT := Lib.hid hT
  have HT2 : Hid (T.length = 32) := by
    show _ = _
    rw [hT]
    refine appAll_length _ _ (disk_s32 (own_at hO5 (k := 1) rfl) b (List.mem_of_getElem? HB.out)).1 (fun p hp => ?_)
    obtain ⟨x, hx, rfl⟩ := List.mem_map.1 hp
    exact (HOK.out.right x (List.filter_sublist.subset hx)).1
  clear hT
  have hO := eng_open.2 ⟨_, _, _, _, _, _, HK.out, hO5⟩
  clear hO5 HK HV HVM
  have hS := hS.trans hS5
  clear hS5
  go_upto_region 8 with (first | (go_at_call 53; (with_reducible refine Calls.mono (ebytes_in _ _ e E i b gx (.slice SA R.length sc) R.length R HOK.out HB.out rfl hO) ?_); clear hO; rintro e u ⟨rfl, hO, hSn⟩; replace hS := hS.trans hSn; clear hSn; rw [← HT.out]) | (refine own_alloc (T := 47) (cs := (bcs sec0).toArray) rfl rfl zero_sec rfl hO ?_; clear hO; intro g8 u hO hSn; replace hS := hS.trans hSn; clear hSn) | (refine own_store_all (k := 0) rfl rfl rfl rfl sz_sec hO rfl (secA_size HT2.out) (by rfl) (bcs_all _) ?_; clear hO; intro u hO hSn; replace hS := hS.trans hSn; clear hSn; simp only [List.set_cons_zero, List.set_cons_succ] at hO))
  have hO := own_swap hO
  obtain ⟨d, wv, bs, fs, we, g, hk, hO⟩ := eng_open.1 hO
  have HK := Lib.hid hk
  clear hk
  have hO : Own u (pts g8 (.cells (bcs T).toArray 47) :: pts e (.cells #[.pointer (some ⟨d, 0, none⟩), wv, .map (some bs), .int .i64 E.next] 67) :: diskP d E.m :: mapP bs fs :: rdG g :: pts gx (.cells #[.slice SA R.length sc] 34) :: owns 3 1 (.slice SA R.length sc) R.length (zs R) :: L) := own_at hO (k := 4) rfl
  refine wp_region_seq (Cls _ (pts g8 (.cells (bcs T).toArray 47) :: pts e (.cells #[.pointer (some ⟨d, 0, none⟩), wv, .map (some bs), .int .i64 E.next] 67) :: diskP d E.m :: mapP bs fs :: rdG g :: pts gx (.cells #[.slice SA R.length sc] 34) :: owns 3 1 (.slice SA R.length sc) R.length (zs R) :: L)) 7 55 mixed (by kernel_rfl) rfl (cls_drew hO) ?_
  simp only [List.append_eq, List.cons_append, List.nil_append, List.take_succ_cons, List.take_zero]
  repeat (first
    | (apply wv_skip rfl; simp only [Act.put, List.setIfInBounds_toArray, List.set_cons_zero, List.set_cons_succ])
    | (refine wv_load1 (b := e) (off := 0) (cs := #[.pointer (some ⟨d, 0, none⟩), wv, .map (some bs), .int .i64 E.next]) (t := 67) (v := .pointer (some ⟨d, 0, none⟩)) rfl rfl rfl row_dptr (fun w h => own_get 1 h.1 rfl) rfl ?_; simp only [Act.put, List.setIfInBounds_toArray, List.set_cons_zero, List.set_cons_succ])
    | (refine wv_loadrow (b := g8) (off := 0) (cs := (bcs T).toArray) (t := 47) (vs := bcs T) rfl rfl rfl row_sec sz_sec (fun w h => own_get 0 h.1 rfl) (by simp [bcs_length, HT2.out]) (by rw [List.drop_zero]; exact List.take_of_length_le (by simp [bcs_length, HT2.out])) ?_; simp only [Act.put, List.setIfInBounds_toArray, List.set_cons_zero, List.set_cons_succ])
    | (apply wv_load1 rfl rfl rfl; (first | exact row_int | exact row_str | exact row_bool | exact row_u8 | exact row_bys | exact row_pats | exact row_err); (intro w h; (first | exact own_get 0 h.1 rfl | exact own_get 1 h.1 rfl | exact own_get 2 h.1 rfl | exact own_get 3 h.1 rfl | exact own_get 4 h.1 rfl | exact own_get 5 h.1 rfl | exact own_get 6 h.1 rfl | exact own_get 7 h.1 rfl)); (first | (simp only [List.getElem?_toArray, List.getElem?_cons_succ, List.getElem?_cons_zero]; rfl) | rfl); simp only [Act.put, List.setIfInBounds_toArray, List.set_cons_zero, List.set_cons_succ])
    | (apply wv_loadrow rfl rfl rfl; (first | exact row_pat); exact sz_pat; (intro w h; (first | exact own_get 0 h.1 rfl | exact own_get 1 h.1 rfl | exact own_get 2 h.1 rfl | exact own_get 3 h.1 rfl | exact own_get 4 h.1 rfl | exact own_get 5 h.1 rfl | exact own_get 6 h.1 rfl | exact own_get 7 h.1 rfl)); (focus (simp; done)); (first | (simp only [List.drop_zero, List.drop_succ_cons, List.take_succ_cons, List.take_zero]; rfl) | rfl); simp only [Act.put, List.setIfInBounds_toArray, List.set_cons_zero, List.set_cons_succ])
    | (apply wv_run rfl; (focus (intro w h; go_simp; first | done | rfl)); simp only [Act.put, List.setIfInBounds_toArray, List.set_cons_zero, List.set_cons_succ])
    | (apply wv_call rfl; (focus (intro w; go_simp; first | done | exact ⟨rfl, rfl⟩)); (focus (intro w h; apply cls_call h; fail)); simp only [Act.put, List.setIfInBounds_toArray, List.set_cons_zero, List.set_cons_succ]))
  refine wv_nil ?_
  simp only [List.drop_succ_cons, List.drop_zero]
  intro w5 ⟨hO, hS5⟩
  have hS := hS.trans hS5
  clear hS5
  go_upto_region 11 with (first | (go_at_call 56; (with_reducible refine Calls.mono (call_at 2 (fun L' h => write_ok _ L' d E.m i b T h HB.out HBAD.out HT2.out HLIM.out) rfl hO) ?_); clear hO; rintro e u ⟨rfl, hO, hSn⟩; replace hS := hS.trans hSn; clear hSn; simp only [List.set_cons_zero, List.set_cons_succ] at hO))
  refine wp_region_seq (Cls _ (pts g8 (.cells (bcs T).toArray 47) :: pts e (.cells #[.pointer (some ⟨d, 0, none⟩), wv, .map (some bs), .int .i64 E.next] 67) :: diskP d (E.m.set i (b.wr T)) :: mapP bs fs :: rdG g :: pts gx (.cells #[.slice SA R.length sc] 34) :: owns 3 1 (.slice SA R.length sc) R.length (zs R) :: L)) 6 55 mixed (by kernel_rfl) rfl (cls_drew hO) ?_
  simp only [List.append_eq, List.cons_append, List.nil_append, List.take_succ_cons, List.take_zero]
  repeat (first
    | (apply wv_skip rfl; simp only [Act.put, List.setIfInBounds_toArray, List.set_cons_zero, List.set_cons_succ])
    | (refine wv_load1 (b := e) (off := 2) (cs := #[.pointer (some ⟨d, 0, none⟩), wv, .map (some bs), .int .i64 E.next]) (t := 67) (v := .map (some bs)) rfl rfl rfl row_mint (fun w h => own_get 1 h.1 rfl) rfl ?_; simp only [Act.put, List.setIfInBounds_toArray, List.set_cons_zero, List.set_cons_succ])
    | (refine wv_load1 (b := gx) (off := 0) (cs := #[.slice SA R.length sc]) (t := 34) (v := .slice SA R.length sc) rfl rfl rfl row_zs (fun w h => own_get 5 h.1 rfl) rfl ?_; simp only [Act.put, List.setIfInBounds_toArray, List.set_cons_zero, List.set_cons_succ])
    | (apply wv_load1 rfl rfl rfl; (first | exact row_int | exact row_str | exact row_bool | exact row_u8 | exact row_bys | exact row_pats | exact row_err); (intro w h; (first | exact own_get 0 h.1 rfl | exact own_get 1 h.1 rfl | exact own_get 2 h.1 rfl | exact own_get 3 h.1 rfl | exact own_get 4 h.1 rfl | exact own_get 5 h.1 rfl | exact own_get 6 h.1 rfl | exact own_get 7 h.1 rfl)); (first | (simp only [List.getElem?_toArray, List.getElem?_cons_succ, List.getElem?_cons_zero]; rfl) | rfl); simp only [Act.put, List.setIfInBounds_toArray, List.set_cons_zero, List.set_cons_succ])
    | (apply wv_loadrow rfl rfl rfl; (first | exact row_pat); exact sz_pat; (intro w h; (first | exact own_get 0 h.1 rfl | exact own_get 1 h.1 rfl | exact own_get 2 h.1 rfl | exact own_get 3 h.1 rfl | exact own_get 4 h.1 rfl | exact own_get 5 h.1 rfl | exact own_get 6 h.1 rfl | exact own_get 7 h.1 rfl)); (focus (simp; done)); (first | (simp only [List.drop_zero, List.drop_succ_cons, List.take_succ_cons, List.take_zero]; rfl) | rfl); simp only [Act.put, List.setIfInBounds_toArray, List.set_cons_zero, List.set_cons_succ])
    | (apply wv_run rfl; (focus (intro w h; go_simp; first | done | rfl)); simp only [Act.put, List.setIfInBounds_toArray, List.set_cons_zero, List.set_cons_succ])
    | (apply wv_call rfl; (focus (intro w; go_simp; first | done | exact ⟨rfl, rfl⟩)); (focus (intro w h; apply cls_call h; fail)); simp only [Act.put, List.setIfInBounds_toArray, List.set_cons_zero, List.set_cons_succ]))
  refine wv_nil ?_
  simp only [List.drop_succ_cons, List.drop_zero]
  intro w6 ⟨hO6, hS6⟩
  clear hO
  go_wp2_with (first | (refine own_mset (i := 3) (b := bs) (f := fs) (k := (i : Int)) (v := .slice SA R.length sc) rfl rfl rfl rfl rfl und_mint und_i hO6 rfl ?_; clear hO6; intro w7 hO hS7; simp only [List.set_cons_zero, List.set_cons_succ] at hO) | (refine own_load1 (b := gx) (off := 0) (cs := #[.slice SA R.length sc]) (t := 34) (v := .slice SA R.length sc) rfl rfl rfl row_zs (own_get 5 hO rfl) rfl ?_))
  go_ret2
  refine ⟨rfl, ?_, hS.trans (hS6.trans hS7)⟩
  rw [← HT.out]
  have h1 := own_at hO (k := 6) rfl
  have h2 : Own w7 (owns 3 1 (.slice SA R.length sc) R.length (zs R) :: rdG g :: pts e (.cells #[.pointer (some ⟨d, 0, none⟩), wv, .map (some bs), .int .i64 E.next] 67) :: diskP d (E.m.set i (b.wr T)) :: mapP bs (mset fs i (.slice SA R.length sc)) :: L) := own_sub (own_perm h1 (List.Perm.cons _ (perm_at (k := 4) rfl))) (.cons_cons _ (.cons_cons _ (.cons _ (.cons_cons _ (.cons_cons _ (.cons_cons _ (.cons _ (List.Sublist.refl _))))))))
  have h3 := rdG_owns h2
  refine eng_open.2 ⟨d, wv, bs, mset fs i (.slice SA R.length sc), we, _, ⟨HK.out.1, HK.out.2.1.mono fun x hx => List.mem_cons_of_mem _ hx, ?_⟩, own_perm h3 (List.Perm.symm (perm_at (k := 3) rfl))⟩
  have h4 := sok_set HK.out.2.2 HI.out R SA sc
  rwa [show (Eng.m ⟨E.m.set i (b.wr T), E.l, fun j => if j = i then R else E.s j, E.next⟩).length = E.m.length from List.length_set]
end
end Go.Proofs.Ytonohjhmnlfakaa.H
