/- The reference's Same, of numbers. -/
import Derived.Test.YtlmkcnkidkoilaaGreatZ24
set_option linter.unusedVariables false
set_option linter.unusedSimpArgs false
set_option maxRecDepth 100000
namespace Go.Proofs.YtlmkcnkidkoilaaGreat.H
open Go.RowKit
theorem eq_upto {la lb : List Int} (hl : la.length = lb.length) (h : la.take la.length = lb.take la.length) : la = lb := by
  rw [List.take_length, hl, List.take_length] at h
  exact h
section
variable (w : World) (L : List HP)
theorem grsame_c (u v : Value) (n n2 : Nat) (la lb : List Int) (hn : n = la.length) (hn2 : n2 = lb.length) (hO : Own w L) (hu : ∀ w', Own w' L → Rd w' 1 u n (zs la)) (hv : ∀ w', Own w' L → Rd w' 1 v n2 (zs lb)) :
    Calls Tryz.prog 52 #[u, v] w (Ret w (.bool (decide (la = lb))) L) := by
  subst hn
  subst hn2
  have HU := Lib.hid hu
  have HV := Lib.hid hv
  have hS := Same.refl w
  obtain ⟨A, c, rfl⟩ := (hu w hO).slice
  obtain ⟨B, d, rfl⟩ := (hv w hO).slice
  have hmx := (hu w hO).max
  have hmy := (hv w hO).max
  clear hu hv
  by_cases hlen : la.length = lb.length
  · have HLEN := Lib.hid hlen
    have hl2 : ((la.length : Int) != (lb.length : Int)) = false := by simp [hlen]
    have hl3 : (lb.length : Int) = (la.length : Int) := by omega
    have hl4 := hlen
    clear hlen hl3
    go_enter Tryz.func52, Tryz.ntmps52
    go_wp2
    go_loopw [5] (fun pv wr => ∃ (k : Nat), k ≤ la.length ∧ pv = .int .i64 k ∧ Hid (la.take k = lb.take k) ∧ Own wr L ∧ Same w wr) (fun pv _ => la.length - (intOf pv).toNat)
    case atStart => exact ⟨0, Nat.zero_le _, rfl, Lib.hid rfl, hO, hS⟩
    case round =>
      clear hO hS
      obtain ⟨k, hk, rfl, HT, hO, hS⟩ := hrel
      by_cases hlt : k < la.length
      · obtain ⟨x, hx⟩ : ∃ x, la[k]? = some x := ⟨_, List.getElem?_eq_getElem hlt⟩
        obtain ⟨y, hy⟩ : ∃ x, lb[k]? = some x := ⟨_, List.getElem?_eq_getElem (by omega)⟩
        have hra := HU.out _ hO
        have hrb := HV.out _ hO
        have HNOW := Lib.hid hO
        obtain ⟨ad, e1⟩ := hra.addr (by unfold zs; rw [List.length_map]; omega)
        obtain ⟨bd, e2⟩ := hrb.addr (by unfold zs; rw [List.length_map]; omega)
        subst e1
        subst e2
        have hO := HNOW.out
        have HCA : Hid (∀ (w' : World), Own w' L → w'.cell? (ad.add k) = some (.int .i64 x)) := Lib.hid fun w' h => zs_cell (HU.out w' h) hx
        have HCB : Hid (∀ (w' : World), Own w' L → w'.cell? (bd.add k) = some (.int .i64 y)) := Lib.hid fun w' h => zs_cell (HV.out w' h) hy
        have hm1 : (k : Int) < la.length := by omega
        have hm2 : (k : Int) < lb.length := by omega
        by_cases hxy : x = y
        · subst hxy
          have hne : (x != x) = false := by simp
          have HN : Hid (la.take (k + 1) = lb.take (k + 1)) := by
            show _ = _
            rw [List.take_add_one, List.take_add_one, HT.out, hx, hy]
          clear hx hy hra hrb HNOW
          go_upto_region 6 with fail
          refine wp_region_seq (Cls _ (L)) 9 26 mixed (by kernel_rfl) rfl (cls_drew hO) ?_
          simp only [List.append_eq, List.cons_append, List.nil_append, List.take_succ_cons, List.take_zero]
          repeat (first
            | (apply wv_skip rfl; simp only [Act.put, List.setIfInBounds_toArray, List.set_cons_zero, List.set_cons_succ])
            | (refine wv_load1_at (ad := ad.add k) (v := .int .i64 x) rfl rfl rfl row_int (fun w h => HCA.out w h.1) ?_; simp only [Act.put, List.setIfInBounds_toArray, List.set_cons_zero, List.set_cons_succ])
            | (refine wv_load1_at (ad := bd.add k) (v := .int .i64 x) rfl rfl rfl row_int (fun w h => HCB.out w h.1) ?_; simp only [Act.put, List.setIfInBounds_toArray, List.set_cons_zero, List.set_cons_succ])
            | (apply wv_load1 rfl rfl rfl; (first | exact row_int | exact row_str | exact row_bool | exact row_u8 | exact row_bys | exact row_pats | exact row_err); (intro w h; (first | exact own_get 0 h.1 rfl | exact own_get 1 h.1 rfl | exact own_get 2 h.1 rfl | exact own_get 3 h.1 rfl | exact own_get 4 h.1 rfl | exact own_get 5 h.1 rfl | exact own_get 6 h.1 rfl | exact own_get 7 h.1 rfl)); (first | (simp only [List.getElem?_toArray, List.getElem?_cons_succ, List.getElem?_cons_zero]; rfl) | rfl); simp only [Act.put, List.setIfInBounds_toArray, List.set_cons_zero, List.set_cons_succ])
            | (apply wv_loadrow rfl rfl rfl; (first | exact row_pat); exact sz_pat; (intro w h; (first | exact own_get 0 h.1 rfl | exact own_get 1 h.1 rfl | exact own_get 2 h.1 rfl | exact own_get 3 h.1 rfl | exact own_get 4 h.1 rfl | exact own_get 5 h.1 rfl | exact own_get 6 h.1 rfl | exact own_get 7 h.1 rfl)); (focus (simp; done)); (first | (simp only [List.drop_zero, List.drop_succ_cons, List.take_succ_cons, List.take_zero]; rfl) | rfl); simp only [Act.put, List.setIfInBounds_toArray, List.set_cons_zero, List.set_cons_succ])
            | (apply wv_run rfl; (focus (intro w h; go_simp; first | done | rfl)); simp only [Act.put, List.setIfInBounds_toArray, List.set_cons_zero, List.set_cons_succ])
            | (apply wv_call rfl; (focus (intro w; go_simp; first | done | exact ⟨rfl, rfl⟩)); (focus (intro w h; apply cls_call h; fail)); simp only [Act.put, List.setIfInBounds_toArray, List.set_cons_zero, List.set_cons_succ]))
          refine wv_nil ?_
          simp only [List.drop_succ_cons, List.drop_zero]
          intro w6 ⟨hO6, hS6⟩
          clear hO
          go_wp2
          go_roundw
          case rel => exact ⟨k + 1, by omega, by go_num, HN, hO6, hS.trans hS6⟩
          case measure => simp [intOf]; omega
        · have hne : (x != y) = true := by simp [hxy]
          have HF : Hid (decide (la = lb) = false) := by
            show _ = _
            rw [decide_eq_false_iff_not]
            intro e
            rw [e, hy] at hx
            injection hx with hx
            exact hxy hx.symm
          clear hx hy hra hrb HNOW hxy
          go_upto_region 6 with fail
          refine wp_region_seq (Cls _ (L)) 9 26 mixed (by kernel_rfl) rfl (cls_drew hO) ?_
          simp only [List.append_eq, List.cons_append, List.nil_append, List.take_succ_cons, List.take_zero]
          repeat (first
            | (apply wv_skip rfl; simp only [Act.put, List.setIfInBounds_toArray, List.set_cons_zero, List.set_cons_succ])
            | (refine wv_load1_at (ad := ad.add k) (v := .int .i64 x) rfl rfl rfl row_int (fun w h => HCA.out w h.1) ?_; simp only [Act.put, List.setIfInBounds_toArray, List.set_cons_zero, List.set_cons_succ])
            | (refine wv_load1_at (ad := bd.add k) (v := .int .i64 y) rfl rfl rfl row_int (fun w h => HCB.out w h.1) ?_; simp only [Act.put, List.setIfInBounds_toArray, List.set_cons_zero, List.set_cons_succ])
            | (apply wv_load1 rfl rfl rfl; (first | exact row_int | exact row_str | exact row_bool | exact row_u8 | exact row_bys | exact row_pats | exact row_err); (intro w h; (first | exact own_get 0 h.1 rfl | exact own_get 1 h.1 rfl | exact own_get 2 h.1 rfl | exact own_get 3 h.1 rfl | exact own_get 4 h.1 rfl | exact own_get 5 h.1 rfl | exact own_get 6 h.1 rfl | exact own_get 7 h.1 rfl)); (first | (simp only [List.getElem?_toArray, List.getElem?_cons_succ, List.getElem?_cons_zero]; rfl) | rfl); simp only [Act.put, List.setIfInBounds_toArray, List.set_cons_zero, List.set_cons_succ])
            | (apply wv_loadrow rfl rfl rfl; (first | exact row_pat); exact sz_pat; (intro w h; (first | exact own_get 0 h.1 rfl | exact own_get 1 h.1 rfl | exact own_get 2 h.1 rfl | exact own_get 3 h.1 rfl | exact own_get 4 h.1 rfl | exact own_get 5 h.1 rfl | exact own_get 6 h.1 rfl | exact own_get 7 h.1 rfl)); (focus (simp; done)); (first | (simp only [List.drop_zero, List.drop_succ_cons, List.take_succ_cons, List.take_zero]; rfl) | rfl); simp only [Act.put, List.setIfInBounds_toArray, List.set_cons_zero, List.set_cons_succ])
            | (apply wv_run rfl; (focus (intro w h; go_simp; first | done | rfl)); simp only [Act.put, List.setIfInBounds_toArray, List.set_cons_zero, List.set_cons_succ])
            | (apply wv_call rfl; (focus (intro w; go_simp; first | done | exact ⟨rfl, rfl⟩)); (focus (intro w h; apply cls_call h; fail)); simp only [Act.put, List.setIfInBounds_toArray, List.set_cons_zero, List.set_cons_succ]))
          refine wv_nil ?_
          simp only [List.drop_succ_cons, List.drop_zero]
          intro w6 ⟨hO6, hS6⟩
          clear hO
          go_wp2
          go_ret
          exact ⟨by rw [HF.out]; rfl, hO6, hS.trans hS6⟩
      · have hke : k = la.length := by omega
        subst hke
        have HF : Hid (decide (la = lb) = true) := by
          show _ = _
          rw [decide_eq_true_iff]
          exact eq_upto HLEN.out (by have := HT.out; exact this)
        go_wp2
        go_ret
        exact ⟨by rw [HF.out]; rfl, hO, hS⟩
  · have hl2 : ((la.length : Int) != (lb.length : Int)) = true := by simp; omega
    have HF : Hid (decide (la = lb) = false) := by
      show _ = _
      rw [decide_eq_false_iff_not]
      intro h
      exact hlen (by rw [h])
    clear hlen
    go_enter Tryz.func52, Tryz.ntmps52
    go_wp2
    go_ret
    exact ⟨by rw [HF.out]; rfl, hO, hS⟩
end
end Go.Proofs.YtlmkcnkidkoilaaGreat.H
