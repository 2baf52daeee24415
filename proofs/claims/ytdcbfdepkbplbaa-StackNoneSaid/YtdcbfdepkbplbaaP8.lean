/- Contract of patch.Join, where it can join. -/
import Derived.Test.YtdcbfdepkbplbaaP7
set_option linter.unusedVariables false
set_option linter.unusedSimpArgs false
set_option maxRecDepth 100000
namespace Go.Proofs.Ytdcbfdepkbplbaa.H
open Go.RowKit
set_option maxHeartbeats 1000000 in
theorem join_ok (w : World) (L : List HP) (a0 a1 b0 b1 : Int) (s t : ByteArray) (hO : Own w L) (hj : joinB ⟨a0, a1, s⟩ ⟨b0, b1, t⟩ = true) :
    Calls Try.prog 40 #[.agg #[.int .i64 a0, .int .i64 a1, .string s], .agg #[.int .i64 b0, .int .i64 b1, .string t]] w (Ret w (.tuple #[.agg (joinM ⟨a0, a1, s⟩ ⟨b0, b1, t⟩).cells.toArray, .bool true]) L) := by
  simp only [joinB, Bool.and_eq_true, decide_eq_true_eq] at hj
  obtain ⟨⟨⟨⟨hR, hR2⟩, rfl⟩, hx⟩, hy⟩ := hj
  obtain ⟨p1, p2, p3, p4, p5, p6⟩ := rightB_iff.1 hR
  obtain ⟨r1, r2, r3, r4, r5, r6⟩ := rightB_iff.1 hR2
  simp only at p1 p2 p3 p4 p5 p6 r1 r2 r3 r4 r5 r6
  have h0 : decide (b1 + t.size < a1) = false := by simp; omega
  have h1 : decide (a1 + s.size < b1) = false := by simp; omega
  have u1 : a1 ≤ 32 := by omega
  have u2 : ¬ (32 = a1.toNat) := by omega
  have u3 : s.size ≤ 32 - a1.toNat := by omega
  have u4 : a1.toNat + s.size ≤ 32 := by omega
  have v1 : b1 ≤ 32 := by omega
  have v2 : ¬ (32 = b1.toNat) := by omega
  have v3 : t.size ≤ 32 - b1.toNat := by omega
  have v4 : b1.toNat + t.size ≤ 32 := by omega
  have U2 := Lib.hid u2
  have V2 := Lib.hid v2
  have s1 : s.size ≤ 32 := by omega
  have s2 : t.size ≤ 32 := by omega
  clear u2 v2
  go_enter Try.func40, Try.ntmps40
  go_wp2_with (first | (refine own_box_agg (x := .tmp 0) rfl rfl rfl hO ?_; clear hO; intro b w1 hO hS1) | (refine own_box_agg (x := .tmp 1) rfl rfl rfl hO ?_; clear hO; intro b' w2 hO hS2) | (refine own_alloc rfl rfl zero_pat rfl hO ?_; clear hO; intro g w3 hO hS3))
  refine wp_region_seq (Cls w3 (pts g (.cells #[.int .i64 0, .int .i64 0, .string ⟨#[]⟩] 33) :: pts b' (.cells #[.int .i64 _, .int .i64 b1, .string t] 33) :: pts b (.cells #[.int .i64 a0, .int .i64 a1, .string s] 33) :: L)) 29 69 mixed (by kernel_rfl) rfl (cls_drew hO) ?_
  simp only [List.take_succ_cons, List.take_zero]
  repeat (first
    | (apply wv_skip rfl; simp only [Act.put, List.setIfInBounds_toArray, List.set_cons_zero, List.set_cons_succ])
    | (apply wv_load1 rfl rfl rfl; (first | exact row_int | exact row_str | exact row_bool | exact row_u8 | exact row_bys | exact row_pats | exact row_err); (intro w h; (first | exact own_get 0 h.1 rfl | exact own_get 1 h.1 rfl | exact own_get 2 h.1 rfl | exact own_get 3 h.1 rfl | exact own_get 4 h.1 rfl | exact own_get 5 h.1 rfl | exact own_get 6 h.1 rfl | exact own_get 7 h.1 rfl)); (first | (simp only [List.getElem?_toArray, List.getElem?_cons_succ, List.getElem?_cons_zero]; rfl) | rfl); simp only [Act.put, List.setIfInBounds_toArray, List.set_cons_zero, List.set_cons_succ])
    | (apply wv_loadrow rfl rfl rfl; (first | exact row_pat); exact sz_pat; (intro w h; (first | exact own_get 0 h.1 rfl | exact own_get 1 h.1 rfl | exact own_get 2 h.1 rfl | exact own_get 3 h.1 rfl | exact own_get 4 h.1 rfl | exact own_get 5 h.1 rfl | exact own_get 6 h.1 rfl | exact own_get 7 h.1 rfl)); (focus (simp; done)); (first | (simp only [List.drop_zero, List.drop_succ_cons, List.take_succ_cons, List.take_zero]; rfl) | rfl); simp only [Act.put, List.setIfInBounds_toArray, List.set_cons_zero, List.set_cons_succ])
    | (apply wv_run rfl; (focus (intro w h; go_simp; first | done | rfl)); simp only [Act.put, List.setIfInBounds_toArray, List.set_cons_zero, List.set_cons_succ])
    | (apply wv_call rfl; (focus (intro w; go_simp; first | done | exact ⟨rfl, rfl⟩)); (focus (intro w h; apply cls_call h; first | exact right_v _ _ _ _ _ hR h.1 | exact right_v _ _ _ _ _ hR2 h.1 | exact end_c _ _ _ _ _ p3 p4 s1 h.1 | exact end_c _ _ _ _ _ r3 r4 s2 h.1)); simp only [Act.put, List.setIfInBounds_toArray, List.set_cons_zero, List.set_cons_succ]))
  refine wv_nil ?_
  simp only [List.drop_succ_cons, List.drop_zero]
  intro w4 ⟨hO4, hS4⟩
  clear hO
  have hO := hO4
  clear hO4
  go_wp2_with (first | (refine own_alloc rfl rfl zero_blk rfl hO ?_; clear hO; intro h w5 hO hS5))
  have u2 := U2.out
  refine wp_region_seq (Cls w5 (pts h (.cells (bcs (List.replicate 32 0)).toArray 69) :: pts g (.cells #[.int .i64 0, .int .i64 0, .string ⟨#[]⟩] 33) :: pts b' (.cells #[.int .i64 _, .int .i64 b1, .string t] 33) :: pts b (.cells #[.int .i64 a0, .int .i64 a1, .string s] 33) :: L)) 5 69 mixed (by kernel_rfl) rfl (cls_drew hO) ?_
  simp only [List.take_succ_cons, List.take_zero]
  repeat (first
    | (apply wv_skip rfl; simp only [Act.put, List.setIfInBounds_toArray, List.set_cons_zero, List.set_cons_succ])
    | (apply wv_load1 rfl rfl rfl; (first | exact row_int | exact row_str | exact row_bool | exact row_u8 | exact row_bys | exact row_pats | exact row_err); (intro w h; (first | exact own_get 0 h.1 rfl | exact own_get 1 h.1 rfl | exact own_get 2 h.1 rfl | exact own_get 3 h.1 rfl | exact own_get 4 h.1 rfl | exact own_get 5 h.1 rfl | exact own_get 6 h.1 rfl | exact own_get 7 h.1 rfl)); (first | (simp only [List.getElem?_toArray, List.getElem?_cons_succ, List.getElem?_cons_zero]; rfl) | rfl); simp only [Act.put, List.setIfInBounds_toArray, List.set_cons_zero, List.set_cons_succ])
    | (apply wv_loadrow rfl rfl rfl; (first | exact row_pat); exact sz_pat; (intro w h; (first | exact own_get 0 h.1 rfl | exact own_get 1 h.1 rfl | exact own_get 2 h.1 rfl | exact own_get 3 h.1 rfl | exact own_get 4 h.1 rfl | exact own_get 5 h.1 rfl | exact own_get 6 h.1 rfl | exact own_get 7 h.1 rfl)); (focus (simp; done)); (first | (simp only [List.drop_zero, List.drop_succ_cons, List.take_succ_cons, List.take_zero]; rfl) | rfl); simp only [Act.put, List.setIfInBounds_toArray, List.set_cons_zero, List.set_cons_succ])
    | (apply wv_run rfl; (focus (intro w h; go_simp; first | done | rfl)); simp only [Act.put, List.setIfInBounds_toArray, List.set_cons_zero, List.set_cons_succ])
    | (apply wv_call rfl; (focus (intro w; go_simp; first | done | exact ⟨rfl, rfl⟩)); (focus (intro w h; apply cls_call h; fail)); simp only [Act.put, List.setIfInBounds_toArray, List.set_cons_zero, List.set_cons_succ]))
  refine wv_nil ?_
  simp only [List.drop_succ_cons, List.drop_zero]
  intro w6 ⟨hO6, hS6⟩
  clear hO u2
  refine own_copy_str (new := bcs (app (List.replicate 32 0) ⟨a0, a1, s⟩)) rfl rfl rfl rfl Try.underlying22 sz_u8 hO6 (k := 0) rfl u3 ?_ ?_ ?_
  · simp only [List.size_toArray, bcs_length, List.length_replicate]; exact u4
  · exact bcs_over _ _ _ (by rw [Array.length_toList]; rfl)
  intro w7 hO hS7
  simp only [List.set_cons_zero] at hO
  clear hO6
  go_wp2
  have v2 := V2.out
  refine wp_region_seq (Cls w7 (pts h (.cells (bcs (app (List.replicate 32 0) ⟨a0, a1, s⟩)).toArray 69) :: pts g (.cells #[.int .i64 0, .int .i64 0, .string ⟨#[]⟩] 33) :: pts b' (.cells #[.int .i64 _, .int .i64 b1, .string t] 33) :: pts b (.cells #[.int .i64 a0, .int .i64 a1, .string s] 33) :: L)) 5 69 mixed (by kernel_rfl) rfl (cls_drew hO) ?_
  simp only [List.take_succ_cons, List.take_zero]
  repeat (first
    | (apply wv_skip rfl; simp only [Act.put, List.setIfInBounds_toArray, List.set_cons_zero, List.set_cons_succ])
    | (apply wv_load1 rfl rfl rfl; (first | exact row_int | exact row_str | exact row_bool | exact row_u8 | exact row_bys | exact row_pats | exact row_err); (intro w h; (first | exact own_get 0 h.1 rfl | exact own_get 1 h.1 rfl | exact own_get 2 h.1 rfl | exact own_get 3 h.1 rfl | exact own_get 4 h.1 rfl | exact own_get 5 h.1 rfl | exact own_get 6 h.1 rfl | exact own_get 7 h.1 rfl)); (first | (simp only [List.getElem?_toArray, List.getElem?_cons_succ, List.getElem?_cons_zero]; rfl) | rfl); simp only [Act.put, List.setIfInBounds_toArray, List.set_cons_zero, List.set_cons_succ])
    | (apply wv_loadrow rfl rfl rfl; (first | exact row_pat); exact sz_pat; (intro w h; (first | exact own_get 0 h.1 rfl | exact own_get 1 h.1 rfl | exact own_get 2 h.1 rfl | exact own_get 3 h.1 rfl | exact own_get 4 h.1 rfl | exact own_get 5 h.1 rfl | exact own_get 6 h.1 rfl | exact own_get 7 h.1 rfl)); (focus (simp; done)); (first | (simp only [List.drop_zero, List.drop_succ_cons, List.take_succ_cons, List.take_zero]; rfl) | rfl); simp only [Act.put, List.setIfInBounds_toArray, List.set_cons_zero, List.set_cons_succ])
    | (apply wv_run rfl; (focus (intro w h; go_simp; first | done | rfl)); simp only [Act.put, List.setIfInBounds_toArray, List.set_cons_zero, List.set_cons_succ])
    | (apply wv_call rfl; (focus (intro w; go_simp; first | done | exact ⟨rfl, rfl⟩)); (focus (intro w h; apply cls_call h; fail)); simp only [Act.put, List.setIfInBounds_toArray, List.set_cons_zero, List.set_cons_succ]))
  refine wv_nil ?_
  simp only [List.drop_succ_cons, List.drop_zero]
  intro w8 ⟨hO8, hS8⟩
  clear hO v2
  refine own_copy_str (new := bcs (wholeOf ⟨a0, a1, s⟩ ⟨a0, b1, t⟩)) rfl rfl rfl rfl Try.underlying22 sz_u8 hO8 (k := 0) rfl v3 ?_ ?_ ?_
  · simp only [List.size_toArray, bcs_length]
    rw [app_length _ _ (by simp) hR]; exact v4
  · exact bcs_over _ _ _ (by rw [Array.length_toList]; rfl)
  intro w9 hO hS9
  simp only [List.set_cons_zero] at hO
  clear hO8
  go_wp2
  refine wp_region_seq (Cls w9 (pts h (.cells (bcs (wholeOf ⟨a0, a1, s⟩ ⟨a0, b1, t⟩)).toArray 69) :: pts g (.cells #[.int .i64 0, .int .i64 0, .string ⟨#[]⟩] 33) :: pts b' (.cells #[.int .i64 _, .int .i64 b1, .string t] 33) :: pts b (.cells #[.int .i64 a0, .int .i64 a1, .string s] 33) :: L)) 12 69 mixed (by kernel_rfl) rfl (cls_drew hO) ?_
  simp only [List.take_succ_cons, List.take_zero]
  repeat (first
    | (apply wv_skip rfl; simp only [Act.put, List.setIfInBounds_toArray, List.set_cons_zero, List.set_cons_succ])
    | (apply wv_load1 rfl rfl rfl; (first | exact row_int | exact row_str | exact row_bool | exact row_u8 | exact row_bys | exact row_pats | exact row_err); (intro w h; (first | exact own_get 0 h.1 rfl | exact own_get 1 h.1 rfl | exact own_get 2 h.1 rfl | exact own_get 3 h.1 rfl | exact own_get 4 h.1 rfl | exact own_get 5 h.1 rfl | exact own_get 6 h.1 rfl | exact own_get 7 h.1 rfl)); (first | (simp only [List.getElem?_toArray, List.getElem?_cons_succ, List.getElem?_cons_zero]; rfl) | rfl); simp only [Act.put, List.setIfInBounds_toArray, List.set_cons_zero, List.set_cons_succ])
    | (apply wv_loadrow rfl rfl rfl; (first | exact row_pat); exact sz_pat; (intro w h; (first | exact own_get 0 h.1 rfl | exact own_get 1 h.1 rfl | exact own_get 2 h.1 rfl | exact own_get 3 h.1 rfl | exact own_get 4 h.1 rfl | exact own_get 5 h.1 rfl | exact own_get 6 h.1 rfl | exact own_get 7 h.1 rfl)); (focus (simp; done)); (first | (simp only [List.drop_zero, List.drop_succ_cons, List.take_succ_cons, List.take_zero]; rfl) | rfl); simp only [Act.put, List.setIfInBounds_toArray, List.set_cons_zero, List.set_cons_succ])
    | (apply wv_run rfl; (focus (intro w h; go_simp; first | done | rfl)); simp only [Act.put, List.setIfInBounds_toArray, List.set_cons_zero, List.set_cons_succ])
    | (apply wv_call rfl; (focus (intro w; go_simp; first | done | exact ⟨rfl, rfl⟩)); (focus (intro w h; apply cls_call h; first | exact end_c _ _ _ _ _ p3 p4 s1 h.1 | exact end_c _ _ _ _ _ r3 r4 s2 h.1)); simp only [Act.put, List.setIfInBounds_toArray, List.set_cons_zero, List.set_cons_succ]))
  refine wv_nil ?_
  simp only [List.drop_succ_cons, List.drop_zero]
  intro w10 ⟨hO10, hS10⟩
  clear hO
  have hO := hO10
  clear hO10
  generalize hlo : (if b1 < a1 then b1 else a1) = lo
  generalize hhi : (if a1 + (s.size : Int) < b1 + (t.size : Int) then b1 + (t.size : Int) else a1 + (s.size : Int)) = hi
  have hlo' : min a1 b1 = lo := by rw [← hlo]; split <;> omega
  have hhi' : max (a1 + (s.size : Int)) (b1 + (t.size : Int)) = hi := by rw [← hhi]; split <;> omega
  have l1 : 0 ≤ lo := by omega
  have l2 : lo ≤ hi := by omega
  have l3 : hi ≤ 32 := by omega
  have l4 : ¬ (32 = lo.toNat) := by omega
  have l5 : 0 ≤ hi := by omega
  have E : Hid (min a1 b1 = lo ∧ max (a1 + (s.size : Int)) (b1 + (t.size : Int)) = hi) := ⟨hlo', hhi'⟩
  have l6 : hi.toNat - lo.toNat ≤ 32 - lo.toNat := by omega
  clear hlo hhi hlo' hhi'
  have L4 := Lib.hid l4
  clear l4
  have L7 : Hid (hi.toNat - lo.toNat = (((wholeOf ⟨a0, a1, s⟩ ⟨a0, b1, t⟩).drop lo.toNat).take (hi.toNat - lo.toNat)).length) := by
    show _ = _
    rw [List.length_take, List.length_drop]
    unfold wholeOf
    rw [app_length _ _ (app_length _ _ (by simp) hR) hR2]
    omega
  go_wp2
  have l4 := L4.out
  refine wp_region_seq (Cls w10 (pts h (.cells (bcs (wholeOf ⟨a0, a1, s⟩ ⟨a0, b1, t⟩)).toArray 69) :: pts g (.cells #[.int .i64 0, .int .i64 0, .string ⟨#[]⟩] 33) :: pts b' (.cells #[.int .i64 _, .int .i64 b1, .string t] 33) :: pts b (.cells #[.int .i64 a0, .int .i64 a1, .string s] 33) :: L)) 8 69 mixed (by kernel_rfl) rfl (cls_drew hO) ?_
  simp only [List.take_succ_cons, List.take_zero]
  repeat (first
    | (apply wv_skip rfl; simp only [Act.put, List.setIfInBounds_toArray, List.set_cons_zero, List.set_cons_succ])
    | (apply wv_load1 rfl rfl rfl; (first | exact row_int | exact row_str | exact row_bool | exact row_u8 | exact row_bys | exact row_pats | exact row_err); (intro w h; (first | exact own_get 0 h.1 rfl | exact own_get 1 h.1 rfl | exact own_get 2 h.1 rfl | exact own_get 3 h.1 rfl | exact own_get 4 h.1 rfl | exact own_get 5 h.1 rfl | exact own_get 6 h.1 rfl | exact own_get 7 h.1 rfl)); (first | (simp only [List.getElem?_toArray, List.getElem?_cons_succ, List.getElem?_cons_zero]; rfl) | rfl); simp only [Act.put, List.setIfInBounds_toArray, List.set_cons_zero, List.set_cons_succ])
    | (apply wv_loadrow rfl rfl rfl; (first | exact row_pat); exact sz_pat; (intro w h; (first | exact own_get 0 h.1 rfl | exact own_get 1 h.1 rfl | exact own_get 2 h.1 rfl | exact own_get 3 h.1 rfl | exact own_get 4 h.1 rfl | exact own_get 5 h.1 rfl | exact own_get 6 h.1 rfl | exact own_get 7 h.1 rfl)); (focus (simp; done)); (first | (simp only [List.drop_zero, List.drop_succ_cons, List.take_succ_cons, List.take_zero]; rfl) | rfl); simp only [Act.put, List.setIfInBounds_toArray, List.set_cons_zero, List.set_cons_succ])
    | (refine wv_string (n := hi.toNat - lo.toNat) (bs := ((wholeOf ⟨a0, a1, s⟩ ⟨a0, b1, t⟩).drop lo.toNat).take (hi.toNat - lo.toNat)) rfl rfl rfl Try.underlying22 Try.underlying5 Try.underlying9 L7.out (fun w h => rd_block_at (own_get 0 h.1 rfl) (bcs_sub _ _ _) ?_ l6 ?_) ?_; (focus (rw [List.size_toArray, bcs_length]; have := L7.out; rw [List.length_take, List.length_drop] at this; unfold wholeOf at this ⊢; rw [app_length _ _ (app_length _ _ (by simp) hR) hR2] at this ⊢; omega)); (focus omega); simp only [Act.put, List.setIfInBounds_toArray, List.set_cons_zero, List.set_cons_succ])
    | (apply wv_run rfl; (focus (intro w h; go_simp; first | done | rfl)); simp only [Act.put, List.setIfInBounds_toArray, List.set_cons_zero, List.set_cons_succ])
    | (apply wv_call rfl; (focus (intro w; go_simp; first | done | exact ⟨rfl, rfl⟩)); (focus (intro w h; apply cls_call h; fail)); simp only [Act.put, List.setIfInBounds_toArray, List.set_cons_zero, List.set_cons_succ]))
  refine wv_nil ?_
  simp only [List.drop_succ_cons, List.drop_zero]
  intro w11 ⟨hO11, hS11⟩
  clear hO
  have hO := hO11
  clear hO11 l4
  go_wp2_with (first | (refine own_store_all (k := 1) rfl rfl rfl rfl sz_pat hO rfl rfl rfl rfl ?_; clear hO; intro w12 hO hS12; simp only [List.set_cons_zero, List.set_cons_succ] at hO))
  refine bodyPost_ret (results_cell_tmp rfl rfl (own_get 1 hO rfl) row_pat sz_pat) rfl ⟨?_, own_drop (own_drop (own_drop (own_drop hO))), hS1.trans (hS2.trans (hS3.trans (hS4.trans (hS5.trans (hS6.trans (hS7.trans (hS8.trans (hS9.trans (hS10.trans (hS11.trans hS12))))))))))⟩
  have e1 := E.out.1
  have e2 := E.out.2
  simp only [joinM, Pat.cells, e1, e2]
  rfl
end Go.Proofs.Ytdcbfdepkbplbaa.H
