/- Contracts of patch.Undo and patch.Idle. -/
import Derived.Test.YtefohmjllcnnkaaP3
set_option linter.unusedVariables false
set_option linter.unusedSimpArgs false
set_option maxRecDepth 100000
namespace Go.Proofs.Ytefohmjllcnnkaa.H
open Go.RowKit
theorem zero_pat : (Try.prog.info? 23).map (·.zero) = some (some (.agg #[.int .i64 0, .int .i64 0, .string ⟨#[]⟩])) := by kernel_rfl
theorem undo_ok (w : World) (L : List HP) (v : Value) (bs : List UInt8) (a0 a1 : Int) (s : ByteArray) (hO : Own w L) (hr : ∀ w', Own w' L → RdB w' v bs) (h32 : bs.length = 32) (hR : rightB ⟨a0, a1, s⟩ = true) :
    Calls Try.prog 19 #[v, .agg #[.int .i64 a0, .int .i64 a1, .string s]] w (Ret w (.tuple #[.agg #[.int .i64 a0, .int .i64 a1, .string (bstr ((bs.drop a1.toNat).take s.size))], .int .i64 0]) L) := by
  obtain ⟨A, c, rfl⟩ := (hr w hO).slice
  have hlen : ((bs.length : Int) != 32) = false := by simp; omega
  have hnc : bs.length ≤ c := by obtain ⟨_, A', c', e, h1, _⟩ := (hr w hO).out; cases e; exact h1
  have H32 : Hid (bs.length = 32) := h32
  clear h32
  obtain ⟨p1, p2, p3, p4, p5, p6⟩ := rightB_iff.1 hR
  simp only at p1 p2 p3 p4 p5 p6
  have f2 : a1 ≤ a1 + s.size := by omega
  have f3 : a1 + s.size ≤ c := by have := H32.out; omega
  have f4 : 0 ≤ a1 + s.size := by omega
  have f5 : ¬ ((a1 + s.size).toNat = a1.toNat) := by omega
  have F5 := Lib.hid f5
  clear f5
  go_enter Try.func19, Try.ntmps19
  go_wp2_with (first | (refine own_box_agg (x := .tmp 1) rfl rfl rfl hO ?_; clear hO; intro b w1 hO hS1) | (refine own_alloc rfl rfl zero_pat rfl hO ?_; clear hO; intro g w2 hO hS2) | (apply own_loadrow rfl rfl rfl; (first | exact row_pat); exact sz_pat; (first | exact own_get 0 hO rfl | exact own_get 1 hO rfl | exact own_get 2 hO rfl | exact own_get 3 hO rfl | exact own_get 4 hO rfl | exact own_get 5 hO rfl | exact own_get 6 hO rfl | exact own_get 7 hO rfl); (focus (simp; done)); (first | (simp only [List.drop_zero, List.drop_succ_cons, List.take_succ_cons, List.take_zero]; rfl) | rfl)) | (go_at_call 23; refine (right_v _ _ _ _ _ hR hO).mono ?_; clear hO; rintro e w3 ⟨rfl, hO, hS3⟩))
  have f5 := F5.out
  refine wp_region_seq (Cls w3 (pts g (.cells #[.int .i64 0, .int .i64 0, .string ⟨#[]⟩] 23) :: pts b (.cells #[.int .i64 a0, .int .i64 a1, .string s] 23) :: L)) 9 31 mixed (by kernel_rfl) rfl (cls_drew hO) ?_
  simp only [List.take_succ_cons, List.take_zero]
  repeat (first
    | (apply wv_skip rfl; simp only [Act.put, List.setIfInBounds_toArray, List.set_cons_zero, List.set_cons_succ])
    | (apply wv_load1 rfl rfl rfl; (first | exact row_int | exact row_str | exact row_bool | exact row_u8 | exact row_bys | exact row_pats | exact row_err); (intro w h; (first | exact own_get 0 h.1 rfl | exact own_get 1 h.1 rfl | exact own_get 2 h.1 rfl | exact own_get 3 h.1 rfl | exact own_get 4 h.1 rfl | exact own_get 5 h.1 rfl | exact own_get 6 h.1 rfl | exact own_get 7 h.1 rfl)); (first | (simp only [List.getElem?_toArray, List.getElem?_cons_succ, List.getElem?_cons_zero]; rfl) | rfl); simp only [Act.put, List.setIfInBounds_toArray, List.set_cons_zero, List.set_cons_succ])
    | (apply wv_loadrow rfl rfl rfl; (first | exact row_pat); exact sz_pat; (intro w h; (first | exact own_get 0 h.1 rfl | exact own_get 1 h.1 rfl | exact own_get 2 h.1 rfl | exact own_get 3 h.1 rfl | exact own_get 4 h.1 rfl | exact own_get 5 h.1 rfl | exact own_get 6 h.1 rfl | exact own_get 7 h.1 rfl)); (focus (simp; done)); (first | (simp only [List.drop_zero, List.drop_succ_cons, List.take_succ_cons, List.take_zero]; rfl) | rfl); simp only [Act.put, List.setIfInBounds_toArray, List.set_cons_zero, List.set_cons_succ])
    | (apply wv_run rfl; (focus (intro w h; go_simp; first | done | rfl)); simp only [Act.put, List.setIfInBounds_toArray, List.set_cons_zero, List.set_cons_succ])
    | (apply wv_call rfl; (focus (intro w; go_simp; first | done | exact ⟨rfl, rfl⟩)); (focus (intro w h; apply cls_call h; first | exact end_c _ _ _ _ _ p3 p4 (by omega) h.1)); simp only [Act.put, List.setIfInBounds_toArray, List.set_cons_zero, List.set_cons_succ]))
  refine wv_nil ?_
  simp only [List.drop_succ_cons, List.drop_zero]
  intro w5 h5
  obtain ⟨hO5, hS5⟩ := h5
  have hrd := (hr _ (own_drop (own_drop hO5))).cut (lo := a1.toNat) (k := (a1 + s.size).toNat - a1.toNat) (c' := (a1 + s.size).toNat - a1.toNat) (by have := H32.out; omega) (Nat.le_refl _) (by omega)
  rw [Nat.mul_one, Nat.mul_one, bcs_sub] at hrd
  clear hO F5 f5
  have E : Hid ((a1 + (s.size : Int)).toNat - a1.toNat = s.size) := (by omega : (a1 + (s.size : Int)).toNat - a1.toNat = s.size)
  have hO := hO5
  clear hO5
  have HRD := Lib.hid hrd
  clear hrd
  go_wp2_with (first | (apply own_load1 rfl rfl rfl; (first | exact row_int | exact row_str | exact row_bool | exact row_u8 | exact row_bys | exact row_pats | exact row_err); (first | exact own_get 0 hO rfl | exact own_get 1 hO rfl | exact own_get 2 hO rfl | exact own_get 3 hO rfl | exact own_get 4 hO rfl | exact own_get 5 hO rfl | exact own_get 6 hO rfl | exact own_get 7 hO rfl); (first | (simp only [List.getElem?_toArray, List.getElem?_cons_succ, List.getElem?_cons_zero]; rfl) | rfl)) | (refine own_string (n := (a1 + (s.size : Int)).toNat - a1.toNat) (bs := (bs.drop a1.toNat).take ((a1 + (s.size : Int)).toNat - a1.toNat)) rfl rfl rfl Try.underlying28 Try.underlying5 Try.underlying9 ?_ HRD.out ?_; (have := H32.out; simp; omega)) | (refine own_store_all (k := 0) rfl rfl rfl rfl sz_pat hO rfl rfl rfl rfl ?_; clear hO; intro w6 hO hS6; simp only [List.set_cons_zero] at hO))
  refine bodyPost_ret (results_cell_tmp rfl rfl (own_get 0 hO rfl) row_pat sz_pat) rfl ⟨?_, own_drop (own_drop hO), hS1.trans (hS2.trans (hS3.trans (hS5.trans hS6)))⟩
  rw [E.out]
  rfl
end Go.Proofs.Ytefohmjllcnnkaa.H
