/- Contracts of the reference's Apply and Undo at what may not be, of its Undo and Idle. -/
import Derived.Test.YtdcbfdepkbplbaaR2
import Derived.Test.YtdcbfdepkbplbaaP5
set_option linter.unusedVariables false
set_option linter.unusedSimpArgs false
set_option maxRecDepth 100000
namespace Go.Proofs.Ytdcbfdepkbplbaa.H
open Go.RowKit
theorem rapply_no (w : World) (L : List HP) (v : Value) (bs : List UInt8) (a0 a1 : Int) (s : ByteArray) (hO : Own w L) (hr : ∀ w', Own w' L → RdB w' v bs) (hno : bs.length = 32 → rightB ⟨a0, a1, s⟩ = false) :
    Calls Try.prog 68 #[v, .agg #[.int .i64 a0, .int .i64 a1, .string s]] w (Ret w (.tuple #[.slice none 0 0, .int .i64 3]) L) := by
  obtain ⟨A, c, rfl⟩ := (hr w hO).slice
  have HN := Lib.hid hno
  clear hno
  by_cases h32 : bs.length = 32
  · have hlen : ((bs.length : Int) != 32) = false := by simp; omega
    have hR := HN.out h32
    have H32 : Hid (bs.length = 32) := h32
    clear h32
    go_enter Try.func68, Try.ntmps68
    go_wp2_with (first | (refine own_box_agg (x := .tmp 1) rfl rfl rfl hO ?_; clear hO; intro b w1 hO hS1) | (apply own_loadrow rfl rfl rfl; (first | exact row_pat); exact sz_pat; (first | exact own_get 0 hO rfl | exact own_get 1 hO rfl | exact own_get 2 hO rfl | exact own_get 3 hO rfl | exact own_get 4 hO rfl | exact own_get 5 hO rfl | exact own_get 6 hO rfl | exact own_get 7 hO rfl); (focus (simp; done)); (first | (simp only [List.drop_zero, List.drop_succ_cons, List.take_succ_cons, List.take_zero]; rfl) | rfl)) | (go_at_call 69; refine (rright_v _ _ _ _ _ hR hO).mono ?_; clear hO; rintro e w3 ⟨rfl, hO, hS3⟩))
    go_ret2
    exact ⟨rfl, own_drop hO, hS1.trans hS3⟩
  · have hlen : ((bs.length : Int) != 32) = true := by simp; omega
    have H32 := Lib.hid h32
    clear h32
    go_enter Try.func68, Try.ntmps68
    go_wp2_with (first | (refine own_box_agg (x := .tmp 1) rfl rfl rfl hO ?_; clear hO; intro b w1 hO hS1))
    go_ret2
    exact ⟨rfl, own_drop hO, hS1⟩
theorem rundo_no (w : World) (L : List HP) (v : Value) (bs : List UInt8) (a0 a1 : Int) (s : ByteArray) (hO : Own w L) (hr : ∀ w', Own w' L → RdB w' v bs) (hno : bs.length = 32 → rightB ⟨a0, a1, s⟩ = false) :
    Calls Try.prog 65 #[v, .agg #[.int .i64 a0, .int .i64 a1, .string s]] w (Ret w (.tuple #[.agg #[.int .i64 0, .int .i64 0, .string ⟨#[]⟩], .int .i64 3]) L) := by
  obtain ⟨A, c, rfl⟩ := (hr w hO).slice
  have HN := Lib.hid hno
  clear hno
  by_cases h32 : bs.length = 32
  · have hlen : ((bs.length : Int) != 32) = false := by simp; omega
    have hR := HN.out h32
    have H32 : Hid (bs.length = 32) := h32
    clear h32
    go_enter Try.func65, Try.ntmps65
    go_wp2_with (first | (refine own_box_agg (x := .tmp 1) rfl rfl rfl hO ?_; clear hO; intro b w1 hO hS1) | (refine own_alloc rfl rfl zero_pat rfl hO ?_; clear hO; intro g w2 hO hS2) | (apply own_loadrow rfl rfl rfl; (first | exact row_pat); exact sz_pat; (first | exact own_get 0 hO rfl | exact own_get 1 hO rfl | exact own_get 2 hO rfl | exact own_get 3 hO rfl | exact own_get 4 hO rfl | exact own_get 5 hO rfl | exact own_get 6 hO rfl | exact own_get 7 hO rfl); (focus (simp; done)); (first | (simp only [List.drop_zero, List.drop_succ_cons, List.take_succ_cons, List.take_zero]; rfl) | rfl)) | (go_at_call 69; refine (rright_v _ _ _ _ _ hR hO).mono ?_; clear hO; rintro e w3 ⟨rfl, hO, hS3⟩) | (refine own_store_all (k := 0) rfl rfl rfl rfl sz_pat hO rfl rfl rfl rfl ?_; clear hO; intro w6 hO hS6; simp only [List.set_cons_zero] at hO))
    exact bodyPost_ret (results_cell_tmp rfl rfl (own_get 0 hO rfl) row_pat sz_pat) rfl ⟨rfl, own_drop (own_drop hO), hS1.trans (hS2.trans (hS3.trans hS6))⟩
  · have hlen : ((bs.length : Int) != 32) = true := by simp; omega
    have H32 := Lib.hid h32
    clear h32
    go_enter Try.func65, Try.ntmps65
    go_wp2_with (first | (refine own_box_agg (x := .tmp 1) rfl rfl rfl hO ?_; clear hO; intro b w1 hO hS1) | (refine own_alloc rfl rfl zero_pat rfl hO ?_; clear hO; intro g w2 hO hS2) | (apply own_loadrow rfl rfl rfl; (first | exact row_pat); exact sz_pat; (first | exact own_get 0 hO rfl | exact own_get 1 hO rfl | exact own_get 2 hO rfl | exact own_get 3 hO rfl | exact own_get 4 hO rfl | exact own_get 5 hO rfl | exact own_get 6 hO rfl | exact own_get 7 hO rfl); (focus (simp; done)); (first | (simp only [List.drop_zero, List.drop_succ_cons, List.take_succ_cons, List.take_zero]; rfl) | rfl)) | (refine own_store_all (k := 0) rfl rfl rfl rfl sz_pat hO rfl rfl rfl rfl ?_; clear hO; intro w6 hO hS6; simp only [List.set_cons_zero] at hO))
    exact bodyPost_ret (results_cell_tmp rfl rfl (own_get 0 hO rfl) row_pat sz_pat) rfl ⟨rfl, own_drop (own_drop hO), hS1.trans (hS2.trans hS6)⟩
theorem rundo_ok (w : World) (L : List HP) (v : Value) (bs : List UInt8) (a0 a1 : Int) (s : ByteArray) (hO : Own w L) (hr : ∀ w', Own w' L → RdB w' v bs) (h32 : bs.length = 32) (hR : rightB ⟨a0, a1, s⟩ = true) :
    Calls Try.prog 65 #[v, .agg #[.int .i64 a0, .int .i64 a1, .string s]] w (Ret w (.tuple #[.agg #[.int .i64 a0, .int .i64 a1, .string (bstr ((bs.drop a1.toNat).take s.size))], .int .i64 0]) L) := by
  obtain ⟨A, c, rfl⟩ := (hr w hO).slice
  have hlen : ((bs.length : Int) != 32) = false := by simp; omega
  have hnc := (hr w hO).max
  have H32 : Hid (bs.length = 32) := h32
  have HR := Lib.hid hr
  clear h32 hr
  obtain ⟨p1, p2, p3, p4, p5, p6⟩ := rightB_iff.1 hR
  simp only at p1 p2 p3 p4 p5 p6
  have f1 : IntKind.i64.wrap (a1 + s.size) = a1 + s.size := by rw [IntKind.wrap_i64]; omega
  have f2 : a1 ≤ a1 + s.size := by omega
  have f3 : a1 + s.size ≤ c := by have := H32.out; omega
  have f4 : 0 ≤ a1 + s.size := by omega
  have f5 : ¬ (c = a1.toNat) := by have := H32.out; omega
  have F5 := Lib.hid f5
  clear f5
  have N : Hid ((a1 + (s.size : Int)).toNat - a1.toNat = s.size) := (by omega : (a1 + (s.size : Int)).toNat - a1.toNat = s.size)
  go_enter Try.func65, Try.ntmps65
  go_wp2_with (first | (refine own_box_agg (x := .tmp 1) rfl rfl rfl hO ?_; clear hO; intro b w1 hO hS1) | (refine own_alloc rfl rfl zero_pat rfl hO ?_; clear hO; intro g w2 hO hS2) | (apply own_loadrow rfl rfl rfl; (first | exact row_pat); exact sz_pat; (first | exact own_get 0 hO rfl | exact own_get 1 hO rfl | exact own_get 2 hO rfl | exact own_get 3 hO rfl | exact own_get 4 hO rfl | exact own_get 5 hO rfl | exact own_get 6 hO rfl | exact own_get 7 hO rfl); (focus (simp; done)); (first | (simp only [List.drop_zero, List.drop_succ_cons, List.take_succ_cons, List.take_zero]; rfl) | rfl)) | (go_at_call 69; refine (rright_v _ _ _ _ _ hR hO).mono ?_; clear hO; rintro e w3 ⟨rfl, hO, hS3⟩))
  have f5 := F5.out
  have HRD : Hid (∀ w', Own w' L → Rd w' 1 (.slice (A.map (·.add a1.toNat)) ((a1 + (s.size : Int)).toNat - a1.toNat) (c - a1.toNat)) ((a1 + (s.size : Int)).toNat - a1.toNat) (bcs ((bs.drop a1.toNat).take ((a1 + (s.size : Int)).toNat - a1.toNat)))) := fun w' h => by
    have h1 := (HR.out w' h).cut (lo := a1.toNat) (k := (a1 + (s.size : Int)).toNat - a1.toNat) (c' := c - a1.toNat) (by have := H32.out; omega) (by omega) (by omega)
    rwa [Nat.mul_one, Nat.mul_one, bcs_sub] at h1
  have HN : Hid ((a1 + (s.size : Int)).toNat - a1.toNat = ((bs.drop a1.toNat).take ((a1 + (s.size : Int)).toNat - a1.toNat)).length) := by
    show _ = _
    rw [List.length_take, List.length_drop, H32.out]; omega
  refine wp_region_seq (Cls w3 (pts g (.cells #[.int .i64 0, .int .i64 0, .string ⟨#[]⟩] 33) :: pts b (.cells #[.int .i64 a0, .int .i64 a1, .string s] 33) :: L)) 16 31 mixed (by kernel_rfl) rfl (cls_drew hO) ?_
  simp only [List.take_succ_cons, List.take_zero]
  repeat (first
    | (apply wv_skip rfl; simp only [Act.put, List.setIfInBounds_toArray, List.set_cons_zero, List.set_cons_succ])
    | (apply wv_load1 rfl rfl rfl; (first | exact row_int | exact row_str | exact row_bool | exact row_u8 | exact row_bys | exact row_pats | exact row_err); (intro w h; (first | exact own_get 0 h.1 rfl | exact own_get 1 h.1 rfl | exact own_get 2 h.1 rfl | exact own_get 3 h.1 rfl | exact own_get 4 h.1 rfl | exact own_get 5 h.1 rfl | exact own_get 6 h.1 rfl | exact own_get 7 h.1 rfl)); (first | (simp only [List.getElem?_toArray, List.getElem?_cons_succ, List.getElem?_cons_zero]; rfl) | rfl); simp only [Act.put, List.setIfInBounds_toArray, List.set_cons_zero, List.set_cons_succ])
    | (apply wv_loadrow rfl rfl rfl; (first | exact row_pat); exact sz_pat; (intro w h; (first | exact own_get 0 h.1 rfl | exact own_get 1 h.1 rfl | exact own_get 2 h.1 rfl | exact own_get 3 h.1 rfl | exact own_get 4 h.1 rfl | exact own_get 5 h.1 rfl | exact own_get 6 h.1 rfl | exact own_get 7 h.1 rfl)); (focus (simp; done)); (first | (simp only [List.drop_zero, List.drop_succ_cons, List.take_succ_cons, List.take_zero]; rfl) | rfl); simp only [Act.put, List.setIfInBounds_toArray, List.set_cons_zero, List.set_cons_succ])
    | (refine wv_string (n := (a1 + (s.size : Int)).toNat - a1.toNat) (bs := (bs.drop a1.toNat).take ((a1 + (s.size : Int)).toNat - a1.toNat)) rfl rfl rfl Try.underlying22 Try.underlying5 Try.underlying9 HN.out (fun w h => HRD.out _ (own_drop (own_drop h.1))) ?_; simp only [Act.put, List.setIfInBounds_toArray, List.set_cons_zero, List.set_cons_succ])
    | (apply wv_run rfl; (focus (intro w h; go_simp; first | done | rfl)); simp only [Act.put, List.setIfInBounds_toArray, List.set_cons_zero, List.set_cons_succ])
    | (apply wv_call rfl; (focus (intro w; go_simp; first | done | exact ⟨rfl, rfl⟩)); (focus (intro w h; apply cls_call h; fail)); simp only [Act.put, List.setIfInBounds_toArray, List.set_cons_zero, List.set_cons_succ]))
  refine wv_nil ?_
  simp only [List.drop_succ_cons, List.drop_zero]
  intro w5 ⟨hO5, hS5⟩
  clear hO
  have hO := hO5
  clear hO5 f5
  go_wp2_with (first | (refine own_store_all (k := 0) rfl rfl rfl rfl sz_pat hO rfl rfl rfl rfl ?_; clear hO; intro w6 hO hS6; simp only [List.set_cons_zero] at hO))
  refine bodyPost_ret (results_cell_tmp rfl rfl (own_get 0 hO rfl) row_pat sz_pat) rfl ⟨?_, own_drop (own_drop hO), hS1.trans (hS2.trans (hS3.trans (hS5.trans hS6)))⟩
  rw [N.out]
  rfl
end Go.Proofs.Ytdcbfdepkbplbaa.H
