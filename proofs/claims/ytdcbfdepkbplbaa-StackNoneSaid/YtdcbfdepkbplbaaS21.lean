/- A nil stack. -/
import Derived.Test.YtdcbfdepkbplbaaS20
set_option linter.unusedVariables false
set_option linter.unusedSimpArgs false
set_option maxRecDepth 100000
namespace Go.Proofs.Ytdcbfdepkbplbaa.H
open Go.RowKit
section
variable (w : World) (L : List HP)
theorem place_nil (n : Value) (hO : Own w L) :
    Calls Try.prog 34 #[.pointer none, n] w (Ret w (.int .i64 (-1)) L) := by
  go_enter Try.func34, Try.ntmps34
  go_wp2
  go_ret
  exact ⟨rfl, hO, .refl _⟩
theorem chosen_nil (sv : Value) (hO : Own w L) :
    Calls Try.prog 36 #[.pointer none, sv] w (Ret w (.tuple #[.slice none 0 0, .int .i64 1]) L) := by
  go_enter Try.func36, Try.ntmps36
  go_wp2
  go_ret2
  exact ⟨rfl, hO, .refl _⟩
theorem bytes_nil (hO : Own w L) :
    Calls Try.prog 19 #[.pointer none] w (Ret w (.slice none 0 0) L) := by
  go_enter Try.func19, Try.ntmps19
  go_wp2
  go_ret
  exact ⟨rfl, hO, .refl _⟩
theorem waiting_nil (hO : Own w L) :
    Calls Try.prog 18 #[.pointer none] w (Ret w (.slice none 0 0) L) := by
  go_enter Try.func18, Try.ntmps18
  go_wp2
  go_ret
  exact ⟨rfl, hO, .refl _⟩
theorem fork_nil (hO : Own w L) :
    Calls Try.prog 28 #[.pointer none] w (Ret w (.pointer none) L) := by
  go_enter Try.func28, Try.ntmps28
  go_wp2
  go_ret
  exact ⟨rfl, hO, .refl _⟩
theorem needs_nil (n : Value) (hO : Own w L) :
    Calls Try.prog 15 #[.pointer none, n] w (Ret w (.slice none 0 0) L) := by
  go_enter Try.func15, Try.ntmps15
  go_wp2_with (go_at_call 34; refine (place_nil _ _ _ hO).mono ?_; clear hO; rintro e w5 ⟨rfl, hO, hS5⟩)
  go_ret
  exact ⟨rfl, hO, hS5⟩
theorem under_nil (n : Value) (hO : Own w L) :
    Calls Try.prog 26 #[.pointer none, n] w (Ret w (.tuple #[.string ⟨#[]⟩, .int .i64 1]) L) := by
  go_enter Try.func26, Try.ntmps26
  go_wp2
  go_ret2
  exact ⟨rfl, hO, .refl _⟩
theorem push_nil (a0 a1 : Int) (s : ByteArray) (hO : Own w L) :
    Calls Try.prog 25 #[.pointer none, .agg #[.int .i64 a0, .int .i64 a1, .string s]] w (Ret w (.tuple #[.int .i64 0, .int .i64 1]) L) := by
  go_enter Try.func25, Try.ntmps25
  go_wp2_with (first | (refine own_box_agg (x := .tmp 1) rfl rfl rfl hO ?_; clear hO; intro b w1 hO hS1) | (apply own_loadrow rfl rfl rfl; (first | exact row_pat); exact sz_pat; (first | exact own_get 0 hO rfl | exact own_get 1 hO rfl | exact own_get 2 hO rfl | exact own_get 3 hO rfl | exact own_get 4 hO rfl | exact own_get 5 hO rfl | exact own_get 6 hO rfl | exact own_get 7 hO rfl); (focus (simp; done)); (first | (simp only [List.drop_zero, List.drop_succ_cons, List.take_succ_cons, List.take_zero]; rfl) | rfl)))
  go_ret2
  exact ⟨rfl, own_drop hO, hS1⟩
theorem pop_nil (hO : Own w L) :
    Calls Try.prog 27 #[.pointer none] w (Ret w (.tuple #[.agg #[.int .i64 0, .int .i64 0, .string ⟨#[]⟩], .int .i64 1]) L) := by
  go_enter Try.func27, Try.ntmps27
  go_wp2_with (first | (refine own_alloc rfl rfl zero_pat rfl hO ?_; clear hO; intro g w2 hO hS2) | (refine own_store_all (k := 0) rfl rfl rfl rfl sz_pat hO rfl rfl rfl rfl ?_; clear hO; intro w6 hO hS6; simp only [List.set_cons_zero] at hO))
  exact bodyPost_ret (results_cell_tmp rfl rfl (own_get 0 hO rfl) row_pat sz_pat) rfl ⟨rfl, own_drop hO, hS2.trans hS6⟩
theorem get_nil (n : Value) (hO : Own w L) :
    Calls Try.prog 14 #[.pointer none, n] w (Ret w (.tuple #[.agg #[.int .i64 0, .int .i64 0, .string ⟨#[]⟩], .bool false]) L) := by
  go_enter Try.func14, Try.ntmps14
  go_wp2_with (first | (refine own_alloc rfl rfl zero_pat rfl hO ?_; clear hO; intro g w2 hO hS2) | (go_at_call 34; refine (place_nil _ _ _ hO).mono ?_; clear hO; rintro e w5 ⟨rfl, hO, hS5⟩) | (refine own_store_all (k := 0) rfl rfl rfl rfl sz_pat hO rfl rfl rfl rfl ?_; clear hO; intro w6 hO hS6; simp only [List.set_cons_zero] at hO))
  exact bodyPost_ret (results_cell_tmp rfl rfl (own_get 0 hO rfl) row_pat sz_pat) rfl ⟨rfl, own_drop hO, hS2.trans (hS5.trans hS6)⟩
theorem roll_nil (sv : Value) (hO : Own w L) :
    Calls Try.prog 17 #[.pointer none, sv] w (Ret w (.tuple #[.slice none 0 0, .int .i64 1]) L) := by
  go_enter Try.func17, Try.ntmps17
  go_wp2_with (first | (refine own_box (x := .tmp 0) (cs := #[.pointer none]) rfl rfl rfl rfl hO ?_; clear hO; intro bs w1 hO hS1) | (refine own_alloc (T := 22) (cs := #[.slice none 0 0]) rfl rfl zero_bys rfl hO ?_; clear hO; intro bout w2 hO hS2) | (refine own_alloc (T := 74) (cs := #[.slice none 0 0]) rfl rfl zero_bls rfl hO ?_; clear hO; intro bin w4 hO hS4) | (refine own_load1 (b := bs) (off := 0) (cs := #[.pointer none]) (t := 25) (v := .pointer none) rfl rfl rfl row_sptr (own_get 1 hO rfl) rfl ?_) | (go_at_call 36; refine (chosen_nil _ _ _ hO).mono ?_; clear hO; rintro e w3 ⟨rfl, hO, hS3⟩) | (refine own_store1 (k := 0) (b := bin) (off := 0) (cs := #[.slice none 0 0]) (cs' := #[.slice none 0 0]) rfl rfl rfl rfl sz_bls hO rfl rfl (by simp) rfl ?_; clear hO; intro w5 hO hS5; simp only [List.set_cons_zero, List.set_cons_succ] at hO) | (refine own_store1 (k := 1) (b := bout) (off := 0) (cs := #[.slice none 0 0]) (cs' := #[.slice none 0 0]) rfl rfl rfl rfl sz_bys hO rfl rfl (by simp) rfl ?_; clear hO; intro w6 hO hS6; simp only [List.set_cons_zero, List.set_cons_succ] at hO))
  exact bodyPost_ret (results_cell1_tmp rfl rfl (own_get 1 hO rfl) row_bys rfl) rfl ⟨rfl, own_drop (own_drop (own_drop hO)), hS1.trans (hS2.trans (hS3.trans (hS4.trans (hS5.trans hS6))))⟩
theorem base_nil (hO : Own w L) :
    Calls Try.prog 20 #[.pointer none] w (Ret w (.slice none 0 0) L) := by
  go_enter Try.func20, Try.ntmps20
  go_wp2_with (go_at_call 17; refine (roll_nil _ L _ hO).mono ?_; clear hO; rintro e w5 ⟨rfl, hO, hS5⟩)
  go_ret
  exact ⟨rfl, hO, hS5⟩
theorem settle_nil (sv : Value) (hO : Own w L) :
    Calls Try.prog 22 #[.pointer none, sv] w (Ret w (.int .i64 1) L) := by
  go_enter Try.func22, Try.ntmps22
  go_wp2_with (first | (refine own_box (x := .tmp 0) (cs := #[.pointer none]) rfl rfl rfl rfl hO ?_; clear hO; intro bs w1 hO hS1) | (refine own_alloc (T := 74) (cs := #[.slice none 0 0]) rfl rfl zero_bls rfl hO ?_; clear hO; intro bin w4 hO hS4) | (refine own_load1 (b := bs) (off := 0) (cs := #[.pointer none]) (t := 25) (v := .pointer none) rfl rfl rfl row_sptr (own_get 0 hO rfl) rfl ?_) | (go_at_call 36; refine (chosen_nil _ _ _ hO).mono ?_; clear hO; rintro e w3 ⟨rfl, hO, hS3⟩) | (refine own_store1 (k := 0) (b := bin) (off := 0) (cs := #[.slice none 0 0]) (cs' := #[.slice none 0 0]) rfl rfl rfl rfl sz_bls hO rfl rfl (by simp) rfl ?_; clear hO; intro w5 hO hS5; simp only [List.set_cons_zero, List.set_cons_succ] at hO))
  go_ret
  exact ⟨rfl, own_drop (own_drop hO), hS1.trans (hS3.trans (hS4.trans hS5))⟩
theorem squash_nil (i n : Int) (hO : Own w L) :
    Calls Try.prog 21 #[.pointer none, .int .i64 i, .int .i64 n] w (Ret w (.int .i64 1) L) := by
  go_enter Try.func21, Try.ntmps21
  go_wp2_with (first | (refine own_box (x := .tmp 0) (cs := #[.pointer none]) rfl rfl rfl rfl hO ?_; clear hO; intro bs w1 hO hS1) | (refine own_load1 (b := bs) (off := 0) (cs := #[.pointer none]) (t := 25) (v := .pointer none) rfl rfl rfl row_sptr (own_get 0 hO rfl) rfl ?_))
  go_ret
  exact ⟨rfl, own_drop hO, hS1⟩
end
end Go.Proofs.Ytdcbfdepkbplbaa.H
