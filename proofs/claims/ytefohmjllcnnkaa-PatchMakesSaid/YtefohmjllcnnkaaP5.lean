/- Contracts of patch.Apply and patch.Undo at what may not be; of patch.Idle. -/
import Derived.Test.YtefohmjllcnnkaaP4
set_option linter.unusedVariables false
set_option linter.unusedSimpArgs false
set_option maxRecDepth 100000
namespace Go.Proofs.Ytefohmjllcnnkaa.H
open Go.RowKit
theorem apply_no (w : World) (L : List HP) (v : Value) (bs : List UInt8) (a0 a1 : Int) (s : ByteArray) (hO : Own w L) (hr : ∀ w', Own w' L → RdB w' v bs) (hno : bs.length = 32 → rightB ⟨a0, a1, s⟩ = false) :
    Calls Try.prog 17 #[v, .agg #[.int .i64 a0, .int .i64 a1, .string s]] w (Ret w (.tuple #[.slice none 0 0, .int .i64 3]) L) := by
  obtain ⟨A, c, rfl⟩ := (hr w hO).slice
  have HN := Lib.hid hno
  clear hno
  by_cases h32 : bs.length = 32
  · have hlen : ((bs.length : Int) != 32) = false := by simp; omega
    have hR := HN.out h32
    have H32 : Hid (bs.length = 32) := h32
    clear h32
    go_enter Try.func17, Try.ntmps17
    go_wp2_with (first | (refine own_box_agg (x := .tmp 1) rfl rfl rfl hO ?_; clear hO; intro b w1 hO hS1) | (apply own_loadrow rfl rfl rfl; (first | exact row_pat); exact sz_pat; (first | exact own_get 0 hO rfl | exact own_get 1 hO rfl | exact own_get 2 hO rfl | exact own_get 3 hO rfl | exact own_get 4 hO rfl | exact own_get 5 hO rfl | exact own_get 6 hO rfl | exact own_get 7 hO rfl); (focus (simp; done)); (first | (simp only [List.drop_zero, List.drop_succ_cons, List.take_succ_cons, List.take_zero]; rfl) | rfl)) | (go_at_call 23; refine (right_v _ _ _ _ _ hR hO).mono ?_; clear hO; rintro e w3 ⟨rfl, hO, hS3⟩))
    go_ret2
    exact ⟨rfl, own_drop hO, hS1.trans hS3⟩
  · have hlen : ((bs.length : Int) != 32) = true := by simp; omega
    have H32 := Lib.hid h32
    clear h32
    go_enter Try.func17, Try.ntmps17
    go_wp2_with (first | (refine own_box_agg (x := .tmp 1) rfl rfl rfl hO ?_; clear hO; intro b w1 hO hS1))
    go_ret2
    exact ⟨rfl, own_drop hO, hS1⟩
theorem undo_no (w : World) (L : List HP) (v : Value) (bs : List UInt8) (a0 a1 : Int) (s : ByteArray) (hO : Own w L) (hr : ∀ w', Own w' L → RdB w' v bs) (hno : bs.length = 32 → rightB ⟨a0, a1, s⟩ = false) :
    Calls Try.prog 19 #[v, .agg #[.int .i64 a0, .int .i64 a1, .string s]] w (Ret w (.tuple #[.agg #[.int .i64 0, .int .i64 0, .string ⟨#[]⟩], .int .i64 3]) L) := by
  obtain ⟨A, c, rfl⟩ := (hr w hO).slice
  have HN := Lib.hid hno
  clear hno
  by_cases h32 : bs.length = 32
  · have hlen : ((bs.length : Int) != 32) = false := by simp; omega
    have hR := HN.out h32
    have H32 : Hid (bs.length = 32) := h32
    clear h32
    go_enter Try.func19, Try.ntmps19
    go_wp2_with (first | (refine own_box_agg (x := .tmp 1) rfl rfl rfl hO ?_; clear hO; intro b w1 hO hS1) | (refine own_alloc rfl rfl zero_pat rfl hO ?_; clear hO; intro g w2 hO hS2) | (apply own_loadrow rfl rfl rfl; (first | exact row_pat); exact sz_pat; (first | exact own_get 0 hO rfl | exact own_get 1 hO rfl | exact own_get 2 hO rfl | exact own_get 3 hO rfl | exact own_get 4 hO rfl | exact own_get 5 hO rfl | exact own_get 6 hO rfl | exact own_get 7 hO rfl); (focus (simp; done)); (first | (simp only [List.drop_zero, List.drop_succ_cons, List.take_succ_cons, List.take_zero]; rfl) | rfl)) | (go_at_call 23; refine (right_v _ _ _ _ _ hR hO).mono ?_; clear hO; rintro e w3 ⟨rfl, hO, hS3⟩) | (refine own_store_all (k := 0) rfl rfl rfl rfl sz_pat hO rfl rfl rfl rfl ?_; clear hO; intro w6 hO hS6; simp only [List.set_cons_zero] at hO))
    exact bodyPost_ret (results_cell_tmp rfl rfl (own_get 0 hO rfl) row_pat sz_pat) rfl ⟨rfl, own_drop (own_drop hO), hS1.trans (hS2.trans (hS3.trans hS6))⟩
  · have hlen : ((bs.length : Int) != 32) = true := by simp; omega
    have H32 := Lib.hid h32
    clear h32
    go_enter Try.func19, Try.ntmps19
    go_wp2_with (first | (refine own_box_agg (x := .tmp 1) rfl rfl rfl hO ?_; clear hO; intro b w1 hO hS1) | (refine own_alloc rfl rfl zero_pat rfl hO ?_; clear hO; intro g w2 hO hS2) | (apply own_loadrow rfl rfl rfl; (first | exact row_pat); exact sz_pat; (first | exact own_get 0 hO rfl | exact own_get 1 hO rfl | exact own_get 2 hO rfl | exact own_get 3 hO rfl | exact own_get 4 hO rfl | exact own_get 5 hO rfl | exact own_get 6 hO rfl | exact own_get 7 hO rfl); (focus (simp; done)); (first | (simp only [List.drop_zero, List.drop_succ_cons, List.take_succ_cons, List.take_zero]; rfl) | rfl)) | (refine own_store_all (k := 0) rfl rfl rfl rfl sz_pat hO rfl rfl rfl rfl ?_; clear hO; intro w6 hO hS6; simp only [List.set_cons_zero] at hO))
    exact bodyPost_ret (results_cell_tmp rfl rfl (own_get 0 hO rfl) row_pat sz_pat) rfl ⟨rfl, own_drop (own_drop hO), hS1.trans (hS2.trans hS6)⟩
def idleB (bs : List UInt8) (p : Pat) : Bool := decide (bs.length = 32) && rightB p && decide ((bs.drop p.off.toNat).take p.dat.size = p.dat.data.toList)
theorem idle_c (w : World) (L : List HP) (v : Value) (bs : List UInt8) (a0 a1 : Int) (s : ByteArray) (hO : Own w L) (hr : ∀ w', Own w' L → RdB w' v bs) :
    Calls Try.prog 21 #[v, .agg #[.int .i64 a0, .int .i64 a1, .string s]] w (Ret w (.bool (idleB bs ⟨a0, a1, s⟩)) L) := by
  obtain ⟨A, c, rfl⟩ := (hr w hO).slice
  by_cases hc : bs.length = 32 ∧ rightB ⟨a0, a1, s⟩ = true
  · have HC := Lib.hid hc
    have HR := Lib.hid hr
    clear hc hr
    go_enter Try.func21, Try.ntmps21
    go_wp2_with (first | (refine own_box_agg (x := .tmp 1) rfl rfl rfl hO ?_; clear hO; intro b w1 hO hS1) | (refine own_alloc rfl rfl zero_pat rfl hO ?_; clear hO; intro g w2 hO hS2) | (apply own_loadrow rfl rfl rfl; (first | exact row_pat); exact sz_pat; (first | exact own_get 0 hO rfl | exact own_get 1 hO rfl | exact own_get 2 hO rfl | exact own_get 3 hO rfl | exact own_get 4 hO rfl | exact own_get 5 hO rfl | exact own_get 6 hO rfl | exact own_get 7 hO rfl); (focus (simp; done)); (first | (simp only [List.drop_zero, List.drop_succ_cons, List.take_succ_cons, List.take_zero]; rfl) | rfl)) | (go_at_call 19; refine (undo_ok _ _ _ bs _ _ _ hO (fun w' h => HR.out _ (own_drop h)) HC.out.1 HC.out.2).mono ?_; clear hO; rintro e w3 ⟨rfl, hO, hS3⟩) | (refine own_store_all (k := 0) rfl rfl rfl rfl sz_pat hO rfl rfl rfl rfl ?_; clear hO; intro w6 hO hS6; simp only [List.set_cons_zero] at hO))
    all_goals go_ret
    all_goals refine ⟨congrArg Ending.returned (congrArg Value.bool ?_), own_drop (own_drop hO), hS1.trans (hS3.trans (hS2.trans hS6))⟩
    all_goals simp [idleB, HC.out.1, HC.out.2]
    all_goals simp_all [ByteArray.toList_eq, bstr_toList]
  · have hno : bs.length = 32 → rightB ⟨a0, a1, s⟩ = false := fun h => by
      cases h2 : rightB ⟨a0, a1, s⟩ with
      | false => rfl
      | true => exact absurd ⟨h, h2⟩ hc
    have hf : idleB bs ⟨a0, a1, s⟩ = false := by
      simp only [idleB, Bool.and_eq_false_iff, decide_eq_false_iff_not]
      by_cases h : bs.length = 32
      · exact .inl (.inr (hno h))
      · exact .inl (.inl h)
    have HC := Lib.hid hno
    have HR := Lib.hid hr
    clear hc hr hno
    rw [hf]
    clear hf
    go_enter Try.func21, Try.ntmps21
    go_wp2_with (first | (refine own_box_agg (x := .tmp 1) rfl rfl rfl hO ?_; clear hO; intro b w1 hO hS1) | (refine own_alloc rfl rfl zero_pat rfl hO ?_; clear hO; intro g w2 hO hS2) | (apply own_loadrow rfl rfl rfl; (first | exact row_pat); exact sz_pat; (first | exact own_get 0 hO rfl | exact own_get 1 hO rfl | exact own_get 2 hO rfl | exact own_get 3 hO rfl | exact own_get 4 hO rfl | exact own_get 5 hO rfl | exact own_get 6 hO rfl | exact own_get 7 hO rfl); (focus (simp; done)); (first | (simp only [List.drop_zero, List.drop_succ_cons, List.take_succ_cons, List.take_zero]; rfl) | rfl)) | (go_at_call 19; refine (undo_no _ _ _ bs _ _ _ hO (fun w' h => HR.out _ (own_drop h)) HC.out).mono ?_; clear hO; rintro e w3 ⟨rfl, hO, hS3⟩) | (refine own_store_all (k := 0) rfl rfl rfl rfl sz_pat hO rfl rfl rfl rfl ?_; clear hO; intro w6 hO hS6; simp only [List.set_cons_zero] at hO))
    go_ret
    exact ⟨rfl, own_drop (own_drop hO), hS1.trans (hS3.trans (hS2.trans hS6))⟩
end Go.Proofs.Ytefohmjllcnnkaa.H
