/- Contract of the reference's Idle; few, of the statements. -/
import Derived.Test.YtefohmjllcnnkaaR3
set_option linter.unusedVariables false
set_option linter.unusedSimpArgs false
set_option maxRecDepth 100000
namespace Go.Proofs.Ytefohmjllcnnkaa.H
open Go.RowKit
theorem ridle_c (w : World) (L : List HP) (v : Value) (bs : List UInt8) (a0 a1 : Int) (s : ByteArray) (hO : Own w L) (hr : ∀ w', Own w' L → RdB w' v bs) :
    Calls Try.prog 22 #[v, .agg #[.int .i64 a0, .int .i64 a1, .string s]] w (Ret w (.bool (idleB bs ⟨a0, a1, s⟩)) L) := by
  obtain ⟨A, c, rfl⟩ := (hr w hO).slice
  by_cases hc : bs.length = 32 ∧ rightB ⟨a0, a1, s⟩ = true
  · have HC := Lib.hid hc
    have HR := Lib.hid hr
    have HL : Hid (32 = (app bs ⟨a0, a1, s⟩).length) := (app_length bs ⟨a0, a1, s⟩ hc.1 hc.2).symm
    clear hc hr
    go_enter Try.func22, Try.ntmps22
    go_wp2_with (first | (refine own_box_agg (x := .tmp 1) rfl rfl rfl hO ?_; clear hO; intro b w1 hO hS1) | (apply own_loadrow rfl rfl rfl; (first | exact row_pat); exact sz_pat; (first | exact own_get 0 hO rfl | exact own_get 1 hO rfl | exact own_get 2 hO rfl | exact own_get 3 hO rfl | exact own_get 4 hO rfl | exact own_get 5 hO rfl | exact own_get 6 hO rfl | exact own_get 7 hO rfl); (focus (simp; done)); (first | (simp only [List.drop_zero, List.drop_succ_cons, List.take_succ_cons, List.take_zero]; rfl) | rfl)) | (go_at_call 18; refine (rapply_ok _ _ _ bs _ _ _ hO (fun w' h => HR.out _ (own_drop h)) HC.out.1 HC.out.2).mono ?_; clear hO; rintro e w3 ⟨v', rfl, hO, hS3⟩) | (refine own_string (n := 32) (bs := app bs ⟨a0, a1, s⟩) rfl rfl rfl Try.underlying28 Try.underlying5 Try.underlying9 HL.out (owns_rd hO) ?_) | (refine own_string (n := bs.length) (bs := bs) rfl rfl rfl Try.underlying28 Try.underlying5 Try.underlying9 rfl (HR.out _ (own_drop (own_drop hO))) ?_))
    all_goals go_ret
    all_goals refine ⟨congrArg Ending.returned (congrArg Value.bool ?_), own_drop (own_drop hO), hS1.trans hS3⟩
    all_goals simp only [idleB, HC.out.1, HC.out.2]
    all_goals (rw [Bool.eq_iff_iff]; simp [ByteArray.toList_eq, bstr_toList, ← app_idle bs ⟨a0, a1, s⟩ HC.out.1 HC.out.2])
  · have hno : bs.length = 32 → rightB ⟨a0, a1, s⟩ = false := fun h => by
      cases h2 : rightB ⟨a0, a1, s⟩ with
      | false => rfl
      | true => exact absurd ⟨h, h2⟩ hc
    have hf : idleB bs ⟨a0, a1, s⟩ = false := by
      simp only [idleB, Bool.and_eq_false_iff, decide_eq_false_iff_not]
      by_cases h : bs.length = 32
      · exact .inl (.inr (hno h))
      · exact .inl (.inl h)
    have HC := Lib.hid hno
    have HR := Lib.hid hr
    clear hc hr hno
    rw [hf]
    clear hf
    go_enter Try.func22, Try.ntmps22
    go_wp2_with (first | (refine own_box_agg (x := .tmp 1) rfl rfl rfl hO ?_; clear hO; intro b w1 hO hS1) | (apply own_loadrow rfl rfl rfl; (first | exact row_pat); exact sz_pat; (first | exact own_get 0 hO rfl | exact own_get 1 hO rfl | exact own_get 2 hO rfl | exact own_get 3 hO rfl | exact own_get 4 hO rfl | exact own_get 5 hO rfl | exact own_get 6 hO rfl | exact own_get 7 hO rfl); (focus (simp; done)); (first | (simp only [List.drop_zero, List.drop_succ_cons, List.take_succ_cons, List.take_zero]; rfl) | rfl)) | (go_at_call 18; refine (rapply_no _ _ _ bs _ _ _ hO (fun w' h => HR.out _ (own_drop h)) HC.out).mono ?_; clear hO; rintro e w3 ⟨rfl, hO, hS3⟩))
    go_ret
    exact ⟨rfl, own_drop hO, hS1.trans hS3⟩
/-- few: a slice of bytes cut to 40. -/
theorem few_c (w : World) (A : Option Addr) (n c : Nat) (hn : n ≤ c) (hc : c ≤ 9223372036854775807) : Calls Try.prog 16 #[.slice A n c] w (fun e w' => e = .returned (.slice A (min n 40) c) ∧ w = w') := by
  by_cases h : 40 < n
  · have h1 : 40 ≤ c := by omega
    have h2 : min n 40 = 40 := by omega
    rw [h2]
    go_enter Try.func16, Try.ntmps16
    go_wp2
    go_ret
    exact ⟨rfl, rfl⟩
  · have h2 : min n 40 = n := by omega
    rw [h2]
    go_enter Try.func16, Try.ntmps16
    go_wp2
    go_ret
    exact ⟨rfl, rfl⟩
end Go.Proofs.Ytefohmjllcnnkaa.H
