/- Contracts of package patch: Apply. -/
import Derived.Test.YtefohmjllcnnkaaH3
import Derived.Test.YtefohmjllcnnkaaM1
import Derived.Test.YtefohmjllcnnkaaP1
import Derived.WalkLawsBesides
import Derived.WalkSpells
set_option linter.unusedVariables false
set_option linter.unusedSimpArgs false
set_option maxRecDepth 100000
namespace Go.Proofs.Ytefohmjllcnnkaa.H
open Go.RowKit
theorem apply_ok (w : World) (L : List HP) (v : Value) (bs : List UInt8) (a0 a1 : Int) (s : ByteArray) (hO : Own w L) (hr : ∀ w', Own w' L → RdB w' v bs) (h32 : bs.length = 32) (hR : rightB ⟨a0, a1, s⟩ = true) :
    Calls Try.prog 17 #[v, .agg #[.int .i64 a0, .int .i64 a1, .string s]] w (RetX w (fun g => .tuple #[.slice (some ⟨g, 0, none⟩) 32 32, .int .i64 0]) (fun g => pts g (.cells (bcs (app bs ⟨a0, a1, s⟩)).toArray 5) :: L)) := by
  obtain ⟨A, c, rfl⟩ := (hr w hO).slice
  have hlen : ((bs.length : Int) != 32) = false := by simp; omega
  have H32 : Hid (bs.length = 32) := h32
  clear h32
  go_enter Try.func17, Try.ntmps17
  go_wp2_with (first | (refine own_box_agg rfl rfl rfl hO ?_; clear hO; intro b w1 hO hS) | (refine own_loadrow rfl rfl rfl row_pat sz_pat (own_get 0 hO rfl) (by simp) rfl ?_) | (go_at_call 23; refine (right_c _ _ _ _ _ hO).mono ?_; rw [hR]; clear hO; rintro e w2 ⟨rfl, hO, hS2⟩) | (at_make; refine own_make (n := 32) rfl rfl rfl rfl Try.underlying28 info_u8 (by decide) (by decide) (made_bytes 32) hO ?_; clear hO; intro g w3 hO hS3) | (refine own_copy (m := 32) (n := bs.length) (new := bcs bs) rfl rfl rfl rfl Try.underlying28 sz_u8 ?_ (bcs_one bs) hO (k := 0) rfl ?_ ?_ ?_ ?_; exact hr _ (own_drop (own_drop hO)); (rw [H32.out]; rfl); (simp [bcs_length]); (exact copy_whole (by simp [bcs_length]) (by simp [bcs_length, H32.out])); clear hO; intro w4 hO hS4; simp only [List.set_cons_zero] at hO))
  obtain ⟨p1, p2, p3, p4, p5, p6⟩ := rightB_iff.1 hR
  simp only at p1 p2 p3 p4 p5 p6
  have q1 : a1 ≤ 32 := by omega
  have q2 : ¬ (32 = a1.toNat) := by omega
  have q3 : s.size ≤ 32 - a1.toNat := by omega
  have q4 : a1.toNat + s.size ≤ 32 := by omega
  apply wp_region (fun w' => Own w' (pts g (.cells (bcs bs).toArray 5) :: pts b (.cells #[.int .i64 a0, .int .i64 a1, .string s] 23) :: L) ∧ Same w4 w') 6 27 [.slice (some ⟨g, 0, none⟩) 32 32, .pointer (some ⟨b, 1, none⟩), .int .i64 a1, .slice (some ⟨g, a1.toNat, none⟩) (32 - a1.toNat) (32 - a1.toNat), .pointer (some ⟨b, 2, none⟩), .string s]
  case hm => exact mixed
  case hB => kernel_rfl
  case hk => rfl
  case hC => exact ⟨own_heap hO (fun _ _ h => h), Same.drew _⟩
  case haF => simp only [putO, List.take_succ_cons, List.take_zero, Act.put, List.setIfInBounds_toArray, List.set_cons_zero, List.set_cons_succ]; rfl
  case hy =>
    simp only [List.take_succ_cons, List.take_zero]
    refine ys_cons (y_run rfl (fun w h => ?_)) (ys_cons (y_run rfl (fun w h => ?_)) (ys_cons (y_run rfl (fun w h => ?_)) (ys_cons (y_run rfl (fun w h => ?_)) (ys_cons (y_run rfl (fun w h => ?_)) (ys_cons (y_run rfl (fun w h => ?_)) ys_nil)))))
    all_goals (have d0 := own_cell 1 0 h.1 rfl rfl; have d1 := own_cell 1 1 h.1 rfl rfl; have d2 := own_cell 1 2 h.1 rfl rfl)
    all_goals go_simp
  case htail =>
    intro w5 ⟨hO5, hS5⟩
    simp only [List.drop_succ_cons, List.drop_zero]
    clear hO
    refine own_copy_str (new := bcs (app bs ⟨a0, a1, s⟩)) rfl rfl rfl rfl Try.underlying28 sz_u8 hO5 (k := 0) rfl q3 ?_ ?_ ?_
    · simp [bcs_length, H32.out]; exact q4
    · exact bcs_over bs _ _ (by rw [Array.length_toList]; rfl)
    intro w6 hO6 hS6
    simp only [List.set_cons_zero] at hO6
    clear hO5
    go_wp2
    go_ret2
    exact ⟨g, rfl, own_perm (own_drop (own_perm hO6 (List.Perm.swap _ _ _))) (List.Perm.refl _), hS.trans (hS2.trans (hS3.trans (hS4.trans (hS5.trans hS6))))⟩
end Go.Proofs.Ytefohmjllcnnkaa.H
