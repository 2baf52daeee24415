/- Contract of patch.Join. -/
import Derived.Test.YtdcbfdepkbplbaaP6
set_option linter.unusedVariables false
set_option linter.unusedSimpArgs false
set_option maxRecDepth 100000
namespace Go.Proofs.Ytdcbfdepkbplbaa.H
open Go.RowKit
theorem zero_blk : (Try.prog.info? 69).map (·.zero) = some (some (.agg (bcs (List.replicate 32 0)).toArray)) := by kernel_rfl
def joinB (p q : Pat) : Bool := rightB p && rightB q && decide (p.blk = q.blk) && decide (p.off ≤ q.off + q.dat.size) && decide (q.off ≤ p.off + p.dat.size)
def wholeOf (p q : Pat) : List UInt8 := app (app (List.replicate 32 0) p) q
def joinM (p q : Pat) : Pat := ⟨p.blk, min p.off q.off, bstr (((wholeOf p q).drop (min p.off q.off).toNat).take ((max (p.off + p.dat.size) (q.off + q.dat.size)).toNat - (min p.off q.off).toNat))⟩
set_option maxHeartbeats 1000000 in
theorem join_no (w : World) (L : List HP) (a0 a1 b0 b1 : Int) (s t : ByteArray) (hO : Own w L) (hj : joinB ⟨a0, a1, s⟩ ⟨b0, b1, t⟩ = false) :
    Calls Try.prog 40 #[.agg #[.int .i64 a0, .int .i64 a1, .string s], .agg #[.int .i64 b0, .int .i64 b1, .string t]] w (Ret w (.tuple #[.agg #[.int .i64 0, .int .i64 0, .string ⟨#[]⟩], .bool false]) L) := by
  have key : ∀ (r1 r2 : Bool), rightB ⟨a0, a1, s⟩ = r1 → rightB ⟨b0, b1, t⟩ = r2 → (r1 = true → 0 ≤ a1 ∧ a1 < 32 ∧ s.size ≤ 32) → (r2 = true → 0 ≤ b1 ∧ b1 < 32 ∧ t.size ≤ 32) → (r1 && r2 && decide (a0 = b0) && decide (a1 ≤ b1 + t.size) && decide (b1 ≤ a1 + s.size)) = false →
    Calls Try.prog 40 #[.agg #[.int .i64 a0, .int .i64 a1, .string s], .agg #[.int .i64 b0, .int .i64 b1, .string t]] w (Ret w (.tuple #[.agg #[.int .i64 0, .int .i64 0, .string ⟨#[]⟩], .bool false]) L) := by
    intro r1 r2 hR hR2 hp hq hf
    have HR := Lib.hid hR
    have HR2 := Lib.hid hR2
    have HP := Lib.hid hp
    have HQ := Lib.hid hq
    clear hR hR2 hp hq
    have enter : r1 = false ∨ (r1 = true ∧ r2 = false) ∨ (r1 = true ∧ r2 = true ∧ (a0 == b0) = false ∧ (a0 != b0) = true) ∨ (r1 = true ∧ r2 = true ∧ a0 = b0 ∧ decide (b1 + t.size < a1) = true) ∨ (r1 = true ∧ r2 = true ∧ a0 = b0 ∧ decide (b1 + t.size < a1) = false ∧ decide (a1 + s.size < b1) = true) := by
      cases r1 <;> cases r2 <;> simp
      simp at hf
      by_cases h1 : a0 = b0 <;> simp [h1]
      by_cases h2 : a1 ≤ b1 + t.size
      · have := hf h1 h2; right; omega
      · left; omega
    clear hf
    rcases enter with rfl | ⟨rfl, rfl⟩ | ⟨rfl, rfl, h0, h0'⟩ | ⟨rfl, rfl, rfl, h1⟩ | ⟨rfl, rfl, rfl, h1, h2⟩
    all_goals
      go_enter Try.func40, Try.ntmps40
      go_wp2_with (first | (refine own_box_agg (x := .tmp 0) rfl rfl rfl hO ?_; clear hO; intro b w1 hO hS1) | (refine own_box_agg (x := .tmp 1) rfl rfl rfl hO ?_; clear hO; intro b' w2 hO hS2) | (refine own_alloc rfl rfl zero_pat rfl hO ?_; clear hO; intro g w3 hO hS3))
      refine wp_region_seq (Cls w3 (pts g (.cells #[.int .i64 0, .int .i64 0, .string ⟨#[]⟩] 33) :: pts b' (.cells #[.int .i64 _, .int .i64 b1, .string t] 33) :: pts b (.cells #[.int .i64 a0, .int .i64 a1, .string s] 33) :: L)) 29 69 mixed (by kernel_rfl) rfl (cls_drew hO) ?_
      simp only [List.take_succ_cons, List.take_zero]
      repeat (first
        | (apply wv_skip rfl; simp only [Act.put, List.setIfInBounds_toArray, List.set_cons_zero, List.set_cons_succ])
        | (apply wv_load1 rfl rfl rfl; (first | exact row_int | exact row_str | exact row_bool | exact row_u8 | exact row_bys | exact row_pats | exact row_err); (intro w h; (first | exact own_get 0 h.1 rfl | exact own_get 1 h.1 rfl | exact own_get 2 h.1 rfl | exact own_get 3 h.1 rfl | exact own_get 4 h.1 rfl | exact own_get 5 h.1 rfl | exact own_get 6 h.1 rfl | exact own_get 7 h.1 rfl)); (first | (simp only [List.getElem?_toArray, List.getElem?_cons_succ, List.getElem?_cons_zero]; rfl) | rfl); simp only [Act.put, List.setIfInBounds_toArray, List.set_cons_zero, List.set_cons_succ])
        | (apply wv_loadrow rfl rfl rfl; (first | exact row_pat); exact sz_pat; (intro w h; (first | exact own_get 0 h.1 rfl | exact own_get 1 h.1 rfl | exact own_get 2 h.1 rfl | exact own_get 3 h.1 rfl | exact own_get 4 h.1 rfl | exact own_get 5 h.1 rfl | exact own_get 6 h.1 rfl | exact own_get 7 h.1 rfl)); (focus (simp; done)); (first | (simp only [List.drop_zero, List.drop_succ_cons, List.take_succ_cons, List.take_zero]; rfl) | rfl); simp only [Act.put, List.setIfInBounds_toArray, List.set_cons_zero, List.set_cons_succ])
        | (apply wv_run rfl; (focus (intro w h; go_simp; first | done | rfl)); simp only [Act.put, List.setIfInBounds_toArray, List.set_cons_zero, List.set_cons_succ])
        | (apply wv_call rfl; (focus (intro w; go_simp; first | done | exact ⟨rfl, rfl⟩)); (focus (intro w h; apply cls_call h; first | exact right_v _ _ _ _ _ HR.out h.1 | exact right_v _ _ _ _ _ HR2.out h.1 | exact end_c _ _ _ _ _ (HP.out (by simp)).1 (HP.out (by simp)).2.1 (HP.out (by simp)).2.2 h.1 | exact end_c _ _ _ _ _ (HQ.out (by simp)).1 (HQ.out (by simp)).2.1 (HQ.out (by simp)).2.2 h.1)); simp only [Act.put, List.setIfInBounds_toArray, List.set_cons_zero, List.set_cons_succ]))
      refine wv_nil ?_
      simp only [List.drop_succ_cons, List.drop_zero]
      intro w5 h5
      obtain ⟨hO, hS5⟩ := h5
      go_wp2_with (first | (refine own_store_all (k := 0) rfl rfl rfl rfl sz_pat hO rfl rfl rfl rfl ?_; clear hO; intro w6 hO hS6; simp only [List.set_cons_zero] at hO))
      exact bodyPost_ret (results_cell_tmp rfl rfl (own_get 0 hO rfl) row_pat sz_pat) rfl ⟨rfl, own_drop (own_drop (own_drop hO)), hS1.trans (hS2.trans (hS3.trans (hS5.trans hS6)))⟩
  refine key _ _ rfl rfl (fun h => ?_) (fun h => ?_) hj
  · obtain ⟨p1, p2, p3, p4, p5, p6⟩ := rightB_iff.1 h
    simp only at p1 p2 p3 p4 p5 p6
    omega
  · obtain ⟨p1, p2, p3, p4, p5, p6⟩ := rightB_iff.1 h
    simp only at p1 p2 p3 p4 p5 p6
    omega
end Go.Proofs.Ytdcbfdepkbplbaa.H
