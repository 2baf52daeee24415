/- Contract of patch.Join. Contract of patch.Join, where it can join. live, of the statements on patches. Contracts of the reference of patch: Right, writes. Slices that are owned with their room, and append onto them. -/
import Derived.Test.YtdcbfdepkbplbaaZ02
import Derived.Maps.AppendAt
set_option linter.unusedVariables false
set_option linter.unusedSimpArgs false
set_option maxRecDepth 100000
namespace Go.Proofs.Ytdcbfdepkbplbaa.H
open Go.RowKit
theorem zero_blk : (Try.prog.info? 69).map (·.zero) = some (some (.agg (bcs (List.replicate 32 0)).toArray)) := by kernel_rfl
def joinB (p q : Pat) : Bool := rightB p && rightB q && decide (p.blk = q.blk) && decide (p.off ≤ q.off + q.dat.size) && decide (q.off ≤ p.off + p.dat.size)
def wholeOf (p q : Pat) : List UInt8 := app (app (List.replicate 32 0) p) q
def joinM (p q : Pat) : Pat := ⟨p.blk, min p.off q.off, bstr (((wholeOf p q).drop (min p.off q.off).toNat).take ((max (p.off + p.dat.size) (q.off + q.dat.size)).toNat - (min p.off q.off).toNat))⟩
set_option maxHeartbeats 1000000 in
theorem join_no (w : World) (L : List HP) (a0 a1 b0 b1 : Int) (s t : ByteArray) (hO : Own w L) (hj : joinB ⟨a0, a1, s⟩ ⟨b0, b1, t⟩ = false) :
    Calls Try.prog 40 #[.agg #[.int .i64 a0, .int .i64 a1, .string s], .agg #[.int .i64 b0, .int .i64 b1, .string t]] w (Ret w (.tuple #[.agg #[.int .i64 0, .int .i64 0, .string ⟨#[]⟩], .bool false]) L) := by
  have key : ∀ (r1 r2 : Bool), rightB ⟨a0, a1, s⟩ = r1 → rightB ⟨b0, b1, t⟩ = r2 → (r1 = true → 0 ≤ a1 ∧ a1 < 32 ∧ s.size ≤ 32) → (r2 = true → 0 ≤ b1 ∧ b1 < 32 ∧ t.size ≤ 32) → (r1 && r2 && decide (a0 = b0) && decide (a1 ≤ b1 + t.size) && decide (b1 ≤ a1 + s.size)) = false →
    Calls Try.prog 40 #[.agg #[.int .i64 a0, .int .i64 a1, .string s], .agg #[.int .i64 b0, .int .i64 b1, .string t]] w (Ret w (.tuple #[.agg #[.int .i64 0, .int .i64 0, .string ⟨#[]⟩], .bool false]) L) := by
    intro r1 r2 hR hR2 hp hq hf
    have HR := Lib.hid hR
    have HR2 := Lib.hid hR2
    have HP := Lib.hid hp
    have HQ := Lib.hid hq
    clear hR hR2 hp hq
    have enter : r1 = false ∨ (r1 = true ∧ r2 = false) ∨ (r1 = true ∧ r2 = true ∧ (a0 == b0) = false ∧ (a0 != b0) = true) ∨ (r1 = true ∧ r2 = true ∧ a0 = b0 ∧ decide (b1 + t.size < a1) = true) ∨ (r1 = true ∧ r2 = true ∧ a0 = b0 ∧ decide (b1 + t.size < a1) = false ∧ decide (a1 + s.size < b1) = true) := by
      cases r1 <;> cases r2 <;> simp
      simp at hf
      by_cases h1 : a0 = b0 <;> simp [h1]
      by_cases h2 : a1 ≤ b1 + t.size
      · have := hf h1 h2; right; omega
      · left; omega
    clear hf
    rcases enter with rfl | ⟨rfl, rfl⟩ | ⟨rfl, rfl, h0, h0'⟩ | ⟨rfl, rfl, rfl, h1⟩ | ⟨rfl, rfl, rfl, h1, h2⟩
    all_goals
      go_enter Try.func40, Try.ntmps40
      go_wp2_with (first | (refine own_box_agg (x := .tmp 0) rfl rfl rfl hO ?_; clear hO; intro b w1 hO hS1) | (refine own_box_agg (x := .tmp 1) rfl rfl rfl hO ?_; clear hO; intro b' w2 hO hS2) | (refine own_alloc rfl rfl zero_pat rfl hO ?_; clear hO; intro g w3 hO hS3))
      refine wp_region_seq (Cls w3 (pts g (.cells #[.int .i64 0, .int .i64 0, .string ⟨#[]⟩] 33) :: pts b' (.cells #[.int .i64 _, .int .i64 b1, .string t] 33) :: pts b (.cells #[.int .i64 a0, .int .i64 a1, .string s] 33) :: L)) 29 69 mixed (by kernel_rfl) rfl (cls_drew hO) ?_
      simp only [List.append_eq, List.cons_append, List.nil_append, List.take_succ_cons, List.take_zero]
      repeat (first
        | (apply wv_skip rfl; simp only [Act.put, List.setIfInBounds_toArray, List.set_cons_zero, List.set_cons_succ])
        | (apply wv_load1 rfl rfl rfl; (first | exact row_int | exact row_str | exact row_bool | exact row_u8 | exact row_bys | exact row_pats | exact row_err); (intro w h; (first | exact own_get 0 h.1 rfl | exact own_get 1 h.1 rfl | exact own_get 2 h.1 rfl | exact own_get 3 h.1 rfl | exact own_get 4 h.1 rfl | exact own_get 5 h.1 rfl | exact own_get 6 h.1 rfl | exact own_get 7 h.1 rfl)); (first | (simp only [List.getElem?_toArray, List.getElem?_cons_succ, List.getElem?_cons_zero]; rfl) | rfl); simp only [Act.put, List.setIfInBounds_toArray, List.set_cons_zero, List.set_cons_succ])
        | (apply wv_loadrow rfl rfl rfl; (first | exact row_pat); exact sz_pat; (intro w h; (first | exact own_get 0 h.1 rfl | exact own_get 1 h.1 rfl | exact own_get 2 h.1 rfl | exact own_get 3 h.1 rfl | exact own_get 4 h.1 rfl | exact own_get 5 h.1 rfl | exact own_get 6 h.1 rfl | exact own_get 7 h.1 rfl)); (focus (simp; done)); (first | (simp only [List.drop_zero, List.drop_succ_cons, List.take_succ_cons, List.take_zero]; rfl) | rfl); simp only [Act.put, List.setIfInBounds_toArray, List.set_cons_zero, List.set_cons_succ])
        | (apply wv_run rfl; (focus (intro w h; go_simp; first | done | rfl)); simp only [Act.put, List.setIfInBounds_toArray, List.set_cons_zero, List.set_cons_succ])
        | (apply wv_call rfl; (focus (intro w; go_simp; first | done | exact ⟨rfl, rfl⟩)); (focus (intro w h; apply cls_call h; first | exact right_v _ _ _ _ _ HR.out h.1 | exact right_v _ _ _ _ _ HR2.out h.1 | exact end_c _ _ _ _ _ (HP.out (by simp)).1 (HP.out (by simp)).2.1 (HP.out (by simp)).2.2 h.1 | exact end_c _ _ _ _ _ (HQ.out (by simp)).1 (HQ.out (by simp)).2.1 (HQ.out (by simp)).2.2 h.1)); simp only [Act.put, List.setIfInBounds_toArray, List.set_cons_zero, List.set_cons_succ]))
      refine wv_nil ?_
      simp only [List.drop_succ_cons, List.drop_zero]
      intro w5 h5
      obtain ⟨hO, hS5⟩ := h5
      go_wp2_with (first | (refine own_store_all (k := 0) rfl rfl rfl rfl sz_pat hO rfl rfl rfl rfl ?_; clear hO; intro w6 hO hS6; simp only [List.set_cons_zero] at hO))
      exact bodyPost_ret (results_cell_tmp rfl rfl (own_get 0 hO rfl) row_pat sz_pat) rfl ⟨rfl, own_drop (own_drop (own_drop hO)), hS1.trans (hS2.trans (hS3.trans (hS5.trans hS6)))⟩
  refine key _ _ rfl rfl (fun h => ?_) (fun h => ?_) hj
  · obtain ⟨p1, p2, p3, p4, p5, p6⟩ := rightB_iff.1 h
    simp only at p1 p2 p3 p4 p5 p6
    omega
  · obtain ⟨p1, p2, p3, p4, p5, p6⟩ := rightB_iff.1 h
    simp only at p1 p2 p3 p4 p5 p6
    omega
end Go.Proofs.Ytdcbfdepkbplbaa.H
set_option linter.unusedVariables false
set_option linter.unusedSimpArgs false
set_option maxRecDepth 100000
namespace Go.Proofs.Ytdcbfdepkbplbaa.H
open Go.RowKit
set_option maxHeartbeats 1000000 in
theorem join_ok (w : World) (L : List HP) (a0 a1 b0 b1 : Int) (s t : ByteArray) (hO : Own w L) (hj : joinB ⟨a0, a1, s⟩ ⟨b0, b1, t⟩ = true) :
    Calls Try.prog 40 #[.agg #[.int .i64 a0, .int .i64 a1, .string s], .agg #[.int .i64 b0, .int .i64 b1, .string t]] w (Ret w (.tuple #[.agg (joinM ⟨a0, a1, s⟩ ⟨b0, b1, t⟩).cells.toArray, .bool true]) L) := by
  simp only [joinB, Bool.and_eq_true, decide_eq_true_eq] at hj
  obtain ⟨⟨⟨⟨hR, hR2⟩, rfl⟩, hx⟩, hy⟩ := hj
  obtain ⟨p1, p2, p3, p4, p5, p6⟩ := rightB_iff.1 hR
  obtain ⟨r1, r2, r3, r4, r5, r6⟩ := rightB_iff.1 hR2
  simp only at p1 p2 p3 p4 p5 p6 r1 r2 r3 r4 r5 r6
  have h0 : decide (b1 + t.size < a1) = false := by simp; omega
  have h1 : decide (a1 + s.size < b1) = false := by simp; omega
  have u1 : a1 ≤ 32 := by omega
  have u2 : ¬ (32 = a1.toNat) := by omega
  have u3 : s.size ≤ 32 - a1.toNat := by omega
  have u4 : a1.toNat + s.size ≤ 32 := by omega
  have v1 : b1 ≤ 32 := by omega
  have v2 : ¬ (32 = b1.toNat) := by omega
  have v3 : t.size ≤ 32 - b1.toNat := by omega
  have v4 : b1.toNat + t.size ≤ 32 := by omega
  have U2 := Lib.hid u2
  have V2 := Lib.hid v2
  have s1 : s.size ≤ 32 := by omega
  have s2 : t.size ≤ 32 := by omega
  clear u2 v2
  go_enter Try.func40, Try.ntmps40
  go_wp2_with (first | (refine own_box_agg (x := .tmp 0) rfl rfl rfl hO ?_; clear hO; intro b w1 hO hS1) | (refine own_box_agg (x := .tmp 1) rfl rfl rfl hO ?_; clear hO; intro b' w2 hO hS2) | (refine own_alloc rfl rfl zero_pat rfl hO ?_; clear hO; intro g w3 hO hS3))
  refine wp_region_seq (Cls w3 (pts g (.cells #[.int .i64 0, .int .i64 0, .string ⟨#[]⟩] 33) :: pts b' (.cells #[.int .i64 _, .int .i64 b1, .string t] 33) :: pts b (.cells #[.int .i64 a0, .int .i64 a1, .string s] 33) :: L)) 29 69 mixed (by kernel_rfl) rfl (cls_drew hO) ?_
  simp only [List.append_eq, List.cons_append, List.nil_append, List.take_succ_cons, List.take_zero]
  repeat (first
    | (apply wv_skip rfl; simp only [Act.put, List.setIfInBounds_toArray, List.set_cons_zero, List.set_cons_succ])
    | (apply wv_load1 rfl rfl rfl; (first | exact row_int | exact row_str | exact row_bool | exact row_u8 | exact row_bys | exact row_pats | exact row_err); (intro w h; (first | exact own_get 0 h.1 rfl | exact own_get 1 h.1 rfl | exact own_get 2 h.1 rfl | exact own_get 3 h.1 rfl | exact own_get 4 h.1 rfl | exact own_get 5 h.1 rfl | exact own_get 6 h.1 rfl | exact own_get 7 h.1 rfl)); (first | (simp only [List.getElem?_toArray, List.getElem?_cons_succ, List.getElem?_cons_zero]; rfl) | rfl); simp only [Act.put, List.setIfInBounds_toArray, List.set_cons_zero, List.set_cons_succ])
    | (apply wv_loadrow rfl rfl rfl; (first | exact row_pat); exact sz_pat; (intro w h; (first | exact own_get 0 h.1 rfl | exact own_get 1 h.1 rfl | exact own_get 2 h.1 rfl | exact own_get 3 h.1 rfl | exact own_get 4 h.1 rfl | exact own_get 5 h.1 rfl | exact own_get 6 h.1 rfl | exact own_get 7 h.1 rfl)); (focus (simp; done)); (first | (simp only [List.drop_zero, List.drop_succ_cons, List.take_succ_cons, List.take_zero]; rfl) | rfl); simp only [Act.put, List.setIfInBounds_toArray, List.set_cons_zero, List.set_cons_succ])
    | (apply wv_run rfl; (focus (intro w h; go_simp; first | done | rfl)); simp only [Act.put, List.setIfInBounds_toArray, List.set_cons_zero, List.set_cons_succ])
    | (apply wv_call rfl; (focus (intro w; go_simp; first | done | exact ⟨rfl, rfl⟩)); (focus (intro w h; apply cls_call h; first | exact right_v _ _ _ _ _ hR h.1 | exact right_v _ _ _ _ _ hR2 h.1 | exact end_c _ _ _ _ _ p3 p4 s1 h.1 | exact end_c _ _ _ _ _ r3 r4 s2 h.1)); simp only [Act.put, List.setIfInBounds_toArray, List.set_cons_zero, List.set_cons_succ]))
  refine wv_nil ?_
  simp only [List.drop_succ_cons, List.drop_zero]
  intro w4 ⟨hO4, hS4⟩
  clear hO
  have hO := hO4
  clear hO4
  go_wp2_with (first | (refine own_alloc rfl rfl zero_blk rfl hO ?_; clear hO; intro h w5 hO hS5))
  have u2 := U2.out
  refine wp_region_seq (Cls w5 (pts h (.cells (bcs (List.replicate 32 0)).toArray 69) :: pts g (.cells #[.int .i64 0, .int .i64 0, .string ⟨#[]⟩] 33) :: pts b' (.cells #[.int .i64 _, .int .i64 b1, .string t] 33) :: pts b (.cells #[.int .i64 a0, .int .i64 a1, .string s] 33) :: L)) 5 69 mixed (by kernel_rfl) rfl (cls_drew hO) ?_
  simp only [List.append_eq, List.cons_append, List.nil_append, List.take_succ_cons, List.take_zero]
  repeat (first
    | (apply wv_skip rfl; simp only [Act.put, List.setIfInBounds_toArray, List.set_cons_zero, List.set_cons_succ])
    | (apply wv_load1 rfl rfl rfl; (first | exact row_int | exact row_str | exact row_bool | exact row_u8 | exact row_bys | exact row_pats | exact row_err); (intro w h; (first | exact own_get 0 h.1 rfl | exact own_get 1 h.1 rfl | exact own_get 2 h.1 rfl | exact own_get 3 h.1 rfl | exact own_get 4 h.1 rfl | exact own_get 5 h.1 rfl | exact own_get 6 h.1 rfl | exact own_get 7 h.1 rfl)); (first | (simp only [List.getElem?_toArray, List.getElem?_cons_succ, List.getElem?_cons_zero]; rfl) | rfl); simp only [Act.put, List.setIfInBounds_toArray, List.set_cons_zero, List.set_cons_succ])
    | (apply wv_loadrow rfl rfl rfl; (first | exact row_pat); exact sz_pat; (intro w h; (first | exact own_get 0 h.1 rfl | exact own_get 1 h.1 rfl | exact own_get 2 h.1 rfl | exact own_get 3 h.1 rfl | exact own_get 4 h.1 rfl | exact own_get 5 h.1 rfl | exact own_get 6 h.1 rfl | exact own_get 7 h.1 rfl)); (focus (simp; done)); (first | (simp only [List.drop_zero, List.drop_succ_cons, List.take_succ_cons, List.take_zero]; rfl) | rfl); simp only [Act.put, List.setIfInBounds_toArray, List.set_cons_zero, List.set_cons_succ])
    | (apply wv_run rfl; (focus (intro w h; go_simp; first | done | rfl)); simp only [Act.put, List.setIfInBounds_toArray, List.set_cons_zero, List.set_cons_succ])
    | (apply wv_call rfl; (focus (intro w; go_simp; first | done | exact ⟨rfl, rfl⟩)); (focus (intro w h; apply cls_call h; fail)); simp only [Act.put, List.setIfInBounds_toArray, List.set_cons_zero, List.set_cons_succ]))
  refine wv_nil ?_
  simp only [List.drop_succ_cons, List.drop_zero]
  intro w6 ⟨hO6, hS6⟩
  clear hO u2
  refine own_copy_str (new := bcs (app (List.replicate 32 0) ⟨a0, a1, s⟩)) rfl rfl rfl rfl Try.underlying22 sz_u8 hO6 (k := 0) rfl u3 ?_ ?_ ?_
  · simp only [List.size_toArray, bcs_length, List.length_replicate]; exact u4
  · exact bcs_over _ _ _ (by rw [Array.length_toList]; rfl)
  intro w7 hO hS7
  simp only [List.set_cons_zero] at hO
  clear hO6
  go_wp2
  have v2 := V2.out
  refine wp_region_seq (Cls w7 (pts h (.cells (bcs (app (List.replicate 32 0) ⟨a0, a1, s⟩)).toArray 69) :: pts g (.cells #[.int .i64 0, .int .i64 0, .string ⟨#[]⟩] 33) :: pts b' (.cells #[.int .i64 _, .int .i64 b1, .string t] 33) :: pts b (.cells #[.int .i64 a0, .int .i64 a1, .string s] 33) :: L)) 5 69 mixed (by kernel_rfl) rfl (cls_drew hO) ?_
  simp only [List.append_eq, List.cons_append, List.nil_append, List.take_succ_cons, List.take_zero]
  repeat (first
    | (apply wv_skip rfl; simp only [Act.put, List.setIfInBounds_toArray, List.set_cons_zero, List.set_cons_succ])
    | (apply wv_load1 rfl rfl rfl; (first | exact row_int | exact row_str | exact row_bool | exact row_u8 | exact row_bys | exact row_pats | exact row_err); (intro w h; (first | exact own_get 0 h.1 rfl | exact own_get 1 h.1 rfl | exact own_get 2 h.1 rfl | exact own_get 3 h.1 rfl | exact own_get 4 h.1 rfl | exact own_get 5 h.1 rfl | exact own_get 6 h.1 rfl | exact own_get 7 h.1 rfl)); (first | (simp only [List.getElem?_toArray, List.getElem?_cons_succ, List.getElem?_cons_zero]; rfl) | rfl); simp only [Act.put, List.setIfInBounds_toArray, List.set_cons_zero, List.set_cons_succ])
    | (apply wv_loadrow rfl rfl rfl; (first | exact row_pat); exact sz_pat; (intro w h; (first | exact own_get 0 h.1 rfl | exact own_get 1 h.1 rfl | exact own_get 2 h.1 rfl | exact own_get 3 h.1 rfl | exact own_get 4 h.1 rfl | exact own_get 5 h.1 rfl | exact own_get 6 h.1 rfl | exact own_get 7 h.1 rfl)); (focus (simp; done)); (first | (simp only [List.drop_zero, List.drop_succ_cons, List.take_succ_cons, List.take_zero]; rfl) | rfl); simp only [Act.put, List.setIfInBounds_toArray, List.set_cons_zero, List.set_cons_succ])
    | (apply wv_run rfl; (focus (intro w h; go_simp; first | done | rfl)); simp only [Act.put, List.setIfInBounds_toArray, List.set_cons_zero, List.set_cons_succ])
    | (apply wv_call rfl; (focus (intro w; go_simp; first | done | exact ⟨rfl, rfl⟩)); (focus (intro w h; apply cls_call h; fail)); simp only [Act.put, List.setIfInBounds_toArray, List.set_cons_zero, List.set_cons_succ]))
  refine wv_nil ?_
  simp only [List.drop_succ_cons, List.drop_zero]
  intro w8 ⟨hO8, hS8⟩
  clear hO v2
  refine own_copy_str (new := bcs (wholeOf ⟨a0, a1, s⟩ ⟨a0, b1, t⟩)) rfl rfl rfl rfl Try.underlying22 sz_u8 hO8 (k := 0) rfl v3 ?_ ?_ ?_
  · simp only [List.size_toArray, bcs_length]
    rw [app_length _ _ (by simp) hR]; exact v4
  · exact bcs_over _ _ _ (by rw [Array.length_toList]; rfl)
  intro w9 hO hS9
  simp only [List.set_cons_zero] at hO
  clear hO8
  go_wp2
  refine wp_region_seq (Cls w9 (pts h (.cells (bcs (wholeOf ⟨a0, a1, s⟩ ⟨a0, b1, t⟩)).toArray 69) :: pts g (.cells #[.int .i64 0, .int .i64 0, .string ⟨#[]⟩] 33) :: pts b' (.cells #[.int .i64 _, .int .i64 b1, .string t] 33) :: pts b (.cells #[.int .i64 a0, .int .i64 a1, .string s] 33) :: L)) 12 69 mixed (by kernel_rfl) rfl (cls_drew hO) ?_
  simp only [List.append_eq, List.cons_append, List.nil_append, List.take_succ_cons, List.take_zero]
  repeat (first
    | (apply wv_skip rfl; simp only [Act.put, List.setIfInBounds_toArray, List.set_cons_zero, List.set_cons_succ])
    | (apply wv_load1 rfl rfl rfl; (first | exact row_int | exact row_str | exact row_bool | exact row_u8 | exact row_bys | exact row_pats | exact row_err); (intro w h; (first | exact own_get 0 h.1 rfl | exact own_get 1 h.1 rfl | exact own_get 2 h.1 rfl | exact own_get 3 h.1 rfl | exact own_get 4 h.1 rfl | exact own_get 5 h.1 rfl | exact own_get 6 h.1 rfl | exact own_get 7 h.1 rfl)); (first | (simp only [List.getElem?_toArray, List.getElem?_cons_succ, List.getElem?_cons_zero]; rfl) | rfl); simp only [Act.put, List.setIfInBounds_toArray, List.set_cons_zero, List.set_cons_succ])
    | (apply wv_loadrow rfl rfl rfl; (first | exact row_pat); exact sz_pat; (intro w h; (first | exact own_get 0 h.1 rfl | exact own_get 1 h.1 rfl | exact own_get 2 h.1 rfl | exact own_get 3 h.1 rfl | exact own_get 4 h.1 rfl | exact own_get 5 h.1 rfl | exact own_get 6 h.1 rfl | exact own_get 7 h.1 rfl)); (focus (simp; done)); (first | (simp only [List.drop_zero, List.drop_succ_cons, List.take_succ_cons, List.take_zero]; rfl) | rfl); simp only [Act.put, List.setIfInBounds_toArray, List.set_cons_zero, List.set_cons_succ])
    | (apply wv_run rfl; (focus (intro w h; go_simp; first | done | rfl)); simp only [Act.put, List.setIfInBounds_toArray, List.set_cons_zero, List.set_cons_succ])
    | (apply wv_call rfl; (focus (intro w; go_simp; first | done | exact ⟨rfl, rfl⟩)); (focus (intro w h; apply cls_call h; first | exact end_c _ _ _ _ _ p3 p4 s1 h.1 | exact end_c _ _ _ _ _ r3 r4 s2 h.1)); simp only [Act.put, List.setIfInBounds_toArray, List.set_cons_zero, List.set_cons_succ]))
  refine wv_nil ?_
  simp only [List.drop_succ_cons, List.drop_zero]
  intro w10 ⟨hO10, hS10⟩
  clear hO
  have hO := hO10
  clear hO10
  generalize hlo : (if b1 < a1 then b1 else a1) = lo
  generalize hhi : (if a1 + (s.size : Int) < b1 + (t.size : Int) then b1 + (t.size : Int) else a1 + (s.size : Int)) = hi
  have hlo' : min a1 b1 = lo := by rw [← hlo]; split <;> omega
  have hhi' : max (a1 + (s.size : Int)) (b1 + (t.size : Int)) = hi := by rw [← hhi]; split <;> omega
  have l1 : 0 ≤ lo := by omega
  have l2 : lo ≤ hi := by omega
  have l3 : hi ≤ 32 := by omega
  have l4 : ¬ (32 = lo.toNat) := by omega
  have l5 : 0 ≤ hi := by omega
  have E : Hid (min a1 b1 = lo ∧ max (a1 + (s.size : Int)) (b1 + (t.size : Int)) = hi) := ⟨hlo', hhi'⟩
  have l6 : hi.toNat - lo.toNat ≤ 32 - lo.toNat := by omega
  clear hlo hhi hlo' hhi'
  have L4 := Lib.hid l4
  clear l4
  have L7 : Hid (hi.toNat - lo.toNat = (((wholeOf ⟨a0, a1, s⟩ ⟨a0, b1, t⟩).drop lo.toNat).take (hi.toNat - lo.toNat)).length) := by
    show _ = _
    rw [List.length_take, List.length_drop]
    unfold wholeOf
    rw [app_length _ _ (app_length _ _ (by simp) hR) hR2]
    omega
  go_wp2
  have l4 := L4.out
  refine wp_region_seq (Cls w10 (pts h (.cells (bcs (wholeOf ⟨a0, a1, s⟩ ⟨a0, b1, t⟩)).toArray 69) :: pts g (.cells #[.int .i64 0, .int .i64 0, .string ⟨#[]⟩] 33) :: pts b' (.cells #[.int .i64 _, .int .i64 b1, .string t] 33) :: pts b (.cells #[.int .i64 a0, .int .i64 a1, .string s] 33) :: L)) 8 69 mixed (by kernel_rfl) rfl (cls_drew hO) ?_
  simp only [List.append_eq, List.cons_append, List.nil_append, List.take_succ_cons, List.take_zero]
  repeat (first
    | (apply wv_skip rfl; simp only [Act.put, List.setIfInBounds_toArray, List.set_cons_zero, List.set_cons_succ])
    | (refine wv_string (n := hi.toNat - lo.toNat) (bs := ((wholeOf ⟨a0, a1, s⟩ ⟨a0, b1, t⟩).drop lo.toNat).take (hi.toNat - lo.toNat)) rfl rfl rfl Try.underlying22 Try.underlying5 Try.underlying9 L7.out (fun w h => rd_block_at (own_get 0 h.1 rfl) (bcs_sub _ _ _) ?_ l6 ?_) ?_; (focus (rw [List.size_toArray, bcs_length]; have := L7.out; rw [List.length_take, List.length_drop] at this; unfold wholeOf at this ⊢; rw [app_length _ _ (app_length _ _ (by simp) hR) hR2] at this ⊢; omega)); (focus omega); simp only [Act.put, List.setIfInBounds_toArray, List.set_cons_zero, List.set_cons_succ])
    | (apply wv_load1 rfl rfl rfl; (first | exact row_int | exact row_str | exact row_bool | exact row_u8 | exact row_bys | exact row_pats | exact row_err); (intro w h; (first | exact own_get 0 h.1 rfl | exact own_get 1 h.1 rfl | exact own_get 2 h.1 rfl | exact own_get 3 h.1 rfl | exact own_get 4 h.1 rfl | exact own_get 5 h.1 rfl | exact own_get 6 h.1 rfl | exact own_get 7 h.1 rfl)); (first | (simp only [List.getElem?_toArray, List.getElem?_cons_succ, List.getElem?_cons_zero]; rfl) | rfl); simp only [Act.put, List.setIfInBounds_toArray, List.set_cons_zero, List.set_cons_succ])
    | (apply wv_loadrow rfl rfl rfl; (first | exact row_pat); exact sz_pat; (intro w h; (first | exact own_get 0 h.1 rfl | exact own_get 1 h.1 rfl | exact own_get 2 h.1 rfl | exact own_get 3 h.1 rfl | exact own_get 4 h.1 rfl | exact own_get 5 h.1 rfl | exact own_get 6 h.1 rfl | exact own_get 7 h.1 rfl)); (focus (simp; done)); (first | (simp only [List.drop_zero, List.drop_succ_cons, List.take_succ_cons, List.take_zero]; rfl) | rfl); simp only [Act.put, List.setIfInBounds_toArray, List.set_cons_zero, List.set_cons_succ])
    | (apply wv_run rfl; (focus (intro w h; go_simp; first | done | rfl)); simp only [Act.put, List.setIfInBounds_toArray, List.set_cons_zero, List.set_cons_succ])
    | (apply wv_call rfl; (focus (intro w; go_simp; first | done | exact ⟨rfl, rfl⟩)); (focus (intro w h; apply cls_call h; fail)); simp only [Act.put, List.setIfInBounds_toArray, List.set_cons_zero, List.set_cons_succ]))
  refine wv_nil ?_
  simp only [List.drop_succ_cons, List.drop_zero]
  intro w11 ⟨hO11, hS11⟩
  clear hO
  have hO := hO11
  clear hO11 l4
  go_wp2_with (first | (refine own_store_all (k := 1) rfl rfl rfl rfl sz_pat hO rfl rfl rfl rfl ?_; clear hO; intro w12 hO hS12; simp only [List.set_cons_zero, List.set_cons_succ] at hO))
  refine bodyPost_ret (results_cell_tmp rfl rfl (own_get 1 hO rfl) row_pat sz_pat) rfl ⟨?_, own_drop (own_drop (own_drop (own_drop hO))), hS1.trans (hS2.trans (hS3.trans (hS4.trans (hS5.trans (hS6.trans (hS7.trans (hS8.trans (hS9.trans (hS10.trans (hS11.trans hS12))))))))))⟩
  have e1 := E.out.1
  have e2 := E.out.2
  simp only [joinM, Pat.cells, e1, e2]
  rfl
end Go.Proofs.Ytdcbfdepkbplbaa.H
set_option linter.unusedVariables false
set_option linter.unusedSimpArgs false
set_option maxRecDepth 100000
namespace Go.Proofs.Ytdcbfdepkbplbaa.H
open Go.RowKit
theorem live_app : app (List.replicate 32 0) ⟨0, 1, ⟨#[97, 98]⟩⟩ = [0, 97, 98] ++ List.replicate 29 0 := by decide
theorem live_join : (joinM ⟨0, 0, ⟨#[97, 98]⟩⟩ ⟨0, 1, ⟨#[120, 121]⟩⟩).cells.toArray = #[.int .i64 0, .int .i64 0, .string ⟨#[97, 120, 121]⟩] := by rfl
end Go.Proofs.Ytdcbfdepkbplbaa.H
set_option linter.unusedVariables false
set_option linter.unusedSimpArgs false
set_option maxRecDepth 100000
namespace Go.Proofs.Ytdcbfdepkbplbaa.H
open Go.RowKit
set_option maxHeartbeats 800000 in
theorem rright_c (w : World) (L : List HP) (a0 a1 : Int) (s : ByteArray) (hO : Own w L) : Calls Try.prog 69 #[.agg #[.int .i64 a0, .int .i64 a1, .string s]] w fun e w' => e = .returned (.bool (rightB ⟨a0, a1, s⟩)) ∧ Own w' L ∧ Same w w' := by
  have enter : (decide (0 ≤ a0) = false) ∨ (decide (0 ≤ a0) = true ∧ decide (a0 < 96) = false) ∨ (decide (0 ≤ a0) = true ∧ decide (a0 < 96) = true ∧ decide (0 ≤ a1) = false) ∨ (decide (0 ≤ a0) = true ∧ decide (a0 < 96) = true ∧ decide (0 ≤ a1) = true ∧ decide (a1 < 32) = false) ∨
      (decide (0 ≤ a0) = true ∧ decide (a0 < 96) = true ∧ decide (0 ≤ a1) = true ∧ decide (a1 < 32) = true ∧ decide (1 ≤ (s.size : Int)) = false) ∨ (decide (0 ≤ a0) = true ∧ decide (a0 < 96) = true ∧ decide (0 ≤ a1) = true ∧ decide (a1 < 32) = true ∧ decide (1 ≤ (s.size : Int)) = true) := by simp only [decide_eq_true_eq, decide_eq_false_iff_not]; omega
  rcases enter with h1 | ⟨h1, h2⟩ | ⟨h1, h2, h3⟩ | ⟨h1, h2, h3, h4⟩ | ⟨h1, h2, h3, h4, h5⟩ | ⟨h1, h2, h3, h4, h5⟩
  all_goals
    try (have b1 := of_decide_eq_true h3; have b2 := of_decide_eq_true h4; have b3 : IntKind.i64.wrap (32 - a1) = 32 - a1 := (by rw [IntKind.wrap_i64]; omega))
    go_enter Try.func69, Try.ntmps69
    go_upto_region 1 with (refine own_box_agg rfl rfl rfl hO ?_; clear hO; intro b w1 hO hS)
    refine wp_plain_seq (Cls w1 (pts b (.cells #[.int .i64 a0, .int .i64 a1, .string s] 33) :: L)) 33 (cls_here hO) ?_
    simp only [List.append_eq, List.cons_append, List.nil_append, List.take_succ_cons, List.take_zero]
    repeat (first
      | (apply wv_skip rfl; simp only [Act.put, List.setIfInBounds_toArray, List.set_cons_zero, List.set_cons_succ])
      | (apply wv_load1 rfl rfl rfl; (first | exact row_int | exact row_str | exact row_bool | exact row_u8 | exact row_bys | exact row_pats | exact row_err); (intro w h; (first | exact own_get 0 h.1 rfl | exact own_get 1 h.1 rfl | exact own_get 2 h.1 rfl | exact own_get 3 h.1 rfl | exact own_get 4 h.1 rfl | exact own_get 5 h.1 rfl | exact own_get 6 h.1 rfl | exact own_get 7 h.1 rfl)); (first | (simp only [List.getElem?_toArray, List.getElem?_cons_succ, List.getElem?_cons_zero]; rfl) | rfl); simp only [Act.put, List.setIfInBounds_toArray, List.set_cons_zero, List.set_cons_succ])
      | (apply wv_loadrow rfl rfl rfl; (first | exact row_pat); exact sz_pat; (intro w h; (first | exact own_get 0 h.1 rfl | exact own_get 1 h.1 rfl | exact own_get 2 h.1 rfl | exact own_get 3 h.1 rfl | exact own_get 4 h.1 rfl | exact own_get 5 h.1 rfl | exact own_get 6 h.1 rfl | exact own_get 7 h.1 rfl)); (focus (simp; done)); (first | (simp only [List.drop_zero, List.drop_succ_cons, List.take_succ_cons, List.take_zero]; rfl) | rfl); simp only [Act.put, List.setIfInBounds_toArray, List.set_cons_zero, List.set_cons_succ])
      | (apply wv_run rfl; (focus (intro w h; go_simp; first | done | rfl)); simp only [Act.put, List.setIfInBounds_toArray, List.set_cons_zero, List.set_cons_succ])
      | (apply wv_call rfl; (focus (intro w; go_simp; first | done | exact ⟨rfl, rfl⟩)); (focus (intro w h; apply cls_call h; fail)); simp only [Act.put, List.setIfInBounds_toArray, List.set_cons_zero, List.set_cons_succ]))
    refine wv_nil ?_
    simp only [List.drop_succ_cons, List.drop_zero]
    intro w2 h2
    go_wp2
    go_ret
    refine ⟨congrArg Ending.returned (congrArg Value.bool ?_), own_drop h2.1, hS.trans h2.2⟩
    simp only [decide_eq_true_eq, decide_eq_false_iff_not] at *
    first | (symm; simp [rightB]; omega) | (rw [Bool.eq_iff_iff]; simp [rightB]; omega)
theorem rright_v (w : World) (L : List HP) (a0 a1 : Int) (s : ByteArray) {r : Bool} (hR : rightB ⟨a0, a1, s⟩ = r) (hO : Own w L) : Calls Try.prog 69 #[.agg #[.int .i64 a0, .int .i64 a1, .string s]] w fun e w' => e = .returned (.bool r) ∧ Own w' L ∧ Same w w' := by
  have := rright_c w L a0 a1 s hO
  rw [hR] at this
  exact this
def wrB (p : Pat) (i : Nat) : Bool := decide (p.off ≤ i) && decide ((i : Int) < p.off + p.dat.size)
theorem rwrites_c (w : World) (L : List HP) (a0 a1 : Int) (s : ByteArray) (i : Nat) (h0 : 0 ≤ a1) (h1 : a1 < 32) (h2 : s.size ≤ 32) (hi : i ≤ 32) (hO : Own w L) : Calls Try.prog 72 #[.agg #[.int .i64 a0, .int .i64 a1, .string s], .int .i64 i] w fun e w' => e = .returned (.bool (wrB ⟨a0, a1, s⟩ i)) ∧ Own w' L ∧ Same w w' := by
  go_enter Try.func72, Try.ntmps72
  go_wp2_with (refine own_box_agg rfl rfl rfl hO ?_; clear hO; intro b w' hO hS; have c0 := own_cell 0 0 hO rfl rfl; have c1 := own_cell 0 1 hO rfl rfl; have c2 := own_cell 0 2 hO rfl rfl)
  all_goals go_ret
  all_goals refine ⟨congrArg Ending.returned (congrArg Value.bool ?_), own_drop hO, hS⟩
  all_goals rw [Bool.eq_iff_iff]
  all_goals simp [wrB]
  all_goals first | omega | (constructor <;> (intro h; omega))
end Go.Proofs.Ytdcbfdepkbplbaa.H
set_option linter.unusedVariables false
set_option linter.unusedSimpArgs false
namespace Go.Proofs.Ytdcbfdepkbplbaa.H
open Go.RowKit

/-- The slice v of n elements is owned with its room; its cells are xs. -/
def owns (e size : Nat) (v : Value) (n : Nat) (xs : List Value) : HP := fun p q => q = nul ∧ ((v = .slice none 0 0 ∧ n = 0 ∧ xs = [] ∧ p = nul) ∨
  ∃ g cap cur, v = .slice (some ⟨g, 0, none⟩) n cap ∧ p = one g (.cells cur e (0, 0)) ∧ n ≤ cap ∧ cap ≤ maxLen ∧ cur.size = cap * size ∧ xs.length = n * size ∧ cur.toList.take (n * size) = xs)
section
variable {w w' : World} {L : List HP} {e size n : Nat} {v : Value} {xs : List Value}
theorem owns_row (h : Own w (owns e size v n xs :: L)) : w.ownsRow 0 e size v n xs := by
  obtain ⟨p1, q1, p2, q2, ⟨_, hA⟩, hB, h1, _⟩ := own_cons.1 h
  rcases hA with ⟨rfl, rfl, rfl, rfl⟩ | ⟨g, cap, cur, rfl, rfl, h3, h4, h5, h6, h7⟩
  · exact ⟨by simp, .inl ⟨rfl, rfl⟩⟩
  · exact ⟨h6, .inr ⟨g, cap, cur, rfl, Nat.zero_le _, one_le.1 h1, h3, h4, h5, h7⟩⟩
theorem owns_nil (h : Own w L) : Own w (owns e size (.slice none 0 0) 0 [] :: L) := by
  refine own_head (own_emp.2 h) (fun p q _ _ hp => ⟨hp.2, .inl ⟨rfl, rfl, rfl, hp.1⟩⟩)
theorem owns_of_pts {g cap : Nat} {cur : Array Value} (h : Own w (pts g (.cells cur e) :: L)) (hc : cur.size = cap * size) (hn : n ≤ cap) (hm : cap ≤ maxLen) (hx : cur.toList.take (n * size) = xs) : Own w (owns e size (.slice (some ⟨g, 0, none⟩) n cap) n xs :: L) := by
  refine own_head h (fun p q _ _ hp => ⟨hp.2, .inr ⟨g, cap, cur, rfl, hp.1, hn, hm, hc, ?_, hx⟩⟩)
  have h2 : n * size ≤ cap * size := Nat.mul_le_mul_right _ hn
  rw [← hx, List.length_take, Array.length_toList, hc, Nat.min_eq_left h2]
/-- What is owned beside a block stays, whatever became of that block. -/
theorem own_drop_put {b : Nat} {o : Obj} (h : Own w (pts b o :: L)) (hh : ∀ (i : Nat), i ≠ b → ∀ (x : Obj), w.heap[i]? = some x → w'.heap[i]? = some x) : Own w' L := by
  obtain ⟨p1, q1, p2, q2, ⟨rfl, rfl⟩, hB, h1, h2, h3, h4, d1, d2, d3, d4, d5⟩ := own_cons.1 h
  have hne : ∀ r : Part, dis (one b o) r → r.le w → r.le w' := fun r hd hr i x hi => by
    have hb : r b = none := by
      rcases hd b with hd | hd
      · simp [one] at hd
      · exact hd
    have : i ≠ b := fun e => by subst e; rw [hb] at hi; cases hi
    exact hh i this x (hr _ _ hi)
  exact ⟨p2, q2, hB, hne _ d1 h3, hne _ d2 h4, d5⟩
theorem owns_grown {v' : Value} {n' : Nat} {xs' : List Value} (h : Own w (owns e size v n xs :: L)) (hr : w'.ownsRow 0 e size v' n' xs') (hg : w.grownBy w' v.ownBlock) (hat : v'.ownBlock = v.ownBlock ∨ v'.ownBlock = some w.heap.size) : Own w' (owns e size v' n' xs' :: L) := by
  obtain ⟨hl, hr⟩ := hr
  have keep : ∀ (i : Nat) (x : Obj), some i ≠ v.ownBlock → w.heap[i]? = some x → w'.heap[i]? = some x := fun i x hi hx => (hg.block i (Array.getElem?_eq_some_iff.1 hx).1 hi).trans hx
  have hL : Own w' L := by
    obtain ⟨p1, q1, p2, q2, ⟨hq, hA⟩, hB, h1, _⟩ := own_cons.1 h
    rcases hA with ⟨rfl, rfl, rfl, rfl⟩ | ⟨g, cap, cur, rfl, rfl, h3, h4, h5, h6, h7⟩
    · exact own_heap (own_drop h) (fun i x hx => keep i x (by simp [Value.ownBlock]) hx)
    · have h' : Own w (pts g (.cells cur e) :: L) := own_head h (fun p q hp _ hA => by
        obtain ⟨hq, hA⟩ := hA
        rcases hA with ⟨e1, _⟩ | ⟨g', cap', cur', e1, e2, _⟩
        · cases e1
        · cases e1
          refine ⟨?_, hq⟩
          rw [e2]
          have a1 := one_le.1 h1
          have a2 := one_le.1 (e2 ▸ hp)
          rw [a1] at a2
          cases a2; rfl)
      exact own_drop_put h' (fun i hi x hx => keep i x (by simp [Value.ownBlock]; exact hi) hx)
  rcases hr with ⟨rfl, rfl⟩ | ⟨g, cap, cur, rfl, _, h2, h3, h4, h5, h6⟩
  · have : xs' = [] := List.eq_nil_of_length_eq_zero (by simpa using hl)
    subst this
    exact owns_nil hL
  · refine owns_of_pts (cur := cur) ?_ h5 h3 h4 h6
    rcases hat with hat | hat
    · -- in the old row
      obtain ⟨p1, q1, p2, q2, ⟨hq, hA⟩, hB, h1, _⟩ := own_cons.1 h
      rcases hA with ⟨rfl, rfl, rfl, rfl⟩ | ⟨g0, cap0, cur0, rfl, rfl, _⟩
      · simp [Value.ownBlock] at hat
      · have e0 : g = g0 := by simpa [Value.ownBlock] using hat
        subst e0
        have h' : Own w (pts g (.cells cur0 e) :: L) := own_head h (fun p q hp _ hA => by
          obtain ⟨hq, hA⟩ := hA
          rcases hA with ⟨e1, _⟩ | ⟨g', cap', cur', e1, e2, _⟩
          · cases e1
          · cases e1
            refine ⟨?_, hq⟩
            rw [e2]
            have a1 := one_le.1 h1
            have a2 := one_le.1 (e2 ▸ hp)
            rw [a1] at a2
            cases a2; rfl)
        exact own_put h' (fun i hi x hx => keep i x (by simp [Value.ownBlock]; exact hi) hx) h2
    · have e0 : g = w.heap.size := by simpa [Value.ownBlock] using hat
      subst e0
      -- a new row: nothing of L is there
      obtain ⟨p1, q1, p2, q2, hA, hB, h1', h2', h3', h4', d1, d2, d3, d4, d5⟩ := own_cons.1 h
      obtain ⟨pp, qq, hs, hpp, hqq, hd⟩ := hL
      have hb2 : ∀ r : Part, r.le w → r w.heap.size = none := fun r hr => by
        cases hx : r w.heap.size with
        | none => rfl
        | some x => have := (Array.getElem?_eq_some_iff.1 (hr _ _ hx)).1; omega
      have hL' : p2.le w' ∧ q2.le w' := by
        have hdis : ∀ r : Part, dis p1 r → r.le w → r.le w' := fun r hdr hrw i x hi => by
          refine keep i x (fun he => ?_) (hrw _ _ hi)
          obtain ⟨_, hA⟩ := hA
          rcases hA with ⟨rfl, _, _, rfl⟩ | ⟨g0, cap0, cur0, rfl, rfl, _⟩
          · simp [Value.ownBlock] at he
          · have : i = g0 := by simpa [Value.ownBlock] using he
            subst this
            rcases hdr i with h | h
            · simp [one] at h
            · rw [h] at hi; cases hi
        exact ⟨hdis _ d1 h3', hdis _ d2 h4'⟩
      have hno : ∀ r : Part, r.le w → dis (one w.heap.size (.cells cur e (0, 0))) r := fun r hr i => by
        by_cases ei : i = w.heap.size
        · right; rw [ei]; exact hb2 r hr
        · left; simp [one, ei]
      exact own_cons.2 ⟨_, nul, p2, q2, ⟨rfl, rfl⟩, hB, one_le.2 h2, nul_le _, hL'.1, hL'.2, hno _ h3', hno _ h4', dis_nul _, dis_nul _, d5⟩
theorem owns_rd (h : Own w (owns e size v n xs :: L)) : Rd w size v n xs := by
  obtain ⟨hl, hr⟩ := owns_row h
  rcases hr with ⟨rfl, rfl⟩ | ⟨g, cap, cur, rfl, _, h2, h3, h4, h5, h6⟩
  · have : xs = [] := List.eq_nil_of_length_eq_zero (by simpa using hl)
    subst this
    exact rd_nil _ _
  · exact rd_block h2 h6 (by rw [h5]; exact Nat.mul_le_mul_right _ h3) h3 (by simpa [maxLen] using h4)
/-- Laid open: the block, with the room behind. -/
theorem owns_open (h : Own w (owns e size v n xs :: L)) (hv : v ≠ .slice none 0 0) : ∃ g cap, ∃ rest : List Value, v = .slice (some ⟨g, 0, none⟩) n cap ∧ n ≤ cap ∧ cap ≤ maxLen ∧ (xs ++ rest).length = cap * size ∧ xs.length = n * size ∧ Own w (pts g (.cells (xs ++ rest).toArray e) :: L) := by
  obtain ⟨hl, hr⟩ := owns_row h
  rcases hr with ⟨rfl, rfl⟩ | ⟨g, cap, cur, rfl, _, h2, h3, h4, h5, h6⟩
  · exact absurd rfl hv
  · refine ⟨g, cap, cur.toList.drop (n * size), rfl, h3, h4, ?_, hl, own_head h (fun p q hp _ hA => ?_)⟩
    · rw [← h6, List.take_append_drop, Array.length_toList, h5]
    · obtain ⟨hq, hA⟩ := hA
      rcases hA with ⟨e1, _⟩ | ⟨g', cap', cur', e1, e2, _⟩
      · cases e1
      · cases e1
        refine ⟨?_, hq⟩
        have a2 := one_le.1 (e2 ▸ hp)
        rw [h2] at a2
        cases a2
        rw [e2, ← h6, List.take_append_drop, Array.toArray_toList]
end
section
variable {P : Program} {ops : Array Oper} {rest : List Oper} {o : Oper} {a : Act} {Q : Exit → Act → World → Prop} {w : World} {L : List HP}
/-- append of what is read onto what is owned (the first of what is owned). -/
theorem own_append {T e : TypeId} {s x : Operand} {z : Value} {size bytes n m : Nat} {v vx : Value} {xs news : List Value} (hw : Region.wanted o (yielded ops a.tmps) = true)
    (ho : o.op = .call { callee := .builtin .append, args := #[s, x], argTypes := #[T, T] }) (hs : a.eval s = v) (hx : a.eval x = vx) (ht : P.underlying T = some (.slice e)) (hinfo : (P.info? e).map (fun i => (i.zero, i.size, i.bytes)) = some (some z, size, bytes)) (hz : z.cells.size = size) (hsz : 0 < size)
    (hO : Own w (owns e size v n xs :: L)) (hr : Rd w size vx m news) (h1 : ∀ u ∈ news, u.oneCell' = true) (h63 : n + m ≤ maxLen) (hb : (n + m) * bytes ≤ 140737488355328)
    (h : ∀ v' w', Own w' (owns e size v' (n + m) (xs ++ news) :: L) → Same w w' → (v' = .slice none 0 0 ↔ v = .slice none 0 0 ∧ m = 0) → wpList P ops Q rest (a.put o.dst v') w') : wpList P ops Q (o :: rest) a w := by
  obtain ⟨i, hi, hzz⟩ := Option.map_eq_some_iff.1 hinfo
  simp only [Prod.mk.injEq] at hzz
  obtain ⟨hz', hsz', hby⟩ := hzz
  obtain ⟨hl, A, c, rfl, hc, hcm, hcell⟩ := hr.out
  have key : ∃ v' w', (Builtin.append_ #[T, T] o.type #[v, .slice A m c]).run P w = .ok v' w' ∧ Own w' (owns e size v' (n + m) (xs ++ news) :: L) ∧ Same w w' ∧ (v' = .slice none 0 0 ↔ v = .slice none 0 0 ∧ m = 0) := by
    cases A with
    | some ad =>
      obtain ⟨v', w', hrun, hown, hg, hn, hat⟩ := run_append_own_at (P := P) w 0 T o.type e i z size bytes ht hi hz' hsz' hby hz hsz v n xs (owns_row hO) ad m c news hl (fun j u hu => by obtain ⟨ad', h1, h2⟩ := hcell j u hu; cases h1; exact h2) h1 h63 hb (Nat.zero_le _)
      exact ⟨v', w', hrun, owns_grown hO hown hg hat, Same.of_grown hg, hn⟩
    | none =>
      have hm0 : news = [] := by
        cases news with
        | nil => rfl
        | cons u r => obtain ⟨ad', h1, _⟩ := hcell 0 u (by simp); cases h1
      subst hm0
      have hm : m = 0 := by
        have h0 : m * size = 0 := by simpa using hl.symm
        rcases Nat.mul_eq_zero.1 h0 with h | h
        · exact h
        · omega
      subst hm
      obtain ⟨hl2, hr2⟩ := owns_row hO
      have hrun : (Builtin.append_ #[T, T] o.type #[v, .slice none 0 c]).run P w = .ok v w := by
        rcases hr2 with ⟨rfl, rfl⟩ | ⟨g, cap, cur, rfl, _, h2, h3, h4, h5, h6⟩
        · simp [Builtin.append_, run_underlying ht, sizeOf, typeInfo, hi, Builtin.lenOf, Builtin.firstCells]
        · simp [Builtin.append_, run_underlying ht, sizeOf, typeInfo, hi, Builtin.lenOf, Builtin.firstCells, h3, storeCells]
      exact ⟨v, w, hrun, by simpa using hO, Same.refl _, by simp⟩
  obtain ⟨v', w', hrun, hO', hS, hn⟩ := key
  refine ev hw ?_ (h v' w' hO' hS hn)
  simp only [execOp, ho]
  simp [resolve, invoke, builtin, hs, hx, hrun, Result.andThen]
/-- '[]T{}'. -/
theorem own_lit0 {T e : TypeId} {size : Nat} (hw : Region.wanted o (yielded ops a.tmps) = true) (ho : o.op = .buildSlice T 0 #[]) (ht : P.underlying T = some (.slice e)) (hsz : (P.info? e).map (·.size) = some size) (hO : Own w L)
    (h : ∀ b w', Own w' (owns e size (.slice (some ⟨b, 0, none⟩) 0 0) 0 [] :: L) → Same w w' → wpList P ops Q rest (a.put o.dst (.slice (some ⟨b, 0, none⟩) 0 0)) w') : wpList P ops Q (o :: rest) a w := by
  cases hi : P.info? e with
  | none => rw [hi] at hsz; cases hsz
  | some i =>
    have hrun : (execOp a.eval o).run P w = .ok (.value (.slice (some ⟨w.heap.size, 0, none⟩) 0 0)) (w.alloc (.cells #[] e)) := by
      simp only [execOp, ho]
      have h0 : Array.range 0 = #[] := rfl
      simp [Instr.buildSlice, run_underlying ht, sizeOf, typeInfo, hi, Instr.fill, newRow, newObj, h0]
      rfl
    refine ev hw hrun (h _ _ (owns_of_pts (own_alloc_new hO _) (by simp) (Nat.le_refl _) (by decide) (by simp)) (Same.alloc _ _))
end
end Go.Proofs.Ytdcbfdepkbplbaa.H
