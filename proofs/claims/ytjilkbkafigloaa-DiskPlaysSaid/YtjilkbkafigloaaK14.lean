/- The law's live. -/
import Derived.Test.YtjilkbkafigloaaK13
set_option linter.unusedVariables false
set_option linter.unusedSimpArgs false
set_option maxRecDepth 100000
namespace Go.Proofs.Ytjilkbkafigloaa.H
open Go.RowKit
abbrev lv0 : List Blk := fresh (List.replicate 2 sec0)
abbrev lv1 : List Blk := [⟨sec0, [sec 1], false⟩, ⟨sec0, [], false⟩]
abbrev lv2 : List Blk := [⟨sec0, [sec 1, sec 2], false⟩, ⟨sec0, [], false⟩]
abbrev lv3 : List Blk := [⟨sec 1, [], false⟩, ⟨sec0, [], false⟩]
theorem row_u8D : isRowB Try.prog 5 = some false := by kernel_rfl
section
variable (w : World) (L : List HP) (d : Nat)
theorem live_new (hO : Own w L) : Calls Try.prog 14 #[.int .i64 2] w (RetX w (fun d : Nat => .pointer (some ⟨d, 0, none⟩)) (fun d => diskP d lv0 :: L)) := new_ok w L 2 hO (by decide) (by decide)
theorem live_s1 (hO : Own w L) : Calls Try.prog 10 #[.int .u8 1] w (Ret w (secV (sec 1)) L) := sector_c w L 1 hO
theorem live_s2 (hO : Own w L) : Calls Try.prog 10 #[.int .u8 2] w (Ret w (secV (sec 2)) L) := sector_c w L 2 hO
theorem live_w1 (hO : Own w (diskP d lv0 :: L)) : Calls Try.prog 19 #[.pointer (some ⟨d, 0, none⟩), .int .i64 0, secV (sec 1)] w (Ret w (.int .i64 0) (diskP d lv1 :: L)) := write_ok w L d lv0 0 ⟨sec0, [], false⟩ (sec 1) hO rfl rfl rfl (by decide)
theorem live_w2 (hO : Own w (diskP d lv1 :: L)) : Calls Try.prog 19 #[.pointer (some ⟨d, 0, none⟩), .int .i64 0, secV (sec 2)] w (Ret w (.int .i64 0) (diskP d lv2 :: L)) := write_ok w L d lv1 0 ⟨sec0, [sec 1], false⟩ (sec 2) hO rfl rfl rfl (by decide)
theorem live_v (hO : Own w (diskP d lv2 :: L)) : Calls Try.prog 22 #[.pointer (some ⟨d, 0, none⟩), .int .i64 0] w (Ret w (.int .i64 2) (diskP d lv2 :: L)) := versions_c w L d lv2 0 hO
theorem live_c (g : Nat) (hO : Own w (diskP d lv2 :: L)) (hg : ∀ w', Own w' L → Rd w' 1 (.slice (some ⟨g, 0, none⟩) 1 1) 1 [.int .i64 1]) : Calls Try.prog 20 #[.pointer (some ⟨d, 0, none⟩), .slice (some ⟨g, 0, none⟩) 1 1] w (Ret w (.int .i64 0) (diskP d lv3 :: L)) := crash_c w L d lv2 _ [1] hO (by decide) (fun b hb => by simp at hb; rcases hb with rfl | rfl <;> simp) hg
theorem live_r (hO : Own w (diskP d lv3 :: L)) : Calls Try.prog 21 #[.pointer (some ⟨d, 0, none⟩), .int .i64 0] w (Ret w (.tuple #[secV (sec 1), .int .i64 0]) (diskP d lv3 :: L)) := read_ok w L d lv3 0 ⟨sec 1, [], false⟩ hO rfl
theorem live_z (hO : Own w (diskP d lv3 :: L)) : Calls Try.prog 27 #[.pointer (some ⟨d, 0, none⟩)] w (Ret w (.int .i64 2) (diskP d lv3 :: L)) := size_c w L d lv3 hO
theorem live3_c (hO : Own w L) : Calls Try.prog 13 #[] w (fun e w' => e = .returned (.bool true) ∧ Own w' L ∧ Same w w') := by
  have hS := Same.refl w
  go_enter Try.func13, Try.ntmps13
  go_upto_region 3 with (first | (go_at_call 14; (with_reducible refine Calls.mono (live_new _ _ hO) ?_); clear hO; rintro e u ⟨d, rfl, hO, hSn⟩; replace hS := hS.trans hSn; clear hSn) | (go_at_call 10; (with_reducible refine Calls.mono (live_s1 _ _ hO) ?_); clear hO; rintro e u ⟨rfl, hO, hSn⟩; replace hS := hS.trans hSn; clear hSn) | (go_at_call 19; (with_reducible refine Calls.mono (live_w1 _ _ d hO) ?_); clear hO; rintro e u ⟨rfl, hO, hSn⟩; replace hS := hS.trans hSn; clear hSn))
  go_upto_region 5 with (first | (go_at_call 10; (with_reducible refine Calls.mono (live_s2 _ _ hO) ?_); clear hO; rintro e u ⟨rfl, hO, hSn⟩; replace hS := hS.trans hSn; clear hSn) | (go_at_call 19; (with_reducible refine Calls.mono (live_w2 _ _ d hO) ?_); clear hO; rintro e u ⟨rfl, hO, hSn⟩; replace hS := hS.trans hSn; clear hSn) | (go_at_call 22; (with_reducible refine Calls.mono (live_v _ _ d hO) ?_); clear hO; rintro e u ⟨rfl, hO, hSn⟩; replace hS := hS.trans hSn; clear hSn))
  go_upto_region 7 with (first | (go_at_call 20; (with_reducible refine Calls.mono (live_c _ _ d _ (own_perm (own_alloc_new hO (.cells #[.int .i64 1] 3)) (List.Perm.swap _ _ _)) (fun w' h => rd_block (own_pts h) rfl (by decide) (by decide) (by decide))) ?_); clear hO; rintro e u ⟨rfl, hO, hSn⟩; replace hS := (hS.trans (Same.alloc _ _)).trans hSn; clear hSn) | (go_at_call 21; (with_reducible refine Calls.mono (live_r _ _ d hO) ?_); clear hO; rintro e u ⟨rfl, hO, hSn⟩; replace hS := hS.trans hSn; clear hSn) | (refine own_alloc (T := 26) rfl rfl zero_sec rfl hO ?_; clear hO; intro ga u hO hSn; replace hS := hS.trans hSn; clear hSn) | (refine own_store_all (k := 0) rfl rfl rfl rfl sz_sec hO rfl (secA_size (by simp)) (by rfl) (bcs_all _) ?_; clear hO; intro u hO hSn; replace hS := hS.trans hSn; clear hSn; simp only [List.set_cons_zero, List.set_cons_succ] at hO))
  obtain ⟨gg, hO⟩ : ∃ gg, Own u (pts ga (.cells (bcs (sec 1)).toArray 26) :: diskP d lv3 :: pts gg (.cells #[.int .i64 1] 3) :: L) := ⟨_, hO⟩
  refine wp_plain_seq (Cls u (pts ga (.cells (bcs (sec 1)).toArray 26) :: diskP d lv3 :: pts gg (.cells #[.int .i64 1] 3) :: L)) 20 (cls_here hO) ?_
  simp only [List.append_eq, List.cons_append, List.nil_append, List.take_succ_cons, List.take_zero]
  repeat (first
    | (apply wv_skip rfl; simp only [Act.put, List.setIfInBounds_toArray, List.set_cons_zero, List.set_cons_succ])
    | (apply wv_load1 rfl rfl rfl; (first | exact row_int | exact row_str | exact row_bool | exact row_u8 | exact row_bys | exact row_pats | exact row_err); (intro w h; (first | exact own_get 0 h.1 rfl | exact own_get 1 h.1 rfl | exact own_get 2 h.1 rfl | exact own_get 3 h.1 rfl | exact own_get 4 h.1 rfl | exact own_get 5 h.1 rfl | exact own_get 6 h.1 rfl | exact own_get 7 h.1 rfl)); (first | (simp only [List.getElem?_toArray, List.getElem?_cons_succ, List.getElem?_cons_zero]; rfl) | rfl); simp only [Act.put, List.setIfInBounds_toArray, List.set_cons_zero, List.set_cons_succ])
    | (apply wv_loadrow rfl rfl rfl; (first | exact row_pat); exact sz_pat; (intro w h; (first | exact own_get 0 h.1 rfl | exact own_get 1 h.1 rfl | exact own_get 2 h.1 rfl | exact own_get 3 h.1 rfl | exact own_get 4 h.1 rfl | exact own_get 5 h.1 rfl | exact own_get 6 h.1 rfl | exact own_get 7 h.1 rfl)); (focus (simp; done)); (first | (simp only [List.drop_zero, List.drop_succ_cons, List.take_succ_cons, List.take_zero]; rfl) | rfl); simp only [Act.put, List.setIfInBounds_toArray, List.set_cons_zero, List.set_cons_succ])
    | (refine wv_load1 (b := ga) (off := 3) (cs := (bcs (sec 1)).toArray) (t := 26) (v := .int .u8 1) rfl rfl rfl row_u8D (fun w h => own_get 0 h.1 rfl) rfl ?_; simp only [Act.put, List.setIfInBounds_toArray, List.set_cons_zero, List.set_cons_succ])
    | (apply wv_run rfl; (focus (intro w h; go_simp; first | done | rfl)); simp only [Act.put, List.setIfInBounds_toArray, List.set_cons_zero, List.set_cons_succ])
    | (apply wv_call rfl; (focus (intro w; go_simp; first | done | exact ⟨rfl, rfl⟩)); (focus (intro w h; apply cls_call h; exact call_at 1 (fun L' h => live_z _ L' d h) rfl h.1)); simp only [Act.put, List.setIfInBounds_toArray, List.set_cons_zero, List.set_cons_succ]))
  refine wv_nil ?_
  simp only [List.drop_succ_cons, List.drop_zero]
  intro w9 ⟨hO9, hS9⟩
  clear hO
  go_wp2
  go_ret
  exact ⟨rfl, own_drop (own_drop (own_drop hO9)), hS.trans hS9⟩
end
end Go.Proofs.Ytjilkbkafigloaa.H
