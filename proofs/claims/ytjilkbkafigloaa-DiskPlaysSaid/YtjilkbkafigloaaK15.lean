/- DiskNone's walk. -/
import Derived.Test.YtjilkbkafigloaaK14
set_option linter.unusedVariables false
set_option linter.unusedSimpArgs false
set_option maxRecDepth 100000
namespace Go.Proofs.Ytjilkbkafigloaa.H
open Go.RowKit
theorem fork_nil (w : World) (L : List HP) (hO : Own w L) : Calls Try.prog 24 #[.pointer none] w (Ret w (.pointer none) L) := by
  go_enter Try.func24, Try.ntmps24
  go_wp2
  go_ret
  exact ⟨rfl, hO, Same.refl _⟩
theorem live4_c (w : World) (L : List HP) (hO : Own w L) : Calls Try.prog 13 #[] w (Ret w (.bool true) L) := live3_c w L hO
set_option maxHeartbeats 3200000 in
theorem none_walk (w : World) (kd di dc : Int) (A : Option Addr) (n c : Nat) (db : Bool) : Calls Try.prog 9 #[.agg #[.int .i64 kd, .int .i64 di, .int .u8 dc, .slice A n c, .bool db]] w (fun e w' => e = .returned (.bool true) ∧ Below w.heap.size w w') := by
  have hS := Same.refl w
  have hO := own_snap (w := w)
  obtain ⟨i0, hi0⟩ := u8_info
  have HE : Hid (∀ w', (Op.equalIn 10000 26 (secV sec0) (secV sec0)).run Try.prog w' = .ok true w') := Lib.hid fun w' => by
    have h := eq_sec w' (n := 0) und_sec hi0 9998 (a := sec0) (b := sec0) (by simp) (by simp)
    simpa using h
  clear hi0
  go_enter Try.func9, Try.ntmps9
  go_upto_region 4 with (first | (refine own_box_agg (x := .tmp 0) rfl rfl rfl hO ?_; clear hO; intro b u hO hSn; replace hS := hS.trans hSn; clear hSn) | (go_at_call 21; (with_reducible refine Calls.mono (read_nil _ _ di hO) ?_); clear hO; rintro e u ⟨rfl, hO, hSn⟩; replace hS := hS.trans hSn; clear hSn) | (go_at_call 18; (with_reducible refine Calls.mono (lasting_nil _ _ di hO) ?_); clear hO; rintro e u ⟨rfl, hO, hSn⟩; replace hS := hS.trans hSn; clear hSn) | (refine own_load1 (b := b) (off := 1) (cs := #[.int .i64 kd, .int .i64 di, .int .u8 dc, .slice A n c, .bool db]) (t := 50) (v := .int .i64 di) rfl rfl rfl row_int (by first | exact own_get 0 hO rfl | exact own_get 1 hO rfl) rfl ?_) | (refine own_alloc (T := 26) rfl rfl zero_sec rfl hO ?_; clear hO; intro ga u hO hSn; replace hS := hS.trans hSn; clear hSn) | (refine own_store_all (k := 0) rfl rfl rfl rfl sz_sec hO rfl (secA_size (by simp)) (by rfl) (bcs_all _) ?_; clear hO; intro u hO hSn; replace hS := hS.trans hSn; clear hSn; simp only [List.set_cons_zero, List.set_cons_succ] at hO))
  refine wp_plain_seq (Cls u (_)) 58 (cls_here hO) ?_
  simp only [List.append_eq, List.cons_append, List.nil_append, List.take_succ_cons, List.take_zero]
  repeat (first
    | (apply wv_skip rfl; simp only [Act.put, List.setIfInBounds_toArray, List.set_cons_zero, List.set_cons_succ])
    | (apply wv_load1 rfl rfl rfl; (first | exact row_int | exact row_str | exact row_bool | exact row_u8 | exact row_bys | exact row_pats | exact row_err); (intro w h; (first | exact own_get 0 h.1 rfl | exact own_get 1 h.1 rfl | exact own_get 2 h.1 rfl | exact own_get 3 h.1 rfl | exact own_get 4 h.1 rfl | exact own_get 5 h.1 rfl | exact own_get 6 h.1 rfl | exact own_get 7 h.1 rfl)); (first | (simp only [List.getElem?_toArray, List.getElem?_cons_succ, List.getElem?_cons_zero]; rfl) | rfl); simp only [Act.put, List.setIfInBounds_toArray, List.set_cons_zero, List.set_cons_succ])
    | (apply wv_loadrow rfl rfl rfl; (first | exact row_pat); exact sz_pat; (intro w h; (first | exact own_get 0 h.1 rfl | exact own_get 1 h.1 rfl | exact own_get 2 h.1 rfl | exact own_get 3 h.1 rfl | exact own_get 4 h.1 rfl | exact own_get 5 h.1 rfl | exact own_get 6 h.1 rfl | exact own_get 7 h.1 rfl)); (focus (simp; done)); (first | (simp only [List.drop_zero, List.drop_succ_cons, List.take_succ_cons, List.take_zero]; rfl) | rfl); simp only [Act.put, List.setIfInBounds_toArray, List.set_cons_zero, List.set_cons_succ])
    | (refine wv_load1 (b := b) (off := 1) (cs := #[.int .i64 kd, .int .i64 di, .int .u8 dc, .slice A n c, .bool db]) (t := 50) (v := .int .i64 di) rfl rfl rfl row_int (fun w h => own_get 2 h.1 rfl) rfl ?_; simp only [Act.put, List.setIfInBounds_toArray, List.set_cons_zero, List.set_cons_succ])
    | (refine wv_load1 (b := b) (off := 3) (cs := #[.int .i64 kd, .int .i64 di, .int .u8 dc, .slice A n c, .bool db]) (t := 50) (v := .slice A n c) rfl rfl rfl row_intsD (fun w h => own_get 2 h.1 rfl) rfl ?_; simp only [Act.put, List.setIfInBounds_toArray, List.set_cons_zero, List.set_cons_succ])
    | (refine wv_loadrow (off := 0) (cs := (bcs sec0).toArray) (t := 26) (vs := bcs sec0) rfl rfl rfl row_sec sz_sec (fun w h => by first | exact own_get 0 h.1 rfl | exact own_get 1 h.1 rfl) (by simp [bcs_length]) (by rw [List.drop_zero]; exact List.take_of_length_le (by simp [bcs_length])) ?_; simp only [Act.put, List.setIfInBounds_toArray, List.set_cons_zero, List.set_cons_succ])
    | (apply wv_run rfl; (focus (intro w h; go_simp; simp only [HE.out w]; first | done | rfl)); simp only [Act.put, List.setIfInBounds_toArray, List.set_cons_zero, List.set_cons_succ])
    | (apply wv_run rfl; (focus (intro w h; go_simp; first | done | rfl)); simp only [Act.put, List.setIfInBounds_toArray, List.set_cons_zero, List.set_cons_succ])
    | (apply wv_call rfl; (focus (intro w; go_simp; first | done | exact ⟨rfl, rfl⟩)); (focus (intro w h; apply cls_call h; (first | exact live4_c _ _ h.1 | exact write_nil _ _ di sec0 h.1 | exact flush_nil _ _ h.1 | exact crash_nil _ _ (.slice A n c) rfl h.1 | exact spoil_nil _ _ di true h.1 | exact size_nil _ _ h.1 | exact versions_nil _ _ di h.1 | exact fork_nil _ _ h.1))); simp only [Act.put, List.setIfInBounds_toArray, List.set_cons_zero, List.set_cons_succ]))
  refine wv_nil ?_
  simp only [List.drop_succ_cons, List.drop_zero]
  intro w9 ⟨hO9, hS9⟩
  clear hO HE
  go_wp2
  go_ret
  exact ⟨rfl, below_of (own_drop (own_drop (own_drop hO9))) (hS.trans hS9)⟩
end Go.Proofs.Ytjilkbkafigloaa.H
