/- StackNone: the walk. -/
import Derived.Test.YtdcbfdepkbplbaaS21
import Derived.Test.YtdcbfdepkbplbaaA3
import Derived.Test.YtdcbfdepkbplbaaH9
set_option linter.unusedVariables false
set_option linter.unusedSimpArgs false
set_option maxRecDepth 100000
namespace Go.Proofs.Ytdcbfdepkbplbaa.H
open Go.RowKit
theorem row_ints : isRowB Try.prog 24 = some false := by kernel_rfl
set_option maxHeartbeats 2400000 in
theorem none_c (w : World) (d : Dd) (A : Option Addr) (n c : Nat) (l : List UInt8) (hl : n = l.length) (hr : Rd w 1 (.slice A n c) n (bcs l)) :
    Calls Try.prog 10 #[.agg d.cells.toArray, .slice A n c] w (fun e w' => e = .returned (.bool true) ∧ Below w.heap.size w w') := by
  subst hl
  have HRD := Lib.hid hr
  have hO : Own w [snap w] := own_snap
  clear hr
  obtain ⟨kd, dn, dm, ⟨db, dof, dd⟩, dv, dl⟩ := d
  show Calls _ _ #[.agg #[.int .i64 kd, .int .i64 dn, .int .i64 dm, .int .i64 db, .int .i64 dof, .string dd, dv], _] _ _
  have HL : Hid (l.length = 32 ∨ l.length ≠ 32) := Decidable.em _
  go_enter Try.func10, Try.ntmps10
  go_upto_region 6 with (first | (refine own_box_agg (x := .tmp 0) rfl rfl rfl hO ?_; clear hO; intro b w1 hO hS1) | (refine own_loadrow (b := b) (off := 3) (cs := #[.int .i64 kd, .int .i64 dn, .int .i64 dm, .int .i64 db, .int .i64 dof, .string dd, dv]) (t := 42) (vs := [.int .i64 db, .int .i64 dof, .string dd]) rfl rfl rfl row_pat sz_pat (own_get 0 hO rfl) (by simp) rfl ?_) | (refine own_load1 (b := b) (off := 6) (cs := #[.int .i64 kd, .int .i64 dn, .int .i64 dm, .int .i64 db, .int .i64 dof, .string dd, dv]) (t := 42) (v := dv) rfl rfl rfl row_ints (own_get 0 hO rfl) rfl ?_) | (refine own_load1 (b := b) (off := 1) (cs := #[.int .i64 kd, .int .i64 dn, .int .i64 dm, .int .i64 db, .int .i64 dof, .string dd, dv]) (t := 42) (v := .int .i64 dn) rfl rfl rfl row_int (own_get 0 hO rfl) rfl ?_) | (refine own_load1 (b := b) (off := 6) (cs := #[.int .i64 kd, .int .i64 dn, .int .i64 dm, .int .i64 db, .int .i64 dof, .string dd, dv]) (t := 42) (v := dv) rfl rfl rfl row_ints (own_get 1 hO rfl) rfl ?_) | (refine own_load1 (b := b) (off := 1) (cs := #[.int .i64 kd, .int .i64 dn, .int .i64 dm, .int .i64 db, .int .i64 dof, .string dd, dv]) (t := 42) (v := .int .i64 dn) rfl rfl rfl row_int (own_get 1 hO rfl) rfl ?_) | (go_at_call 25; (with_reducible refine (push_nil _ _ db dof dd hO).mono ?_); clear hO; rintro e1 w2 ⟨rfl, hO, hS2⟩) | (go_at_call 27; (with_reducible refine (pop_nil _ _ hO).mono ?_); clear hO; rintro e2 w3 ⟨rfl, hO, hS3⟩) | (refine own_alloc (T := 33) rfl rfl zero_pat rfl hO ?_; clear hO; intro g3 w4 hO hS4) | (refine own_store_all (k := 0) rfl rfl rfl rfl sz_pat hO rfl rfl rfl rfl ?_; clear hO; intro w5 hO hS5; simp only [List.set_cons_zero] at hO) | (go_at_call 17; (with_reducible refine (roll_nil _ _ dv hO).mono ?_); clear hO; rintro e3 w6 ⟨rfl, hO, hS6⟩) | (go_at_call 26; (with_reducible refine (under_nil _ _ (.int .i64 dn) hO).mono ?_); clear hO; rintro e4 w7 ⟨rfl, hO, hS7⟩))
  go_upto_region 7 with (first | (refine own_load1 (b := b) (off := 1) (cs := #[.int .i64 kd, .int .i64 dn, .int .i64 dm, .int .i64 db, .int .i64 dof, .string dd, dv]) (t := 42) (v := .int .i64 dn) rfl rfl rfl row_int (own_get 1 hO rfl) rfl ?_) | (go_at_call 14; (with_reducible refine (get_nil _ _ (.int .i64 dn) hO).mono ?_); clear hO; rintro e5 w8 ⟨rfl, hO, hS8⟩) | (refine own_alloc (T := 33) rfl rfl zero_pat rfl hO ?_; clear hO; intro g4 w9 hO hS9) | (refine own_store_all (k := 0) rfl rfl rfl rfl sz_pat hO rfl rfl rfl rfl ?_; clear hO; intro w10 hO hS10; simp only [List.set_cons_zero] at hO))
  refine wp_plain_seq (Cls w10 (pts g4 (.cells #[.int .i64 0, .int .i64 0, .string ⟨#[]⟩] 33) :: pts g3 (.cells #[.int .i64 0, .int .i64 0, .string ⟨#[]⟩] 33) :: pts b (.cells #[.int .i64 kd, .int .i64 dn, .int .i64 dm, .int .i64 db, .int .i64 dof, .string dd, dv] 42) :: [snap w])) 88 (cls_here hO) ?_
  simp only [List.append_eq, List.cons_append, List.nil_append, List.take_succ_cons, List.take_zero]
  repeat (first
    | (apply wv_skip rfl; simp only [Act.put, List.setIfInBounds_toArray, List.set_cons_zero, List.set_cons_succ])
    | (apply wv_load1 rfl rfl rfl; (first | exact row_int | exact row_str | exact row_bool | exact row_u8 | exact row_bys | exact row_pats | exact row_err); (intro w h; (first | exact own_get 0 h.1 rfl | exact own_get 1 h.1 rfl | exact own_get 2 h.1 rfl | exact own_get 3 h.1 rfl | exact own_get 4 h.1 rfl | exact own_get 5 h.1 rfl | exact own_get 6 h.1 rfl | exact own_get 7 h.1 rfl)); (first | (simp only [List.getElem?_toArray, List.getElem?_cons_succ, List.getElem?_cons_zero]; rfl) | rfl); simp only [Act.put, List.setIfInBounds_toArray, List.set_cons_zero, List.set_cons_succ])
    | (apply wv_loadrow rfl rfl rfl; (first | exact row_pat); exact sz_pat; (intro w h; (first | exact own_get 0 h.1 rfl | exact own_get 1 h.1 rfl | exact own_get 2 h.1 rfl | exact own_get 3 h.1 rfl | exact own_get 4 h.1 rfl | exact own_get 5 h.1 rfl | exact own_get 6 h.1 rfl | exact own_get 7 h.1 rfl)); (focus (simp; done)); (first | (simp only [List.drop_zero, List.drop_succ_cons, List.take_succ_cons, List.take_zero]; rfl) | rfl); simp only [Act.put, List.setIfInBounds_toArray, List.set_cons_zero, List.set_cons_succ])
    | (refine wv_loadrow (b := g3) (off := 0) (cs := #[.int .i64 0, .int .i64 0, .string ⟨#[]⟩]) (t := 33) (vs := [.int .i64 0, .int .i64 0, .string ⟨#[]⟩]) rfl rfl rfl row_pat sz_pat (fun w h => own_get 1 h.1 rfl) (by simp) rfl ?_; simp only [Act.put, List.setIfInBounds_toArray, List.set_cons_zero, List.set_cons_succ])
    | (refine wv_load1 (b := b) (off := 6) (cs := #[.int .i64 kd, .int .i64 dn, .int .i64 dm, .int .i64 db, .int .i64 dof, .string dd, dv]) (t := 42) (v := dv) rfl rfl rfl row_ints (fun w h => own_get 2 h.1 rfl) rfl ?_; simp only [Act.put, List.setIfInBounds_toArray, List.set_cons_zero, List.set_cons_succ])
    | (refine wv_load1 (b := b) (off := 1) (cs := #[.int .i64 kd, .int .i64 dn, .int .i64 dm, .int .i64 db, .int .i64 dof, .string dd, dv]) (t := 42) (v := .int .i64 dn) rfl rfl rfl row_int (fun w h => own_get 2 h.1 rfl) rfl ?_; simp only [Act.put, List.setIfInBounds_toArray, List.set_cons_zero, List.set_cons_succ])
    | (refine wv_load1 (b := b) (off := 2) (cs := #[.int .i64 kd, .int .i64 dn, .int .i64 dm, .int .i64 db, .int .i64 dof, .string dd, dv]) (t := 42) (v := .int .i64 dm) rfl rfl rfl row_int (fun w h => own_get 2 h.1 rfl) rfl ?_; simp only [Act.put, List.setIfInBounds_toArray, List.set_cons_zero, List.set_cons_succ])
    | (apply wv_run rfl; (focus (intro w h; go_simp; first | done | rfl)); simp only [Act.put, List.setIfInBounds_toArray, List.set_cons_zero, List.set_cons_succ])
    | (apply wv_call rfl; (focus (intro w; go_simp; first | done | exact ⟨rfl, rfl⟩)); (focus (intro w h; apply cls_call h; (first | exact live_c _ _ h.1 | exact settle_nil _ _ dv h.1 | exact squash_nil _ _ dn dm h.1 | exact bytes_nil _ _ h.1 | exact base_nil _ _ h.1 | exact waiting_nil _ _ h.1 | exact needs_nil _ _ (.int .i64 dn) h.1 | exact fork_nil _ _ h.1))); simp only [Act.put, List.setIfInBounds_toArray, List.set_cons_zero, List.set_cons_succ]))
  refine wv_nil ?_
  simp only [List.drop_succ_cons, List.drop_zero]
  intro w11 ⟨hO11, hS11⟩
  clear hO
  rcases HL.out with h32 | h32
  · have hne : ((l.length : Int) != 32) = false := by simp; omega
    have H32 : Hid (l.length = 32) := h32
    clear h32
    go_wp2_with (go_at_call 31; refine (new_c _ _ _ l hO11 (fun w' h => rd_snap HRD.out h (k := 3) rfl) H32.out).mono ?_; clear hO11; rintro e14 w19 ⟨p, rfl, hO, hS19⟩; simp only)
    go_ret
    exact ⟨rfl, below_of (own_at hO (k := 4) rfl) (hS1.trans (hS2.trans (hS3.trans (hS4.trans (hS5.trans (hS6.trans (hS7.trans (hS8.trans (hS9.trans (hS10.trans (hS11.trans hS19)))))))))))⟩
  · have hne : ((l.length : Int) != 32) = true := by simp; omega
    have H32 : Hid (l.length ≠ 32) := h32
    clear h32
    go_wp2_with (go_at_call 31; refine (new_no _ _ _ l.length c hO11 H32.out).mono ?_; clear hO11; rintro e14 w19 ⟨rfl, hO, hS19⟩; simp only)
    go_ret
    exact ⟨rfl, below_of (own_at hO (k := 3) rfl) (hS1.trans (hS2.trans (hS3.trans (hS4.trans (hS5.trans (hS6.trans (hS7.trans (hS8.trans (hS9.trans (hS10.trans (hS11.trans hS19)))))))))))⟩
end Go.Proofs.Ytdcbfdepkbplbaa.H
