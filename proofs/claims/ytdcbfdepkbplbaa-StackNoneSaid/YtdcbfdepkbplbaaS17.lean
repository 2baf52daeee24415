/- Contract of Squash. -/
import Derived.Test.YtdcbfdepkbplbaaS16
import Derived.Test.YtdcbfdepkbplbaaH8
set_option linter.unusedVariables false
set_option linter.unusedSimpArgs false
set_option maxRecDepth 100000
namespace Go.Proofs.Ytdcbfdepkbplbaa.H
open Go.RowKit
theorem zero_i64 : (Try.prog.info? 3).map (·.zero) = some (some (.int .i64 0)) := by kernel_rfl
theorem place_x (w : World) (L : List HP) (p : Nat) (v : Value) (cs : List Cl) (byt : List UInt8) (next : Nat) (n : Int) (r : Int) (hr0 : placeOf cs n = r) (hO : Own w L) (hr : ∀ w', Own w' L → StkAt w' p v cs byt next) (hk : CsOk cs byt) (hn : i64 n) (x : Value) (hx : x = .int .i64 n) :
    Calls Try.prog 34 #[.pointer (some ⟨p, 0, none⟩), x] w (Ret w (.int .i64 r) L) := by
  subst hx hr0
  exact place_c w L p v cs byt next n hO hr hk.asc hk.lim hk.len hk.byt hn
/-- What is owned while Squash's two places are sought. -/
def sqL (L : List HP) (r2 : Int) (k b : Nat) : List HP := match k with
  | 0 => L
  | 1 => pts b (.cells #[.int .i64 0] 3) :: L
  | 2 => pts b (.cells #[.int .i64 0] 3) :: L
  | _ => pts b (.cells #[.int .i64 r2] 3) :: L
theorem sqL_sub {w : World} {L : List HP} {r2 : Int} {k b : Nat} (h : Own w (sqL L r2 k b)) : Own w L := by
  unfold sqL at h
  split at h
  · exact h
  · exact own_drop h
  · exact own_drop h
  · exact own_drop h
section
variable (w : World) (L : List HP) (p : Nat) (m : Stk) (into n : Int)
set_option maxHeartbeats 1600000 in
theorem squash_noent (hO : Own w (stk p m :: L)) (hk : m.Ok) (hi : i64 into) (hn : i64 n) (r1 r2 : Int) (h : ∀ cs, Reps m cs → placeOf cs into = r1 ∧ placeOf cs n = r2) (hneg : r1 < 0 ∨ r2 < 0) :
    Calls Try.prog 21 #[.pointer (some ⟨p, 0, none⟩), .int .i64 into, .int .i64 n] w (Ret w (.int .i64 5) (stk p m :: L)) := by
  obtain ⟨v, cs, hrep, hO⟩ := stk_open.1 hO
  have HREP := Lib.hid hrep
  have HK := Lib.hid hk
  have HI : Hid (i64 into) := hi
  have HN : Hid (i64 n) := hn
  have HP := Lib.hid (h cs hrep)
  clear hrep hk hi hn h
  have key : (decide (r1 < 0) = true) ∨ (decide (r1 < 0) = false ∧ decide (r2 < 0) = true) := by
    by_cases h1 : r1 < 0
    · exact .inl (by simpa using h1)
    · exact .inr ⟨by simpa using h1, by simp; omega⟩
  clear hneg
  rcases key with k1 | ⟨k1, k2⟩
  all_goals
    go_enter Try.func21, Try.ntmps21
    go_upto_region 3 with (first | (refine own_box (x := .tmp 0) (cs := #[.pointer (some ⟨p, 0, none⟩)]) rfl rfl rfl rfl hO ?_; clear hO; intro bs w1 hO hS1) | (refine own_load1 (b := bs) (off := 0) (cs := #[.pointer (some ⟨p, 0, none⟩)]) (t := 25) (v := .pointer (some ⟨p, 0, none⟩)) rfl rfl rfl row_sptr (own_get 0 hO rfl) rfl ?_))
    have HSUB : Hid (∀ (k b : Nat) w', Own w' (sqL (pts bs (.cells #[.pointer (some ⟨p, 0, none⟩)] 25) :: (stkL p v cs m.bytes m.next ++ L)) r2 k b) → Own w' (pts bs (.cells #[.pointer (some ⟨p, 0, none⟩)] 25) :: (stkL p v cs m.bytes m.next ++ L))) := fun k b w' h => sqL_sub h
    refine wp_region_mixS (α := Nat) (fun k x => Cls w1 ((sqL (pts bs (.cells #[.pointer (some ⟨p, 0, none⟩)] 25) :: (stkL p v cs m.bytes m.next ++ L)) r2) k x)) 0 6 96 (List.range 6) mixed (by kernel_rfl) rfl (cls_drew hO) (fun _ _ _ _ hd h => ⟨hd ▸ h.1, h.2⟩) ?_
    simp only [List.take_succ_cons, List.take_zero]
    repeat (first
      | (refine ms_free rfl (fun kk xx => y_skip rfl) ?_; simp only [Act.put, List.setIfInBounds_toArray, List.set_cons_zero, List.set_cons_succ])
      | (refine ms_free rfl (fun kk xx => y_load1 (b := bs) (cs := #[.pointer (some ⟨p, 0, none⟩)]) (t := 25) (v := .pointer (some ⟨p, 0, none⟩)) rfl rfl rfl row_sptr (fun w h => own_get 0 (HSUB.out _ _ _ h.1) rfl) rfl) ?_; simp only [Act.put, List.setIfInBounds_toArray, List.set_cons_zero, List.set_cons_succ])
      | (refine ms_free rfl (fun kk xx => y_run rfl (by intro w h; go_simp; first | done | rfl)) ?_; simp only [Act.put, List.setIfInBounds_toArray, List.set_cons_zero, List.set_cons_succ])
      | (refine ms_free rfl (fun kk xx => y_call rfl (by intro w h; go_simp; first | done | exact ⟨rfl, rfl⟩) (by intro w h; apply cls_call h; (first | exact place_x _ _ p v cs m.bytes m.next into r1 HP.out.1 h.1 (fun w' h => stkAt_of (own_drop (HSUB.out _ _ _ h))) (HREP.out.csok HK.out) HI.out _ rfl | exact place_x _ _ p v cs m.bytes m.next n r2 HP.out.2 h.1 (fun w' h => stkAt_of (own_drop (HSUB.out _ _ _ h))) (HREP.out.csok HK.out) HN.out _ rfl))) ?_; simp only [Act.put, List.setIfInBounds_toArray, List.set_cons_zero, List.set_cons_succ]))
    refine ms_nil ?_
    simp only [List.drop_succ_cons, List.drop_zero]
    intro w5 h5
    refine own_alloc (T := 3) (cs := #[.int .i64 0]) rfl rfl zero_i64 rfl h5.1 ?_
    intro bk w6 hO6 hS6
    refine wpList_nil ⟨bk, ⟨hO6, h5.2.trans hS6⟩, ?_⟩
    clear hO hO6
    simp only [Act.put, List.setIfInBounds_toArray, List.set_cons_zero, List.set_cons_succ]
    intro w7 h7
    refine ev (v := .int .i64 r1) (w1 := w7) rfl (by go_simp; first | done | exact ⟨rfl, rfl⟩ | rfl) ?_
    refine wpList_nil ⟨bk, h7, ?_⟩
    simp only [Act.put, List.setIfInBounds_toArray, List.set_cons_zero, List.set_cons_succ]
    intro w8 h8
    refine own_store1 (k := 0) (b := bk) (off := 0) (cs := #[.int .i64 0]) (cs' := #[.int .i64 r2]) rfl rfl rfl rfl sz_i64 h8.1 rfl rfl (by simp) rfl ?_
    intro w9 hO9 hS9
    refine wpList_nil ⟨bk, ⟨hO9, h8.2.trans hS9⟩, ?_⟩
    clear hO9
    simp only [Act.put, List.setIfInBounds_toArray, List.set_cons_zero, List.set_cons_succ]
    intro w10 ⟨hO, hS10⟩
    have hO : Own w10 (pts bk (.cells #[.int .i64 r2] 3) :: pts bs (.cells #[.pointer (some ⟨p, 0, none⟩)] 25) :: (stkL p v cs m.bytes m.next ++ L)) := hO
    simp only [Exit.then]
    trace_state
    go_wp2_with (first | (refine own_load1 (b := bk) (off := 0) (cs := #[.int .i64 r2]) (t := 3) (v := .int .i64 r2) rfl rfl rfl row_int (own_get 0 hO rfl) rfl ?_))
    go_ret
    exact ⟨rfl, stk_open.2 ⟨v, cs, HREP.out, own_drop (own_drop hO)⟩, hS1.trans hS10⟩
end
end Go.Proofs.Ytdcbfdepkbplbaa.H
