/- A nil stack. The program's Fork of a stack. Something that reads as a slice; calls on one of what is owned. Both stacks do the same. -/
import Derived.Test.YtdcbfdepkbplbaaZ14
import Derived.Test.YtdcbfdepkbplbaaZ20
import Derived.Laws.Tables
import Derived.Test.YtdcbfdepkbplbaaZ06
import Derived.Test.YtdcbfdepkbplbaaZ04
import Derived.Test.YtdcbfdepkbplbaaZ22
set_option linter.unusedVariables false
set_option linter.unusedSimpArgs false
set_option maxRecDepth 100000
namespace Go.Proofs.Ytdcbfdepkbplbaa.H
open Go.RowKit
section
variable (w : World) (L : List HP)
theorem place_nil (n : Value) (hO : Own w L) :
    Calls Try.prog 34 #[.pointer none, n] w (Ret w (.int .i64 (-1)) L) := by
  go_enter Try.func34, Try.ntmps34
  go_wp2
  go_ret
  exact ⟨rfl, hO, .refl _⟩
theorem chosen_nil (sv : Value) (hO : Own w L) :
    Calls Try.prog 36 #[.pointer none, sv] w (Ret w (.tuple #[.slice none 0 0, .int .i64 1]) L) := by
  go_enter Try.func36, Try.ntmps36
  go_wp2
  go_ret2
  exact ⟨rfl, hO, .refl _⟩
theorem bytes_nil (hO : Own w L) :
    Calls Try.prog 19 #[.pointer none] w (Ret w (.slice none 0 0) L) := by
  go_enter Try.func19, Try.ntmps19
  go_wp2
  go_ret
  exact ⟨rfl, hO, .refl _⟩
theorem waiting_nil (hO : Own w L) :
    Calls Try.prog 18 #[.pointer none] w (Ret w (.slice none 0 0) L) := by
  go_enter Try.func18, Try.ntmps18
  go_wp2
  go_ret
  exact ⟨rfl, hO, .refl _⟩
theorem fork_nil (hO : Own w L) :
    Calls Try.prog 28 #[.pointer none] w (Ret w (.pointer none) L) := by
  go_enter Try.func28, Try.ntmps28
  go_wp2
  go_ret
  exact ⟨rfl, hO, .refl _⟩
theorem needs_nil (n : Value) (hO : Own w L) :
    Calls Try.prog 15 #[.pointer none, n] w (Ret w (.slice none 0 0) L) := by
  go_enter Try.func15, Try.ntmps15
  go_wp2_with (go_at_call 34; refine (place_nil _ _ _ hO).mono ?_; clear hO; rintro e w5 ⟨rfl, hO, hS5⟩)
  go_ret
  exact ⟨rfl, hO, hS5⟩
theorem under_nil (n : Value) (hO : Own w L) :
    Calls Try.prog 26 #[.pointer none, n] w (Ret w (.tuple #[.string ⟨#[]⟩, .int .i64 1]) L) := by
  go_enter Try.func26, Try.ntmps26
  go_wp2
  go_ret2
  exact ⟨rfl, hO, .refl _⟩
theorem push_nil (a0 a1 : Int) (s : ByteArray) (hO : Own w L) :
    Calls Try.prog 25 #[.pointer none, .agg #[.int .i64 a0, .int .i64 a1, .string s]] w (Ret w (.tuple #[.int .i64 0, .int .i64 1]) L) := by
  go_enter Try.func25, Try.ntmps25
  go_wp2_with (first | (refine own_box_agg (x := .tmp 1) rfl rfl rfl hO ?_; clear hO; intro b w1 hO hS1) | (apply own_loadrow rfl rfl rfl; (first | exact row_pat); exact sz_pat; (first | exact own_get 0 hO rfl | exact own_get 1 hO rfl | exact own_get 2 hO rfl | exact own_get 3 hO rfl | exact own_get 4 hO rfl | exact own_get 5 hO rfl | exact own_get 6 hO rfl | exact own_get 7 hO rfl); (focus (simp; done)); (first | (simp only [List.drop_zero, List.drop_succ_cons, List.take_succ_cons, List.take_zero]; rfl) | rfl)))
  go_ret2
  exact ⟨rfl, own_drop hO, hS1⟩
theorem pop_nil (hO : Own w L) :
    Calls Try.prog 27 #[.pointer none] w (Ret w (.tuple #[.agg #[.int .i64 0, .int .i64 0, .string ⟨#[]⟩], .int .i64 1]) L) := by
  go_enter Try.func27, Try.ntmps27
  go_wp2_with (first | (refine own_alloc rfl rfl zero_pat rfl hO ?_; clear hO; intro g w2 hO hS2) | (refine own_store_all (k := 0) rfl rfl rfl rfl sz_pat hO rfl rfl rfl rfl ?_; clear hO; intro w6 hO hS6; simp only [List.set_cons_zero] at hO))
  exact bodyPost_ret (results_cell_tmp rfl rfl (own_get 0 hO rfl) row_pat sz_pat) rfl ⟨rfl, own_drop hO, hS2.trans hS6⟩
theorem get_nil (n : Value) (hO : Own w L) :
    Calls Try.prog 14 #[.pointer none, n] w (Ret w (.tuple #[.agg #[.int .i64 0, .int .i64 0, .string ⟨#[]⟩], .bool false]) L) := by
  go_enter Try.func14, Try.ntmps14
  go_wp2_with (first | (refine own_alloc rfl rfl zero_pat rfl hO ?_; clear hO; intro g w2 hO hS2) | (go_at_call 34; refine (place_nil _ _ _ hO).mono ?_; clear hO; rintro e w5 ⟨rfl, hO, hS5⟩) | (refine own_store_all (k := 0) rfl rfl rfl rfl sz_pat hO rfl rfl rfl rfl ?_; clear hO; intro w6 hO hS6; simp only [List.set_cons_zero] at hO))
  exact bodyPost_ret (results_cell_tmp rfl rfl (own_get 0 hO rfl) row_pat sz_pat) rfl ⟨rfl, own_drop hO, hS2.trans (hS5.trans hS6)⟩
theorem roll_nil (sv : Value) (hO : Own w L) :
    Calls Try.prog 17 #[.pointer none, sv] w (Ret w (.tuple #[.slice none 0 0, .int .i64 1]) L) := by
  go_enter Try.func17, Try.ntmps17
  go_wp2_with (first | (refine own_box (x := .tmp 0) (cs := #[.pointer none]) rfl rfl rfl rfl hO ?_; clear hO; intro bs w1 hO hS1) | (refine own_alloc (T := 22) (cs := #[.slice none 0 0]) rfl rfl zero_bys rfl hO ?_; clear hO; intro bout w2 hO hS2) | (refine own_alloc (T := 74) (cs := #[.slice none 0 0]) rfl rfl zero_bls rfl hO ?_; clear hO; intro bin w4 hO hS4) | (refine own_load1 (b := bs) (off := 0) (cs := #[.pointer none]) (t := 25) (v := .pointer none) rfl rfl rfl row_sptr (own_get 1 hO rfl) rfl ?_) | (go_at_call 36; refine (chosen_nil _ _ _ hO).mono ?_; clear hO; rintro e w3 ⟨rfl, hO, hS3⟩) | (refine own_store1 (k := 0) (b := bin) (off := 0) (cs := #[.slice none 0 0]) (cs' := #[.slice none 0 0]) rfl rfl rfl rfl sz_bls hO rfl rfl (by simp) rfl ?_; clear hO; intro w5 hO hS5; simp only [List.set_cons_zero, List.set_cons_succ] at hO) | (refine own_store1 (k := 1) (b := bout) (off := 0) (cs := #[.slice none 0 0]) (cs' := #[.slice none 0 0]) rfl rfl rfl rfl sz_bys hO rfl rfl (by simp) rfl ?_; clear hO; intro w6 hO hS6; simp only [List.set_cons_zero, List.set_cons_succ] at hO))
  exact bodyPost_ret (results_cell1_tmp rfl rfl (own_get 1 hO rfl) row_bys rfl) rfl ⟨rfl, own_drop (own_drop (own_drop hO)), hS1.trans (hS2.trans (hS3.trans (hS4.trans (hS5.trans hS6))))⟩
theorem base_nil (hO : Own w L) :
    Calls Try.prog 20 #[.pointer none] w (Ret w (.slice none 0 0) L) := by
  go_enter Try.func20, Try.ntmps20
  go_wp2_with (go_at_call 17; refine (roll_nil _ L _ hO).mono ?_; clear hO; rintro e w5 ⟨rfl, hO, hS5⟩)
  go_ret
  exact ⟨rfl, hO, hS5⟩
theorem settle_nil (sv : Value) (hO : Own w L) :
    Calls Try.prog 22 #[.pointer none, sv] w (Ret w (.int .i64 1) L) := by
  go_enter Try.func22, Try.ntmps22
  go_wp2_with (first | (refine own_box (x := .tmp 0) (cs := #[.pointer none]) rfl rfl rfl rfl hO ?_; clear hO; intro bs w1 hO hS1) | (refine own_alloc (T := 74) (cs := #[.slice none 0 0]) rfl rfl zero_bls rfl hO ?_; clear hO; intro bin w4 hO hS4) | (refine own_load1 (b := bs) (off := 0) (cs := #[.pointer none]) (t := 25) (v := .pointer none) rfl rfl rfl row_sptr (own_get 0 hO rfl) rfl ?_) | (go_at_call 36; refine (chosen_nil _ _ _ hO).mono ?_; clear hO; rintro e w3 ⟨rfl, hO, hS3⟩) | (refine own_store1 (k := 0) (b := bin) (off := 0) (cs := #[.slice none 0 0]) (cs' := #[.slice none 0 0]) rfl rfl rfl rfl sz_bls hO rfl rfl (by simp) rfl ?_; clear hO; intro w5 hO hS5; simp only [List.set_cons_zero, List.set_cons_succ] at hO))
  go_ret
  exact ⟨rfl, own_drop (own_drop hO), hS1.trans (hS3.trans (hS4.trans hS5))⟩
theorem squash_nil (i n : Int) (hO : Own w L) :
    Calls Try.prog 21 #[.pointer none, .int .i64 i, .int .i64 n] w (Ret w (.int .i64 1) L) := by
  go_enter Try.func21, Try.ntmps21
  go_wp2_with (first | (refine own_box (x := .tmp 0) (cs := #[.pointer none]) rfl rfl rfl rfl hO ?_; clear hO; intro bs w1 hO hS1) | (refine own_load1 (b := bs) (off := 0) (cs := #[.pointer none]) (t := 25) (v := .pointer none) rfl rfl rfl row_sptr (own_get 0 hO rfl) rfl ?_))
  go_ret
  exact ⟨rfl, own_drop hO, hS1⟩
end
end Go.Proofs.Ytdcbfdepkbplbaa.H
set_option linter.unusedVariables false
set_option linter.unusedSimpArgs false
set_option maxRecDepth 100000
namespace Go.Proofs.Ytdcbfdepkbplbaa.H
open Go.RowKit
theorem row_cell : isRowB Try.prog 67 = some true := by kernel_rfl
theorem sz_cell : (Try.prog.info? 67).map (·.size) = some 5 := by kernel_rfl
theorem zero_cell : (Try.prog.info? 67).map (·.zero) = some (some (.agg #[.int .i64 0, .int .i64 0, .string ⟨#[]⟩, .int .i64 0, .slice none 0 0])) := by kernel_rfl
theorem row_arr : isRowB Try.prog 69 = some true := by kernel_rfl
theorem sz_arr : (Try.prog.info? 69).map (·.size) = some 32 := by kernel_rfl
theorem row_bys23 : isRowB Try.prog 22 = some false := by kernel_rfl
theorem sz_bys23 : (Try.prog.info? 22).map (·.size) = some 1 := by kernel_rfl
theorem list32 {α : Type} {l : List α} (h : l.length = 32) : ∃ a0 a1 a2 a3 a4 a5 a6 a7 a8 a9 a10 a11 a12 a13 a14 a15 a16 a17 a18 a19 a20 a21 a22 a23 a24 a25 a26 a27 a28 a29 a30 a31, l = [a0, a1, a2, a3, a4, a5, a6, a7, a8, a9, a10, a11, a12, a13, a14, a15, a16, a17, a18, a19, a20, a21, a22, a23, a24, a25, a26, a27, a28, a29, a30, a31] := by
  match l, h with
  | [a0, a1, a2, a3, a4, a5, a6, a7, a8, a9, a10, a11, a12, a13, a14, a15, a16, a17, a18, a19, a20, a21, a22, a23, a24, a25, a26, a27, a28, a29, a30, a31], _ => exact ⟨a0, a1, a2, a3, a4, a5, a6, a7, a8, a9, a10, a11, a12, a13, a14, a15, a16, a17, a18, a19, a20, a21, a22, a23, a24, a25, a26, a27, a28, a29, a30, a31, rfl⟩
theorem built_srow (byt : List UInt8) (next : Nat) (hb : byt.length = 32) :
    Try.prog.built 72 [(0, .agg (bcs byt).toArray), (2, .int .i64 next)] = some (srow byt (.slice none 0 0) next) := by
  obtain ⟨a0, a1, a2, a3, a4, a5, a6, a7, a8, a9, a10, a11, a12, a13, a14, a15, a16, a17, a18, a19, a20, a21, a22, a23, a24, a25, a26, a27, a28, a29, a30, a31, rfl⟩ := list32 hb
  kernel_rfl
theorem y_build {P : Program} {ops : Array Oper} {C : World → Prop} {aF : Act} {o : Oper} {T : TypeId} {parts : Array (Nat × Operand)} {cells : Array Value} (hw : Region.wanted o (yielded ops aF.tmps) = true) (ho : o.op = .build T parts) {vs : List (Nat × Value)} (hv : parts.toList.map (fun q => (q.1, aF.eval q.2)) = vs) (hc : P.built T vs = some cells) : YieldsIn P ops C o (.agg cells) aF := by
  refine y_run hw (fun w hC => ?_)
  have hc : P.built T (parts.map fun (i, x) => (i, aF.eval x)).toList = some cells := by rw [Array.toList_map, ← hc, ← hv]
  simp only [execOp, ho, Sem.run_bind, run_build w T _ cells hc]
  rfl
theorem cellL_append (a b : List Cl) : cellL (a ++ b) = cellL a ++ cellL b := by simp [cellL]
theorem undL_append (a b : List Cl) : undL (a ++ b) = undL a ++ undL b := by simp [undL]
set_option maxHeartbeats 3200000 in
theorem fork_cs (w : World) (L : List HP) (p : Nat) (v : Value) (cs : List Cl) (byt : List UInt8) (next : Nat) (hO : Own w (stkL p v cs byt next ++ L)) (hk : CsOk cs byt) (hu : ∀ c ∈ cs, 0 < c.und.length ∧ c.und.length ≤ 32) :
    Calls Try.prog 28 #[.pointer (some ⟨p, 0, none⟩)] w (RetX w (fun x : Nat × Value × List Cl => .pointer (some ⟨x.1, 0, none⟩)) (fun x => pur (x.2.2.map Cl.on = cs.map Cl.on ∧ x.2.2.map Cl.und = cs.map Cl.und) :: (stkL x.1 x.2.1 x.2.2 byt next ++ (stkL p v cs byt next ++ L)))) := by
  have HB : Hid (byt.length = 32) := hk.byt
  have HLE : Hid (cs.length ≤ 200) := hk.len
  have HU := Lib.hid hu
  have hR : ∀ w' S, Own w' (S ++ (stkL p v cs byt next ++ L)) → StkAt w' p v cs byt next := fun w' S h => stkAt_of (own_drops h)
  obtain ⟨A, cap, rfl⟩ := (stkAt_of hO).rd.slice
  have hmx := (stkAt_of hO).rd.max
  have HR := Lib.hid hR
  have HBS := Lib.hid (built_srow byt next hk.byt)
  clear hk hR hu
  go_enter Try.func28, Try.ntmps28
  go_upto_region 3 with fail
  refine wp_region_own (α := Nat → Value) (fun x => [.pointer (some ⟨p, 0, none⟩), .pointer (some ⟨p, 0, none⟩), .pointer (some ⟨p, 0, none⟩), .agg (bcs byt).toArray, .pointer (some ⟨p, 0, none⟩), .pointer (some ⟨p, 0, none⟩), .pointer (some ⟨p, 33, none⟩), .int .i64 next, .agg (srow byt (.slice none 0 0) next), x 9, x 9]) (fun D x => (stkL p (.slice A cs.length cap) cs byt next ++ L) ++ owL ([(9, none, fun v => ex fun b => sep (pur (v = .pointer (some ⟨b, 0, none⟩))) (pts b (.cells (srow byt (.slice none 0 0) next) 72)))]) D x) w (fun _ => undef) 48 (fun _ => rfl) mixed (by kernel_rfl) rfl (by rw [owL_none, List.append_nil]; exact own_heap hO (fun _ _ h => h)) (Same.drew _) (fun _ _ _ _ hd h => ⟨hd ▸ h.1, h.2⟩) ?_ ?_
  · refine ⟨?_, ?_, ?_, ?_, ?_, ?_, ?_, ?_, ?_, ?_, ?_, trivial⟩
    · (refine fs_pure (fun _ _ => rfl) (fun D x hD hcl hp => ?_); simp only [putO]; simp only [Act.put, List.setIfInBounds_toArray, List.set_cons_zero, List.set_cons_succ]; first | exact y_skip rfl | exact y_run rfl (by intro w h; go_simp; first | done | rfl))
    · (refine fs_pure (fun _ _ => rfl) (fun D x hD hcl hp => ?_); simp only [putO]; simp only [Act.put, List.setIfInBounds_toArray, List.set_cons_zero, List.set_cons_succ]; first | exact y_skip rfl | exact y_run rfl (by intro w h; go_simp; first | done | rfl))
    · (refine fs_pure (fun _ _ => rfl) (fun D x hD hcl hp => ?_); simp only [putO]; simp only [Act.put, List.setIfInBounds_toArray, List.set_cons_zero, List.set_cons_succ]; first | exact y_skip rfl | exact y_run rfl (by intro w h; go_simp; first | done | rfl))
    · (refine fs_pure (fun _ _ => rfl) (fun D x hD hcl hp => ?_); simp only [putO]; simp only [Act.put, List.setIfInBounds_toArray, List.set_cons_zero, List.set_cons_succ]; first | exact y_skip rfl | exact (y_loadrow (b := p) (off := 0) (cs := srow byt (.slice A cs.length cap) next) (t := 72) (vs := bcs byt) rfl rfl rfl row_arr sz_arr (fun w h => own_get 0 h.1 rfl) (by rw [srow_size _ _ _ HB.out]; decide) (srow_row HB.out)) | exact y_run rfl (by intro w h; go_simp; first | done | rfl))
    · (refine fs_pure (fun _ _ => rfl) (fun D x hD hcl hp => ?_); simp only [putO]; simp only [Act.put, List.setIfInBounds_toArray, List.set_cons_zero, List.set_cons_succ]; first | exact y_skip rfl | exact y_run rfl (by intro w h; go_simp; first | done | rfl))
    · (refine fs_pure (fun _ _ => rfl) (fun D x hD hcl hp => ?_); simp only [putO]; simp only [Act.put, List.setIfInBounds_toArray, List.set_cons_zero, List.set_cons_succ]; first | exact y_skip rfl | exact y_run rfl (by intro w h; go_simp; first | done | rfl))
    · (refine fs_pure (fun _ _ => rfl) (fun D x hD hcl hp => ?_); simp only [putO]; simp only [Act.put, List.setIfInBounds_toArray, List.set_cons_zero, List.set_cons_succ]; first | exact y_skip rfl | exact y_run rfl (by intro w h; go_simp; first | done | rfl))
    · (refine fs_pure (fun _ _ => rfl) (fun D x hD hcl hp => ?_); simp only [putO]; simp only [Act.put, List.setIfInBounds_toArray, List.set_cons_zero, List.set_cons_succ]; first | exact y_skip rfl | exact (y_load1 (b := p) (off := 33) (cs := srow byt (.slice A cs.length cap) next) (t := 72) (v := .int .i64 next) rfl rfl rfl row_int (fun w h => own_get 0 h.1 rfl) (srow_next _ _ _ HB.out)) | exact y_run rfl (by intro w h; go_simp; first | done | rfl))
    · (refine fs_pure (fun _ _ => rfl) (fun D x hD hcl hp => ?_); simp only [putO]; simp only [Act.put, List.setIfInBounds_toArray, List.set_cons_zero, List.set_cons_succ]; first | exact y_skip rfl | exact (y_build rfl rfl rfl HBS.out) | exact y_run rfl (by intro w h; go_simp; first | done | rfl))
    · (refine fs_new [] (fun v => v) rfl rfl (by kernel_rfl) (by kernel_rfl) (by intro j; rcases j with _ | j; (focus (first | exact .inr fun _ _ => rfl | exact .inl (by kernel_rfl))); rcases j with _ | j; (focus (first | exact .inr fun _ _ => rfl | exact .inl (by kernel_rfl))); rcases j with _ | j; (focus (first | exact .inr fun _ _ => rfl | exact .inl (by kernel_rfl))); rcases j with _ | j; (focus (first | exact .inr fun _ _ => rfl | exact .inl (by kernel_rfl))); rcases j with _ | j; (focus (first | exact .inr fun _ _ => rfl | exact .inl (by kernel_rfl))); rcases j with _ | j; (focus (first | exact .inr fun _ _ => rfl | exact .inl (by kernel_rfl))); rcases j with _ | j; (focus (first | exact .inr fun _ _ => rfl | exact .inl (by kernel_rfl))); rcases j with _ | j; (focus (first | exact .inr fun _ _ => rfl | exact .inl (by kernel_rfl))); rcases j with _ | j; (focus (first | exact .inr fun _ _ => rfl | exact .inl (by kernel_rfl))); rcases j with _ | j; (focus (first | exact .inr fun _ _ => rfl | exact .inl (by kernel_rfl))); rcases j with _ | j; (focus (first | exact .inr fun _ _ => rfl | exact .inl (by kernel_rfl))); exact .inr fun _ _ => rfl) (fun _ _ => rfl) ?_; intro D x u hD hcl hp hO hS N hN; simp only [putO]; simp only [Act.put, List.setIfInBounds_toArray, List.set_cons_zero, List.set_cons_succ]; refine own_box (v := .agg (srow byt (.slice none 0 0) next)) rfl rfl rfl rfl hO ?_)
      intro b w3 hO3 hS3
      exact hN _ _ _ rfl rfl (own_ex.2 ⟨b, own_sep.2 (own_pur.2 ⟨rfl, hO3⟩)⟩) hS3
    · (refine fs_pure (fun _ _ => rfl) (fun D x hD hcl hp => ?_); simp only [putO]; simp only [Act.put, List.setIfInBounds_toArray, List.set_cons_zero, List.set_cons_succ]; first | exact y_skip rfl | exact y_run rfl (by intro w h; go_simp; first | done | rfl))
  · intro x w10 D hD hO hS10
    rw [owL_end hD (by kernel_rfl)] at hO
    have hO2 : Own w10 ((ex fun b => sep (pur (x 9 = .pointer (some ⟨b, 0, none⟩))) (pts b (.cells (srow byt (.slice none 0 0) next) 72))) :: (stkL p (.slice A cs.length cap) cs byt next ++ L)) := own_perm hO List.perm_append_comm
    rw [own_ex] at hO2
    obtain ⟨f, hO2⟩ := hO2
    rw [own_sep, own_pur] at hO2
    obtain ⟨e17, hO2⟩ := hO2
    clear hO
    simp only [putO, e17]
    simp only [Act.put, List.setIfInBounds_toArray, List.set_cons_zero, List.set_cons_succ]
    simp only [Exit.then]
    clear hD e17
    go_wp2_with (refine own_load1 (b := p) (off := 32) (cs := srow byt (.slice A cs.length cap) next) (t := 72) (v := .slice A cs.length cap) rfl rfl rfl row_cells (own_get 1 hO2 rfl) (srow_v _ _ _ HB.out) ?_)
    go_loopw [24] (fun i wr => ∃ (k : Nat) (v' : Value) (ds : List Cl), k ≤ cs.length ∧ i = .int .i64 k ∧ ds.length = k ∧ ds.map Cl.on = (cs.take k).map Cl.on ∧ ds.map Cl.und = (cs.take k).map Cl.und ∧ Own wr (stkL f v' ds byt next ++ (stkL p (.slice A cs.length cap) cs byt next ++ L)) ∧ Same w wr) (fun i _ => cs.length - (intOf i).toNat)
    case atStart => exact ⟨0, .slice none 0 0, [], Nat.zero_le _, rfl, rfl, rfl, rfl, own_perm (owns_nil hO2) (List.Perm.swap _ _ _), hS10⟩
    case round =>
      clear hO2 hS10
      obtain ⟨k, v', ds, hk, rfl, hdl, hon, hund, hO, hS⟩ := hrel
      by_cases hlt : k < cs.length
      · obtain ⟨c, hc⟩ : ∃ c, cs[k]? = some c := ⟨_, List.getElem?_eq_getElem hlt⟩
        obtain ⟨ad, rfl⟩ := (HR.out _ (stkL f v' ds byt next) hO).rd.addr (by rw [List.length_map]; omega)
        have hcell := ptr_cell (HR.out _ (stkL f v' ds byt next) hO).rd hc
        obtain ⟨A2, c2, rfl⟩ := (stkAt_of hO).rd.slice
        obtain ⟨R, hRR⟩ : ∃ R, R = (cellL ds ++ undL ds) ++ (stkL p (.slice (some ad) cs.length cap) cs byt next ++ L) := ⟨_, rfl⟩
        have HCE : Hid (∀ w' S, Own w' (S ++ R) → w'.heap[c.a]? = some (.cells c.row 67) ∧ RdB w' c.u c.und) := fun w' S h => by
          rw [hRR] at h
          have h2 := HR.out w' (S ++ (cellL ds ++ undL ds)) (by rw [List.append_assoc]; exact h)
          exact ⟨h2.cell k c hc, h2.und k c hc⟩
        have hO : Own wr (pts f (.cells (srow byt (.slice A2 ds.length c2) next) 72) :: owns 68 1 (.slice A2 ds.length c2) ds.length (ds.map Cl.ptr) :: R) := by rw [hRR]; show Own wr (_ :: _ :: ((cellL ds ++ undL ds) ++ (stkL p (.slice (some ad) cs.length cap) cs byt next ++ L))); exact hO
        have HRR := Lib.hid hRR
        have hul := HU.out c (List.mem_of_getElem? hc)
        obtain ⟨Au, nu, cu, hcu⟩ : ∃ Au nu cu, c.u = .slice Au nu cu := by
          obtain ⟨a, b, h⟩ := (HCE.out wr [_, _] hO).2.slice
          exact ⟨a, _, b, h⟩
        obtain ⟨au, rfl⟩ : ∃ au, Au = some au := by
          have h := (HCE.out wr [_, _] hO).2
          rw [hcu] at h
          have hn : nu = c.und.length := by obtain ⟨_, _, _, e, _⟩ := h.out; cases e; rfl
          subst hn
          exact h.addr (by rw [bcs_length]; omega)
        have HCU := Lib.hid hcu
        have HC := Lib.hid hc
        have HX := Lib.hid (And.intro hdl (And.intro hon hund))
        have HUL := Lib.hid hul
        have HROW : Hid (c.row = #[.int .i64 c.p.blk, .int .i64 c.p.off, .string c.p.dat, .int .i64 c.n, .slice (some au) nu cu]) := by show _ = _; rw [← hcu]; rfl
        clear hRR hcu hc hul hdl hon hund
        go_wp2_with (first | (refine own_loadrow (b := c.a) (off := 0) (cs := #[.int .i64 c.p.blk, .int .i64 c.p.off, .string c.p.dat, .int .i64 c.n, .slice (some au) nu cu]) (t := 67) (vs := [.int .i64 c.p.blk, .int .i64 c.p.off, .string c.p.dat, .int .i64 c.n, .slice (some au) nu cu]) rfl rfl rfl row_cell sz_cell (by rw [← HROW.out]; exact (HCE.out _ [_, _] hO).1) (by simp) rfl ?_) | (refine own_alloc (T := 67) rfl rfl zero_cell rfl hO ?_; clear hO; intro gd u hO hSn; replace hS := hS.trans hSn; clear hSn) | (apply own_store_all (k := 0) rfl rfl rfl rfl sz_cell hO rfl; (focus rfl); (focus rfl); (focus rfl); clear hO; intro u hO hSn; replace hS := hS.trans hSn; clear hSn; simp only [List.set_cons_zero, List.set_cons_succ] at hO) | (refine own_load1 (b := c.a) (off := 4) (cs := #[.int .i64 c.p.blk, .int .i64 c.p.off, .string c.p.dat, .int .i64 c.n, .slice (some au) nu cu]) (t := 67) (v := .slice (some au) nu cu) rfl rfl rfl row_bys23 (by rw [← HROW.out]; exact (HCE.out _ [_, _, _] hO).1) rfl ?_) | (go_at_call 39; refine (clone_c _ _ au nu cu c.und hO (fun w' h => by have h2 := (HCE.out _ [_, _, _] h).2; rw [HCU.out] at h2; exact h2) (by have := HUL.out; omega)).mono ?_; clear hO; rintro e u ⟨vu, rfl, hO, hSn⟩; replace hS := hS.trans hSn; clear hSn; obtain ⟨Aw, cw, rfl⟩ := (owns_rd hO).slice) | (refine own_store1 (k := 1) (b := gd) (off := 4) (cs' := #[.int .i64 c.p.blk, .int .i64 c.p.off, .string c.p.dat, .int .i64 c.n, .slice Aw c.und.length cw]) rfl rfl rfl rfl sz_bys23 hO rfl rfl (by simp) rfl ?_; clear hO; intro u hO hSn; replace hS := hS.trans hSn; clear hSn; simp only [List.set_cons_zero, List.set_cons_succ] at hO) | (refine own_load1 (b := f) (off := 32) (cs := srow byt (.slice A2 ds.length c2) next) (t := 72) (v := .slice A2 ds.length c2) rfl rfl rfl row_cells (own_get 2 hO rfl) (srow_v _ _ _ HB.out) ?_) | (refine own_append (m := 1) (n := ds.length) (xs := ds.map Cl.ptr) (news := [.pointer (some ⟨gd, 0, none⟩)]) rfl rfl rfl rfl Try.underlying70 info_ptr rfl (by decide) (own_at (own_alloc_new hO (.cells #[.pointer (some ⟨gd, 0, none⟩)] 68)) (k := 4) rfl) ?_ (ptr_one _) ?_ ?_ ?_; (exact rd_block (own_get 0 (own_alloc_new hO (.cells #[.pointer (some ⟨gd, 0, none⟩)] 68)) rfl) rfl (by simp) (by simp) (by simp)); (have := HLE.out; have := HX.out.1; unfold maxLen; omega); (have := HLE.out; have := HX.out.1; omega); clear hO; intro v' u hO hSn hv'; clear hv'; obtain ⟨A3, c3, rfl⟩ := (owns_rd hO).slice; replace hS := (hS.trans (Same.alloc _ _)).trans hSn; clear hSn; replace hO := own_skip hO) | (refine own_store1 (k := 3) (b := f) (off := 32) (cs := srow byt (.slice A2 ds.length c2) next) (cs' := srow byt (.slice A3 (ds.length + 1) c3) next) rfl rfl rfl rfl sz_cells hO rfl rfl (by rw [srow_size _ _ _ HB.out]; omega) (srow_setv _ _ _ _ HB.out) ?_; clear hO; intro u hO hSn; replace hS := hS.trans hSn; clear hSn; simp only [List.set_cons_zero, List.set_cons_succ] at hO))
        go_roundw
        case rel =>
          obtain ⟨h1, h2⟩ := List.getElem?_eq_some_iff.1 HC.out
          refine ⟨k + 1, .slice A3 (ds.length + 1) c3, ds ++ [⟨gd, .slice Aw c.und.length cw, c.n, c.p, c.und⟩], by omega, by go_num, by simp [HX.out.1], ?_, ?_, ?_, hS⟩
          · rw [List.map_append, HX.out.2.1, List.take_succ_eq_append_getElem h1, h2, List.map_append]; rfl
          · rw [List.map_append, HX.out.2.2, List.take_succ_eq_append_getElem h1, h2, List.map_append]; rfl
          · have e : stkL f (.slice A3 (ds.length + 1) c3) (ds ++ [⟨gd, .slice Aw c.und.length cw, c.n, c.p, c.und⟩]) byt next ++ (stkL p (.slice (some ad) cs.length cap) cs byt next ++ L) = pts f (.cells (srow byt (.slice A3 (ds.length + 1) c3) next) 72) :: owns 68 1 (.slice A3 (ds.length + 1) c3) (ds.length + 1) (ds.map Cl.ptr ++ [.pointer (some ⟨gd, 0, none⟩)]) :: ((cellL ds ++ [pts gd (.cells #[.int .i64 c.p.blk, .int .i64 c.p.off, .string c.p.dat, .int .i64 c.n, .slice Aw c.und.length cw] 67)]) ++ (undL ds ++ [owns 5 1 (.slice Aw c.und.length cw) c.und.length (bcs c.und)]) ++ (stkL p (.slice (some ad) cs.length cap) cs byt next ++ L)) := by
              unfold stkL
              rw [cellL_append, undL_append, List.map_append, List.length_append]
              rfl
            rw [e]
            rw [HRR.out] at hO
            have hO : Own u (owns 68 1 (.slice A3 (ds.length + 1) c3) (ds.length + 1) (ds.map Cl.ptr ++ [.pointer (some ⟨gd, 0, none⟩)]) :: owns 5 1 (.slice Aw c.und.length cw) c.und.length (bcs c.und) :: pts gd (.cells #[.int .i64 c.p.blk, .int .i64 c.p.off, .string c.p.dat, .int .i64 c.n, .slice Aw c.und.length cw] 67) :: pts f (.cells (srow byt (.slice A3 (ds.length + 1) c3) next) 72) :: (cellL ds ++ undL ds ++ (stkL p (.slice (some ad) cs.length cap) cs byt next ++ L))) := hO
            exact own_perm hO (perm_count (l' := pts f (.cells (srow byt (.slice A3 (ds.length + 1) c3) next) 72) :: owns 68 1 (.slice A3 (ds.length + 1) c3) (ds.length + 1) (ds.map Cl.ptr ++ [.pointer (some ⟨gd, 0, none⟩)]) :: ((cellL ds ++ [pts gd (.cells #[.int .i64 c.p.blk, .int .i64 c.p.off, .string c.p.dat, .int .i64 c.n, .slice Aw c.und.length cw] 67)]) ++ (undL ds ++ [owns 5 1 (.slice Aw c.und.length cw) c.und.length (bcs c.und)]) ++ (stkL p (.slice (some ad) cs.length cap) cs byt next ++ L))) fun x => by simp only [List.count_append, List.count_cons, List.count_nil]; omega)
        case measure => simp [intOf]; omega
      · have hke : k = cs.length := by omega
        subst hke
        go_wp2
        go_ret
        rw [List.take_length] at hon hund
        exact ⟨⟨f, v', ds⟩, rfl, own_pur.2 ⟨⟨hon, hund⟩, hO⟩, hS⟩
theorem fork_c (w : World) (L : List HP) (p : Nat) (m : Stk) (hO : Own w (stk p m :: L)) (hk : m.Ok) :
    Calls Try.prog 28 #[.pointer (some ⟨p, 0, none⟩)] w (RetX w (fun f => .pointer (some ⟨f, 0, none⟩)) (fun f => stk f m :: stk p m :: L)) := by
  obtain ⟨v, cs, hrep, hO⟩ := stk_open.1 hO
  have hcs := hrep.csok hk
  refine (fork_cs w L p v cs m.bytes m.next hO hcs (fun c hc => ?_)).mono ?_
  · obtain ⟨i, hi⟩ := List.getElem?_of_mem hc
    have hr := hcs.right c hc
    have h1 := hrep.und_at hi
    have hl : c.und.length = c.p.dat.size := by
      rw [h1]
      exact cutP_length (appAll_length _ _ hk.base (fun q hq => by
        have := List.mem_of_mem_take hq
        obtain ⟨o, ho, rfl⟩ := List.mem_map.1 this
        exact hk.right o ho)) hr
    obtain ⟨p1, p2, p3, p4, p5, p6⟩ := rightB_iff.1 hr
    omega
  · rintro e w' ⟨⟨f, v', ds⟩, rfl, hO, hS⟩
    rw [own_pur] at hO
    refine ⟨f, rfl, stk_open.2 ⟨v', ds, ⟨hO.1.1.trans hrep.on, hO.1.2.trans hrep.und⟩, own_perm (stk_open.2 ⟨v, cs, hrep, own_perm hO.2 ?_⟩) List.perm_middle.symm⟩, hS⟩
    rw [← List.append_assoc, ← List.append_assoc]
    exact List.Perm.append_right _ List.perm_append_comm
end Go.Proofs.Ytdcbfdepkbplbaa.H
set_option linter.unusedVariables false
set_option linter.unusedSimpArgs false
namespace Go.Proofs.Ytdcbfdepkbplbaa.H
open Go.RowKit
/-- Something that reads as the slice v. -/
def rdA (size : Nat) (v : Value) (n : Nat) (xs : List Value) : HP := fun p q => ∀ w : World, p.le w → q.le w → Rd w size v n xs
theorem rdA_rd {w : World} {L : List HP} {size n : Nat} {v : Value} {xs : List Value} (h : Own w (rdA size v n xs :: L)) : Rd w size v n xs := by
  obtain ⟨p1, q1, p2, q2, hA, hB, h1, h2, _⟩ := own_cons.1 h
  exact hA w h1 h2
theorem own_rdA {w : World} {L : List HP} {A : HP} {size n : Nat} {v : Value} {xs : List Value} (hf : ∀ w', Own w' [A] → Rd w' size v n xs) (h : Own w (A :: L)) : Own w (rdA size v n xs :: L) := by
  obtain ⟨p1, q1, p2, q2, hA, hB, h1, h2, h3, h4, d1, d2, d3, d4, d5⟩ := own_cons.1 h
  refine own_cons.2 ⟨p1, q1, p2, q2, fun w' e1 e2 => hf w' ?_, hB, h1, h2, h3, h4, d1, d2, d3, d4, d5⟩
  exact own_cons.2 ⟨p1, q1, nul, nul, hA, ⟨rfl, rfl⟩, e1, e2, nul_le _, nul_le _, dis_nul _, dis_nul _, nul_dis _, d4, nul_dis _⟩
theorem rdA_owns {w : World} {L : List HP} {e : TypeId} {size n : Nat} {v : Value} {xs : List Value} (h : Own w (owns e size v n xs :: L)) : Own w (rdA size v n xs :: L) := own_rdA (fun w' h => owns_rd h) h
theorem rdA_nil {w : World} {L : List HP} {size : Nat} (h : Own w L) : Own w (rdA size (.slice none 0 0) 0 [] :: L) := own_rdA (A := emp) (fun w' _ => rd_nil _ _) (own_emp.2 h)
theorem rdA_pts {w : World} {L : List HP} {g : Nat} {T : TypeId} {bs : List UInt8} (hb : bs.length = 32) (h : Own w (pts g (.cells (bcs bs).toArray T) :: L)) : Own w (rdA 1 (.slice (some ⟨g, 0, none⟩) 32 32) 32 (bcs bs) :: L) :=
  own_rdA (fun w' h => rd_block (own_pts h) (by rw [Nat.mul_one, ← hb, ← bcs_length bs, List.take_length]) (by simp [bcs_length, hb]) (Nat.le_refl _) (by decide)) h
section
variable {P : Program} {w : World} {L : List HP} {f : FuncId} {args : Array Value} {A B : HP}
/-- A call that turns what stands at one place into something else. -/
theorem call_at {r : Value} (k : Nat) (h : ∀ L', Own w (A :: L') → Calls P f args w (Ret w r (B :: L'))) (hk : L[k]? = some A) (hO : Own w L) : Calls P f args w (Ret w r (L.set k B)) := by
  refine (h _ (own_at hO hk)).mono ?_
  rintro e w' ⟨rfl, hO', hS⟩
  exact ⟨rfl, own_back hO' (List.getElem?_eq_some_iff.1 hk).1, hS⟩
theorem call_atX {α : Type} {V : α → Value} {C : α → HP} (k : Nat) (h : ∀ L', Own w (A :: L') → Calls P f args w (RetX w V (fun v => C v :: B :: L'))) (hk : L[k]? = some A) (hO : Own w L) : Calls P f args w (RetX w V (fun v => C v :: L.set k B)) := by
  refine (h _ (own_at hO hk)).mono ?_
  rintro e w' ⟨v, rfl, hO', hS⟩
  refine ⟨v, rfl, own_perm hO' (List.Perm.cons _ (perm_set (List.getElem?_eq_some_iff.1 hk).1)), hS⟩
end
section
variable {P : Program} {ops : Array Oper} {rest : List Oper} {o : Oper} {a aF : Act} {Q : Exit → Act → World → Prop} {C : World → Prop} {w : World} {L : List HP}
theorem own_load1_at {T : TypeId} {x : Operand} {ad : Addr} {v : Value} (hw : Region.wanted o (yielded ops a.tmps) = true) (ho : o.op = .load T x) (hx : a.eval x = .pointer (some ad))
    (hT : isRowB P T = some false) (hc : w.cell? ad = some v) (h : wpList P ops Q rest (a.put o.dst v) w) : wpList P ops Q (o :: rest) a w := by
  refine ev hw ?_ h
  simp only [execOp, ho, hx, Sem.run_bind, run_load1_at hT hc]
  rfl
theorem y_string {src dst e : TypeId} {x : Operand} {v : Value} {n : Nat} {bs : List UInt8} (hw : Region.wanted o (yielded ops aF.tmps) = true) (ho : o.op = .convert src dst x) (hx : aF.eval x = v)
    (hs : P.underlying src = some (.slice e)) (he : P.underlying e = some (.int .u8)) (hd : P.underlying dst = some .string) (hn : n = bs.length) (hr : ∀ w, C w → Rd w 1 v n (bcs bs)) : YieldsIn P ops C o (.string (bstr bs)) aF := by
  refine y_run hw (fun w hC => ?_)
  simp only [execOp, ho, hx, Sem.run_bind, run_string hs he hd hn (hr w hC)]
  rfl
end
end Go.Proofs.Ytdcbfdepkbplbaa.H
set_option linter.unusedVariables false
set_option linter.unusedSimpArgs false
set_option maxRecDepth 100000
namespace Go.Proofs.Ytdcbfdepkbplbaa.H
open Go.RowKit
theorem Stk.Ok.nlt {m : Stk} (h : m.Ok) : m.base.length = 32 := h.base
section
variable {m : Stk}
theorem appAll_ok (hk : m.Ok) (s : List Int) : (appAll m.base (selL m.l s)).length = 32 := appAll_length _ _ hk.base (selL_right fun o ho => hk.right o ho)
theorem settled_ok (hk : m.Ok) (s : List Int) : (m.settled s).Ok := by
  have hsub : (leftL m.l s).Sublist m.l := List.filter_sublist
  exact ⟨appAll_ok hk s, fun x hx => hk.right x (hsub.subset hx), List.Pairwise.sublist hsub hk.asc, fun x hx => hk.lt x (hsub.subset hx), Nat.le_trans hsub.length_le hk.len, hk.lim⟩
theorem popped_ok (hk : m.Ok) : m.popped.Ok := by
  have hsub : m.l.dropLast.Sublist m.l := List.dropLast_sublist _
  exact ⟨hk.base, fun x hx => hk.right x (hsub.subset hx), List.Pairwise.sublist hsub hk.asc, fun x hx => hk.lt x (hsub.subset hx), Nat.le_trans hsub.length_le hk.len, hk.lim⟩
theorem squashed_ok (hk : m.Ok) {i k : Nat} {a : On} (hi : m.l[i]? = some a) {q : Pat} (hq : rightB q = true) : (m.squashed i k a.n q).Ok := by
  have hsub : ((m.l.set i ⟨a.n, q⟩).eraseIdx k).Sublist (m.l.set i ⟨a.n, q⟩) := List.eraseIdx_sublist _ _
  have hmem : ∀ x ∈ m.l.set i ⟨a.n, q⟩, x ∈ m.l ∨ x = ⟨a.n, q⟩ := fun x hx => List.mem_or_eq_of_mem_set hx
  have ha := List.mem_of_getElem? hi
  have hasc2 : (m.l.set i ⟨a.n, q⟩).Pairwise fun a b => a.n < b.n := by
    have hmap : (m.l.set i ⟨a.n, q⟩).map On.n = m.l.map On.n := by
      rw [List.map_set]
      refine List.ext_getElem? (fun t => ?_)
      rw [List.getElem?_set]
      split
      · rename_i e
        subst e
        split
        · rw [List.getElem?_map, hi]; rfl
        · rename_i h; rw [List.getElem?_eq_none (by omega)]
      · rfl
    have h1 : (m.l.map On.n).Pairwise (· < ·) := List.pairwise_map.2 hk.asc
    rw [← hmap] at h1
    exact List.pairwise_map.1 h1
  refine ⟨hk.base, fun x hx => ?_, List.Pairwise.sublist hsub hasc2, fun x hx => ?_, Nat.le_trans hsub.length_le (by rw [List.length_set]; exact hk.len), hk.lim⟩
  · rcases hmem x (hsub.subset hx) with h | rfl
    · exact hk.right x h
    · exact hq
  · rcases hmem x (hsub.subset hx) with h | rfl
    · exact hk.lt x h
    · exact hk.lt a ha
end
/-- A call that both answer alike, and that leaves both as they were. -/
abbrev BothR (f g : FuncId) (m m' : Stk) (ag : Value → Array Value) (r : Value) : Prop :=
  (∀ (w : World) (L : List HP) (p : Nat), Own w (stk p m :: L) → Calls Try.prog f (ag (.pointer (some ⟨p, 0, none⟩))) w (Ret w r (stk p m' :: L))) ∧
  (∀ (w : World) (L : List HP) (q : Nat), Own w (rstk q m :: L) → Calls Try.prog g (ag (.pointer (some ⟨q, 0, none⟩))) w (Ret w r (rstk q m' :: L)))
/-- .. whose answer is something to read. -/
abbrev BothX (f g : FuncId) (m m' : Stk) (ag : Value → Array Value) (V : Value → Value) (xs : List Value) : Prop :=
  (∀ (w : World) (L : List HP) (p : Nat), Own w (stk p m :: L) → Calls Try.prog f (ag (.pointer (some ⟨p, 0, none⟩))) w (RetX w V (fun v => rdA 1 v xs.length xs :: stk p m' :: L))) ∧
  (∀ (w : World) (L : List HP) (q : Nat), Own w (rstk q m :: L) → Calls Try.prog g (ag (.pointer (some ⟨q, 0, none⟩))) w (RetX w V (fun v => rdA 1 v xs.length xs :: rstk q m' :: L)))
/-- The same, with another next number. -/
abbrev Stk.at (m : Stk) (n : Nat) : Stk := ⟨m.base, m.l, n⟩
/-- A question that both answer alike, whatever their next numbers. -/
abbrev AskR (f g : FuncId) (m : Stk) (n2 : Nat) (ag : Value → Array Value) (r : Value) : Prop :=
  (∀ (w : World) (L : List HP) (p : Nat), Own w (stk p m :: L) → Calls Try.prog f (ag (.pointer (some ⟨p, 0, none⟩))) w (Ret w r (stk p m :: L))) ∧
  (∀ (w : World) (L : List HP) (q : Nat), Own w (rstk q (m.at n2) :: L) → Calls Try.prog g (ag (.pointer (some ⟨q, 0, none⟩))) w (Ret w r (rstk q (m.at n2) :: L)))
abbrev AskX (f g : FuncId) (m : Stk) (n2 : Nat) (ag : Value → Array Value) (V : Value → Value) (xs : List Value) : Prop :=
  (∀ (w : World) (L : List HP) (p : Nat), Own w (stk p m :: L) → Calls Try.prog f (ag (.pointer (some ⟨p, 0, none⟩))) w (RetX w V (fun v => rdA 1 v xs.length xs :: stk p m :: L))) ∧
  (∀ (w : World) (L : List HP) (q : Nat), Own w (rstk q (m.at n2) :: L) → Calls Try.prog g (ag (.pointer (some ⟨q, 0, none⟩))) w (RetX w V (fun v => rdA 1 v xs.length xs :: rstk q (m.at n2) :: L)))
section
variable (m : Stk)
theorem pl_rstk {w : World} {L : List HP} {q : Nat} {m : Stk} {f : FuncId} {ag : Array Value} {r : Value} (hk : m.Ok) (hO : Own w (rstk q m :: L)) (h : ∀ vb vl S, Own w S → (∀ w', Own w' S → RAt w' q vb vl m) → Calls Try.prog f ag w (Ret w r S)) : Calls Try.prog f ag w (Ret w r (rstk q m :: L)) := by
  obtain ⟨vb, vl, hO⟩ := rstk_open.1 hO
  refine (h vb vl _ hO (fun w' h => rAt_of h hk.base)).mono ?_
  rintro e w' ⟨rfl, hO', hS⟩
  exact ⟨rfl, rstk_open.2 ⟨vb, vl, hO'⟩, hS⟩
theorem pl_rstkX {α : Type} {w : World} {L : List HP} {q : Nat} {m : Stk} {f : FuncId} {ag : Array Value} {V : α → Value} {A : α → HP} (hk : m.Ok) (hO : Own w (rstk q m :: L)) (h : ∀ vb vl S, Own w S → (∀ w', Own w' S → RAt w' q vb vl m) → Calls Try.prog f ag w (RetX w V (fun v => A v :: S))) : Calls Try.prog f ag w (RetX w V (fun v => A v :: rstk q m :: L)) := by
  obtain ⟨vb, vl, hO⟩ := rstk_open.1 hO
  refine (h vb vl _ hO (fun w' h => rAt_of h hk.base)).mono ?_
  rintro e w' ⟨v, rfl, hO', hS⟩
  exact ⟨v, rfl, own_perm (rstk_open.2 ⟨vb, vl, own_perm hO' (List.perm_middle.symm)⟩) (List.Perm.swap _ _ _), hS⟩
theorem pl_stk {w : World} {L : List HP} {p : Nat} {m : Stk} {f : FuncId} {ag : Array Value} {r : Value} (hk : m.Ok) (hO : Own w (stk p m :: L)) (h : ∀ v cs S, Reps m cs → Own w S → (∀ w', Own w' S → StkAt w' p v cs m.bytes m.next) → Calls Try.prog f ag w (Ret w r S)) : Calls Try.prog f ag w (Ret w r (stk p m :: L)) := by
  obtain ⟨v, cs, hrep, hO⟩ := stk_open.1 hO
  refine (h v cs _ hrep hO (fun w' h => stkAt_of h)).mono ?_
  rintro e w' ⟨rfl, hO', hS⟩
  exact ⟨rfl, stk_open.2 ⟨v, cs, hrep, hO'⟩, hS⟩
theorem pl_stkX {α : Type} {w : World} {L : List HP} {p : Nat} {m : Stk} {f : FuncId} {ag : Array Value} {V : α → Value} {A : α → HP} (hk : m.Ok) (hO : Own w (stk p m :: L)) (h : ∀ v cs S, Reps m cs → Own w S → (∀ w', Own w' S → StkAt w' p v cs m.bytes m.next) → Calls Try.prog f ag w (RetX w V (fun v => A v :: S))) : Calls Try.prog f ag w (RetX w V (fun v => A v :: stk p m :: L)) := by
  obtain ⟨v, cs, hrep, hO⟩ := stk_open.1 hO
  refine (h v cs _ hrep hO (fun w' h => stkAt_of h)).mono ?_
  rintro e w' ⟨x, rfl, hO', hS⟩
  exact ⟨x, rfl, own_perm (stk_open.2 ⟨v, cs, hrep, own_perm hO' (List.perm_middle.symm)⟩) (List.Perm.swap _ _ _), hS⟩
theorem cs_none {m : Stk} {cs : List Cl} (hrep : Reps m cs) {n : Int} (h : ∀ o ∈ m.l, (o.n : Int) ≠ n) : ∀ c ∈ cs, (c.n : Int) ≠ n := fun c hc => h c.on (by rw [← hrep.on]; exact List.mem_map_of_mem hc)
theorem bytes_ok {m : Stk} (hk : m.Ok) : m.bytes.length = 32 := appAll_length _ _ hk.base (fun p hp => by
  obtain ⟨o, ho, rfl⟩ := List.mem_map.1 hp
  exact hk.right o ho)
theorem under_both (hk : m.Ok) (n2 : Nat) (hk2 : (m.at n2).Ok) (n : Int) (hn : i64 n) : ∃ (u : ByteArray) (e : Int), AskR 26 45 m n2 (fun y => #[y, .int .i64 n]) (.tuple #[.string u, .int .i64 e]) := by
  rcases on_cases m.l n with ⟨i, o, ho, rfl⟩ | hno
  · exact ⟨_, _, fun w L p hO => under_m w L p m i o hO hk ho, fun w L q hO => pl_rstk hk2 hO fun vb vl S hS hr => runder_yes w S q vb vl (m.at n2) i o hS hr hk2 ho⟩
  · exact ⟨_, _, fun w L p hO => pl_stk hk hO fun v cs S hrep hS hr => under_no w S p v cs _ _ n hS hr (hrep.csok hk) hn (cs_none hrep hno), fun w L q hO => pl_rstk hk2 hO fun vb vl S hS hr => runder_no w S q vb vl (m.at n2) n hS hr hk2 hno⟩
theorem get_both (hk : m.Ok) (n2 : Nat) (hk2 : (m.at n2).Ok) (n : Int) (hn : i64 n) : ∃ (x0 x1 : Int) (x2 : ByteArray) (b : Bool), AskR 14 46 m n2 (fun y => #[y, .int .i64 n]) (.tuple #[.agg #[.int .i64 x0, .int .i64 x1, .string x2], .bool b]) ∧ (b = true ↔ ∃ o ∈ m.l, (o.n : Int) = n) := by
  rcases on_cases m.l n with ⟨i, o, ho, rfl⟩ | hno
  · exact ⟨_, _, _, _, ⟨fun w L p hO => get_m w L p m i o hO hk ho, fun w L q hO => pl_rstk hk2 hO fun vb vl S hS hr => rget_yes w S q vb vl (m.at n2) i o hS hr hk2 ho⟩, fun _ => ⟨o, List.mem_of_getElem? ho, rfl⟩, fun _ => rfl⟩
  · exact ⟨_, _, _, _, ⟨fun w L p hO => pl_stk hk hO fun v cs S hrep hS hr => get_no w S p v cs _ _ n hS hr (hrep.csok hk) hn (cs_none hrep hno), fun w L q hO => pl_rstk hk2 hO fun vb vl S hS hr => rget_no w S q vb vl (m.at n2) n hS hr hk2 hno⟩, fun h => (by cases h), fun ⟨o, ho, h⟩ => absurd h (hno o ho)⟩
/-- The numbers of those that one needs. -/
def needsN (m : Stk) (n : Int) : List Nat := (m.l.find? fun o => decide ((o.n : Int) = n)).elim [] (needsM m.l)
theorem needsN_yes {m : Stk} (hk : m.Ok) {i : Nat} {o : On} (ho : m.l[i]? = some o) : needsN m o.n = needsM m.l o := by
  unfold needsN
  have : m.l.find? (fun x => decide ((x.n : Int) = (o.n : Int))) = some o := by
    cases h : m.l.find? (fun x => decide ((x.n : Int) = (o.n : Int))) with
    | none =>
      have := List.find?_eq_none.1 h o (List.mem_of_getElem? ho)
      simp at this
    | some x =>
      have h1 := List.find?_some h
      obtain ⟨k, hk2⟩ := List.getElem?_of_mem (List.mem_of_find?_eq_some h)
      obtain ⟨_, rfl⟩ := asc_at hk.asc ho hk2 (by have : (x.n : Int) = o.n := by simpa using h1
                                                  omega)
      rfl
  rw [this]; rfl
theorem needsN_no {m : Stk} {n : Int} (h : ∀ o ∈ m.l, (o.n : Int) ≠ n) : needsN m n = [] := by
  unfold needsN
  rw [List.find?_eq_none.2 (fun o ho => by simpa using h o ho)]
  rfl
theorem needs_take {m : Stk} (hk : m.Ok) {i : Nat} {o : On} (ho : m.l[i]? = some o) : (m.l.take i).filter (fun c => meetB c.p o.p) = m.l.filter (needF o) := by
  have h1 : m.l.take i ++ m.l.drop i = m.l := List.take_append_drop i m.l
  have hfa : (m.l.take i).filter (needF o) = (m.l.take i).filter fun c => meetB c.p o.p := List.filter_congr (fun c hc => by
    obtain ⟨t, ht⟩ := List.getElem?_of_mem hc
    rw [List.getElem?_take] at ht
    split at ht
    · have := asc_num hk.asc ht ho (by assumption)
      simp [needF, this]
    · cases ht)
  have hfb : (m.l.drop i).filter (needF o) = [] := List.filter_eq_nil_iff.2 (fun c hc => by
    obtain ⟨t, ht⟩ := List.getElem?_of_mem hc
    rw [List.getElem?_drop] at ht
    have : ¬ c.n < o.n := fun h => by
      have := asc_idx hk.asc ht ho h
      omega
    simp [needF, this])
  rw [← hfa]
  conv => rhs; rw [← h1]
  rw [List.filter_append, hfb, List.append_nil]
theorem meetNums_eq {m : Stk} (hk : m.Ok) {cs : List Cl} (hrep : Reps m cs) {i : Nat} {c : Cl} (hc : cs[i]? = some c) : meetNums (cs.take i) c.p = needsM m.l c.on := by
  have ho : m.l[i]? = some c.on := hrep.at_ hc
  have h := needs_take hk ho
  unfold meetNums needsM
  rw [← h, ← hrep.on, ← List.map_take, List.filter_map, List.map_map]
  rfl
theorem numV_len (l : List Nat) : (numV l).length = l.length := by simp [numV]
theorem needs_both (hk : m.Ok) (n2 : Nat) (hk2 : (m.at n2).Ok) (n : Int) (hn : i64 n) : AskX 15 48 m n2 (fun y => #[y, .int .i64 n]) (fun v => v) (numV (needsN m n)) := by
  rcases on_cases m.l n with ⟨i, o, ho, rfl⟩ | hno
  · rw [needsN_yes hk ho]
    refine ⟨fun w L p hO => pl_stkX hk hO fun v cs S hrep hS hr => ?_, fun w L q hO => pl_rstkX hk2 hO fun vb vl S hS hr => ?_⟩
    · have ho2 := ho
      rw [← hrep.on, List.getElem?_map, Option.map_eq_some_iff] at ho2
      obtain ⟨c, hc, rfl⟩ := ho2
      refine (needs_yes w S p v cs _ _ c.n i c hS hr (hrep.csok hk) hn hc rfl).mono ?_
      rintro e w' ⟨x, rfl, hO', hS'⟩
      rw [meetNums_eq hk hrep hc, ← numV_len] at hO'
      exact ⟨x, rfl, rdA_owns hO', hS'⟩
    · refine (rneeds_yes w S q vb vl (m.at n2) i o hS hr hk2 ho).mono ?_
      rintro e w' ⟨x, rfl, hO', hS'⟩
      rw [← numV_len] at hO'
      exact ⟨x, rfl, rdA_owns hO', hS'⟩
  · rw [needsN_no hno]
    refine ⟨fun w L p hO => pl_stkX hk hO fun v cs S hrep hS hr => ?_, fun w L q hO => pl_rstkX hk2 hO fun vb vl S hS hr => ?_⟩
    · refine (needs_no w S p v cs _ _ n hS hr (hrep.csok hk) hn (cs_none hrep hno)).mono ?_
      rintro e w' ⟨rfl, hO', hS'⟩
      exact ⟨_, rfl, rdA_nil hO', hS'⟩
    · refine (rneeds_no w S q vb vl (m.at n2) n hS hr hk2 hno).mono ?_
      rintro e w' ⟨rfl, hO', hS'⟩
      exact ⟨_, rfl, rdA_nil hO', hS'⟩
theorem bytes_both (hk : m.Ok) (n2 : Nat) (hk2 : (m.at n2).Ok) : AskX 19 49 m n2 (fun y => #[y]) (fun v => v) (bcs m.bytes) := by
  have hb := bytes_ok hk
  refine ⟨fun w L p hO => (bytes_m w L p m hO hk).mono ?_, fun w L q hO => pl_rstkX hk2 hO fun vb vl S hS hr => (rbytes_c w S q vb vl (m.at n2) hS hr hk2).mono ?_⟩
  · rintro e w' ⟨x, rfl, hO', hS'⟩
    rw [← bcs_length m.bytes] at hO'
    exact ⟨x, rfl, rdA_owns hO', hS'⟩
  · rintro e w' ⟨x, rfl, hO', hS'⟩
    rw [← hb, ← bcs_length m.bytes] at hO'
    exact ⟨x, rfl, rdA_owns hO', hS'⟩
theorem base_both (hk : m.Ok) (n2 : Nat) (hk2 : (m.at n2).Ok) : AskX 20 50 m n2 (fun y => #[y]) (fun v => v) (bcs m.base) := by
  have hb := hk.base
  refine ⟨fun w L p hO => (base_c w L p m hO hk).mono ?_, fun w L q hO => pl_rstkX hk2 hO fun vb vl S hS hr => (rbase_c w S q vb vl (m.at n2) hS hr hk2).mono ?_⟩
  · rintro e w' ⟨x, rfl, hO', hS'⟩
    have h := rdA_pts hb (own_perm hO' (List.Perm.swap _ _ _))
    rw [← hb] at h
    refine ⟨_, rfl, ?_, hS'⟩
    rw [bcs_length, hb] at *
    exact h
  · rintro e w' ⟨x, rfl, hO', hS'⟩
    refine ⟨x, rfl, ?_, hS'⟩
    rw [bcs_length, hb]
    exact rdA_owns hO'
theorem waiting_both (hk : m.Ok) (n2 : Nat) (hk2 : (m.at n2).Ok) : AskX 18 44 m n2 (fun y => #[y]) (fun v => v) (ints (m.l.map fun o => (o.n : Int))) := by
  refine ⟨fun w L p hO => pl_stkX hk hO fun v cs S hrep hS hr => (waiting_c w S p v cs _ _ hS hr (hrep.csok hk)).mono ?_, fun w L q hO => pl_rstkX hk2 hO fun vb vl S hS hr => (rwaiting_c w S q vb vl (m.at n2) hS hr hk2.len).mono ?_⟩
  · rintro e w' ⟨x, rfl, hO', hS'⟩
    refine ⟨x, rfl, ?_, hS'⟩
    have e1 : ints (m.l.map fun o => (o.n : Int)) = cs.map fun c => Value.int .i64 c.n := by rw [← ints_on, ← hrep.on, List.map_map]; rfl
    rw [e1, List.length_map]
    exact rdA_owns hO'
  · rintro e w' ⟨x, rfl, hO', hS'⟩
    refine ⟨x, rfl, ?_, hS'⟩
    rw [← ints_on, List.length_map]
    exact rdA_owns hO'
end
end Go.Proofs.Ytdcbfdepkbplbaa.H
