/- Write, Spoil of the program's disk. -/
import Derived.Test.YtjilkbkafigloaaK5
set_option linter.unusedVariables false
set_option linter.unusedSimpArgs false
set_option maxRecDepth 100000
namespace Go.Proofs.Ytjilkbkafigloaa.H
open Go.RowKit
section
variable (w : World) (L : List HP) (d : Nat) (m : List Blk)
theorem write_nil (i : Int) (s : Sec) (hO : Own w L) : Calls Try.prog 19 #[.pointer none, .int .i64 i, secV s] w (Ret w (.int .i64 1) L) := by
  have hS := Same.refl w
  go_enter Try.func19, Try.ntmps19
  go_wp2_with (first | (refine own_box_agg (x := .tmp 2) rfl rfl rfl hO ?_; clear hO; intro bx u hO hSn; replace hS := hS.trans hSn; clear hSn) | (go_at_call 36; (with_reducible refine Calls.mono (may_nil _ _ i hO) ?_); clear hO; rintro e u ⟨rfl, hO, hSn⟩; replace hS := hS.trans hSn; clear hSn))
  go_ret
  exact ⟨rfl, own_drop hO, hS⟩
theorem write_no (i : Int) (s : Sec) (hO : Own w (diskP d m :: L)) (hi : i < 0 ∨ (m.length : Int) ≤ i) : Calls Try.prog 19 #[.pointer (some ⟨d, 0, none⟩), .int .i64 i, secV s] w (Ret w (.int .i64 2) (diskP d m :: L)) := by
  have HI := Lib.hid hi
  have hS := Same.refl w
  clear hi
  go_enter Try.func19, Try.ntmps19
  go_wp2_with (first | (refine own_box_agg (x := .tmp 2) rfl rfl rfl hO ?_; clear hO; intro bx u hO hSn; replace hS := hS.trans hSn; clear hSn) | (go_at_call 36; (with_reducible refine Calls.mono (call_at 1 (fun L' h => may_no _ L' d m i h HI.out) rfl hO) ?_); clear hO; rintro e u ⟨rfl, hO, hSn⟩; replace hS := hS.trans hSn; clear hSn; simp only [List.set_cons_zero, List.set_cons_succ] at hO))
  go_ret
  exact ⟨rfl, own_drop hO, hS⟩
theorem write_bad (i : Nat) (b : Blk) (s : Sec) (hO : Own w (diskP d m :: L)) (hi : m[i]? = some b) (hb : b.bad = true) : Calls Try.prog 19 #[.pointer (some ⟨d, 0, none⟩), .int .i64 i, secV s] w (Ret w (.int .i64 10) (diskP d m :: L)) := by
  have HI := Lib.hid hi
  have HB := Lib.hid hb
  have hS := Same.refl w
  clear hi hb
  go_enter Try.func19, Try.ntmps19
  go_upto_region 4 with (first | (refine own_box_agg (x := .tmp 2) rfl rfl rfl hO ?_; clear hO; intro bx u hO hSn; replace hS := hS.trans hSn; clear hSn) | (go_at_call 36; (with_reducible refine Calls.mono (call_at 1 (fun L' h => may_ok _ L' d m i b h HI.out) rfl hO) ?_); clear hO; rintro e u ⟨rfl, hO, hSn⟩; replace hS := hS.trans hSn; clear hSn; simp only [List.set_cons_zero, List.set_cons_succ] at hO))
  obtain ⟨lv, bv, bb, fv, fb, l, hk, hO⟩ := disk_open.1 (own_perm hO (List.Perm.swap _ _ _))
  have HK := Lib.hid hk
  have hbad := hk.bads i b HI.out
  rw [HB.out] at hbad
  have HBAD := Lib.hid hbad
  clear hk hbad
  go_wp2_with (first | (apply own_load1 rfl rfl rfl; (first | exact row_secs | exact row_mv | exact row_mb); (first | exact own_get 0 hO rfl | exact own_get 1 hO rfl | exact own_get 2 hO rfl | exact own_get 3 hO rfl | exact own_get 4 hO rfl | exact own_get 5 hO rfl | exact own_get 6 hO rfl | exact own_get 7 hO rfl); (first | (simp only [List.getElem?_toArray, List.getElem?_cons_succ, List.getElem?_cons_zero]; rfl) | rfl)) | (refine own_mlookup (i := 3) (b := bb) (k := (i : Int)) (f := fb) rfl rfl rfl rfl und_mb und_i zero_b hO rfl HBAD.out ?_))
  go_ret
  exact ⟨rfl, disk_open.2 ⟨_, _, _, _, _, _, HK.out, own_drop (own_at hO (k := 5) rfl)⟩, hS⟩
theorem full_rd {w : World} {A : Option Addr} {n c : Nat} {xs : List Value} (h : Rd w 32 (.slice A n c) n xs) : Rd w 32 (.slice A n n) n xs := by
  obtain ⟨h1, A', c', e, h2, h3, h4⟩ := h.out
  cases e
  exact ⟨h1, A, n, rfl, Nat.le_refl _, by omega, h4⟩
theorem own_bs1 {ops : Array Oper} {rest : List Oper} {o : Oper} {a : Act} {Q : Exit → Act → World → Prop} {w : World} {x : Operand} {s : Sec} (hw : Region.wanted o (yielded ops a.tmps) = true) (ho : o.op = .buildSlice 23 1 #[(0, x)]) (hx : a.eval x = secV s) (hs : s.length = 32) (h : wpList Try.prog ops Q rest (a.put o.dst (.slice (some ⟨w.heap.size, 0, none⟩) 1 1)) (w.alloc (.cells (bcs s).toArray 26))) : wpList Try.prog ops Q (o :: rest) a w := by
  refine ev hw ?_ h
  have e : (#[(0, x)] : Array (Nat × Operand)).map (fun (i, x) => (i, a.eval x)) = #[(0, secV s)] := by simp [hx]
  simp only [execOp, ho, e, Sem.run_bind, run_bs1 hs]
  rfl
theorem own_appf {ops : Array Oper} {rest : List Oper} {o : Oper} {a : Act} {Q : Exit → Act → World → Prop} {w : World} {L : List HP} {P : Program} {T e : TypeId} {s x : Operand} {z : Value} {size bytes n m : Nat} {A : Option Addr} {vx : Value} {xs news : List Value} (hw : Region.wanted o (yielded ops a.tmps) = true)
    (ho : o.op = .call { callee := .builtin .append, args := #[s, x], argTypes := #[T, T] }) (hs : a.eval s = .slice A n n) (hx : a.eval x = vx) (ht : P.underlying T = some (.slice e)) (hinfo : (P.info? e).map (fun i => (i.zero, i.size, i.bytes)) = some (some z, size, bytes)) (hz : z.cells.size = size) (hsz : 0 < size)
    (hO : Own w L) (hold : Rd w size (.slice A n n) n xs) (hr : Rd w size vx m news) (hm : 0 < m) (h1 : ∀ u ∈ news, u.oneCell' = true) (h63 : n + m ≤ maxLen) (hb : (n + m) * bytes ≤ 140737488355328)
    (h : ∀ v' w', Own w' (owns e size v' (n + m) (xs ++ news) :: L) → Same w w' → wpList P ops Q rest (a.put o.dst v') w') : wpList P ops Q (o :: rest) a w := by
  obtain ⟨v', w', hrun, hO', hS⟩ := run_append_full (P := P) (ty := o.type) ht hinfo hz hsz hO hold hr hm h1 h63 hb
  refine ev hw ?_ (h v' w' hO' hS)
  simp only [execOp, ho]
  simp [resolve, invoke, builtin, hs, hx, hrun, Result.andThen]
theorem info_sec3 : (Try.prog.info? 26).map (fun i => (i.zero, i.size, i.bytes)) = some (some (.agg (Array.replicate 32 (.int .u8 0))), 32, 32) := by kernel_rfl
/-- What is owned on the way of Write's last step. -/
def wHL (B : List HP) (bv : Nat) (fv : List (Int × Value)) (i : Int) (n : Nat) (xs : List Value) (cs : Array Value) (a b c : Bool) (x : Nat × Value) : List HP :=
  if c then owns 26 32 x.2 n xs :: mapP bv (mset fv i x.2) :: B
  else if b then owns 26 32 x.2 n xs :: mapP bv fv :: B
  else if a then pts x.1 (.cells cs 26) :: mapP bv fv :: B
  else mapP bv fv :: B
theorem wHL_base {w : World} {B : List HP} {bv : Nat} {fv : List (Int × Value)} {i : Int} {n : Nat} {xs : List Value} {cs : Array Value} {a b c : Bool} {x : Nat × Value} (h : Own w (wHL B bv fv i n xs cs a b c x)) : Own w B := by
  unfold wHL at h
  split at h
  · exact own_drop (own_drop h)
  · split at h
    · exact own_drop (own_drop h)
    · split at h
      · exact own_drop (own_drop h)
      · exact own_drop h
theorem wHL_map {w : World} {B : List HP} {bv : Nat} {fv : List (Int × Value)} {i : Int} {n : Nat} {xs : List Value} {cs : Array Value} {a b c : Bool} {x : Nat × Value} (hc : c = false) (h : Own w (wHL B bv fv i n xs cs a b c x)) : ∃ L, Own w (mapP bv fv :: L) := by
  subst hc
  unfold wHL at h
  rw [if_neg (by simp)] at h
  split at h
  · exact ⟨_, own_perm h (List.Perm.swap _ _ _)⟩
  · split at h
    · exact ⟨_, own_perm h (List.Perm.swap _ _ _)⟩
    · exact ⟨_, h⟩
set_option maxHeartbeats 1600000 in
theorem write_ok (i : Nat) (b : Blk) (s : Sec) (hO : Own w (diskP d m :: L)) (hi : m[i]? = some b) (hb : b.bad = false) (hs : s.length = 32) (hlim : b.vs.length ≤ 1000000) : Calls Try.prog 19 #[.pointer (some ⟨d, 0, none⟩), .int .i64 i, secV s] w (Ret w (.int .i64 0) (diskP d (m.set i (b.wr s)) :: L)) := by
  have HI := Lib.hid hi
  have HB := Lib.hid hb
  have H32 := Lib.hid hs
  have HLIM := Lib.hid hlim
  have hS := Same.refl w
  clear hi hb hs hlim
  go_enter Try.func19, Try.ntmps19
  go_upto_region 4 with (first | (refine own_box_agg (x := .tmp 2) rfl rfl rfl hO ?_; clear hO; intro bx u hO hSn; replace hS := hS.trans hSn; clear hSn) | (go_at_call 36; (with_reducible refine Calls.mono (call_at 1 (fun L' h => may_ok _ L' d m i b h HI.out) rfl hO) ?_); clear hO; rintro e u ⟨rfl, hO, hSn⟩; replace hS := hS.trans hSn; clear hSn; simp only [List.set_cons_zero, List.set_cons_succ] at hO))
  obtain ⟨lv, bv, bb, fv, fb, l, hk, hO⟩ := disk_open.1 (own_perm hO (List.Perm.swap _ _ _))
  have HK := Lib.hid hk
  have hbad := hk.bads i b HI.out
  rw [HB.out] at hbad
  have HBAD := Lib.hid hbad
  obtain ⟨A, c, hv, hmem⟩ := hk.vers i b HI.out
  have HV := Lib.hid hv
  have HMEM := Lib.hid hmem
  have hA0 : A = none → c = 0 := fun hA => by
    subst hA
    have hr := rdV_rd (own_at hO (k := 4) rfl) hmem
    cases hn : b.vs with
    | nil =>
      rw [hk.none HI.out hn] at hv
      simp only [Option.getD_none] at hv
      injection hv with _ _ h3
      exact h3.symm
    | cons s0 r =>
      have hpos : 0 < (secs b.vs).length := by
        have e1 := hr.out.1
        rw [e1, hn, List.length_cons]
        omega
      obtain ⟨ad, h⟩ := hr.addr hpos
      cases h
  have HA := Lib.hid hA0
  clear hA0
  clear hk hbad hv hmem
  go_upto_region 6 with (first | (apply own_load1 rfl rfl rfl; (first | exact row_secs | exact row_mv | exact row_mb); (first | exact own_get 0 hO rfl | exact own_get 1 hO rfl | exact own_get 2 hO rfl | exact own_get 3 hO rfl | exact own_get 4 hO rfl | exact own_get 5 hO rfl | exact own_get 6 hO rfl | exact own_get 7 hO rfl); (first | (simp only [List.getElem?_toArray, List.getElem?_cons_succ, List.getElem?_cons_zero]; rfl) | rfl)) | (refine own_mlookup (i := 3) (b := bb) (k := (i : Int)) (f := fb) rfl rfl rfl rfl und_mb und_i zero_b hO rfl HBAD.out ?_))
  have hO : Own u (mapP bv fv :: pts d (.cells #[lv, .map (some bv), .map (some bb)] 66) :: owns 26 32 lv m.length (secs (m.map (·.s))) :: mapP bb fb :: rdV l :: pts bx (.cells (bcs s).toArray 26) :: L) := own_at hO (k := 2) rfl
  refine wp_region_own (α := Nat × Value) (fun x => [.pointer (some ⟨d, 0, none⟩), .pointer (some ⟨d, 0, none⟩), .pointer (some ⟨d, 1, none⟩), .map (some bv), .int .i64 i, .pointer (some ⟨d, 0, none⟩), .pointer (some ⟨d, 0, none⟩), .pointer (some ⟨d, 1, none⟩), .map (some bv), .int .i64 i, .slice A b.vs.length c, .slice A b.vs.length b.vs.length, secV s, .slice (some ⟨x.1, 0, none⟩) 1 1, x.2, undef]) (fun D x => wHL (pts d (.cells #[lv, .map (some bv), .map (some bb)] 66) :: owns 26 32 lv m.length (secs (m.map (·.s))) :: mapP bb fb :: rdV l :: pts bx (.cells (bcs s).toArray 26) :: L) bv fv i (b.vs.length + 1) (secs b.vs ++ bcs s) (bcs s).toArray (D 13) (D 14) (D 15) x) u (0, undef) 35 (fun _ => rfl) mixed (by kernel_rfl) rfl (by exact own_heap hO (fun _ _ h => h)) (Same.drew _) (fun _ _ _ _ hd h => ⟨hd ▸ h.1, h.2⟩) ?_ ?_
  · refine ⟨?_, ?_, ?_, ?_, ?_, ?_, ?_, ?_, ?_, ?_, ?_, ?_, ?_, ?_, ?_, ?_, trivial⟩
    · (refine fs_pure (fun _ _ => rfl) (fun D x hD hcl hp => ?_); simp only [putO]; simp only [Act.put, List.setIfInBounds_toArray, List.set_cons_zero, List.set_cons_succ]; first | exact y_skip rfl | exact y_run rfl (by intro w h; go_simp; first | done | rfl))
    · (refine fs_pure (fun _ _ => rfl) (fun D x hD hcl hp => ?_); simp only [putO]; simp only [Act.put, List.setIfInBounds_toArray, List.set_cons_zero, List.set_cons_succ]; first | exact y_skip rfl | exact y_run rfl (by intro w h; go_simp; first | done | rfl))
    · (refine fs_pure (fun _ _ => rfl) (fun D x hD hcl hp => ?_); simp only [putO]; simp only [Act.put, List.setIfInBounds_toArray, List.set_cons_zero, List.set_cons_succ]; first | exact y_skip rfl | exact y_run rfl (by intro w h; go_simp; first | done | rfl))
    · (refine fs_pure (fun _ _ => rfl) (fun D x hD hcl hp => ?_); simp only [putO]; simp only [Act.put, List.setIfInBounds_toArray, List.set_cons_zero, List.set_cons_succ]; first | exact y_skip rfl | exact (y_load1 (b := d) (off := 1) (cs := #[lv, .map (some bv), .map (some bb)]) (t := 66) (v := .map (some bv)) rfl rfl rfl row_mv (fun w h => own_get 0 (wHL_base h.1) rfl) rfl) | exact y_run rfl (by intro w h; go_simp; first | done | rfl))
    · (refine fs_pure (fun _ _ => rfl) (fun D x hD hcl hp => ?_); simp only [putO]; simp only [Act.put, List.setIfInBounds_toArray, List.set_cons_zero, List.set_cons_succ]; first | exact y_skip rfl | exact y_run rfl (by intro w h; go_simp; first | done | rfl))
    · (refine fs_pure (fun _ _ => rfl) (fun D x hD hcl hp => ?_); simp only [putO]; simp only [Act.put, List.setIfInBounds_toArray, List.set_cons_zero, List.set_cons_succ]; first | exact y_skip rfl | exact y_run rfl (by intro w h; go_simp; first | done | rfl))
    · (refine fs_pure (fun _ _ => rfl) (fun D x hD hcl hp => ?_); simp only [putO]; simp only [Act.put, List.setIfInBounds_toArray, List.set_cons_zero, List.set_cons_succ]; first | exact y_skip rfl | exact y_run rfl (by intro w h; go_simp; first | done | rfl))
    · (refine fs_pure (fun _ _ => rfl) (fun D x hD hcl hp => ?_); simp only [putO]; simp only [Act.put, List.setIfInBounds_toArray, List.set_cons_zero, List.set_cons_succ]; first | exact y_skip rfl | exact y_run rfl (by intro w h; go_simp; first | done | rfl))
    · (refine fs_pure (fun _ _ => rfl) (fun D x hD hcl hp => ?_); simp only [putO]; simp only [Act.put, List.setIfInBounds_toArray, List.set_cons_zero, List.set_cons_succ]; first | exact y_skip rfl | exact (y_load1 (b := d) (off := 1) (cs := #[lv, .map (some bv), .map (some bb)]) (t := 66) (v := .map (some bv)) rfl rfl rfl row_mv (fun w h => own_get 0 (wHL_base h.1) rfl) rfl) | exact y_run rfl (by intro w h; go_simp; first | done | rfl))
    · (refine fs_pure (fun _ _ => rfl) (fun D x hD hcl hp => ?_); simp only [putO]; simp only [Act.put, List.setIfInBounds_toArray, List.set_cons_zero, List.set_cons_succ]; first | exact y_skip rfl | exact y_run rfl (by intro w h; go_simp; first | done | rfl))
    · (refine fs_pure (fun _ _ => rfl) (fun D x hD hcl hp => ?_); simp only [putO]; simp only [Act.put, List.setIfInBounds_toArray, List.set_cons_zero, List.set_cons_succ]; first | exact y_skip rfl | exact (y_mlookup rfl rfl rfl rfl und_mv und_i zero_secs (fun w h => wHL_map (behL_ok hcl hD (by kernel_rfl)) h.1) HV.out) | exact y_run rfl (by intro w h; go_simp; first | done | rfl))
    · (refine fs_pure (fun _ _ => rfl) (fun D x hD hcl hp => ?_); simp only [putO]; simp only [Act.put, List.setIfInBounds_toArray, List.set_cons_zero, List.set_cons_succ]; first | exact y_skip rfl | exact (y_call rfl (by intro w h; go_simp; first | done | exact ⟨rfl, rfl⟩) (by intro w h; apply cls_call h; exact clip_c _ _ _ _ _ h.1 (rdV_rd (own_at (wHL_base h.1) (k := 3) rfl) HMEM.out) HA.out)) | exact y_run rfl (by intro w h; go_simp; first | done | rfl))
    · (refine fs_pure (fun _ _ => rfl) (fun D x hD hcl hp => ?_); simp only [putO]; simp only [Act.put, List.setIfInBounds_toArray, List.set_cons_zero, List.set_cons_succ]; first | exact y_skip rfl | exact (y_loadrow (b := bx) (off := 0) (cs := (bcs s).toArray) (t := 26) (vs := bcs s) rfl rfl rfl row_sec sz_sec (fun w h => own_get 4 (wHL_base h.1) rfl) (by simp [bcs_length, H32.out]) (by rw [List.drop_zero]; exact List.take_of_length_le (by simp [bcs_length, H32.out]))) | exact y_run rfl (by intro w h; go_simp; first | done | rfl))
    · intro D x u5 hD hcl hp hO5 hS5
      simp only [putO]
      simp only [Act.put, List.setIfInBounds_toArray, List.set_cons_zero, List.set_cons_succ]
      have h14 : D 14 = false := behL_ok hcl hD (by kernel_rfl)
      have h15 : D 15 = false := behL_ok hcl hD (by kernel_rfl)
      simp only [hD, h14, h15] at hO5
      refine own_bs1 (s := s) rfl rfl rfl H32.out ?_
      refine wpList_nil ⟨rfl, (u5.heap.size, x.2), (by intro j hj; rcases j with _ | _ | _ | _ | _ | _ | _ | _ | _ | _ | _ | _ | _ | _ | _ | _ | j <;> first | rfl | exact absurd (hj.symm.trans hD) (by simp)), fun d hd _ => by cases hd; rfl, ?_, hS5.trans (Same.alloc _ _)⟩
      show Own _ (wHL _ _ _ _ _ _ _ (upd D 13 13) (upd D 13 14) (upd D 13 15) _)
      simp only [upd, if_true, Nat.reduceEqDiff, if_false, h14, h15]
      exact own_alloc_new hO5 _
    · intro D x u5 hD hcl hp hO5 hS5
      simp only [putO]
      simp only [Act.put, List.setIfInBounds_toArray, List.set_cons_zero, List.set_cons_succ]
      have h13 : D 13 = true := dep_yes hp (by kernel_rfl)
      have h15 : D 15 = false := behL_ok hcl hD (by kernel_rfl)
      have hD' : D 14 = false := hD
      simp only [hD', h13, h15] at hO5
      have hO5 : Own u5 (pts x.1 (.cells (bcs s).toArray 26) :: mapP bv fv :: pts d (.cells #[lv, .map (some bv), .map (some bb)] 66) :: owns 26 32 lv m.length (secs (m.map (·.s))) :: mapP bb fb :: rdV l :: pts bx (.cells (bcs s).toArray 26) :: L) := hO5
      refine own_appf (n := b.vs.length) (m := 1) (xs := secs b.vs) (news := bcs s) rfl rfl rfl rfl Try.underlying23 info_sec3 (by simp [Value.cells]) (by decide) (own_drop hO5) (full_rd (rdV_rd (own_at hO5 (k := 5) rfl) HMEM.out)) (rd_block (own_get 0 hO5 rfl) (List.take_of_length_le (by simp [bcs_length, H32.out])) (by simp [bcs_length, H32.out]) (by decide) (by decide)) (by decide) (bcs_one s) (by have := HLIM.out; simp only [maxLen]; omega) (by have := HLIM.out; omega) ?_
      intro v' w' hO6 hS6
      refine wpList_nil ⟨rfl, (x.1, v'), (by intro j hj; rcases j with _ | _ | _ | _ | _ | _ | _ | _ | _ | _ | _ | _ | _ | _ | _ | _ | j <;> first | rfl | exact absurd (hj.symm.trans hD) (by simp)), fun d hd _ => by cases hd; rfl, ?_, hS5.trans hS6⟩
      show Own _ (wHL _ _ _ _ _ _ _ (upd D 14 13) (upd D 14 14) (upd D 14 15) _)
      simp only [upd, if_true, Nat.reduceEqDiff, if_false, h13, h15]
      exact hO6
    · intro D x u5 hD hcl hp hO5 hS5
      simp only [putO]
      simp only [Act.put, List.setIfInBounds_toArray, List.set_cons_zero, List.set_cons_succ]
      have h13 : D 13 = true := ahead_yes (i := 15) rfl hcl hp (by decide) (by kernel_rfl)
      have h14 : D 14 = true := dep_yes hp (by kernel_rfl)
      have hD' : D 15 = false := hD
      simp only [hD', h13, h14] at hO5
      refine own_mset (i := 1) (b := bv) (f := fv) (k := (i : Int)) (v := x.2) rfl rfl rfl rfl rfl und_mv und_i hO5 rfl ?_
      intro w' hO6 hS6
      refine wpList_nil ⟨rfl, x, fun _ _ => rfl, fun d hd _ => (by cases hd), ?_, hS5.trans hS6⟩
      show Own _ (wHL _ _ _ _ _ _ _ (upd D 15 13) (upd D 15 14) (upd D 15 15) _)
      simp only [upd, if_true, Nat.reduceEqDiff, if_false, h13, h14]
      exact hO6
  · intro x w10 D hD hO hS10
    simp only [hD 13 (by decide), hD 14 (by decide), hD 15 (by decide)] at hO
    simp only [putO]
    simp only [Act.put, List.setIfInBounds_toArray, List.set_cons_zero, List.set_cons_succ]
    simp only [Exit.then]
    clear hD
    go_wp2
    go_ret
    have hO : Own w10 (owns 26 32 x.2 (b.vs.length + 1) (secs b.vs ++ bcs s) :: mapP bv (mset fv i x.2) :: pts d (.cells #[lv, .map (some bv), .map (some bb)] 66) :: owns 26 32 lv m.length (secs (m.map (·.s))) :: mapP bb fb :: rdV l :: pts bx (.cells (bcs s).toArray 26) :: L) := hO
    obtain ⟨A', c', e⟩ := (owns_rd hO).slice
    have hO := own_drop (own_at hO (k := 6) rfl)
    refine ⟨rfl, ?_, hS.trans hS10⟩
    refine disk_open.2 ⟨lv, bv, bb, _, _, _, HK.out.write (A := A') (c := c') HI.out H32.out, ?_⟩
    rw [map_set_s (b' := b.wr s) HI.out rfl, List.length_set, ← e]
    have es : secs b.vs ++ bcs s = secs (b.vs ++ [s]) := by rw [secs_append]; simp [secs]
    rw [es] at hO
    have hO1 := rdA_owns hO
    have hO2 : Own w10 (rdA 32 x.2 (b.vs ++ [s]).length (secs (b.vs ++ [s])) :: rdV l :: mapP bv (mset fv i x.2) :: pts d (.cells #[lv, .map (some bv), .map (some bb)] 66) :: owns 26 32 lv m.length (secs (m.map (·.s))) :: mapP bb fb :: L) := by
      rw [List.length_append, List.length_singleton]
      exact own_perm hO1 (List.Perm.cons _ (perm_at (k := 4) rfl))
    exact own_perm (rdV_cons hO2) (by
      refine List.Perm.trans (List.perm_append_comm (l₁ := [_]) (l₂ := [_, _, _, _])|>.append_right L) ?_
      exact List.Perm.trans (List.Perm.swap _ _ _) (List.Perm.cons _ (List.Perm.swap _ _ _)))
theorem spoil_nil (i : Int) (bad : Bool) (hO : Own w L) : Calls Try.prog 23 #[.pointer none, .int .i64 i, .bool bad] w (Ret w (.int .i64 1) L) := by
  have hS := Same.refl w
  go_enter Try.func23, Try.ntmps23
  go_wp2_with (first | (go_at_call 36; (with_reducible refine Calls.mono (may_nil _ _ i hO) ?_); clear hO; rintro e u ⟨rfl, hO, hSn⟩; replace hS := hS.trans hSn; clear hSn))
  go_ret
  exact ⟨rfl, hO, hS⟩
theorem spoil_no (i : Int) (bad : Bool) (hO : Own w (diskP d m :: L)) (hi : i < 0 ∨ (m.length : Int) ≤ i) : Calls Try.prog 23 #[.pointer (some ⟨d, 0, none⟩), .int .i64 i, .bool bad] w (Ret w (.int .i64 2) (diskP d m :: L)) := by
  have HI := Lib.hid hi
  have hS := Same.refl w
  clear hi
  go_enter Try.func23, Try.ntmps23
  go_wp2_with (first | (go_at_call 36; (with_reducible refine Calls.mono (may_no _ _ d m i hO HI.out) ?_); clear hO; rintro e u ⟨rfl, hO, hSn⟩; replace hS := hS.trans hSn; clear hSn))
  go_ret
  exact ⟨rfl, hO, hS⟩
theorem spoil_ok (i : Nat) (b : Blk) (bad : Bool) (hO : Own w (diskP d m :: L)) (hi : m[i]? = some b) : Calls Try.prog 23 #[.pointer (some ⟨d, 0, none⟩), .int .i64 i, .bool bad] w (Ret w (.int .i64 0) (diskP d (m.set i ⟨b.s, b.vs, bad⟩) :: L)) := by
  have HI := Lib.hid hi
  have hS := Same.refl w
  clear hi
  go_enter Try.func23, Try.ntmps23
  go_upto_region 3 with (first | (go_at_call 36; (with_reducible refine Calls.mono (may_ok _ _ d m i b hO HI.out) ?_); clear hO; rintro e u ⟨rfl, hO, hSn⟩; replace hS := hS.trans hSn; clear hSn))
  obtain ⟨lv, bv, bb, fv, fb, l, hk, hO⟩ := disk_open.1 hO
  have HK := Lib.hid hk
  clear hk
  go_wp2_with (first | (apply own_load1 rfl rfl rfl; (first | exact row_secs | exact row_mv | exact row_mb); (first | exact own_get 0 hO rfl | exact own_get 1 hO rfl | exact own_get 2 hO rfl | exact own_get 3 hO rfl | exact own_get 4 hO rfl | exact own_get 5 hO rfl | exact own_get 6 hO rfl | exact own_get 7 hO rfl); (first | (simp only [List.getElem?_toArray, List.getElem?_cons_succ, List.getElem?_cons_zero]; rfl) | rfl)) | (refine own_mset (i := 3) (b := bb) (f := fb) (k := (i : Int)) (v := .bool bad) rfl rfl rfl rfl rfl und_mb und_i hO rfl ?_; clear hO; intro u hO hSn; replace hS := hS.trans hSn; clear hSn; simp only [List.set_cons_zero, List.set_cons_succ] at hO))
  go_ret
  refine ⟨rfl, disk_open.2 ⟨lv, bv, bb, _, _, _, HK.out.spoil HI.out bad, ?_⟩, hS⟩
  rw [map_set_s (b' := ⟨b.s, b.vs, bad⟩) HI.out rfl, List.length_set]
  exact hO
end
end Go.Proofs.Ytjilkbkafigloaa.H
