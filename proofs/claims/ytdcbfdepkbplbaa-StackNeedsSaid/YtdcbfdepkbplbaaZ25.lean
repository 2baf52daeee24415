/- The law's do: a deed on both. -/
import Derived.Test.YtdcbfdepkbplbaaZ24
set_option linter.unusedVariables false
set_option linter.unusedSimpArgs false
set_option maxRecDepth 100000
namespace Go.Proofs.Ytdcbfdepkbplbaa.H
open Go.RowKit
def DoPost (w : World) (L : List HP) (p q : Nat) (m : Stk) (e : Ending) (w' : World) : Prop :=
  ∃ m' : Stk, m'.Ok ∧ m'.l.length ≤ m.l.length + 1 ∧ m'.next ≤ m.next + 1 ∧ Ret w (.bool true) (stk p m' :: rstk q m' :: L) e w'
section
variable (w : World) (L : List HP) (p q : Nat) (m : Stk)
set_option maxHeartbeats 1600000 in
theorem do_push (kd dn dm db dof : Int) (dd : ByteArray) (dv : Value) (hO : Own w (stk p m :: rstk q m :: L)) (hk : m.Ok) (hl : m.l.length < 200) (hn : m.next < 1000000) (hd : kd = 0) :
    Calls Try.prog 30 #[.pointer (some ⟨p, 0, none⟩), .pointer (some ⟨q, 0, none⟩), .agg #[.int .i64 kd, .int .i64 dn, .int .i64 dm, .int .i64 db, .int .i64 dof, .string dd, dv]] w (DoPost w L p q m) := by
  subst hd
  obtain ⟨r, e, m', hB, h1, h2, h3, _⟩ := push_both m db dof dd hk hl hn
  have HB := Lib.hid hB
  have HP : Hid (m'.Ok ∧ m'.l.length ≤ m.l.length + 1 ∧ m'.next ≤ m.next + 1) := ⟨h1, h2, h3⟩
  have hS := Same.refl w
  clear hB h1 h2 h3 hk hl hn
  go_enter Try.func30, Try.ntmps30
  go_wp2_with (first | (refine own_box_agg (x := .tmp 2) rfl rfl rfl hO ?_; clear hO; intro b u hO hSn; replace hS := hS.trans hSn; clear hSn) | (apply own_load1 rfl rfl rfl; (first | exact row_int | exact row_str | exact row_bool | exact row_u8 | exact row_bys | exact row_pats | exact row_err); (first | exact own_get 0 hO rfl | exact own_get 1 hO rfl | exact own_get 2 hO rfl | exact own_get 3 hO rfl | exact own_get 4 hO rfl | exact own_get 5 hO rfl | exact own_get 6 hO rfl | exact own_get 7 hO rfl); (first | (simp only [List.getElem?_toArray, List.getElem?_cons_succ, List.getElem?_cons_zero]; rfl) | rfl)) | (apply own_loadrow rfl rfl rfl; (first | exact row_pat); exact sz_pat; (first | exact own_get 0 hO rfl | exact own_get 1 hO rfl | exact own_get 2 hO rfl | exact own_get 3 hO rfl | exact own_get 4 hO rfl | exact own_get 5 hO rfl | exact own_get 6 hO rfl | exact own_get 7 hO rfl); (focus (simp; done)); (first | (simp only [List.drop_zero, List.drop_succ_cons, List.take_succ_cons, List.take_zero]; rfl) | rfl)) | (go_at_call 25; (with_reducible refine Calls.mono (call_at 1 (fun L' h => HB.out.1 _ L' p h) rfl hO) ?_); clear hO; rintro e u ⟨rfl, hO, hSn⟩; replace hS := hS.trans hSn; clear hSn; simp only [List.set_cons_zero, List.set_cons_succ] at hO) | (go_at_call 56; (with_reducible refine Calls.mono (call_at 2 (fun L' h => HB.out.2 _ L' q h) rfl hO) ?_); clear hO; rintro e u ⟨rfl, hO, hSn⟩; replace hS := hS.trans hSn; clear hSn; simp only [List.set_cons_zero, List.set_cons_succ] at hO))
  go_ret
  exact ⟨m', HP.out.1, HP.out.2.1, HP.out.2.2, rfl, own_drop hO, hS⟩
set_option maxHeartbeats 1600000 in
theorem do_pop (kd dn dm db dof : Int) (dd : ByteArray) (dv : Value) (hO : Own w (stk p m :: rstk q m :: L)) (hk : m.Ok) (hd : kd = 1) :
    Calls Try.prog 30 #[.pointer (some ⟨p, 0, none⟩), .pointer (some ⟨q, 0, none⟩), .agg #[.int .i64 kd, .int .i64 dn, .int .i64 dm, .int .i64 db, .int .i64 dof, .string dd, dv]] w (DoPost w L p q m) := by
  subst hd
  obtain ⟨x0, x1, x2, e, m', hB, h1, h2, h3, _⟩ := pop_both m hk
  have HB := Lib.hid hB
  have HP : Hid (m'.Ok ∧ m'.l.length ≤ m.l.length + 1 ∧ m'.next ≤ m.next + 1) := ⟨h1, by omega, by omega⟩
  have hS := Same.refl w
  clear hB h1 h2 h3 hk
  go_enter Try.func30, Try.ntmps30
  go_wp2_with (first | (refine own_box_agg (x := .tmp 2) rfl rfl rfl hO ?_; clear hO; intro b u hO hSn; replace hS := hS.trans hSn; clear hSn) | (apply own_load1 rfl rfl rfl; (first | exact row_int | exact row_str | exact row_bool | exact row_u8 | exact row_bys | exact row_pats | exact row_err); (first | exact own_get 0 hO rfl | exact own_get 1 hO rfl | exact own_get 2 hO rfl | exact own_get 3 hO rfl | exact own_get 4 hO rfl | exact own_get 5 hO rfl | exact own_get 6 hO rfl | exact own_get 7 hO rfl); (first | (simp only [List.getElem?_toArray, List.getElem?_cons_succ, List.getElem?_cons_zero]; rfl) | rfl)) | (apply own_loadrow rfl rfl rfl; (first | exact row_pat); exact sz_pat; (first | exact own_get 0 hO rfl | exact own_get 1 hO rfl | exact own_get 2 hO rfl | exact own_get 3 hO rfl | exact own_get 4 hO rfl | exact own_get 5 hO rfl | exact own_get 6 hO rfl | exact own_get 7 hO rfl); (focus (simp; done)); (first | (simp only [List.drop_zero, List.drop_succ_cons, List.take_succ_cons, List.take_zero]; rfl) | rfl)) | (go_at_call 27; (with_reducible refine Calls.mono (call_at 1 (fun L' h => HB.out.1 _ L' p h) rfl hO) ?_); clear hO; rintro e u ⟨rfl, hO, hSn⟩; replace hS := hS.trans hSn; clear hSn; simp only [List.set_cons_zero, List.set_cons_succ] at hO) | (go_at_call 57; (with_reducible refine Calls.mono (call_at 3 (fun L' h => HB.out.2 _ L' q h) rfl hO) ?_); clear hO; rintro e u ⟨rfl, hO, hSn⟩; replace hS := hS.trans hSn; clear hSn; simp only [List.set_cons_zero, List.set_cons_succ] at hO) | (refine own_alloc (T := 33) rfl rfl zero_pat rfl hO ?_; clear hO; intro g u hO hSn; replace hS := hS.trans hSn; clear hSn) | (apply own_store_all (k := 0) rfl rfl rfl rfl sz_pat hO rfl; (focus rfl); (focus rfl); (focus rfl); clear hO; intro u hO hSn; replace hS := hS.trans hSn; clear hSn; simp only [List.set_cons_zero, List.set_cons_succ] at hO))
  go_ret
  exact ⟨m', HP.out.1, HP.out.2.1, HP.out.2.2, rfl, own_drop (own_drop (own_drop hO)), hS⟩
theorem do_none (kd dn dm db dof : Int) (dd : ByteArray) (dv : Value) (hO : Own w (stk p m :: rstk q m :: L)) (hk : m.Ok) (h0 : kd ≠ 0) (h1 : kd ≠ 1) (h2 : kd ≠ 2) (h3 : kd ≠ 3) :
    Calls Try.prog 30 #[.pointer (some ⟨p, 0, none⟩), .pointer (some ⟨q, 0, none⟩), .agg #[.int .i64 kd, .int .i64 dn, .int .i64 dm, .int .i64 db, .int .i64 dof, .string dd, dv]] w (DoPost w L p q m) := by
  have HK := Lib.hid hk
  have g0 : (kd == 0) = false := by simpa using h0
  have g1 : (kd == 1) = false := by simpa using h1
  have g2 : (kd == 2) = false := by simpa using h2
  have g3 : (kd == 3) = false := by simpa using h3
  have hS := Same.refl w
  clear h0 h1 h2 h3 hk
  go_enter Try.func30, Try.ntmps30
  go_wp2_with (first | (refine own_box_agg (x := .tmp 2) rfl rfl rfl hO ?_; clear hO; intro b u hO hSn; replace hS := hS.trans hSn; clear hSn) | (apply own_load1 rfl rfl rfl; (first | exact row_int | exact row_str | exact row_bool | exact row_u8 | exact row_bys | exact row_pats | exact row_err); (first | exact own_get 0 hO rfl | exact own_get 1 hO rfl | exact own_get 2 hO rfl | exact own_get 3 hO rfl | exact own_get 4 hO rfl | exact own_get 5 hO rfl | exact own_get 6 hO rfl | exact own_get 7 hO rfl); (first | (simp only [List.getElem?_toArray, List.getElem?_cons_succ, List.getElem?_cons_zero]; rfl) | rfl)))
  go_ret
  exact ⟨m, HK.out, by omega, by omega, rfl, own_drop hO, hS⟩
set_option maxHeartbeats 1600000 in
theorem do_settle (kd dn dm db dof : Int) (dd : ByteArray) (A : Option Addr) (n c : Nat) (l : List Int) (hO : Own w (stk p m :: rstk q m :: L)) (hk : m.Ok) (hd : kd = 2) (hnl : n = l.length) (hr : ∀ w', Own w' L → Rd w' 1 (.slice A n c) n (ints l)) (hl : ∀ x ∈ l, i64 x) :
    Calls Try.prog 30 #[.pointer (some ⟨p, 0, none⟩), .pointer (some ⟨q, 0, none⟩), .agg #[.int .i64 kd, .int .i64 dn, .int .i64 dm, .int .i64 db, .int .i64 dof, .string dd, .slice A n c]] w (DoPost w L p q m) := by
  subst hd
  obtain ⟨e, m', hB, h1, h2, h3, _⟩ := settle_both m hk (l.take 40) (fun x hx => hl x (List.mem_of_mem_take hx))
  have HB := Lib.hid hB
  have HP : Hid (m'.Ok ∧ m'.l.length ≤ m.l.length + 1 ∧ m'.next ≤ m.next + 1) := ⟨h1, by omega, by omega⟩
  have hmx := (hr w (own_drop (own_drop hO))).max
  have HF : Hid (40 < n → 40 ≤ c) := fun h => by omega
  have HR : Hid (∀ w', Own w' L → Rd w' 1 (fewV A n c) (l.take 40).length (ints (l.take 40))) := fun w' h => few_rd (hr w' h) hnl
  have hS := Same.refl w
  clear hB h1 h2 h3 hk hr hl hmx hnl
  go_enter Try.func30, Try.ntmps30
  go_upto_region 11 with (first | (refine own_box_agg (x := .tmp 2) rfl rfl rfl hO ?_; clear hO; intro b u hO hSn; replace hS := hS.trans hSn; clear hSn) | (apply own_load1 rfl rfl rfl; (first | exact row_int | exact row_str | exact row_bool | exact row_u8 | exact row_bys | exact row_pats | exact row_err); (first | exact own_get 0 hO rfl | exact own_get 1 hO rfl | exact own_get 2 hO rfl | exact own_get 3 hO rfl | exact own_get 4 hO rfl | exact own_get 5 hO rfl | exact own_get 6 hO rfl | exact own_get 7 hO rfl); (first | (simp only [List.getElem?_toArray, List.getElem?_cons_succ, List.getElem?_cons_zero]; rfl) | rfl)))
  refine wp_region_own (α := Nat → Value) (fun x => [.pointer (some ⟨p, 0, none⟩), .pointer (some ⟨b, 6, none⟩), .slice A n c, fewV A n c, .int .i64 e, .pointer (some ⟨q, 0, none⟩), .pointer (some ⟨b, 6, none⟩), .slice A n c, fewV A n c, .int .i64 e, .bool true, .bool true]) (fun D x => stk p (if D 4 then m' else m) :: rstk q (if D 9 then m' else m) :: pts b (.cells #[.int .i64 2, .int .i64 dn, .int .i64 dm, .int .i64 db, .int .i64 dof, .string dd, .slice A n c] 42) :: L) u (fun _ => undef) 89 (fun _ => rfl) mixed (by kernel_rfl) rfl (by exact own_heap (own_perm hO (List.Perm.trans (List.Perm.swap _ _ _) (List.Perm.cons _ (List.Perm.swap _ _ _)))) (fun _ _ h => h)) (Same.drew _) (fun _ _ _ _ hd h => ⟨hd ▸ h.1, h.2⟩) ?_ ?_
  · refine ⟨?_, ?_, ?_, ?_, ?_, ?_, ?_, ?_, ?_, ?_, ?_, ?_, trivial⟩
    · (refine fs_pure (fun _ _ => rfl) (fun D x hD hcl hp => ?_); simp only [putO]; simp only [Act.put, List.setIfInBounds_toArray, List.set_cons_zero, List.set_cons_succ]; first | exact y_skip rfl | exact y_run rfl (by intro w h; go_simp; first | done | rfl))
    · (refine fs_pure (fun _ _ => rfl) (fun D x hD hcl hp => ?_); simp only [putO]; simp only [Act.put, List.setIfInBounds_toArray, List.set_cons_zero, List.set_cons_succ]; first | exact y_skip rfl | exact y_run rfl (by intro w h; go_simp; first | done | rfl))
    · (refine fs_pure (fun _ _ => rfl) (fun D x hD hcl hp => ?_); simp only [putO]; simp only [Act.put, List.setIfInBounds_toArray, List.set_cons_zero, List.set_cons_succ]; first | exact y_skip rfl | exact (y_load1 (b := b) (off := 6) (cs := #[.int .i64 2, .int .i64 dn, .int .i64 dm, .int .i64 db, .int .i64 dof, .string dd, .slice A n c]) (t := 42) (v := .slice A n c) rfl rfl rfl row_intsT (fun w h => own_get 2 h.1 rfl) rfl) | exact y_run rfl (by intro w h; go_simp; first | done | rfl))
    · (refine fs_pure (fun _ _ => rfl) (fun D x hD hcl hp => ?_); simp only [putO]; simp only [Act.put, List.setIfInBounds_toArray, List.set_cons_zero, List.set_cons_succ]; first | exact y_skip rfl | exact (y_call rfl (by intro w h; go_simp; first | done | exact ⟨rfl, rfl⟩) (by intro w h; apply cls_call h; exact few_c _ _ _ _ _ HF.out h.1)) | exact y_run rfl (by intro w h; go_simp; first | done | rfl))
    · intro D x w5 hD hcl hp hO5 hS5
      simp only [putO]
      simp only [Act.put, List.setIfInBounds_toArray, List.set_cons_zero, List.set_cons_succ]
      refine ev_call rfl (by go_simp; first | done | exact ⟨rfl, rfl⟩) ?_
      simp only [hD, Bool.false_eq_true, if_false] at hO5
      refine Calls.mono (HB.out.1 _ _ p _ hO5 (fun w' h => HR.out w' (own_drop (own_drop h)))) ?_
      rintro e2 w6 ⟨rfl, hO6, hS6⟩
      exact ⟨_, rfl, wpList_nil ⟨rfl, x, (by intros; first | trivial | rfl), fun d hd _ => by cases hd; rfl, hO6, hS5.trans hS6⟩⟩
    · (refine fs_pure (fun _ _ => rfl) (fun D x hD hcl hp => ?_); simp only [putO]; simp only [Act.put, List.setIfInBounds_toArray, List.set_cons_zero, List.set_cons_succ]; first | exact y_skip rfl | exact y_run rfl (by intro w h; go_simp; first | done | rfl))
    · (refine fs_pure (fun _ _ => rfl) (fun D x hD hcl hp => ?_); simp only [putO]; simp only [Act.put, List.setIfInBounds_toArray, List.set_cons_zero, List.set_cons_succ]; first | exact y_skip rfl | exact y_run rfl (by intro w h; go_simp; first | done | rfl))
    · (refine fs_pure (fun _ _ => rfl) (fun D x hD hcl hp => ?_); simp only [putO]; simp only [Act.put, List.setIfInBounds_toArray, List.set_cons_zero, List.set_cons_succ]; first | exact y_skip rfl | exact (y_load1 (b := b) (off := 6) (cs := #[.int .i64 2, .int .i64 dn, .int .i64 dm, .int .i64 db, .int .i64 dof, .string dd, .slice A n c]) (t := 42) (v := .slice A n c) rfl rfl rfl row_intsT (fun w h => own_get 2 h.1 rfl) rfl) | exact y_run rfl (by intro w h; go_simp; first | done | rfl))
    · (refine fs_pure (fun _ _ => rfl) (fun D x hD hcl hp => ?_); simp only [putO]; simp only [Act.put, List.setIfInBounds_toArray, List.set_cons_zero, List.set_cons_succ]; first | exact y_skip rfl | exact (y_call rfl (by intro w h; go_simp; first | done | exact ⟨rfl, rfl⟩) (by intro w h; apply cls_call h; exact few_c _ _ _ _ _ HF.out h.1)) | exact y_run rfl (by intro w h; go_simp; first | done | rfl))
    · intro D x w5 hD hcl hp hO5 hS5
      simp only [putO]
      simp only [Act.put, List.setIfInBounds_toArray, List.set_cons_zero, List.set_cons_succ]
      refine ev_call rfl (by go_simp; first | done | exact ⟨rfl, rfl⟩) ?_
      simp only [hD, Bool.false_eq_true, if_false] at hO5
      refine Calls.mono (HB.out.2 _ _ q _ (own_perm hO5 (List.Perm.swap _ _ _)) (fun w' h => HR.out w' (own_drop (own_drop h)))) ?_
      rintro e2 w6 ⟨rfl, hO6, hS6⟩
      exact ⟨_, rfl, wpList_nil ⟨rfl, x, (by intros; first | trivial | rfl), fun d hd _ => by cases hd; rfl, own_perm hO6 (List.Perm.swap _ _ _), hS5.trans hS6⟩⟩
    · (refine fs_pure (fun _ _ => rfl) (fun D x hD hcl hp => ?_); simp only [putO]; simp only [Act.put, List.setIfInBounds_toArray, List.set_cons_zero, List.set_cons_succ]; first | exact y_skip rfl | exact y_run rfl (by intro w h; go_simp; first | done | rfl))
    · (refine fs_pure (fun _ _ => rfl) (fun D x hD hcl hp => ?_); simp only [putO]; simp only [Act.put, List.setIfInBounds_toArray, List.set_cons_zero, List.set_cons_succ]; first | exact y_skip rfl | exact y_run rfl (by intro w h; go_simp; first | done | rfl))
  · intro x w10 D hD hO hS10
    simp only [hD 4 (by decide), hD 9 (by decide), if_true] at hO
    simp only [putO]
    simp only [Act.put, List.setIfInBounds_toArray, List.set_cons_zero, List.set_cons_succ]
    simp only [Exit.then]
    clear hD
    go_wp2
    go_ret
    exact ⟨m', HP.out.1, HP.out.2.1, HP.out.2.2, rfl, own_perm (own_drop (own_perm hO (List.Perm.trans (List.Perm.cons _ (List.Perm.swap _ _ _)) (List.Perm.swap _ _ _)))) (List.Perm.refl _), hS.trans hS10⟩
set_option maxHeartbeats 1600000 in
theorem do_squash (kd dn dm db dof : Int) (dd : ByteArray) (dv : Value) (hO : Own w (stk p m :: rstk q m :: L)) (hk : m.Ok) (hd : kd = 3) (hi : i64 dn) (hj : i64 dm) :
    Calls Try.prog 30 #[.pointer (some ⟨p, 0, none⟩), .pointer (some ⟨q, 0, none⟩), .agg #[.int .i64 kd, .int .i64 dn, .int .i64 dm, .int .i64 db, .int .i64 dof, .string dd, dv]] w (DoPost w L p q m) := by
  subst hd
  obtain ⟨e, m', hB, h1, h2, h3, _⟩ := squash_both m hk dn dm hi hj
  have HB := Lib.hid hB
  have HP : Hid (m'.Ok ∧ m'.l.length ≤ m.l.length + 1 ∧ m'.next ≤ m.next + 1) := ⟨h1, by omega, by omega⟩
  have hS := Same.refl w
  clear hB h1 h2 h3 hk hi hj
  go_enter Try.func30, Try.ntmps30
  go_upto_region 13 with (first | (refine own_box_agg (x := .tmp 2) rfl rfl rfl hO ?_; clear hO; intro b u hO hSn; replace hS := hS.trans hSn; clear hSn) | (apply own_load1 rfl rfl rfl; (first | exact row_int | exact row_str | exact row_bool | exact row_u8 | exact row_bys | exact row_pats | exact row_err); (first | exact own_get 0 hO rfl | exact own_get 1 hO rfl | exact own_get 2 hO rfl | exact own_get 3 hO rfl | exact own_get 4 hO rfl | exact own_get 5 hO rfl | exact own_get 6 hO rfl | exact own_get 7 hO rfl); (first | (simp only [List.getElem?_toArray, List.getElem?_cons_succ, List.getElem?_cons_zero]; rfl) | rfl)))
  refine wp_region_own (α := Nat → Value) (fun x => [.pointer (some ⟨p, 0, none⟩), .pointer (some ⟨b, 1, none⟩), .int .i64 dn, .pointer (some ⟨b, 2, none⟩), .int .i64 dm, .int .i64 e, .pointer (some ⟨q, 0, none⟩), .pointer (some ⟨b, 1, none⟩), .int .i64 dn, .pointer (some ⟨b, 2, none⟩), .int .i64 dm, .int .i64 e, .bool true, .bool true]) (fun D x => stk p (if D 5 then m' else m) :: rstk q (if D 11 then m' else m) :: pts b (.cells #[.int .i64 3, .int .i64 dn, .int .i64 dm, .int .i64 db, .int .i64 dof, .string dd, dv] 42) :: L) u (fun _ => undef) 89 (fun _ => rfl) mixed (by kernel_rfl) rfl (by exact own_heap (own_perm hO (List.Perm.trans (List.Perm.swap _ _ _) (List.Perm.cons _ (List.Perm.swap _ _ _)))) (fun _ _ h => h)) (Same.drew _) (fun _ _ _ _ hd h => ⟨hd ▸ h.1, h.2⟩) ?_ ?_
  · refine ⟨?_, ?_, ?_, ?_, ?_, ?_, ?_, ?_, ?_, ?_, ?_, ?_, ?_, ?_, trivial⟩
    · (refine fs_pure (fun _ _ => rfl) (fun D x hD hcl hp => ?_); simp only [putO]; simp only [Act.put, List.setIfInBounds_toArray, List.set_cons_zero, List.set_cons_succ]; first | exact y_skip rfl | exact y_run rfl (by intro w h; go_simp; first | done | rfl))
    · (refine fs_pure (fun _ _ => rfl) (fun D x hD hcl hp => ?_); simp only [putO]; simp only [Act.put, List.setIfInBounds_toArray, List.set_cons_zero, List.set_cons_succ]; first | exact y_skip rfl | exact y_run rfl (by intro w h; go_simp; first | done | rfl))
    · (refine fs_pure (fun _ _ => rfl) (fun D x hD hcl hp => ?_); simp only [putO]; simp only [Act.put, List.setIfInBounds_toArray, List.set_cons_zero, List.set_cons_succ]; first | exact y_skip rfl | exact (y_load1 (b := b) (off := 1) (cs := #[.int .i64 3, .int .i64 dn, .int .i64 dm, .int .i64 db, .int .i64 dof, .string dd, dv]) (t := 42) (v := .int .i64 dn) rfl rfl rfl row_int (fun w h => own_get 2 h.1 rfl) rfl) | exact y_run rfl (by intro w h; go_simp; first | done | rfl))
    · (refine fs_pure (fun _ _ => rfl) (fun D x hD hcl hp => ?_); simp only [putO]; simp only [Act.put, List.setIfInBounds_toArray, List.set_cons_zero, List.set_cons_succ]; first | exact y_skip rfl | exact y_run rfl (by intro w h; go_simp; first | done | rfl))
    · (refine fs_pure (fun _ _ => rfl) (fun D x hD hcl hp => ?_); simp only [putO]; simp only [Act.put, List.setIfInBounds_toArray, List.set_cons_zero, List.set_cons_succ]; first | exact y_skip rfl | exact (y_load1 (b := b) (off := 2) (cs := #[.int .i64 3, .int .i64 dn, .int .i64 dm, .int .i64 db, .int .i64 dof, .string dd, dv]) (t := 42) (v := .int .i64 dm) rfl rfl rfl row_int (fun w h => own_get 2 h.1 rfl) rfl) | exact y_run rfl (by intro w h; go_simp; first | done | rfl))
    · intro D x w5 hD hcl hp hO5 hS5
      simp only [putO]
      simp only [Act.put, List.setIfInBounds_toArray, List.set_cons_zero, List.set_cons_succ]
      refine ev_call rfl (by go_simp; first | done | exact ⟨rfl, rfl⟩) ?_
      simp only [hD, Bool.false_eq_true, if_false] at hO5
      refine Calls.mono (HB.out.1 _ _ p hO5) ?_
      rintro e2 w6 ⟨rfl, hO6, hS6⟩
      exact ⟨_, rfl, wpList_nil ⟨rfl, x, (by intros; first | trivial | rfl), fun d hd _ => by cases hd; rfl, hO6, hS5.trans hS6⟩⟩
    · (refine fs_pure (fun _ _ => rfl) (fun D x hD hcl hp => ?_); simp only [putO]; simp only [Act.put, List.setIfInBounds_toArray, List.set_cons_zero, List.set_cons_succ]; first | exact y_skip rfl | exact y_run rfl (by intro w h; go_simp; first | done | rfl))
    · (refine fs_pure (fun _ _ => rfl) (fun D x hD hcl hp => ?_); simp only [putO]; simp only [Act.put, List.setIfInBounds_toArray, List.set_cons_zero, List.set_cons_succ]; first | exact y_skip rfl | exact y_run rfl (by intro w h; go_simp; first | done | rfl))
    · (refine fs_pure (fun _ _ => rfl) (fun D x hD hcl hp => ?_); simp only [putO]; simp only [Act.put, List.setIfInBounds_toArray, List.set_cons_zero, List.set_cons_succ]; first | exact y_skip rfl | exact (y_load1 (b := b) (off := 1) (cs := #[.int .i64 3, .int .i64 dn, .int .i64 dm, .int .i64 db, .int .i64 dof, .string dd, dv]) (t := 42) (v := .int .i64 dn) rfl rfl rfl row_int (fun w h => own_get 2 h.1 rfl) rfl) | exact y_run rfl (by intro w h; go_simp; first | done | rfl))
    · (refine fs_pure (fun _ _ => rfl) (fun D x hD hcl hp => ?_); simp only [putO]; simp only [Act.put, List.setIfInBounds_toArray, List.set_cons_zero, List.set_cons_succ]; first | exact y_skip rfl | exact y_run rfl (by intro w h; go_simp; first | done | rfl))
    · (refine fs_pure (fun _ _ => rfl) (fun D x hD hcl hp => ?_); simp only [putO]; simp only [Act.put, List.setIfInBounds_toArray, List.set_cons_zero, List.set_cons_succ]; first | exact y_skip rfl | exact (y_load1 (b := b) (off := 2) (cs := #[.int .i64 3, .int .i64 dn, .int .i64 dm, .int .i64 db, .int .i64 dof, .string dd, dv]) (t := 42) (v := .int .i64 dm) rfl rfl rfl row_int (fun w h => own_get 2 h.1 rfl) rfl) | exact y_run rfl (by intro w h; go_simp; first | done | rfl))
    · intro D x w5 hD hcl hp hO5 hS5
      simp only [putO]
      simp only [Act.put, List.setIfInBounds_toArray, List.set_cons_zero, List.set_cons_succ]
      refine ev_call rfl (by go_simp; first | done | exact ⟨rfl, rfl⟩) ?_
      simp only [hD, Bool.false_eq_true, if_false] at hO5
      refine Calls.mono (HB.out.2 _ _ q (own_perm hO5 (List.Perm.swap _ _ _))) ?_
      rintro e2 w6 ⟨rfl, hO6, hS6⟩
      exact ⟨_, rfl, wpList_nil ⟨rfl, x, (by intros; first | trivial | rfl), fun d hd _ => by cases hd; rfl, own_perm hO6 (List.Perm.swap _ _ _), hS5.trans hS6⟩⟩
    · (refine fs_pure (fun _ _ => rfl) (fun D x hD hcl hp => ?_); simp only [putO]; simp only [Act.put, List.setIfInBounds_toArray, List.set_cons_zero, List.set_cons_succ]; first | exact y_skip rfl | exact y_run rfl (by intro w h; go_simp; first | done | rfl))
    · (refine fs_pure (fun _ _ => rfl) (fun D x hD hcl hp => ?_); simp only [putO]; simp only [Act.put, List.setIfInBounds_toArray, List.set_cons_zero, List.set_cons_succ]; first | exact y_skip rfl | exact y_run rfl (by intro w h; go_simp; first | done | rfl))
  · intro x w10 D hD hO hS10
    simp only [hD 5 (by decide), hD 11 (by decide), if_true] at hO
    simp only [putO]
    simp only [Act.put, List.setIfInBounds_toArray, List.set_cons_zero, List.set_cons_succ]
    simp only [Exit.then]
    clear hD
    go_wp2
    go_ret
    exact ⟨m', HP.out.1, HP.out.2.1, HP.out.2.2, rfl, own_drop (own_perm hO (List.Perm.trans (List.Perm.cons _ (List.Perm.swap _ _ _)) (List.Perm.swap _ _ _))), hS.trans hS10⟩
theorem do_c (d : Dd) (hO : Own w (stk p m :: rstk q m :: L)) (hk : m.Ok) (hl : m.l.length < 200) (hn : m.next < 1000000) (hx : ∀ w', Own w' L → d.At w') :
    Calls Try.prog 30 #[.pointer (some ⟨p, 0, none⟩), .pointer (some ⟨q, 0, none⟩), .agg d.cells.toArray] w (DoPost w L p q m) := by
  obtain ⟨kd, dn, dm, ⟨db, dof, dd⟩, dv, dl⟩ := d
  have hd := hx w (own_drop (own_drop hO))
  by_cases h0 : kd = 0
  · exact do_push w L p q m kd dn dm db dof dd dv hO hk hl hn h0
  by_cases h1 : kd = 1
  · exact do_pop w L p q m kd dn dm db dof dd dv hO hk h1
  by_cases h2 : kd = 2
  · obtain ⟨A, c, e⟩ := hd.rd.slice
    have e : dv = .slice A dl.length c := e
    subst e
    exact do_settle w L p q m kd dn dm db dof dd A dl.length c dl hO hk h2 rfl (fun w' h => (hx w' h).rd) hd.i64
  by_cases h3 : kd = 3
  · exact do_squash w L p q m kd dn dm db dof dd dv hO hk h3 hd.n64 hd.m64
  exact do_none w L p q m kd dn dm db dof dd dv hO hk h0 h1 h2 h3
end
end Go.Proofs.Ytdcbfdepkbplbaa.H
