/- The reference's New, Push; Under at what is not on. -/
import Derived.Test.YtdcbfdepkbplbaaZ17
import Derived.Test.YtdcbfdepkbplbaaZ12
set_option linter.unusedVariables false
set_option linter.unusedSimpArgs false
set_option maxRecDepth 100000
namespace Go.Proofs.Ytdcbfdepkbplbaa.H
open Go.RowKit
theorem info_on3 : (Try.prog.info? 93).map (fun i => (i.zero, i.size, i.bytes)) = some (some (.agg #[.int .i64 0, .int .i64 0, .int .i64 0, .string ⟨#[]⟩]), 4, 40) := by kernel_rfl
theorem info_on2 : (Try.prog.info? 93).map (fun i => (i.zero, i.size)) = some (some (.agg #[.int .i64 0, .int .i64 0, .int .i64 0, .string ⟨#[]⟩]), 4) := by kernel_rfl
theorem sz_on : (Try.prog.info? 93).map (·.size) = some 4 := by kernel_rfl
theorem sz_ons : (Try.prog.info? 84).map (·.size) = some 1 := by kernel_rfl
theorem sz_bys17 : (Try.prog.info? 22).map (·.size) = some 1 := by kernel_rfl
theorem on_one (o : On) : ∀ u ∈ o.cells, u.oneCell' = true := by
  intro u hu
  simp only [On.cells, List.mem_cons, List.not_mem_nil, or_false] at hu
  rcases hu with rfl | rfl | rfl | rfl <;> rfl
theorem cellsO_one (l : List On) : ∀ u ∈ cellsO l, u.oneCell' = true := by
  intro u hu
  obtain ⟨o, _, hu⟩ := List.mem_flatMap.1 hu
  exact on_one o u hu
section
variable (w : World) (L : List HP) (q : Nat) (vb vl : Value) (m : Stk)
theorem runder_no (n : Int) (hO : Own w L) (hr : ∀ w', Own w' L → RAt w' q vb vl m) (hk : m.Ok) (hno : ∀ o ∈ m.l, (o.n : Int) ≠ n) :
    Calls Try.prog 45 #[.pointer (some ⟨q, 0, none⟩), .int .i64 n] w (Ret w (.tuple #[.string ⟨#[]⟩, .int .i64 5]) L) := by
  have HR := Lib.hid hr
  have HK := Lib.hid hk
  have HNO := Lib.hid hno
  clear hr hk hno
  go_enter Try.func45, Try.ntmps45
  go_wp2_with (first | (go_at_call 46; refine (rget_no _ _ q vb _ m n hO HR.out HK.out HNO.out).mono ?_; clear hO; rintro e w1 ⟨rfl, hO, hS1⟩) | (refine own_alloc (T := 33) rfl rfl zero_pat rfl hO ?_; clear hO; intro g w2 hO hS2) | (refine own_store_all (k := 0) (vs := #[.int .i64 0, .int .i64 0, .string ⟨#[]⟩]) rfl rfl rfl rfl sz_pat hO rfl rfl rfl rfl ?_; clear hO; intro w3 hO hS3; simp only [List.set_cons_zero] at hO))
  go_ret2
  exact ⟨rfl, own_drop hO, hS1.trans (hS2.trans hS3)⟩
theorem rnew_c (v : Value) (bs : List UInt8) (hO : Own w L) (hr : ∀ w', Own w' L → RdB w' v bs) (h32 : bs.length = 32) :
    Calls Try.prog 33 #[v] w (RetX w (fun p => .pointer (some ⟨p, 0, none⟩)) (fun p => rstk p ⟨bs, [], 0⟩ :: L)) := by
  obtain ⟨A, c, rfl⟩ := (hr w hO).slice
  have e : ((bs.length : Int) != 32) = false := by simp; omega
  have HR := Lib.hid hr
  have HB : Hid (bs.length = 32) := h32
  clear hr h32
  go_enter Try.func33, Try.ntmps33
  go_wp2_with (first | (refine own_lit0 rfl rfl Try.underlying22 sz_u8 hO ?_; clear hO; intro g0 w3 hO hS3) | (refine own_append (m := bs.length) (news := bcs bs) rfl rfl rfl rfl Try.underlying22 info_u8 rfl (by decide) hO ?_ (bcs_one bs) ?_ ?_ ?_; exact HR.out _ (own_drop hO); (rw [HB.out]; decide); (rw [HB.out]; decide); clear hO; intro v' w4 hO hS4 hv'; obtain ⟨A2, c2, rfl⟩ := (owns_rd hO).slice; clear hv'))
  go_ret
  have hO5 := own_alloc_new hO (.cells #[.slice A2 (0 + bs.length) c2, .slice none 0 0, .int .i64 0] 86)
  have e0 : 0 + bs.length = bs.length := Nat.zero_add _
  rw [e0] at hO5
  clear hO e0
  have hO := hO5
  clear hO5
  refine ⟨w4.heap.size, rfl, rstk_open.2 ⟨.slice A2 bs.length c2, .slice none 0 0, ?_⟩, hS3.trans (hS4.trans (Same.alloc _ _))⟩
  rw [List.nil_append] at hO
  have e32 : bs.length = 32 := HB.out
  rw [e32] at hO ⊢
  have hO : Own _ (pts w4.heap.size (.cells #[.slice A2 32 c2, .slice none 0 0, .int .i64 ((0 : Nat) : Int)] 86) :: owns 5 1 (.slice A2 32 c2) 32 (bcs bs) :: L) := hO
  exact own_perm (owns_nil (size := 4) (e := 93) hO) (perm_count fun x => by simp only [rstkL, List.count_append, List.count_cons, List.count_nil, List.length_nil, cellsO, List.flatMap_nil]; omega)
variable (a0 a1 : Int) (s : ByteArray)
theorem rpush_form (hO : Own w (rstk q m :: L)) (hR : rightB ⟨a0, a1, s⟩ = false) :
    Calls Try.prog 56 #[.pointer (some ⟨q, 0, none⟩), .agg #[.int .i64 a0, .int .i64 a1, .string s]] w (Ret w (.tuple #[.int .i64 0, .int .i64 3]) (rstk q m :: L)) := by
  have HR := Lib.hid hR
  clear hR
  go_enter Try.func56, Try.ntmps56
  go_wp2_with (first | (refine own_box_agg (x := .tmp 1) rfl rfl rfl hO ?_; clear hO; intro b w1 hO hS1) | (apply own_loadrow rfl rfl rfl; (first | exact row_pat); exact sz_pat; (first | exact own_get 0 hO rfl | exact own_get 1 hO rfl | exact own_get 2 hO rfl | exact own_get 3 hO rfl | exact own_get 4 hO rfl | exact own_get 5 hO rfl | exact own_get 6 hO rfl | exact own_get 7 hO rfl); (focus (simp; done)); (first | (simp only [List.drop_zero, List.drop_succ_cons, List.take_succ_cons, List.take_zero]; rfl) | rfl)) | (go_at_call 69; refine (rright_v _ _ _ _ _ HR.out hO).mono ?_; clear hO; rintro e w3 ⟨rfl, hO, hS3⟩))
  go_ret2
  exact ⟨rfl, own_drop hO, hS1.trans hS3⟩
/-- What the appends of Push have brought. -/
def pushHL (D : Nat → Bool) (x : Value × Value × Nat × Value) (l : List On) (o : On) : List HP :=
  if D 14 then [owns 93 4 x.2.2.2 (l.length + 1) (cellsO l ++ o.cells)] else if D 6 then [owns 93 4 x.2.1 l.length (cellsO l)] else if D 1 then [owns 93 4 x.1 0 []] else []
theorem push_1 {D : Nat → Bool} {x : Value × Value × Nat × Value} {l : List On} {o : On} (h1 : D 1 = false) (h6 : D 6 = false) (h14 : D 14 = false) : pushHL D x l o = [] := by simp [pushHL, h1, h6, h14]
theorem push_2 {D : Nat → Bool} {x : Value × Value × Nat × Value} {l : List On} {o : On} (h1 : D 1 = true) (h6 : D 6 = false) (h14 : D 14 = false) : pushHL D x l o = [owns 93 4 x.1 0 []] := by simp [pushHL, h1, h6, h14]
theorem push_3 {D : Nat → Bool} {x : Value × Value × Nat × Value} {l : List On} {o : On} (h6 : D 6 = true) (h14 : D 14 = false) : pushHL D x l o = [owns 93 4 x.2.1 l.length (cellsO l)] := by simp [pushHL, h6, h14]
theorem push_4 {D : Nat → Bool} {x : Value × Value × Nat × Value} {l : List On} {o : On} (h14 : D 14 = true) : pushHL D x l o = [owns 93 4 x.2.2.2 (l.length + 1) (cellsO l ++ o.cells)] := by simp [pushHL, h14]
set_option maxHeartbeats 3200000 in
theorem rpush_ok (hO : Own w (rstk q m :: L)) (hk : m.Ok) (hR : rightB ⟨a0, a1, s⟩ = true) (hl : m.l.length < 200) (hn : m.next < 1000000) :
    Calls Try.prog 56 #[.pointer (some ⟨q, 0, none⟩), .agg #[.int .i64 a0, .int .i64 a1, .string s]] w (Ret w (.tuple #[.int .i64 m.next, .int .i64 0]) (rstk q (m.pushed ⟨a0, a1, s⟩) :: L)) := by
  obtain ⟨vb, vl, hO⟩ := rstk_open.1 hO
  have HR := Lib.hid hR
  have HK := Lib.hid hk
  obtain ⟨A, cap, rfl⟩ := (rAt_of hO hk.base).rd.slice
  have hlen : decide ((200 : Int) ≤ (m.l.length : Int)) = false := by simp; omega
  have HL : Hid (m.l.length < 200) := hl
  have HN : Hid (m.next < 1000000) := hn
  have hO : Own w (pts q (.cells #[vb, .slice A m.l.length cap, .int .i64 m.next] 86) :: owns 5 1 vb 32 (bcs m.base) :: owns 93 4 (.slice A m.l.length cap) m.l.length (cellsO m.l) :: L) := hO
  clear hR hk hl hn
  go_enter Try.func56, Try.ntmps56
  go_upto_region 7 with (first | (refine own_box_agg (x := .tmp 1) rfl rfl rfl hO ?_; clear hO; intro b w1 hO hS1) | (apply own_loadrow rfl rfl rfl; (first | exact row_pat); exact sz_pat; (first | exact own_get 0 hO rfl | exact own_get 1 hO rfl | exact own_get 2 hO rfl | exact own_get 3 hO rfl | exact own_get 4 hO rfl | exact own_get 5 hO rfl | exact own_get 6 hO rfl | exact own_get 7 hO rfl); (focus (simp; done)); (first | (simp only [List.drop_zero, List.drop_succ_cons, List.take_succ_cons, List.take_zero]; rfl) | rfl)) | (go_at_call 69; refine (rright_v _ _ _ _ _ HR.out hO).mono ?_; clear hO; rintro e w3 ⟨rfl, hO, hS3⟩) | (refine own_load1 (b := q) (off := 1) (cs := #[vb, .slice A m.l.length cap, .int .i64 m.next]) (t := 86) (v := .slice A m.l.length cap) rfl rfl rfl row_ons (own_get 1 hO rfl) rfl ?_))
  refine wp_region_own (α := Value × Value × Nat × Value) (fun x => [.pointer (some ⟨q, 0, none⟩), x.1, .pointer (some ⟨q, 0, none⟩), .pointer (some ⟨q, 0, none⟩), .pointer (some ⟨q, 1, none⟩), .slice A m.l.length cap, x.2.1, .pointer (some ⟨q, 0, none⟩), .pointer (some ⟨q, 0, none⟩), .pointer (some ⟨q, 2, none⟩), .int .i64 m.next, .agg #[.int .i64 a0, .int .i64 a1, .string s], .agg #[.int .i64 m.next, .int .i64 a0, .int .i64 a1, .string s], .slice (some ⟨x.2.2.1, 0, none⟩) 1 1, x.2.2.2, .pointer (some ⟨q, 0, none⟩), .pointer (some ⟨q, 1, none⟩), undef]) (fun D x => pushHL D x m.l (⟨m.next, ⟨a0, a1, s⟩⟩ : On) ++ (mk (D 13) (pts x.2.2.1 (.cells #[.int .i64 m.next, .int .i64 a0, .int .i64 a1, .string s] 93)) ++ (pts b (.cells #[.int .i64 a0, .int .i64 a1, .string s] 33) :: pts q (.cells #[vb, (if D 17 then x.2.2.2 else .slice A m.l.length cap), .int .i64 m.next] 86) :: owns 5 1 vb 32 (bcs m.base) :: owns 93 4 (.slice A m.l.length cap) m.l.length (cellsO m.l) :: L))) w3 (undef, undef, 0, undef) 49 (fun _ => rfl) mixed (by kernel_rfl) rfl ?_ (Same.drew _) (fun _ _ _ _ hd h => ⟨hd ▸ h.1, h.2⟩) ?_ ?_
  · exact own_heap hO (fun _ _ h => h)
  · clear hO
    refine ⟨?_, ?_, ?_, ?_, ?_, ?_, ?_, ?_, ?_, ?_, ?_, ?_, ?_, ?_, ?_, ?_, ?_, ?_, trivial⟩
    · (refine fs_pure (fun _ _ => rfl) (fun D x hD hcl hp => ?_); simp only [List.append_eq, List.cons_append, List.nil_append, putO]; simp only [Act.put, List.setIfInBounds_toArray, List.set_cons_zero, List.set_cons_succ]; first | exact y_skip rfl | exact y_run rfl (by intro w h; go_simp; first | done | rfl))
    · skip
      intro D x w5 hD hcl hp hO hS5
      simp only [List.append_eq, List.cons_append, List.nil_append, putO]
      simp only [Act.put, List.setIfInBounds_toArray, List.set_cons_zero, List.set_cons_succ]
      have h6 := dep_no hcl hD 6 rfl
      have h14 := dep_no hcl h6 14 rfl
      have hO2 := hO
      simp only [push_1 hD h6 h14, List.nil_append] at hO2
      refine own_lit0 rfl rfl Try.underlying84 sz_on hO2 ?_
      intro g w6 hO6 hS6
      refine wpList_nil ⟨rfl, (.slice (some ⟨g, 0, none⟩) 0 0, x.2), (by intro j hj; rcases j with _ | j; (focus (first | rfl | (exfalso; simp_all; done))); rcases j with _ | j; (focus (first | rfl | (exfalso; simp_all; done))); rcases j with _ | j; (focus (first | rfl | (exfalso; simp_all; done))); rcases j with _ | j; (focus (first | rfl | (exfalso; simp_all; done))); rcases j with _ | j; (focus (first | rfl | (exfalso; simp_all; done))); rcases j with _ | j; (focus (first | rfl | (exfalso; simp_all; done))); rcases j with _ | j; (focus (first | rfl | (exfalso; simp_all; done))); rcases j with _ | j; (focus (first | rfl | (exfalso; simp_all; done))); rcases j with _ | j; (focus (first | rfl | (exfalso; simp_all; done))); rcases j with _ | j; (focus (first | rfl | (exfalso; simp_all; done))); rcases j with _ | j; (focus (first | rfl | (exfalso; simp_all; done))); rcases j with _ | j; (focus (first | rfl | (exfalso; simp_all; done))); rcases j with _ | j; (focus (first | rfl | (exfalso; simp_all; done))); rcases j with _ | j; (focus (first | rfl | (exfalso; simp_all; done))); rcases j with _ | j; (focus (first | rfl | (exfalso; simp_all; done))); rcases j with _ | j; (focus (first | rfl | (exfalso; simp_all; done))); rcases j with _ | j; (focus (first | rfl | (exfalso; simp_all; done))); rcases j with _ | j; (focus (first | rfl | (exfalso; simp_all; done))); rfl), fun d hd _ => by cases hd; rfl, ?_, hS5.trans hS6⟩
      show Own w6 (pushHL (upd D 1) _ m.l _ ++ (mk (D 13) _ ++ (_ :: pts q (.cells #[vb, (if D 17 = true then _ else _), _] _) :: _)))
      rw [push_2 (D := upd D 1) rfl h6 h14]
      exact hO6
    · (refine fs_pure (fun _ _ => rfl) (fun D x hD hcl hp => ?_); simp only [List.append_eq, List.cons_append, List.nil_append, putO]; simp only [Act.put, List.setIfInBounds_toArray, List.set_cons_zero, List.set_cons_succ]; first | exact y_skip rfl | exact y_run rfl (by intro w h; go_simp; first | done | rfl))
    · (refine fs_pure (fun _ _ => rfl) (fun D x hD hcl hp => ?_); simp only [List.append_eq, List.cons_append, List.nil_append, putO]; simp only [Act.put, List.setIfInBounds_toArray, List.set_cons_zero, List.set_cons_succ]; first | exact y_skip rfl | exact y_run rfl (by intro w h; go_simp; first | done | rfl))
    · (refine fs_pure (fun _ _ => rfl) (fun D x hD hcl hp => ?_); simp only [List.append_eq, List.cons_append, List.nil_append, putO]; simp only [Act.put, List.setIfInBounds_toArray, List.set_cons_zero, List.set_cons_succ]; first | exact y_skip rfl | exact y_run rfl (by intro w h; go_simp; first | done | rfl))
    · (refine fs_pure (fun _ _ => rfl) (fun D x hD hcl hp => ?_); simp only [List.append_eq, List.cons_append, List.nil_append, putO]; simp only [Act.put, List.setIfInBounds_toArray, List.set_cons_zero, List.set_cons_succ]; first | exact y_skip rfl | exact (y_load1 (b := q) (off := 1) (cs := #[vb, (if D 17 then x.2.2.2 else .slice A m.l.length cap), .int .i64 m.next]) (t := 86) (v := .slice A m.l.length cap) rfl rfl rfl row_ons (fun w h => own_get 1 (own_drops (own_drops h.1)) rfl) (by have h17 := dep_no hcl hD 17 rfl; rw [h17]; rfl)) | exact y_run rfl (by intro w h; go_simp; first | done | rfl))
    · skip
      intro D x w5 hD hcl hp hO hS5
      simp only [List.append_eq, List.cons_append, List.nil_append, putO]
      simp only [Act.put, List.setIfInBounds_toArray, List.set_cons_zero, List.set_cons_succ]
      have h14 := dep_no hcl hD 14 rfl
      have h1 := dep_yes hp (j := 1) rfl
      have hO2 := hO
      simp only [push_2 h1 hD h14, List.cons_append, List.nil_append] at hO2
      refine own_append (n := 0) (xs := []) (m := m.l.length) (news := cellsO m.l) rfl rfl rfl rfl Try.underlying84 info_on3 rfl (by decide) hO2 (owns_rd (own_drop (own_drop (own_drop (own_drops (own_drop hO2)))))) (cellsO_one _) (by have := HL.out; unfold maxLen; omega) (by have := HL.out; omega) ?_
      intro v' w6 hO6 hS6 hv'
      refine wpList_nil ⟨rfl, (x.1, v', x.2.2), (by intro j hj; rcases j with _ | j; (focus (first | rfl | (exfalso; simp_all; done))); rcases j with _ | j; (focus (first | rfl | (exfalso; simp_all; done))); rcases j with _ | j; (focus (first | rfl | (exfalso; simp_all; done))); rcases j with _ | j; (focus (first | rfl | (exfalso; simp_all; done))); rcases j with _ | j; (focus (first | rfl | (exfalso; simp_all; done))); rcases j with _ | j; (focus (first | rfl | (exfalso; simp_all; done))); rcases j with _ | j; (focus (first | rfl | (exfalso; simp_all; done))); rcases j with _ | j; (focus (first | rfl | (exfalso; simp_all; done))); rcases j with _ | j; (focus (first | rfl | (exfalso; simp_all; done))); rcases j with _ | j; (focus (first | rfl | (exfalso; simp_all; done))); rcases j with _ | j; (focus (first | rfl | (exfalso; simp_all; done))); rcases j with _ | j; (focus (first | rfl | (exfalso; simp_all; done))); rcases j with _ | j; (focus (first | rfl | (exfalso; simp_all; done))); rcases j with _ | j; (focus (first | rfl | (exfalso; simp_all; done))); rcases j with _ | j; (focus (first | rfl | (exfalso; simp_all; done))); rcases j with _ | j; (focus (first | rfl | (exfalso; simp_all; done))); rcases j with _ | j; (focus (first | rfl | (exfalso; simp_all; done))); rcases j with _ | j; (focus (first | rfl | (exfalso; simp_all; done))); rfl), fun d hd _ => by cases hd; rfl, ?_, hS5.trans hS6⟩
      show Own w6 (pushHL (upd D 6) _ m.l _ ++ (mk (D 13) _ ++ (_ :: pts q (.cells #[vb, (if D 17 = true then _ else _), _] _) :: _)))
      rw [push_3 (D := upd D 6) rfl h14]
      rw [Nat.zero_add, List.nil_append] at hO6
      exact hO6
    · (refine fs_pure (fun _ _ => rfl) (fun D x hD hcl hp => ?_); simp only [List.append_eq, List.cons_append, List.nil_append, putO]; simp only [Act.put, List.setIfInBounds_toArray, List.set_cons_zero, List.set_cons_succ]; first | exact y_skip rfl | exact y_run rfl (by intro w h; go_simp; first | done | rfl))
    · (refine fs_pure (fun _ _ => rfl) (fun D x hD hcl hp => ?_); simp only [List.append_eq, List.cons_append, List.nil_append, putO]; simp only [Act.put, List.setIfInBounds_toArray, List.set_cons_zero, List.set_cons_succ]; first | exact y_skip rfl | exact y_run rfl (by intro w h; go_simp; first | done | rfl))
    · (refine fs_pure (fun _ _ => rfl) (fun D x hD hcl hp => ?_); simp only [List.append_eq, List.cons_append, List.nil_append, putO]; simp only [Act.put, List.setIfInBounds_toArray, List.set_cons_zero, List.set_cons_succ]; first | exact y_skip rfl | exact y_run rfl (by intro w h; go_simp; first | done | rfl))
    · (refine fs_pure (fun _ _ => rfl) (fun D x hD hcl hp => ?_); simp only [List.append_eq, List.cons_append, List.nil_append, putO]; simp only [Act.put, List.setIfInBounds_toArray, List.set_cons_zero, List.set_cons_succ]; first | exact y_skip rfl | exact (y_load1 (b := q) (off := 2) (cs := #[vb, (if D 17 then x.2.2.2 else .slice A m.l.length cap), .int .i64 m.next]) (t := 86) (v := .int .i64 m.next) rfl rfl rfl row_int (fun w h => own_get 1 (own_drops (own_drops h.1)) rfl) rfl) | exact y_run rfl (by intro w h; go_simp; first | done | rfl))
    · (refine fs_pure (fun _ _ => rfl) (fun D x hD hcl hp => ?_); simp only [List.append_eq, List.cons_append, List.nil_append, putO]; simp only [Act.put, List.setIfInBounds_toArray, List.set_cons_zero, List.set_cons_succ]; first | exact y_skip rfl | exact (y_loadrow (b := b) (off := 0) (cs := #[.int .i64 a0, .int .i64 a1, .string s]) (t := 33) rfl rfl rfl row_pat sz_pat (fun w h => own_get 0 (own_drops (own_drops h.1)) rfl) (by simp) rfl) | exact y_run rfl (by intro w h; go_simp; first | done | rfl))
    · (refine fs_pure (fun _ _ => rfl) (fun D x hD hcl hp => ?_); simp only [List.append_eq, List.cons_append, List.nil_append, putO]; simp only [Act.put, List.setIfInBounds_toArray, List.set_cons_zero, List.set_cons_succ]; first | exact y_skip rfl | exact y_run rfl (by intro w h; go_simp; first | done | rfl))
    · skip
      intro D x w5 hD hcl hp hO hS5
      simp only [List.append_eq, List.cons_append, List.nil_append, putO]
      simp only [Act.put, List.setIfInBounds_toArray, List.set_cons_zero, List.set_cons_succ]
      have hO2 := hO
      simp only [hD, mk_f, List.nil_append] at hO2
      have hO6 := own_alloc_new hO2 (.cells #[.int .i64 m.next, .int .i64 a0, .int .i64 a1, .string s] 93)
      refine ev (v := .slice (some ⟨w5.heap.size, 0, none⟩) 1 1) (w1 := w5.alloc (.cells #[.int .i64 m.next, .int .i64 a0, .int .i64 a1, .string s] 93)) rfl (by go_simp; first | done | exact ⟨rfl, rfl⟩ | rfl) ?_
      refine wpList_nil ⟨rfl, (x.1, x.2.1, w5.heap.size, x.2.2.2), (by intro j hj; rcases j with _ | j; (focus (first | rfl | (exfalso; simp_all; done))); rcases j with _ | j; (focus (first | rfl | (exfalso; simp_all; done))); rcases j with _ | j; (focus (first | rfl | (exfalso; simp_all; done))); rcases j with _ | j; (focus (first | rfl | (exfalso; simp_all; done))); rcases j with _ | j; (focus (first | rfl | (exfalso; simp_all; done))); rcases j with _ | j; (focus (first | rfl | (exfalso; simp_all; done))); rcases j with _ | j; (focus (first | rfl | (exfalso; simp_all; done))); rcases j with _ | j; (focus (first | rfl | (exfalso; simp_all; done))); rcases j with _ | j; (focus (first | rfl | (exfalso; simp_all; done))); rcases j with _ | j; (focus (first | rfl | (exfalso; simp_all; done))); rcases j with _ | j; (focus (first | rfl | (exfalso; simp_all; done))); rcases j with _ | j; (focus (first | rfl | (exfalso; simp_all; done))); rcases j with _ | j; (focus (first | rfl | (exfalso; simp_all; done))); rcases j with _ | j; (focus (first | rfl | (exfalso; simp_all; done))); rcases j with _ | j; (focus (first | rfl | (exfalso; simp_all; done))); rcases j with _ | j; (focus (first | rfl | (exfalso; simp_all; done))); rcases j with _ | j; (focus (first | rfl | (exfalso; simp_all; done))); rcases j with _ | j; (focus (first | rfl | (exfalso; simp_all; done))); rfl), fun d hd _ => by cases hd; rfl, ?_, hS5.trans (Same.alloc _ _)⟩
      have h14 := dep_no hcl hD 14 rfl
      exact own_perm hO6 List.perm_middle.symm
    · skip
      intro D x w5 hD hcl hp hO hS5
      simp only [List.append_eq, List.cons_append, List.nil_append, putO]
      simp only [Act.put, List.setIfInBounds_toArray, List.set_cons_zero, List.set_cons_succ]
      have h6 := dep_yes hp (j := 6) rfl
      have h13 := dep_yes hp (j := 13) rfl
      have hO2 := hO
      simp only [push_3 h6 hD, h13, mk_t, List.cons_append, List.nil_append] at hO2
      refine own_append (n := m.l.length) (xs := cellsO m.l) (m := 1) (news := (⟨m.next, ⟨a0, a1, s⟩⟩ : On).cells) rfl rfl rfl rfl Try.underlying84 info_on3 rfl (by decide) hO2 (rd_block (own_get 1 hO2 rfl) rfl (by simp) (by simp) (by simp)) (on_one _) (by have := HL.out; unfold maxLen; omega) (by have := HL.out; omega) ?_
      intro v' w6 hO6 hS6 hv'
      refine wpList_nil ⟨rfl, (x.1, x.2.1, x.2.2.1, v'), (by intro j hj; rcases j with _ | j; (focus (first | rfl | (exfalso; simp_all; done))); rcases j with _ | j; (focus (first | rfl | (exfalso; simp_all; done))); rcases j with _ | j; (focus (first | rfl | (exfalso; simp_all; done))); rcases j with _ | j; (focus (first | rfl | (exfalso; simp_all; done))); rcases j with _ | j; (focus (first | rfl | (exfalso; simp_all; done))); rcases j with _ | j; (focus (first | rfl | (exfalso; simp_all; done))); rcases j with _ | j; (focus (first | rfl | (exfalso; simp_all; done))); rcases j with _ | j; (focus (first | rfl | (exfalso; simp_all; done))); rcases j with _ | j; (focus (first | rfl | (exfalso; simp_all; done))); rcases j with _ | j; (focus (first | rfl | (exfalso; simp_all; done))); rcases j with _ | j; (focus (first | rfl | (exfalso; simp_all; done))); rcases j with _ | j; (focus (first | rfl | (exfalso; simp_all; done))); rcases j with _ | j; (focus (first | rfl | (exfalso; simp_all; done))); rcases j with _ | j; (focus (first | rfl | (exfalso; simp_all; done))); rcases j with _ | j; (focus (first | rfl | (exfalso; simp_all; done))); rcases j with _ | j; (focus (first | rfl | (exfalso; simp_all; done))); rcases j with _ | j; (focus (first | rfl | (exfalso; simp_all; done))); rcases j with _ | j; (focus (first | rfl | (exfalso; simp_all; done))); rfl), fun d hd _ => by cases hd; rfl, ?_, hS5.trans hS6⟩
      show Own w6 (pushHL (upd D 14) _ m.l _ ++ (mk (D 13) _ ++ (_ :: pts q (.cells #[vb, (if D 17 = true then _ else _), _] _) :: _)))
      have h17 := dep_no hcl hD 17 rfl
      rw [push_4 (D := upd D 14) rfl, h13, h17]
      rw [h17] at hO6
      exact hO6
    · (refine fs_pure (fun _ _ => rfl) (fun D x hD hcl hp => ?_); simp only [List.append_eq, List.cons_append, List.nil_append, putO]; simp only [Act.put, List.setIfInBounds_toArray, List.set_cons_zero, List.set_cons_succ]; first | exact y_skip rfl | exact y_run rfl (by intro w h; go_simp; first | done | rfl))
    · (refine fs_pure (fun _ _ => rfl) (fun D x hD hcl hp => ?_); simp only [List.append_eq, List.cons_append, List.nil_append, putO]; simp only [Act.put, List.setIfInBounds_toArray, List.set_cons_zero, List.set_cons_succ]; first | exact y_skip rfl | exact y_run rfl (by intro w h; go_simp; first | done | rfl))
    · skip
      intro D x w5 hD hcl hp hO hS5
      simp only [List.append_eq, List.cons_append, List.nil_append, putO]
      simp only [Act.put, List.setIfInBounds_toArray, List.set_cons_zero, List.set_cons_succ]
      have h14 := dep_yes hp (j := 14) rfl
      have h13 := dep_yes hp (j := 13) rfl
      have hO2 := hO
      simp only [push_4 h14, h13, hD, mk_t, List.cons_append, List.nil_append] at hO2
      obtain ⟨A3, c3, e3⟩ := (owns_rd hO2).slice
      refine own_store1 (k := 3) (b := q) (off := 1) (v := x.2.2.2) (cs := #[vb, .slice A m.l.length cap, .int .i64 m.next]) (cs' := #[vb, x.2.2.2, .int .i64 m.next]) rfl rfl rfl rfl sz_ons hO2 rfl (by rw [e3]; rfl) (by simp) rfl ?_
      intro w6 hO6 hS6
      refine wpList_nil ⟨rfl, x, (by intro j hj; rcases j with _ | j; (focus (first | rfl | (exfalso; simp_all; done))); rcases j with _ | j; (focus (first | rfl | (exfalso; simp_all; done))); rcases j with _ | j; (focus (first | rfl | (exfalso; simp_all; done))); rcases j with _ | j; (focus (first | rfl | (exfalso; simp_all; done))); rcases j with _ | j; (focus (first | rfl | (exfalso; simp_all; done))); rcases j with _ | j; (focus (first | rfl | (exfalso; simp_all; done))); rcases j with _ | j; (focus (first | rfl | (exfalso; simp_all; done))); rcases j with _ | j; (focus (first | rfl | (exfalso; simp_all; done))); rcases j with _ | j; (focus (first | rfl | (exfalso; simp_all; done))); rcases j with _ | j; (focus (first | rfl | (exfalso; simp_all; done))); rcases j with _ | j; (focus (first | rfl | (exfalso; simp_all; done))); rcases j with _ | j; (focus (first | rfl | (exfalso; simp_all; done))); rcases j with _ | j; (focus (first | rfl | (exfalso; simp_all; done))); rcases j with _ | j; (focus (first | rfl | (exfalso; simp_all; done))); rcases j with _ | j; (focus (first | rfl | (exfalso; simp_all; done))); rcases j with _ | j; (focus (first | rfl | (exfalso; simp_all; done))); rcases j with _ | j; (focus (first | rfl | (exfalso; simp_all; done))); rcases j with _ | j; (focus (first | rfl | (exfalso; simp_all; done))); rfl), (fun d hd _ => by cases hd), ?_, hS5.trans hS6⟩
      show Own w6 (pushHL (upd D 17) _ m.l _ ++ (mk (D 13) _ ++ (_ :: pts q (.cells #[vb, _, _] _) :: _)))
      rw [push_4 (D := upd D 17) h14, h13]
      exact hO6
  · intro x w9 D hD hO hS9
    simp only [List.append_eq, List.cons_append, List.nil_append, putO]
    simp only [Act.put, List.setIfInBounds_toArray, List.set_cons_zero, List.set_cons_succ]
    simp only [hD 1 (by decide), hD 6 (by decide), hD 13 (by decide), hD 14 (by decide), hD 17 (by decide), pushHL, mk_t, if_true, List.cons_append, List.nil_append] at hO
    simp only [Exit.then]
    clear hD
    have hnn := HN.out
    have hw1 : IntKind.i64.wrap ((m.next : Int) + 1) = (m.next : Int) + 1 := by rw [IntKind.wrap_i64] <;> omega
    go_wp2_with (first | (refine own_load1 (b := q) (off := 2) (cs := #[vb, x.2.2.2, .int .i64 m.next]) (t := 86) (v := .int .i64 m.next) rfl rfl rfl row_int (own_get 3 hO rfl) rfl ?_) | (refine own_store1 (k := 3) (b := q) (off := 2) (cs := #[vb, x.2.2.2, .int .i64 m.next]) (cs' := #[vb, x.2.2.2, .int .i64 ((m.next : Int) + 1)]) rfl rfl rfl rfl sz_i64 hO rfl rfl (by simp) rfl ?_; clear hO; intro w10 hO hS10; simp only [List.set_cons_zero, List.set_cons_succ] at hO) | (refine own_load1 (b := q) (off := 2) (cs := #[vb, x.2.2.2, .int .i64 ((m.next : Int) + 1)]) (t := 86) (v := .int .i64 ((m.next : Int) + 1)) rfl rfl rfl row_int (own_get 3 hO rfl) rfl ?_))
    go_ret2
    refine ⟨rfl, rstk_open.2 ⟨vb, x.2.2.2, ?_⟩, hS1.trans (hS3.trans (hS9.trans hS10))⟩
    have hl1 : (m.pushed ⟨a0, a1, s⟩).l.length = m.l.length + 1 := by simp [Stk.pushed]
    have hc1 : cellsO (m.pushed ⟨a0, a1, s⟩).l = cellsO m.l ++ (⟨m.next, ⟨a0, a1, s⟩⟩ : On).cells := by unfold Stk.pushed; rw [cellsO_append]; simp [cellsO]
    have hn1 : (((m.pushed ⟨a0, a1, s⟩).next : Nat) : Int) = (m.next : Int) + 1 := by simp [Stk.pushed]
    unfold rstkL
    rw [hl1, hc1, hn1]
    exact own_sub (own_perm hO (perm_count (l' := [pts q (.cells #[vb, x.2.2.2, .int .i64 ((m.next : Int) + 1)] 86), owns 5 1 vb 32 (bcs m.base), owns 93 4 x.2.2.2 (m.l.length + 1) (cellsO m.l ++ (⟨m.next, ⟨a0, a1, s⟩⟩ : On).cells)] ++ (pts x.2.2.1 (.cells #[.int .i64 m.next, .int .i64 a0, .int .i64 a1, .string s] 93) :: pts b (.cells #[.int .i64 a0, .int .i64 a1, .string s] 33) :: owns 93 4 (.slice A m.l.length cap) m.l.length (cellsO m.l) :: L)) fun x => by simp only [List.count_append, List.count_cons, List.count_nil]; omega)) (List.Sublist.append (List.Sublist.refl _) (.cons _ (.cons _ (.cons _ (List.Sublist.refl _)))))
end
end Go.Proofs.Ytdcbfdepkbplbaa.H
