/- Contracts of Push and Pop. Contract of slices.Delete at one element. -/
import Derived.Test.YtdcbfdepkbplbaaZ11
set_option linter.unusedVariables false
set_option linter.unusedSimpArgs false
set_option maxRecDepth 100000
namespace Go.Proofs.Ytdcbfdepkbplbaa.H
open Go.RowKit
def Stk.pushed (m : Stk) (p : Pat) : Stk := ⟨m.base, m.l ++ [⟨m.next, p⟩], m.next + 1⟩
theorem Stk.Ok.pushed {m : Stk} (h : m.Ok) {p : Pat} (hp : rightB p = true) (hl : m.l.length < 200) (hn : m.next < 1000000) : (m.pushed p).Ok := by
  refine ⟨h.base, fun x hx => ?_, ?_, fun x hx => ?_, by simp [Stk.pushed]; omega, by simp [Stk.pushed]; omega⟩
  · simp only [Stk.pushed, List.mem_append, List.mem_singleton] at hx
    rcases hx with hx | rfl
    · exact h.right x hx
    · exact hp
  · simp only [Stk.pushed, List.pairwise_append]
    refine ⟨h.asc, by simp, fun a ha b hb => ?_⟩
    simp only [List.mem_singleton] at hb
    subst hb
    exact h.lt a ha
  · simp only [Stk.pushed, List.mem_append, List.mem_singleton] at hx ⊢
    rcases hx with hx | rfl
    · have := h.lt x hx; omega
    · simp
theorem sz_i64 : (Try.prog.info? 3).map (·.size) = some 1 := by kernel_rfl
theorem srow_setn (byt : List UInt8) (v : Value) (next next' : Nat) (x : Int) (hx : x = next') (hb : byt.length = 32) : (srow byt v next).setIfInBounds 33 (.int .i64 x) = srow byt v next' := by
  subst hx
  apply Array.ext'
  rw [Array.toList_setIfInBounds]
  simp only [srow]
  rw [List.set_append_right _ _ (by rw [bcs_length]; omega), bcs_length, hb]
  rfl
theorem perm_count {l l' : List HP} (h : ∀ [DecidableEq HP] (x : HP), l.count x = l'.count x) : l.Perm l' := by
  classical exact List.perm_iff_count.2 fun x => h x
/-- A new cell put to the others. -/
theorem cell_new {w : World} {L : List HP} {p : Nat} {v : Value} {cs : List Cl} {byt : List UInt8} {next : Nat} {c : Cl} {X : HP} (hu : c.u = .slice none 0 0) (hd : c.und = [])
    (h : Own w (owns 68 1 v (cs.length + 1) (cs.map Cl.ptr ++ [c.ptr]) :: pts c.a (.cells c.row 67) :: X :: pts p (.cells (srow byt v next) 72) :: ((cellL cs ++ undL cs) ++ L))) :
    Own w (stkL p v (cs ++ [c]) byt next ++ (X :: L)) := by
  have h2 := owns_nil (e := 5) (size := 1) h
  have e : stkL p v (cs ++ [c]) byt next ++ (X :: L) = pts p (.cells (srow byt v next) 72) :: owns 68 1 v (cs.length + 1) (cs.map Cl.ptr ++ [c.ptr]) :: ((cellL cs ++ [pts c.a (.cells c.row 67)]) ++ (undL cs ++ [owns 5 1 (.slice none 0 0) 0 []])) ++ (X :: L) := by
    simp [stkL, cellL, undL, hu, hd, bcs]
  rw [e]
  exact own_perm h2 (perm_count fun x => by simp only [List.count_append, List.count_cons, List.count_nil]; omega)
section
variable (w : World) (L : List HP) (p : Nat) (m : Stk) (a0 a1 : Int) (s : ByteArray)
theorem push_form (hO : Own w (stk p m :: L)) (hk : m.Ok) (hR : rightB ⟨a0, a1, s⟩ = false) :
    Calls Try.prog 25 #[.pointer (some ⟨p, 0, none⟩), .agg #[.int .i64 a0, .int .i64 a1, .string s]] w (Ret w (.tuple #[.int .i64 0, .int .i64 3]) (stk p m :: L)) := by
  have HR := Lib.hid hR
  clear hR hk
  go_enter Try.func25, Try.ntmps25
  go_wp2_with (first | (refine own_box_agg (x := .tmp 1) rfl rfl rfl hO ?_; clear hO; intro b w1 hO hS1) | (apply own_loadrow rfl rfl rfl; (first | exact row_pat); exact sz_pat; (first | exact own_get 0 hO rfl | exact own_get 1 hO rfl | exact own_get 2 hO rfl | exact own_get 3 hO rfl | exact own_get 4 hO rfl | exact own_get 5 hO rfl | exact own_get 6 hO rfl | exact own_get 7 hO rfl); (focus (simp; done)); (first | (simp only [List.drop_zero, List.drop_succ_cons, List.take_succ_cons, List.take_zero]; rfl) | rfl)) | (go_at_call 53; refine (right_v _ _ _ _ _ HR.out hO).mono ?_; clear hO; rintro e w3 ⟨rfl, hO, hS3⟩))
  go_ret2
  exact ⟨rfl, own_drop hO, hS1.trans hS3⟩
set_option maxHeartbeats 800000 in
theorem push_full (hO : Own w (stk p m :: L)) (hk : m.Ok) (hR : rightB ⟨a0, a1, s⟩ = true) (hl : m.l.length = 200) :
    Calls Try.prog 25 #[.pointer (some ⟨p, 0, none⟩), .agg #[.int .i64 a0, .int .i64 a1, .string s]] w (Ret w (.tuple #[.int .i64 0, .int .i64 11]) (stk p m :: L)) := by
  obtain ⟨v, cs, hrep, hO⟩ := stk_open.1 hO
  obtain ⟨A, cap, rfl⟩ := (stkAt_of hO).rd.slice
  have HREP := Lib.hid hrep
  have HR := Lib.hid hR
  have HB : Hid (m.bytes.length = 32) := (hrep.csok hk).byt
  have hlen : ((cs.length : Int) == 200) = true := by rw [hrep.length, hl]; rfl
  clear hR hk hrep hl
  go_enter Try.func25, Try.ntmps25
  go_wp2_with (first | (refine own_box_agg (x := .tmp 1) rfl rfl rfl hO ?_; clear hO; intro b w1 hO hS1) | (apply own_loadrow rfl rfl rfl; (first | exact row_pat); exact sz_pat; (first | exact own_get 0 hO rfl | exact own_get 1 hO rfl | exact own_get 2 hO rfl | exact own_get 3 hO rfl | exact own_get 4 hO rfl | exact own_get 5 hO rfl | exact own_get 6 hO rfl | exact own_get 7 hO rfl); (focus (simp; done)); (first | (simp only [List.drop_zero, List.drop_succ_cons, List.take_succ_cons, List.take_zero]; rfl) | rfl)) | (go_at_call 53; refine (right_v _ _ _ _ _ HR.out hO).mono ?_; clear hO; rintro e w3 ⟨rfl, hO, hS3⟩) | (refine own_load1 (b := p) (off := 32) (cs := srow m.bytes (.slice A cs.length cap) m.next) (t := 72) (v := .slice A cs.length cap) rfl rfl rfl row_cells (own_get 1 hO rfl) (srow_v _ _ _ HB.out) ?_))
  go_ret2
  exact ⟨rfl, stk_open.2 ⟨_, cs, HREP.out, own_drop hO⟩, hS1.trans hS3⟩
set_option maxHeartbeats 3200000 in
theorem push_ok (hO : Own w (stk p m :: L)) (hk : m.Ok) (hR : rightB ⟨a0, a1, s⟩ = true) (hl : m.l.length < 200) (hn : m.next < 1000000) :
    Calls Try.prog 25 #[.pointer (some ⟨p, 0, none⟩), .agg #[.int .i64 a0, .int .i64 a1, .string s]] w (Ret w (.tuple #[.int .i64 m.next, .int .i64 0]) (stk p (m.pushed ⟨a0, a1, s⟩) :: L)) := by
  obtain ⟨v, cs, hrep, hO⟩ := stk_open.1 hO
  obtain ⟨A, cap, rfl⟩ := (stkAt_of hO).rd.slice
  have HREP := Lib.hid hrep
  have HR := Lib.hid hR
  have HK := Lib.hid hk
  have HB : Hid (m.bytes.length = 32) := (hrep.csok hk).byt
  have hlen : ((cs.length : Int) == 200) = false := by rw [hrep.length]; simp; omega
  have HLE : Hid (cs.length ≤ 200) := (hrep.csok hk).len
  have HN : Hid (m.next < 1000000) := hn
  clear hR hk hrep hl
  go_enter Try.func25, Try.ntmps25
  go_wp2_with (first | (refine own_box_agg (x := .tmp 1) rfl rfl rfl hO ?_; clear hO; intro b w1 hO hS1) | (apply own_loadrow rfl rfl rfl; (first | exact row_pat); exact sz_pat; (first | exact own_get 0 hO rfl | exact own_get 1 hO rfl | exact own_get 2 hO rfl | exact own_get 3 hO rfl | exact own_get 4 hO rfl | exact own_get 5 hO rfl | exact own_get 6 hO rfl | exact own_get 7 hO rfl); (focus (simp; done)); (first | (simp only [List.drop_zero, List.drop_succ_cons, List.take_succ_cons, List.take_zero]; rfl) | rfl)) | (go_at_call 53; refine (right_v _ _ _ _ _ HR.out hO).mono ?_; clear hO; rintro e w3 ⟨rfl, hO, hS3⟩) | (refine own_load1 (b := p) (off := 32) (cs := srow m.bytes (.slice A cs.length cap) m.next) (t := 72) (v := .slice A cs.length cap) rfl rfl rfl row_cells (own_get 1 hO rfl) (srow_v _ _ _ HB.out) ?_))
  refine wp_region_seq (Cls w3 (pts b (.cells #[.int .i64 a0, .int .i64 a1, .string s] 33) :: (stkL p (.slice A cs.length cap) cs m.bytes m.next ++ L))) 6 52 mixed (by kernel_rfl) rfl (cls_drew hO) ?_
  simp only [List.append_eq, List.cons_append, List.nil_append, List.take_succ_cons, List.take_zero]
  repeat (first
    | (apply wv_skip rfl; simp only [Act.put, List.setIfInBounds_toArray, List.set_cons_zero, List.set_cons_succ])
    | (refine wv_load1 (b := p) (cs := srow m.bytes (.slice A cs.length cap) m.next) (t := 72) (off := 33) (v := .int .i64 m.next) rfl rfl rfl row_int (fun w h => own_get 1 h.1 rfl) (srow_next _ _ _ HB.out) ?_; simp only [Act.put, List.setIfInBounds_toArray, List.set_cons_zero, List.set_cons_succ])
    | (apply wv_load1 rfl rfl rfl; (first | exact row_int | exact row_str | exact row_bool | exact row_u8 | exact row_bys | exact row_pats | exact row_err); (intro w h; (first | exact own_get 0 h.1 rfl | exact own_get 1 h.1 rfl | exact own_get 2 h.1 rfl | exact own_get 3 h.1 rfl | exact own_get 4 h.1 rfl | exact own_get 5 h.1 rfl | exact own_get 6 h.1 rfl | exact own_get 7 h.1 rfl)); (first | (simp only [List.getElem?_toArray, List.getElem?_cons_succ, List.getElem?_cons_zero]; rfl) | rfl); simp only [Act.put, List.setIfInBounds_toArray, List.set_cons_zero, List.set_cons_succ])
    | (apply wv_loadrow rfl rfl rfl; (first | exact row_pat); exact sz_pat; (intro w h; (first | exact own_get 0 h.1 rfl | exact own_get 1 h.1 rfl | exact own_get 2 h.1 rfl | exact own_get 3 h.1 rfl | exact own_get 4 h.1 rfl | exact own_get 5 h.1 rfl | exact own_get 6 h.1 rfl | exact own_get 7 h.1 rfl)); (focus (simp; done)); (first | (simp only [List.drop_zero, List.drop_succ_cons, List.take_succ_cons, List.take_zero]; rfl) | rfl); simp only [Act.put, List.setIfInBounds_toArray, List.set_cons_zero, List.set_cons_succ])
    | (apply wv_run rfl; (focus (intro w h; go_simp; first | done | rfl)); simp only [Act.put, List.setIfInBounds_toArray, List.set_cons_zero, List.set_cons_succ])
    | (apply wv_call rfl; (focus (intro w; go_simp; first | done | exact ⟨rfl, rfl⟩)); (focus (intro w h; apply cls_call h; fail)); simp only [Act.put, List.setIfInBounds_toArray, List.set_cons_zero, List.set_cons_succ]))
  refine wv_nil ?_
  simp only [List.drop_succ_cons, List.drop_zero]
  intro w5 ⟨hO5, hS5⟩
  clear hO
  go_wp2_with (first | (refine own_box_agg (cs := #[.int .i64 a0, .int .i64 a1, .string s, .int .i64 m.next, .slice none 0 0]) rfl rfl rfl hO5 ?_; clear hO5; intro a w6 hO hS6) | (refine own_load1 (b := p) (off := 33) (cs := srow m.bytes (.slice A cs.length cap) m.next) (t := 72) (v := .int .i64 m.next) rfl rfl rfl row_int (own_get 2 hO rfl) (srow_next _ _ _ HB.out) ?_) | (refine own_store1 (k := 2) (b := p) (off := 33) (cs := srow m.bytes (.slice A cs.length cap) m.next) (cs' := srow m.bytes (.slice A cs.length cap) (m.next + 1)) rfl rfl rfl rfl sz_i64 hO rfl rfl (by rw [srow_size _ _ _ HB.out]; omega) (srow_setn _ _ _ _ _ (by simp) HB.out) ?_; clear hO; intro w7 hO hS7; simp only [List.set_cons_zero, List.set_cons_succ] at hO) | (refine own_load1 (b := p) (off := 32) (cs := srow m.bytes (.slice A cs.length cap) (m.next + 1)) (t := 72) (v := .slice A cs.length cap) rfl rfl rfl row_cells (own_get 2 hO rfl) (srow_v _ _ _ HB.out) ?_) | (refine own_append (m := 1) (n := cs.length) (xs := cs.map Cl.ptr) (news := [.pointer (some ⟨a, 0, none⟩)]) rfl rfl rfl rfl Try.underlying70 info_ptr rfl (by decide) (own_at (own_alloc_new hO (.cells #[.pointer (some ⟨a, 0, none⟩)] 68)) (k := 4) rfl) ?_ (ptr_one _) ?_ ?_ ?_; (exact rd_block (own_get 0 (own_alloc_new hO (.cells #[.pointer (some ⟨a, 0, none⟩)] 68)) rfl) rfl (by simp) (by simp) (by simp)); (have := HLE.out; unfold maxLen; omega); (have := HLE.out; omega); clear hO; intro v' w9 hO hS9 hv'; clear hv'; obtain ⟨A3, c3, rfl⟩ := (owns_rd hO).slice) | (refine own_store1 (k := 4) (b := p) (off := 32) (cs := srow m.bytes (.slice A cs.length cap) (m.next + 1)) (cs' := srow m.bytes (.slice A3 (cs.length + 1) c3) (m.next + 1)) rfl rfl rfl rfl sz_cells hO rfl rfl (by rw [srow_size _ _ _ HB.out]; omega) (srow_setv _ _ _ _ HB.out) ?_; clear hO; intro w10 hO hS10; simp only [List.set_cons_zero, List.set_cons_succ] at hO; have hO := cell_new (c := ⟨a, .slice none 0 0, m.next, ⟨a0, a1, s⟩, []⟩) rfl rfl (own_skip hO)) | (go_at_call 54; refine (lay_at _ _ p _ (cs ++ [⟨a, .slice none 0 0, m.next, ⟨a0, a1, s⟩, []⟩]) m.bytes (m.next + 1) cs.length ⟨a, .slice none 0 0, m.next, ⟨a0, a1, s⟩, []⟩ (by simp) hO HR.out HB.out).mono ?_; clear hO; rintro e w11 ⟨u, rfl, hO, hS11⟩; have hcl := (stkAt_of hO).cell cs.length ((⟨a, .slice none 0 0, m.next, ⟨a0, a1, s⟩, []⟩ : Cl).laid u m.bytes) (by simp)) | (refine own_load1 (b := a) (off := 3) (cs := ((⟨a, .slice none 0 0, m.next, ⟨a0, a1, s⟩, []⟩ : Cl).laid u m.bytes).row) (t := 67) (v := .int .i64 m.next) rfl rfl rfl row_int hcl rfl ?_))
  go_ret2
  refine ⟨rfl, ?_, hS1.trans (hS3.trans (hS5.trans (hS6.trans (hS7.trans ((Same.alloc _ _).trans (hS9.trans (hS10.trans hS11)))))))⟩
  have e1 : (cs ++ [(⟨a, .slice none 0 0, m.next, ⟨a0, a1, s⟩, []⟩ : Cl)]).set cs.length ((⟨a, .slice none 0 0, m.next, ⟨a0, a1, s⟩, []⟩ : Cl).laid u m.bytes) = cs ++ [(⟨a, .slice none 0 0, m.next, ⟨a0, a1, s⟩, []⟩ : Cl).laid u m.bytes] := by
    rw [List.set_append_right _ _ (Nat.le_refl _), Nat.sub_self]; rfl
  rw [e1] at hO
  have hbytes : (m.pushed ⟨a0, a1, s⟩).bytes = app m.bytes ⟨a0, a1, s⟩ := by
    unfold Stk.bytes Stk.pats Stk.pushed
    rw [List.map_append]
    exact appAll_snoc _ _ _
  refine stk_open.2 ⟨.slice A3 (cs.length + 1) c3, cs ++ [(⟨a, .slice none 0 0, m.next, ⟨a0, a1, s⟩, []⟩ : Cl).laid u m.bytes], ⟨?_, ?_⟩, ?_⟩
  · rw [List.map_append, HREP.out.on]; rfl
  · rw [List.map_append, HREP.out.und]
    show _ = unders m.base ((m.l ++ [On.mk m.next (Pat.mk a0 a1 s)]).map On.p)
    rw [List.map_append]
    exact (unders_snoc _ _ _).symm
  · rw [hbytes]
    exact own_sub hO (List.Sublist.append (List.Sublist.refl _) (List.Sublist.cons _ (List.Sublist.refl _)))
theorem pop_no (hO : Own w (stk p m :: L)) (hk : m.Ok) (hl : m.l = []) :
    Calls Try.prog 27 #[.pointer (some ⟨p, 0, none⟩)] w (Ret w (.tuple #[.agg #[.int .i64 0, .int .i64 0, .string ⟨#[]⟩], .int .i64 5]) (stk p m :: L)) := by
  obtain ⟨v, cs, hrep, hO⟩ := stk_open.1 hO
  obtain ⟨A, cap, rfl⟩ := (stkAt_of hO).rd.slice
  have HREP := Lib.hid hrep
  have HB : Hid (m.bytes.length = 32) := (hrep.csok hk).byt
  have hlen : cs.length = 0 := by rw [hrep.length, hl]; rfl
  clear hk hrep hl
  go_enter Try.func27, Try.ntmps27
  go_wp2_with (first | (refine own_alloc rfl rfl zero_pat rfl hO ?_; clear hO; intro g w2 hO hS2) | (refine own_load1 (b := p) (off := 32) (cs := srow m.bytes (.slice A cs.length cap) m.next) (t := 72) (v := .slice A cs.length cap) rfl rfl rfl row_cells (own_get 1 hO rfl) (srow_v _ _ _ HB.out) ?_) | (refine own_store_all (k := 0) rfl rfl rfl rfl sz_pat hO rfl rfl rfl rfl ?_; clear hO; intro w6 hO hS6; simp only [List.set_cons_zero] at hO))
  exact bodyPost_ret (results_cell_tmp rfl rfl (own_get 0 hO rfl) row_pat sz_pat) rfl ⟨rfl, stk_open.2 ⟨_, cs, HREP.out, own_drop hO⟩, hS2.trans hS6⟩
/-- Without the last one. -/
def Stk.popped (m : Stk) : Stk := ⟨m.base, m.l.dropLast, m.next⟩
theorem owns_low {w : World} {L : List HP} {e n k cap : Nat} {A : Option Addr} {xs : List Value} (h : Own w (owns e 1 (.slice A n cap) n xs :: L)) (hk : k ≤ n) (hn : 0 < n) : Own w (owns e 1 (.slice A k cap) k (xs.take k) :: L) := by
  obtain ⟨g, cap', rest, hv, h1, h2, h3, h4, h5⟩ := owns_open h (by rintro ⟨⟩; omega)
  cases hv
  refine owns_of_pts h5 (by simpa using h3) (by omega) h2 ?_
  rw [List.toList_toArray, Nat.mul_one, List.take_append_of_le_length (by omega)]
theorem cell_in_tail {w : World} {X L : List HP} {cs : List Cl} {i : Nat} {c : Cl} (hc : cs[i]? = some c) (h : Own w (X ++ ((cellL cs ++ undL cs) ++ L))) :
    w.heap[c.a]? = some (.cells c.row 67) ∧ RdB w c.u c.und := by
  have h0 := own_drops h
  constructor
  · obtain ⟨L', h'⟩ := own_mem h0 (A := pts c.a (.cells c.row 67)) (by
      simp only [List.mem_append]
      exact .inl (.inl (List.mem_map.2 ⟨c, List.mem_of_getElem? hc, rfl⟩)))
    exact own_pts h'
  · obtain ⟨L', h'⟩ := own_mem h0 (A := owns 5 1 c.u c.und.length (bcs c.und)) (by
      simp only [List.mem_append]
      exact .inl (.inr (List.mem_map.2 ⟨c, List.mem_of_getElem? hc, rfl⟩)))
    exact owns_rd h'
set_option maxHeartbeats 1600000 in
theorem pop_ok (ps : List On) (x : On) (hO : Own w (stk p m :: L)) (hk : m.Ok) (hl : m.l = ps ++ [x]) :
    Calls Try.prog 27 #[.pointer (some ⟨p, 0, none⟩)] w (Ret w (.tuple #[.agg #[.int .i64 x.p.blk, .int .i64 x.p.off, .string x.p.dat], .int .i64 0]) (stk p m.popped :: L)) := by
  obtain ⟨v, cs, hrep, hO⟩ := stk_open.1 hO
  obtain ⟨A, cap, rfl⟩ := (stkAt_of hO).rd.slice
  have hon := hrep.on
  rw [hl] at hon
  obtain ⟨cs0, c, rfl, h0, h1⟩ : ∃ cs0 c, cs = cs0 ++ [c] ∧ cs0.map Cl.on = ps ∧ c.on = x := by
    have hne : cs ≠ [] := fun e => by subst e; simp at hon
    refine ⟨cs.dropLast, cs.getLast hne, (List.dropLast_concat_getLast hne).symm, ?_, ?_⟩
    · have := congrArg List.dropLast hon
      rw [List.dropLast_concat, ← List.map_dropLast] at this
      exact this
    · have e := List.dropLast_concat_getLast hne
      rw [← e, List.map_append] at hon
      have := List.append_inj_right' hon (by simp)
      simpa using this
  subst h1
  obtain ⟨n, hn⟩ : ∃ n, n = cs0.length := ⟨_, rfl⟩
  obtain ⟨N, hN⟩ : ∃ N, N = (cs0 ++ [c]).length := ⟨_, rfl⟩
  have hNn : N = n + 1 := by rw [hN, hn]; simp
  have hmx := (stkAt_of hO).rd.max
  rw [← hN] at hmx hO
  have hc : (cs0 ++ [c])[n]? = some c := by rw [hn]; simp
  have HPI := Lib.hid (hrep.piled hk)
  have HBY := Lib.hid hrep.bytes
  have HB : Hid (m.bytes.length = 32) := (hrep.csok hk).byt
  have HST := Lib.hid ((hrep.piled hk).step hc)
  have HRT := Lib.hid (rightB_iff.1 ((hrep.piled hk).right c (List.mem_of_getElem? hc)))
  have HREP := Lib.hid hrep
  have HC := Lib.hid hc
  have hn200 : n ≤ 200 := by have := (hrep.piled hk).len; rw [← hN] at this; omega
  have HNN : Hid (n = cs0.length ∧ N = (cs0 ++ [c]).length) := ⟨hn, hN⟩
  have HPS := Lib.hid h0
  have HL := Lib.hid hl
  obtain ⟨ad, rfl⟩ : ∃ ad, A = some ad := by
    have := (stkAt_of hO).rd
    rw [← hN] at this
    exact this.addr (by rw [List.length_map, ← hN]; omega)
  have HCELL : Hid (∀ w' S, Own w' (stkL p (.slice (some ad) N cap) (cs0 ++ [c]) m.bytes m.next ++ S) → w'.cell? (ad.add n) = some (.pointer (some ⟨c.a, 0, none⟩))) := fun w' S h => by
    have h1 := (stkAt_of h).rd
    rw [hN] at h1
    exact ptr_cell h1 HC.out
  have hw1 : IntKind.i64.wrap ((N : Int) - 1) = (n : Int) := by rw [IntKind.wrap_i64] <;> omega
  have hi1 : (n : Int) < N := by omega
  have hncap : n ≤ cap := by omega
  have hB2 : Hid ((appAll m.base (((cs0 ++ [c]).take n).map Cl.p)).length = 32) := (hrep.piled hk).low n
  have HTK : Hid (appAll m.base (((cs0 ++ [c]).take (n + 1)).map Cl.p) = m.bytes) := by
    show _ = _
    rw [hrep.bytes, List.take_of_length_le (by rw [← hN]; omega)]
  clear hon h0 hl hk hrep hn hN hc hNn
  go_enter Try.func27, Try.ntmps27
  go_wp2_with (first | (refine own_alloc rfl rfl zero_pat rfl hO ?_; clear hO; intro g w2 hO hS2; have hcell := HCELL.out _ _ (own_drop hO)) | (refine own_load1 (b := p) (off := 32) (cs := srow m.bytes (.slice (some ad) N cap) m.next) (t := 72) (v := .slice (some ad) N cap) rfl rfl rfl row_cells (own_get 1 hO rfl) (srow_v _ _ _ HB.out) ?_) | (go_at_call 55; refine (lift_c _ _ p _ m.bytes m.next c (own_perm hO (List.Perm.swap _ _ _)) (fun w' h' => (cell_in_tail (X := [_, _]) HC.out h').1) (fun w' h' => (cell_in_tail (X := [_, _]) HC.out h').2) HB.out HRT.out.2.2.1 (by rw [HST.out.1]; exact HRT.out.2.2.2.2.1) (by rw [HST.out.1]; have := HRT.out; omega)).mono ?_; clear hO hcell; rintro e w3 ⟨rfl, hO, hS3⟩; have hE := HST.out.2; rw [HTK.out] at hE; rw [hE] at hO; clear hE) | (refine own_load1 (b := p) (off := 32) (cs := srow (appAll m.base (((cs0 ++ [c]).take n).map Cl.p)) (.slice (some ad) N cap) m.next) (t := 72) (v := .slice (some ad) N cap) rfl rfl rfl row_cells (own_get 0 hO rfl) (srow_v _ _ _ hB2.out) ?_) | (refine own_store1 (k := 0) (b := p) (off := 32) (cs := srow (appAll m.base (((cs0 ++ [c]).take n).map Cl.p)) (.slice (some ad) N cap) m.next) (cs' := srow (appAll m.base (((cs0 ++ [c]).take n).map Cl.p)) (.slice (some ad) n cap) m.next) rfl rfl rfl rfl sz_cells hO rfl rfl (by rw [srow_size _ _ _ hB2.out]; omega) (srow_setv _ _ _ _ hB2.out) ?_; clear hO; intro w4 hO hS4; simp only [List.set_cons_zero, List.set_cons_succ] at hO) | (refine own_loadrow (b := c.a) (off := 0) (cs := c.row) (t := 67) (vs := [.int .i64 c.p.blk, .int .i64 c.p.off, .string c.p.dat]) rfl rfl rfl row_pat sz_pat (cell_in_tail (X := [_, _, _]) HC.out hO).1 (by simp [Cl.row]) rfl ?_) | (refine own_store_all (k := 1) rfl rfl rfl rfl sz_pat hO rfl rfl rfl rfl ?_; clear hO; intro w6 hO hS6; simp only [List.set_cons_zero, List.set_cons_succ] at hO))
  refine bodyPost_ret (results_cell_tmp rfl rfl (own_get 1 hO rfl) row_pat sz_pat) rfl ⟨rfl, ?_, hS2.trans (hS3.trans (hS4.trans hS6))⟩
  have hd : m.popped.l = cs0.map Cl.on := by
    show m.l.dropLast = _
    rw [HL.out, List.dropLast_concat, HPS.out]
  have htk : (cs0 ++ [c]).take n = cs0 := by rw [HNN.out.1]; simp
  have hby : m.popped.bytes = appAll m.base (((cs0 ++ [c]).take n).map Cl.p) := by
    unfold Stk.bytes Stk.pats
    rw [hd, htk, List.map_map]; rfl
  rw [← HNN.out.2] at hO
  have h2 := owns_low (k := n) (own_perm (own_skip hO) (List.Perm.swap _ _ _)) (by omega) (by omega)
  have hptr : ((cs0 ++ [c]).map Cl.ptr).take n = cs0.map Cl.ptr := by rw [HNN.out.1]; simp
  rw [hptr] at h2
  have h3 := own_perm h2 (List.Perm.swap _ _ _)
  refine stk_open.2 ⟨.slice (some ad) n cap, cs0, ⟨hd.symm, ?_⟩, ?_⟩
  · have hu := HREP.out.und
    have hpats : m.pats = m.popped.pats ++ [c.p] := by
      unfold Stk.pats
      rw [HL.out, hd, HPS.out, List.map_append]; rfl
    rw [hpats, unders_snoc, List.map_append] at hu
    exact List.append_inj_left' hu (by simp)
  · rw [hby]
    have h4 : Own w6 (pts p (.cells (srow (appAll m.base (((cs0 ++ [c]).take n).map Cl.p)) (.slice (some ad) n cap) m.next) 72) :: owns 68 1 (.slice (some ad) n cap) cs0.length (cs0.map Cl.ptr) :: ((cellL (cs0 ++ [c]) ++ undL (cs0 ++ [c])) ++ L)) := by
      rw [← HNN.out.1]; exact h3
    refine own_sub h4 (.cons_cons _ (.cons_cons _ (List.Sublist.append (List.Sublist.append ?_ ?_) (List.Sublist.refl _))))
    · exact (List.sublist_append_left cs0 [c]).map _
    · exact (List.sublist_append_left cs0 [c]).map _
end
end Go.Proofs.Ytdcbfdepkbplbaa.H
set_option linter.unusedVariables false
set_option linter.unusedSimpArgs false
set_option maxRecDepth 100000
namespace Go.Proofs.Ytdcbfdepkbplbaa.H
open Go.RowKit
section
variable {P : Program} {ops : Array Oper} {rest : List Oper} {o : Oper} {a : Act} {Q : Exit → Act → World → Prop} {w : World} {L : List HP} {C : World → Prop} {N : Act → Prop}
theorem wv_slice_from2 {ol : List Oper} {T e : TypeId} {x lo : Operand} {A A' : Option Addr} {n c m r c' : Nat} (hw : Region.wanted o (yielded ops a.tmps) = true) (ho : o.op = .slice T x (some lo) none none) (hx : a.eval x = .slice A n c) (hlo : a.eval lo = .int .i64 m)
    (ht : P.underlying T = some (.slice e)) (hs : (P.info? e).map (·.size) = some 1) (hm : m ≤ n) (hc : n ≤ c) (hA : (if c = m then A else A.map (·.add m)) = A') (hr : n - m = r) (hc' : c - m = c') (h : wpVals P ops C N ol (a.put o.dst (.slice A' r c'))) : wpVals P ops C N (o :: ol) a := by
  subst hr hc'
  exact wv_slice_from hw ho hx hlo ht hs hm hc hA h
theorem wv_slice_to {ol : List Oper} {T e : TypeId} {x hi : Operand} {ad : Addr} {n c m : Nat} (hw : Region.wanted o (yielded ops a.tmps) = true) (ho : o.op = .slice T x none (some hi) none) (hx : a.eval x = .slice (some ad) n c) (hhi : a.eval hi = .int .i64 m)
    (ht : P.underlying T = some (.slice e)) (hs : (P.info? e).map (·.size) = some 1) (hm : m ≤ c) (h : wpVals P ops C N ol (a.put o.dst (.slice (some ad) m c))) : wpVals P ops C N (o :: ol) a := by
  refine wv_run hw (fun w hC => ?_) h
  obtain ⟨i, hi', hz⟩ := Option.map_eq_some_iff.1 hs
  have h0 : (0 : Int) ≤ m := by omega
  have h1 : (m : Int) ≤ c := by omega
  have hr : (Instr.slice T (.slice (some ad) n c) none (some (.int .i64 m)) none).run P w = .ok (.slice (some ad) m c) w := by
    simp [Instr.slice, run_underlying ht, Instr.sliceBounds, run_sliceBound, sizeOf, typeInfo, hi', hz, h0, h1]
    intro hc0
    simp [Addr.add]
  simp only [execOp, ho, hx, hhi]
  simp [run_sliceAt_slice, hhi, hr, Instr.sliceAt, run_underlying ht]
/-- append where there is room, of what may lie in the same row. -/
theorem own_append_room {T e : TypeId} {s x : Operand} {bytes g sLen sCap m c k : Nat} {z : Value} {A : Option Addr} {cur : Array Value} {news new : List Value} (hw : Region.wanted o (yielded ops a.tmps) = true)
    (ho : o.op = .call { callee := .builtin .append, args := #[s, x], argTypes := #[T, T] }) (hs : a.eval s = .slice (some ⟨g, 0, none⟩) sLen sCap) (hx : a.eval x = .slice A m c) (ht : P.underlying T = some (.slice e)) (hinfo : (P.info? e).map (fun i => (i.zero, i.size, i.bytes)) = some (some z, 1, bytes))
    (hO : Own w L) (hk : L[k]? = some (pts g (.cells cur e))) (hr : Rd w 1 (.slice A m c) m news) (h1 : ∀ u ∈ news, u.oneCell' = true) (hroom : sLen + m ≤ sCap) (hfit : sLen + m ≤ cur.size) (hnew : cur.toList.take sLen ++ news ++ cur.toList.drop (sLen + m) = new)
    (h : ∀ w', Own w' (L.set k (pts g (.cells new.toArray e))) → Same w w' → wpList P ops Q rest (a.put o.dst (.slice (some ⟨g, 0, none⟩) (sLen + m) sCap)) w') : wpList P ops Q (o :: rest) a w := by
  obtain ⟨i, hi, hzz⟩ := Option.map_eq_some_iff.1 hinfo
  simp only [Prod.mk.injEq] at hzz
  obtain ⟨hz', hsz', hby⟩ := hzz
  have hg := own_get k hO hk
  subst hnew
  obtain ⟨hl, A', c', e1, hc1, hcm, hcell⟩ := hr.out
  cases e1
  have hl' : news.length = m := by simpa using hl
  have hkl : k < L.length := (List.getElem?_eq_some_iff.1 hk).1
  cases A with
  | some ad =>
    have hrun := run_append_room (P := P) w T o.type e i ht hi g sLen sCap cur hg ad m c news (by rw [hsz']; exact hl) (fun j u hu => by obtain ⟨ad', h2, h3⟩ := hcell j u hu; cases h2; exact h3) h1 hroom (by rw [hsz', hl']; simpa using hfit)
    rw [hsz', Nat.mul_one, hl'] at hrun
    refine ev (w1 := _) hw ?_ (h _ (own_back (own_put (own_at hO hk) (fun i hi x hx => setRow_keeps w g _ i hi x hx) (setRow_heap w g _ _ e _ hg)) hkl) (Same.setRow _ _ _))
    simp only [execOp, ho]
    simp [resolve, invoke, builtin, hs, hx, hrun, Result.andThen]
  | none =>
    have hm0 : news = [] := by
      cases news with
      | nil => rfl
      | cons u r => obtain ⟨ad', h2, _⟩ := hcell 0 u (by simp); cases h2
    subst hm0
    obtain rfl : m = 0 := by simpa using hl'.symm
    have hrun : (Builtin.append_ #[T, T] o.type #[.slice (some ⟨g, 0, none⟩) sLen sCap, .slice none 0 c]).run P w = .ok (.slice (some ⟨g, 0, none⟩) (sLen + 0) sCap) w := by
      have : sLen ≤ sCap := by omega
      simp [Builtin.append_, run_underlying ht, sizeOf, typeInfo, hi, Builtin.lenOf, Builtin.firstCells, this, storeCells]
    have e2 : (cur.toList.take sLen ++ ([] : List Value) ++ cur.toList.drop (sLen + 0)).toArray = cur := by simp
    refine ev hw ?_ (h w ?_ (Same.refl _))
    · simp only [execOp, ho]
      simp [resolve, invoke, builtin, hs, hx, hrun, Result.andThen]
    · rw [e2]
      have : L.set k (pts g (.cells cur e)) = L := by
        obtain ⟨h3, h4⟩ := List.getElem?_eq_some_iff.1 hk
        rw [← h4, List.set_getElem_self]
      rw [this]
      exact hO
/-- clear of some cells of a row. -/
theorem own_clear {T e : TypeId} {s : Operand} {g off n c k : Nat} {z : Value} {cur : Array Value} {new : List Value} (hw : Region.wanted o (yielded ops a.tmps) = true)
    (ho : o.op = .call { callee := .builtin .clear, args := #[s], argTypes := #[T] }) (hs : a.eval s = .slice (some ⟨g, off, none⟩) (n + 1) c) (ht : P.underlying T = some (.slice e)) (hv : ∀ w, (zeroValue e).run P w = .ok z w) (hz : z.cells = #[z]) (h1 : z.oneCell' = true)
    (hO : Own w L) (hk : L[k]? = some (pts g (.cells cur e))) (hfit : off + (n + 1) ≤ cur.size) (hnew : cur.toList.take off ++ List.replicate (n + 1) z ++ cur.toList.drop (off + (n + 1)) = new)
    (h : ∀ w', Own w' (L.set k (pts g (.cells new.toArray e))) → Same w w' → wpList P ops Q rest (a.put o.dst (.tuple #[])) w') : wpList P ops Q (o :: rest) a w := by
  have hg := own_get k hO hk
  subst hnew
  have hzc : (Builtin.zeroCells z.cells (n + 1)).toList = List.replicate (n + 1) z := by
    rw [hz]
    simp [Builtin.zeroCells]
    apply List.ext_getElem
    · simp
    · intro i h1 h2
      simp [Nat.mod_one]
  have hst := run_storeCells_at P g off e (List.replicate (n + 1) z) 0 cur w hg (by simpa using hfit) (by intro v hv'; rw [List.eq_of_mem_replicate hv']; exact h1)
  simp only [Nat.add_zero, List.length_replicate] at hst
  have hrun : (Builtin.clear_ #[T] o.type #[.slice (some ⟨g, off, none⟩) (n + 1) c]).run P w = .ok (.tuple #[]) (w.setRow g (cur.toList.take off ++ List.replicate (n + 1) z ++ cur.toList.drop (off + (n + 1))).toArray) := by
    simp [Builtin.clear_, run_underlying ht, hv, hzc, hst]
  refine ev (w1 := _) hw ?_ (h _ (own_back (own_put (own_at hO hk) (fun i hi x hx => setRow_keeps w g _ i hi x hx) (setRow_heap w g _ _ e _ hg)) (List.getElem?_eq_some_iff.1 hk).1) (Same.setRow _ _ _))
  simp only [execOp, ho]
  simp [resolve, invoke, builtin, hs, hrun, Result.andThen]
end
theorem zero_ptr : ∀ w, (zeroValue 68).run Try.prog w = .ok (.pointer none) w := by intro w; simp [zeroValue, typeInfo, go_sem]; rfl
/-- Without the i-th, the place behind the last cleared. -/
def delRow (cur : List Value) (i k : Nat) : List Value := cur.take i ++ (cur.take (k + 1)).drop (i + 1) ++ .pointer none :: cur.drop (k + 1)
theorem del_mid {cur : List Value} {i k : Nat} (hi : i ≤ k) (hk : k + 1 ≤ cur.length) : (cur.take i ++ (cur.take (k + 1)).drop (i + 1) ++ cur.drop (i + (k - i))).take k ++ [.pointer none] ++ (cur.take i ++ (cur.take (k + 1)).drop (i + 1) ++ cur.drop (i + (k - i))).drop (k + 1) = delRow cur i k := by
  have l1 : (cur.take i ++ (cur.take (k + 1)).drop (i + 1)).length = k := by simp; omega
  rw [List.take_append_of_le_length (Nat.le_of_eq l1.symm), List.take_of_length_le (Nat.le_of_eq l1), List.drop_append, List.drop_of_length_le (l := cur.take i ++ (cur.take (k + 1)).drop (i + 1)) (by rw [l1]; omega), l1, List.drop_drop]
  unfold delRow
  rw [show i + (k - i) + (k + 1 - k) = k + 1 by omega]
  simp
set_option maxHeartbeats 1600000 in
theorem delete_c (w : World) (L : List HP) (g k cap i : Nat) (cur : List Value) (hO : Own w (pts g (.cells cur.toArray 68) :: L)) (hi : i ≤ k) (hk : k + 1 ≤ cap) (hc : cur.length = cap) (hm : cap ≤ maxLen) (h200 : k ≤ 200) (hone : ∀ u ∈ cur.take (k + 1), u.oneCell' = true) :
    Calls Try.prog 42 #[.slice (some ⟨g, 0, none⟩) (k + 1) cap, .int .i64 i, .int .i64 (i + 1 : Nat)] w
      (Ret w (.slice (some ⟨g, 0, none⟩) k cap) (pts g (.cells (delRow cur i k).toArray 68) :: L)) := by
  obtain ⟨n, hn⟩ : ∃ n, n = k + 1 := ⟨_, rfl⟩
  obtain ⟨j, hj⟩ : ∃ j, j = i + 1 := ⟨_, rfl⟩
  obtain ⟨r, hr⟩ : ∃ r, n - j = r := ⟨_, rfl⟩
  obtain ⟨c', hc'⟩ : ∃ c', cap - j = c' := ⟨_, rfl⟩
  obtain ⟨A', hA⟩ : ∃ A', (if cap = j then some (⟨g, 0, none⟩ : Addr) else (some (⟨g, 0, none⟩ : Addr)).map (·.add j)) = A' := ⟨_, rfl⟩
  rw [← hn, ← hj]
  unfold maxLen at hm
  have HE : Hid (r = k - i ∧ i + r = k ∧ n = k + 1 ∧ j = i + 1 ∧ cur.length = cap ∧ i + r ≤ cap ∧ n ≤ cap ∧ j ≤ n ∧ i ≤ n) := by show _ ∧ _; omega
  have HA := Lib.hid hA
  have HIC : Hid (i ≤ cap) := by show _ ≤ _; omega
  have HRR := Lib.hid hr
  have HCC := Lib.hid hc'
  have hir : i + r = k := HE.out.2.1
  have hne : ((i : Int) == (j : Int)) = false := by simp; omega
  have HRD : Hid (∀ w', Own w' (pts g (.cells cur.toArray 68) :: L) → Rd w' 1 (.slice A' r c') r ((cur.take n).drop j)) := fun w' h => by
    have h1 := rd_block (own_get 0 h rfl) (size := 1) (n := n) (c := cap) (xs := cur.take n) (by simp) (by simp; omega) (by omega) (by omega)
    have h2 := rd_from h1 (by omega) HA.out
    rw [HRR.out, HCC.out] at h2
    exact h2
  have q1 : i ≤ j := by omega
  have q2 : j ≤ n := by omega
  have q3 : n ≤ cap := by omega
  have q4 : k ≤ n := by omega
  have q5 : (cap = k) = False := by simp; omega
  have q6 : (n = i) = False := by simp; omega
  have HONE : Hid (∀ u ∈ (cur.take n).drop j, u.oneCell' = true) := fun u hu => hone u (by rw [← hn]; exact List.mem_of_mem_drop hu)
  have hnk : n - k = 1 := by omega
  have HI : Hid (i ≤ k) := hi
  clear hA hr hc' hn hj hc hi hk hone
  go_enter Try.func42, Try.ntmps42
  go_wp2
  refine wp_region_seq (Cls w (pts g (.cells cur.toArray 68) :: L)) 6 33 mixed (by kernel_rfl) rfl (cls_drew hO) ?_
  simp only [List.append_eq, List.cons_append, List.nil_append, List.take_succ_cons, List.take_zero]
  repeat (first
    | (apply wv_skip rfl; simp only [Act.put, List.setIfInBounds_toArray, List.set_cons_zero, List.set_cons_succ])
    | (refine wv_slice_from2 rfl rfl rfl rfl Try.underlying70 sz_ptr HE.out.2.2.2.2.2.2.2.1 HE.out.2.2.2.2.2.2.1 HA.out HRR.out HCC.out ?_; simp only [Act.put, List.setIfInBounds_toArray, List.set_cons_zero, List.set_cons_succ])
    | (refine wv_slice_to rfl rfl rfl rfl Try.underlying70 sz_ptr HIC.out ?_; simp only [Act.put, List.setIfInBounds_toArray, List.set_cons_zero, List.set_cons_succ])
    | (apply wv_load1 rfl rfl rfl; (first | exact row_int | exact row_str | exact row_bool | exact row_u8 | exact row_bys | exact row_pats | exact row_err); (intro w h; (first | exact own_get 0 h.1 rfl | exact own_get 1 h.1 rfl | exact own_get 2 h.1 rfl | exact own_get 3 h.1 rfl | exact own_get 4 h.1 rfl | exact own_get 5 h.1 rfl | exact own_get 6 h.1 rfl | exact own_get 7 h.1 rfl)); (first | (simp only [List.getElem?_toArray, List.getElem?_cons_succ, List.getElem?_cons_zero]; rfl) | rfl); simp only [Act.put, List.setIfInBounds_toArray, List.set_cons_zero, List.set_cons_succ])
    | (apply wv_loadrow rfl rfl rfl; (first | exact row_pat); exact sz_pat; (intro w h; (first | exact own_get 0 h.1 rfl | exact own_get 1 h.1 rfl | exact own_get 2 h.1 rfl | exact own_get 3 h.1 rfl | exact own_get 4 h.1 rfl | exact own_get 5 h.1 rfl | exact own_get 6 h.1 rfl | exact own_get 7 h.1 rfl)); (focus (simp; done)); (first | (simp only [List.drop_zero, List.drop_succ_cons, List.take_succ_cons, List.take_zero]; rfl) | rfl); simp only [Act.put, List.setIfInBounds_toArray, List.set_cons_zero, List.set_cons_succ])
    | (apply wv_run rfl; (focus (intro w h; go_simp; first | done | rfl)); simp only [Act.put, List.setIfInBounds_toArray, List.set_cons_zero, List.set_cons_succ])
    | (apply wv_call rfl; (focus (intro w; go_simp; first | done | exact ⟨rfl, rfl⟩)); (focus (intro w h; apply cls_call h; fail)); simp only [Act.put, List.setIfInBounds_toArray, List.set_cons_zero, List.set_cons_succ]))
  refine wv_nil ?_
  simp only [List.drop_succ_cons, List.drop_zero]
  intro w5 ⟨hO5, hS5⟩
  clear hO
  have HD : Hid (cur.take i ++ (cur.take n).drop j ++ cur.drop (i + r) = cur.take i ++ (cur.take (k + 1)).drop (i + 1) ++ cur.drop (i + (k - i))) := by
    have h := HE.out
    show _ = _
    rw [h.1, h.2.2.1, h.2.2.2.1]
  have HL2 : Hid ((cur.take i ++ (cur.take (k + 1)).drop (i + 1) ++ cur.drop (i + (k - i))).length = cap) := by
    have h := HE.out
    have := HI.out
    show _ = _
    simp only [List.length_append, List.length_take, List.length_drop]
    omega
  go_wp2_with (first | (refine own_append_room (sLen := i) (m := r) (k := 0) (cur := cur.toArray) (news := (cur.take n).drop j) (new := cur.take i ++ (cur.take (k + 1)).drop (i + 1) ++ cur.drop (i + (k - i))) rfl rfl rfl rfl Try.underlying70 info_ptr hO5 rfl (HRD.out _ hO5) HONE.out HE.out.2.2.2.2.2.1 (by rw [List.size_toArray, HE.out.2.2.2.2.1]; exact HE.out.2.2.2.2.2.1) HD.out ?_; clear hO5; intro w6 hO hS6; simp only [List.set_cons_zero] at hO) | (refine own_clear (n := 0) (k := 0) (g := g) (off := k) (cur := (cur.take i ++ (cur.take (k + 1)).drop (i + 1) ++ cur.drop (i + (k - i))).toArray) (new := delRow cur i k) rfl rfl rfl Try.underlying70 zero_ptr rfl rfl hO rfl ?_ ?_ ?_; (rw [List.size_toArray, HL2.out]; have := HE.out; omega); (exact del_mid HI.out (by have := HE.out; omega)); clear hO; intro w7 hO hS7; simp only [List.set_cons_zero] at hO))
  go_ret
  exact ⟨rfl, hO, hS5.trans (hS6.trans hS7)⟩
end Go.Proofs.Ytdcbfdepkbplbaa.H
