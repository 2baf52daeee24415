/- Contracts of lift and lay. -/
import Derived.Test.YtdcbfdepkbplbaaS4
set_option linter.unusedVariables false
set_option linter.unusedSimpArgs false
set_option maxRecDepth 100000
namespace Go.Proofs.Ytdcbfdepkbplbaa.H
open Go.RowKit
theorem srow_put {byt und : List UInt8} {v : Value} {next o : Nat} (hb : byt.length = 32) (h : o + und.length ≤ 32) :
    (srow byt v next).toList.take o ++ (bcs und).take und.length ++ (srow byt v next).toList.drop (o + und.length) = (srow (over byt o und) v next).toList := by
  simp only [srow, over, List.take_of_length_le (Nat.le_of_eq (bcs_length und))]
  rw [List.take_append_of_le_length (by rw [bcs_length]; omega), List.drop_append_of_le_length (by rw [bcs_length]; omega)]
  simp [bcs, List.map_take, List.map_drop]
theorem srow_size (byt : List UInt8) (v : Value) (next : Nat) (hb : byt.length = 32) : (srow byt v next).size = 34 := by simp [srow, bcs_length, hb]
theorem srow_str {byt : List UInt8} {d : ByteArray} {v : Value} {next o : Nat} (hb : byt.length = 32) (h : o + d.size ≤ 32) :
    (srow byt v next).toList.take o ++ bcs d.data.toList ++ (srow byt v next).toList.drop (o + d.size) = (srow (over byt o d.data.toList) v next).toList := by
  have hs : d.size = d.data.toList.length := by rw [Array.length_toList]; rfl
  have := srow_put (byt := byt) (und := d.data.toList) (v := v) (next := next) (o := o) hb (by omega)
  rw [List.take_of_length_le (Nat.le_of_eq (bcs_length _)), ← hs] at this
  exact this
theorem clone_n (w : World) (L : List HP) (ad : Addr) (n c : Nat) (bs : List UInt8) (hO : Own w L) (hn : n = bs.length) (hr : ∀ w', Own w' L → Rd w' 1 (.slice (some ad) n c) n (bcs bs)) (hle : bs.length ≤ 1000) :
    Calls Try.prog 39 #[.slice (some ad) n c] w (RetX w (fun x => x) (fun x => owns 5 1 x bs.length (bcs bs) :: L)) := by
  subst hn
  exact clone_c w L ad _ c bs hO hr hle
theorem cend_h (w : World) (L : List HP) (c : Cl) (hi : Int) (hh : hi = c.p.off + c.p.dat.size) (hO : Own w L) (hc : ∀ w', Own w' L → w'.heap[c.a]? = some (.cells c.row 67)) (hR : rightB c.p = true) :
    Calls Try.prog 62 #[.pointer (some ⟨c.a, 0, none⟩)] w (Ret w (.int .i64 hi) L) := by
  subst hh
  exact cend_c w L c hO hc hR
theorem srow_cut {w : World} {p lo n c : Nat} {byt : List UInt8} {v : Value} {next : Nat} (h : w.heap[p]? = some (.cells (srow byt v next) 72)) (hb : byt.length = 32) (hl : lo + n ≤ 32) (hc : n ≤ c) (hm : c ≤ 32) : Rd w 1 (.slice (some ⟨p, lo, none⟩) n c) n (bcs ((byt.drop lo).take n)) := by
  refine rd_block_at h ?_ (by rw [srow_size _ _ _ hb]; omega) hc (by omega)
  simp only [srow]
  rw [List.drop_append_of_le_length (by rw [bcs_length]; omega), List.take_append_of_le_length (by rw [List.length_drop, bcs_length]; omega), bcs_sub]
set_option maxHeartbeats 800000 in
theorem lift_c (w : World) (L : List HP) (p : Nat) (v : Value) (byt : List UInt8) (next : Nat) (c : Cl) (hO : Own w (pts p (.cells (srow byt v next) 72) :: L)) (hc : ∀ w', Own w' L → w'.heap[c.a]? = some (.cells c.row 67)) (hu : ∀ w', Own w' L → RdB w' c.u c.und) (hb : byt.length = 32) (h0 : 0 ≤ c.p.off) (h1 : 1 ≤ c.und.length) (h32 : c.p.off + c.und.length ≤ 32) :
    Calls Try.prog 55 #[.pointer (some ⟨p, 0, none⟩), .pointer (some ⟨c.a, 0, none⟩)] w (Ret w (.tuple #[]) (pts p (.cells (srow (over byt c.p.off.toNat c.und) v next) 72) :: L)) := by
  obtain ⟨o, ho⟩ : ∃ o, o = c.p.off := ⟨_, rfl⟩
  have HC := Lib.hid hc
  have HU := Lib.hid hu
  have HB : Hid (byt.length = 32) := hb
  have H1 : Hid (o.toNat + c.und.length ≤ 32) := by show _ ≤ _; omega
  have l0 : 0 ≤ o := by omega
  have l1 : o ≤ 32 := by omega
  have l3 : Hid (¬ (32 = o.toNat)) := by show ¬ _; omega
  have HM : Hid (Nat.min c.und.length (32 - o.toNat) = c.und.length) := Nat.min_eq_left (by omega)
  have HR1 : Hid (c.row[1]? = some (.int .i64 o)) := by show _ = _; rw [ho]; rfl
  rw [← ho]
  clear hc hu hb h0 h32 ho
  go_enter Try.func55, Try.ntmps55
  go_wp2
  have l4 := l3.out
  refine wp_region_seq (Cls w (pts p (.cells (srow byt v next) 72) :: L)) 13 18 mixed (by kernel_rfl) rfl (cls_drew hO) ?_
  simp only [List.take_succ_cons, List.take_zero]
  repeat (first
    | (apply wv_skip rfl; simp only [Act.put, List.setIfInBounds_toArray, List.set_cons_zero, List.set_cons_succ])
    | (refine wv_load1 (b := c.a) (cs := c.row) (t := 67) (v := .int .i64 o) rfl rfl rfl row_int (fun w h => HC.out w (own_drop h.1)) HR1.out ?_; simp only [Act.put, List.setIfInBounds_toArray, List.set_cons_zero, List.set_cons_succ])
    | (refine wv_load1 (b := c.a) (cs := c.row) (t := 67) (v := c.u) rfl rfl rfl row_bys (fun w h => HC.out w (own_drop h.1)) rfl ?_; simp only [Act.put, List.setIfInBounds_toArray, List.set_cons_zero, List.set_cons_succ])
    | (apply wv_load1 rfl rfl rfl; (first | exact row_int | exact row_str | exact row_bool | exact row_u8 | exact row_bys | exact row_pats | exact row_err); (intro w h; (first | exact own_get 0 h.1 rfl | exact own_get 1 h.1 rfl | exact own_get 2 h.1 rfl | exact own_get 3 h.1 rfl | exact own_get 4 h.1 rfl | exact own_get 5 h.1 rfl | exact own_get 6 h.1 rfl | exact own_get 7 h.1 rfl)); (first | (simp only [List.getElem?_toArray, List.getElem?_cons_succ, List.getElem?_cons_zero]; rfl) | rfl); simp only [Act.put, List.setIfInBounds_toArray, List.set_cons_zero, List.set_cons_succ])
    | (apply wv_loadrow rfl rfl rfl; (first | exact row_pat); exact sz_pat; (intro w h; (first | exact own_get 0 h.1 rfl | exact own_get 1 h.1 rfl | exact own_get 2 h.1 rfl | exact own_get 3 h.1 rfl | exact own_get 4 h.1 rfl | exact own_get 5 h.1 rfl | exact own_get 6 h.1 rfl | exact own_get 7 h.1 rfl)); (focus (simp; done)); (first | (simp only [List.drop_zero, List.drop_succ_cons, List.take_succ_cons, List.take_zero]; rfl) | rfl); simp only [Act.put, List.setIfInBounds_toArray, List.set_cons_zero, List.set_cons_succ])
    | (apply wv_run rfl; (focus (intro w h; go_simp; first | done | rfl)); simp only [Act.put, List.setIfInBounds_toArray, List.set_cons_zero, List.set_cons_succ])
    | (apply wv_call rfl; (focus (intro w; go_simp; first | done | exact ⟨rfl, rfl⟩)); (focus (intro w h; apply cls_call h; fail)); simp only [Act.put, List.setIfInBounds_toArray, List.set_cons_zero, List.set_cons_succ]))
  refine wv_nil ?_
  simp only [List.drop_succ_cons, List.drop_zero]
  intro w5 ⟨hO5, hS5⟩
  clear l4
  refine own_copy (n := c.und.length) (m := c.und.length) (xs := bcs c.und) (new := (srow (over byt o.toNat c.und) v next).toList) (k := 0) (g := p) (off := o.toNat) (cur := srow byt v next) (t := 72) rfl rfl rfl rfl Try.underlying22 sz_u8 (HU.out _ (own_drop hO5)) (bcs_one _) hO5 rfl HM.out ?_ (srow_put HB.out H1.out) ?_
  · rw [srow_size _ _ _ HB.out]; have := H1.out; omega
  intro w6 hO hS6
  clear hO5
  simp only [List.set_cons_zero, Array.toArray_toList] at hO
  go_wp2
  exact bodyPost_ret (results_none rfl _ _ _) rfl ⟨rfl, hO, hS5.trans hS6⟩
theorem sz_bys : (Try.prog.info? 22).map (·.size) = some 1 := by kernel_rfl
def Cl.laid (c : Cl) (u : Value) (byt : List UInt8) : Cl := ⟨c.a, u, c.n, c.p, cutP byt c.p⟩
set_option maxHeartbeats 1600000 in
theorem lay_c (w : World) (L : List HP) (p : Nat) (v : Value) (byt : List UInt8) (next : Nat) (c : Cl) (hO : Own w (pts p (.cells (srow byt v next) 72) :: pts c.a (.cells c.row 67) :: L)) (hR : rightB c.p = true) (hb : byt.length = 32) :
    Calls Try.prog 54 #[.pointer (some ⟨p, 0, none⟩), .pointer (some ⟨c.a, 0, none⟩)] w
      (RetX w (fun _ => .tuple #[]) (fun u => pts p (.cells (srow (app byt c.p) v next) 72) :: pts c.a (.cells (c.laid u byt).row 67) :: owns 5 1 u (cutP byt c.p).length (bcs (cutP byt c.p)) :: L)) := by
  obtain ⟨p1, p2, p3, p4, p5, p6⟩ := rightB_iff.1 hR
  obtain ⟨o, ho⟩ : ∃ o, o = c.p.off := ⟨_, rfl⟩
  obtain ⟨hi, hhi⟩ : ∃ hi, hi = c.p.off + c.p.dat.size := ⟨_, rfl⟩
  have HB : Hid (byt.length = 32) := hb
  have HR := Lib.hid hR
  have l0 : 0 ≤ o := by omega
  have l1 : o ≤ hi := by omega
  have l2 : hi ≤ 32 := by omega
  have l5 : 0 ≤ hi := by omega
  have l6 : o ≤ 32 := by omega
  have l3 : Hid (¬ (32 = o.toNat)) := by show ¬ _; omega
  have HHI : Hid (hi = c.p.off + c.p.dat.size) := hhi
  have HN : Hid (hi.toNat - o.toNat = c.p.dat.size ∧ o.toNat + c.p.dat.size ≤ 32 ∧ c.p.dat.size ≤ 32 - o.toNat) := by show _ ∧ _; omega
  have HCUT : Hid (cutP byt c.p = (byt.drop o.toNat).take (hi.toNat - o.toNat)) := by show _ = _; rw [show hi.toNat - o.toNat = c.p.dat.size by omega, ho]; rfl
  have HCL : Hid ((cutP byt c.p).length = c.p.dat.size) := cutP_length hb hR
  have HR1 : Hid (c.row[1]? = some (.int .i64 o)) := by show _ = _; rw [ho]; rfl
  have HAPP : Hid (app byt c.p = over byt o.toNat c.p.dat.data.toList) := by show _ = _; rw [ho]; rfl
  clear hb hR p1 p2 p3 p4 p5 p6 ho hhi
  go_enter Try.func54, Try.ntmps54
  go_wp2
  have l4 := l3.out
  refine wp_region_mix (Cls w (pts p (.cells (srow byt v next) 72) :: pts c.a (.cells c.row 67) :: L)) (Cls w (pts p (.cells (srow byt v next) 72) :: pts c.a (.cells c.row 67) :: L)) 12 34 [0] mixed (by kernel_rfl) rfl (cls_drew hO) (fun w h => ⟨id h.1, h.2⟩) (fun _ _ _ _ hd h => ⟨hd ▸ h.1, h.2⟩) ?_
  simp only [List.take_succ_cons, List.take_zero]
  repeat (first
    | (refine wm_run rfl rfl (by intro w h; go_simp; first | done | rfl) ?_; simp only [Act.put, List.setIfInBounds_toArray, List.set_cons_zero, List.set_cons_succ])
    | (refine wm_val rfl ?_; (first
      | (apply wv_skip rfl; simp only [Act.put, List.setIfInBounds_toArray, List.set_cons_zero, List.set_cons_succ])
      | (refine wv_load1 (b := c.a) (cs := c.row) (t := 67) (v := .int .i64 o) rfl rfl rfl row_int (fun w h => own_get 1 h.1 rfl) HR1.out ?_; simp only [Act.put, List.setIfInBounds_toArray, List.set_cons_zero, List.set_cons_succ])
      | (apply wv_load1 rfl rfl rfl; (first | exact row_int | exact row_str | exact row_bool | exact row_u8 | exact row_bys | exact row_pats | exact row_err); (intro w h; (first | exact own_get 0 h.1 rfl | exact own_get 1 h.1 rfl | exact own_get 2 h.1 rfl | exact own_get 3 h.1 rfl | exact own_get 4 h.1 rfl | exact own_get 5 h.1 rfl | exact own_get 6 h.1 rfl | exact own_get 7 h.1 rfl)); (first | (simp only [List.getElem?_toArray, List.getElem?_cons_succ, List.getElem?_cons_zero]; rfl) | rfl); simp only [Act.put, List.setIfInBounds_toArray, List.set_cons_zero, List.set_cons_succ])
      | (apply wv_loadrow rfl rfl rfl; (first | exact row_pat); exact sz_pat; (intro w h; (first | exact own_get 0 h.1 rfl | exact own_get 1 h.1 rfl | exact own_get 2 h.1 rfl | exact own_get 3 h.1 rfl | exact own_get 4 h.1 rfl | exact own_get 5 h.1 rfl | exact own_get 6 h.1 rfl | exact own_get 7 h.1 rfl)); (focus (simp; done)); (first | (simp only [List.drop_zero, List.drop_succ_cons, List.take_succ_cons, List.take_zero]; rfl) | rfl); simp only [Act.put, List.setIfInBounds_toArray, List.set_cons_zero, List.set_cons_succ])
      | (apply wv_run rfl; (focus (intro w h; go_simp; first | done | rfl)); simp only [Act.put, List.setIfInBounds_toArray, List.set_cons_zero, List.set_cons_succ])
      | (apply wv_call rfl; (focus (intro w; go_simp; first | done | exact ⟨rfl, rfl⟩)); (focus (intro w h; apply cls_call h; exact cend_h _ _ c hi HHI.out h.1 (fun w' h' => own_get 1 h' rfl) HR.out)); simp only [Act.put, List.setIfInBounds_toArray, List.set_cons_zero, List.set_cons_succ])); refine wv_nil ?_))
  refine wm_nil ?_
  simp only [List.drop_succ_cons, List.drop_zero]
  intro w5 ⟨hO5, hS5⟩
  clear l4
  clear hO
  apply wk_call ⟨hO5, hS5⟩ rfl
  focus (go_simp; first | done | exact ⟨rfl, rfl⟩)
  refine (clone_n _ _ ⟨p, o.toNat, none⟩ _ _ (cutP byt c.p) hO5 (by rw [HCL.out, HN.out.1]) (fun w' h' => by
    rw [HCUT.out]
    exact srow_cut (own_get 0 h' rfl) HB.out (by have := HN.out; omega) (by have := HN.out; omega) (by omega)) (by have := HN.out; rw [HCL.out]; omega)).mono ?_
  rintro e w6 ⟨u, rfl, hO6, hS6⟩
  obtain ⟨A2, c2, rfl⟩ := (owns_rd hO6).slice
  refine ⟨_, rfl, ?_⟩
  simp only [Act.put, List.setIfInBounds_toArray, List.set_cons_zero, List.set_cons_succ]
  refine wk_run ⟨own_drop hO6, hS5.trans hS6⟩ rfl (by go_simp; first | done | rfl) ?_
  simp only [Act.put, List.setIfInBounds_toArray, List.set_cons_zero, List.set_cons_succ]
  refine wk_run ⟨own_drop hO6, hS5.trans hS6⟩ rfl (by go_simp; first | done | rfl) ?_
  simp only [Act.put, List.setIfInBounds_toArray, List.set_cons_zero, List.set_cons_succ]
  refine wk_last ⟨own_drop hO6, hS5.trans hS6⟩ ?_
  refine own_store1 (k := 2) (b := c.a) (off := 4) (cs := c.row) (cs' := (c.laid (.slice A2 (cutP byt c.p).length c2) byt).row) rfl rfl rfl rfl sz_bys hO6 rfl rfl (by simp [Cl.row]) rfl ?_
  intro w7 hO7 hS7
  simp only [List.set_cons_zero, List.set_cons_succ] at hO7
  have hO : Own w7 (pts p (.cells (srow byt v next) 72) :: pts c.a (.cells (c.laid (.slice A2 (cutP byt c.p).length c2) byt).row 67) :: owns 5 1 (.slice A2 (cutP byt c.p).length c2) (cutP byt c.p).length (bcs (cutP byt c.p)) :: L) := own_perm hO7 ((List.Perm.swap _ _ _).trans ((List.Perm.swap _ _ _).cons _))
  clear hO5 hO6 hO7
  have HR2 : Hid ((c.laid (.slice A2 (cutP byt c.p).length c2) byt).row[1]? = some (.int .i64 o)) := HR1.out
  clear HR1
  go_wp2
  have l4 := l3.out
  refine wp_region_seq (Cls w7 (pts p (.cells (srow byt v next) 72) :: pts c.a (.cells (c.laid (.slice A2 (cutP byt c.p).length c2) byt).row 67) :: owns 5 1 (.slice A2 (cutP byt c.p).length c2) (cutP byt c.p).length (bcs (cutP byt c.p)) :: L)) 14 34 mixed (by kernel_rfl) rfl (cls_drew hO) ?_
  simp only [List.take_succ_cons, List.take_zero]
  repeat (first
    | (apply wv_skip rfl; simp only [Act.put, List.setIfInBounds_toArray, List.set_cons_zero, List.set_cons_succ])
    | (refine wv_load1 (b := c.a) (cs := (c.laid (.slice A2 (cutP byt c.p).length c2) byt).row) (t := 67) (v := .int .i64 o) rfl rfl rfl row_int (fun w h => own_get 1 h.1 rfl) HR2.out ?_; simp only [Act.put, List.setIfInBounds_toArray, List.set_cons_zero, List.set_cons_succ])
    | (refine wv_load1 (b := c.a) (cs := (c.laid (.slice A2 (cutP byt c.p).length c2) byt).row) (t := 67) (v := .string c.p.dat) rfl rfl rfl row_str (fun w h => own_get 1 h.1 rfl) rfl ?_; simp only [Act.put, List.setIfInBounds_toArray, List.set_cons_zero, List.set_cons_succ])
    | (apply wv_load1 rfl rfl rfl; (first | exact row_int | exact row_str | exact row_bool | exact row_u8 | exact row_bys | exact row_pats | exact row_err); (intro w h; (first | exact own_get 0 h.1 rfl | exact own_get 1 h.1 rfl | exact own_get 2 h.1 rfl | exact own_get 3 h.1 rfl | exact own_get 4 h.1 rfl | exact own_get 5 h.1 rfl | exact own_get 6 h.1 rfl | exact own_get 7 h.1 rfl)); (first | (simp only [List.getElem?_toArray, List.getElem?_cons_succ, List.getElem?_cons_zero]; rfl) | rfl); simp only [Act.put, List.setIfInBounds_toArray, List.set_cons_zero, List.set_cons_succ])
    | (apply wv_loadrow rfl rfl rfl; (first | exact row_pat); exact sz_pat; (intro w h; (first | exact own_get 0 h.1 rfl | exact own_get 1 h.1 rfl | exact own_get 2 h.1 rfl | exact own_get 3 h.1 rfl | exact own_get 4 h.1 rfl | exact own_get 5 h.1 rfl | exact own_get 6 h.1 rfl | exact own_get 7 h.1 rfl)); (focus (simp; done)); (first | (simp only [List.drop_zero, List.drop_succ_cons, List.take_succ_cons, List.take_zero]; rfl) | rfl); simp only [Act.put, List.setIfInBounds_toArray, List.set_cons_zero, List.set_cons_succ])
    | (apply wv_run rfl; (focus (intro w h; go_simp; first | done | rfl)); simp only [Act.put, List.setIfInBounds_toArray, List.set_cons_zero, List.set_cons_succ])
    | (apply wv_call rfl; (focus (intro w; go_simp; first | done | exact ⟨rfl, rfl⟩)); (focus (intro w h; apply cls_call h; fail)); simp only [Act.put, List.setIfInBounds_toArray, List.set_cons_zero, List.set_cons_succ]))
  refine wv_nil ?_
  simp only [List.drop_succ_cons, List.drop_zero]
  intro w8 ⟨hO8, hS8⟩
  clear l4 hO
  refine own_copy_str (new := (srow (over byt o.toNat c.p.dat.data.toList) v next).toList) (k := 0) (g := p) (off := o.toNat) (cur := srow byt v next) (t := 72) rfl rfl rfl rfl Try.underlying22 sz_u8 hO8 rfl HN.out.2.2 ?_ (srow_str HB.out HN.out.2.1) ?_
  · rw [srow_size _ _ _ HB.out]; have := HN.out; omega
  intro w9 hO hS9
  clear hO8
  simp only [List.set_cons_zero, Array.toArray_toList] at hO
  go_wp2
  refine bodyPost_ret (results_none rfl _ _ _) rfl ⟨.slice A2 (cutP byt c.p).length c2, rfl, ?_, hS5.trans (hS6.trans (hS7.trans (hS8.trans hS9)))⟩
  rw [HAPP.out]
  exact hO
end Go.Proofs.Ytdcbfdepkbplbaa.H
