/- Contracts of lift and lay. What bare defers: all cells from a place on are laid again. Contract of bare: whatever is done with the cells from a place on taken back. -/
import Derived.Test.YtonohjhmnlfakaaZ05
import Derived.Defers
set_option linter.unusedVariables false
set_option linter.unusedSimpArgs false
set_option maxRecDepth 100000
namespace Go.Proofs.Ytonohjhmnlfakaa.H
open Go.RowKit
theorem srow_put {byt und : List UInt8} {v : Value} {next o : Nat} (hb : byt.length = 32) (h : o + und.length ≤ 32) :
    (srow byt v next).toList.take o ++ (bcs und).take und.length ++ (srow byt v next).toList.drop (o + und.length) = (srow (over byt o und) v next).toList := by
  simp only [srow, over, List.take_of_length_le (Nat.le_of_eq (bcs_length und))]
  rw [List.take_append_of_le_length (by rw [bcs_length]; omega), List.drop_append_of_le_length (by rw [bcs_length]; omega)]
  simp [bcs, List.map_take, List.map_drop]
theorem srow_size (byt : List UInt8) (v : Value) (next : Nat) (hb : byt.length = 32) : (srow byt v next).size = 34 := by simp [srow, bcs_length, hb]
theorem srow_str {byt : List UInt8} {d : ByteArray} {v : Value} {next o : Nat} (hb : byt.length = 32) (h : o + d.size ≤ 32) :
    (srow byt v next).toList.take o ++ bcs d.data.toList ++ (srow byt v next).toList.drop (o + d.size) = (srow (over byt o d.data.toList) v next).toList := by
  have hs : d.size = d.data.toList.length := by rw [Array.length_toList]; rfl
  have := srow_put (byt := byt) (und := d.data.toList) (v := v) (next := next) (o := o) hb (by omega)
  rw [List.take_of_length_le (Nat.le_of_eq (bcs_length _)), ← hs] at this
  exact this
theorem clone_n (w : World) (L : List HP) (ad : Addr) (n c : Nat) (bs : List UInt8) (hO : Own w L) (hn : n = bs.length) (hr : ∀ w', Own w' L → Rd w' 1 (.slice (some ad) n c) n (bcs bs)) (hle : bs.length ≤ 1000) :
    Calls Try.prog 64 #[.slice (some ad) n c] w (RetX w (fun x => x) (fun x => owns 5 1 x bs.length (bcs bs) :: L)) := by
  subst hn
  exact clone_s w L ad _ c bs hO hr hle
theorem cend_h (w : World) (L : List HP) (c : Cl) (hi : Int) (hh : hi = c.p.off + c.p.dat.size) (hO : Own w L) (hc : ∀ w', Own w' L → w'.heap[c.a]? = some (.cells c.row 107)) (hR : rightB c.p = true) :
    Calls Try.prog 87 #[.pointer (some ⟨c.a, 0, none⟩)] w (Ret w (.int .i64 hi) L) := by
  subst hh
  exact cend_c w L c hO hc hR
theorem srow_cut {w : World} {p lo n c : Nat} {byt : List UInt8} {v : Value} {next : Nat} (h : w.heap[p]? = some (.cells (srow byt v next) 104)) (hb : byt.length = 32) (hl : lo + n ≤ 32) (hc : n ≤ c) (hm : c ≤ 32) : Rd w 1 (.slice (some ⟨p, lo, none⟩) n c) n (bcs ((byt.drop lo).take n)) := by
  refine rd_block_at h ?_ (by rw [srow_size _ _ _ hb]; omega) hc (by omega)
  simp only [srow]
  rw [List.drop_append_of_le_length (by rw [bcs_length]; omega), List.take_append_of_le_length (by rw [List.length_drop, bcs_length]; omega), bcs_sub]
set_option maxHeartbeats 800000 in
theorem lift_c (w : World) (L : List HP) (p : Nat) (v : Value) (byt : List UInt8) (next : Nat) (c : Cl) (hO : Own w (pts p (.cells (srow byt v next) 104) :: L)) (hc : ∀ w', Own w' L → w'.heap[c.a]? = some (.cells c.row 107)) (hu : ∀ w', Own w' L → RdB w' c.u c.und) (hb : byt.length = 32) (h0 : 0 ≤ c.p.off) (h1 : 1 ≤ c.und.length) (h32 : c.p.off + c.und.length ≤ 32) :
    Calls Try.prog 90 #[.pointer (some ⟨p, 0, none⟩), .pointer (some ⟨c.a, 0, none⟩)] w (Ret w (.tuple #[]) (pts p (.cells (srow (over byt c.p.off.toNat c.und) v next) 104) :: L)) := by
  obtain ⟨o, ho⟩ : ∃ o, o = c.p.off := ⟨_, rfl⟩
  have HC := Lib.hid hc
  have HU := Lib.hid hu
  have HB : Hid (byt.length = 32) := hb
  have H1 : Hid (o.toNat + c.und.length ≤ 32) := by show _ ≤ _; omega
  have l0 : 0 ≤ o := by omega
  have l1 : o ≤ 32 := by omega
  have l3 : Hid (¬ (32 = o.toNat)) := by show ¬ _; omega
  have HM : Hid (Nat.min c.und.length (32 - o.toNat) = c.und.length) := Nat.min_eq_left (by omega)
  have HR1 : Hid (c.row[1]? = some (.int .i64 o)) := by show _ = _; rw [ho]; rfl
  rw [← ho]
  clear hc hu hb h0 h32 ho
  go_enter Try.func90, Try.ntmps90
  go_wp2
  have l4 := l3.out
  refine wp_region_seq (Cls w (pts p (.cells (srow byt v next) 104) :: L)) 13 18 mixed (by kernel_rfl) rfl (cls_drew hO) ?_
  simp only [List.append_eq, List.cons_append, List.nil_append, List.take_succ_cons, List.take_zero]
  repeat (first
    | (apply wv_skip rfl; simp only [Act.put, List.setIfInBounds_toArray, List.set_cons_zero, List.set_cons_succ])
    | (refine wv_load1 (b := c.a) (cs := c.row) (t := 107) (v := .int .i64 o) rfl rfl rfl row_int (fun w h => HC.out w (own_drop h.1)) HR1.out ?_; simp only [Act.put, List.setIfInBounds_toArray, List.set_cons_zero, List.set_cons_succ])
    | (refine wv_load1 (b := c.a) (cs := c.row) (t := 107) (v := c.u) rfl rfl rfl row_bys (fun w h => HC.out w (own_drop h.1)) rfl ?_; simp only [Act.put, List.setIfInBounds_toArray, List.set_cons_zero, List.set_cons_succ])
    | (apply wv_load1 rfl rfl rfl; (first | exact row_int | exact row_str | exact row_bool | exact row_u8 | exact row_bys | exact row_pats | exact row_err); (intro w h; (first | exact own_get 0 h.1 rfl | exact own_get 1 h.1 rfl | exact own_get 2 h.1 rfl | exact own_get 3 h.1 rfl | exact own_get 4 h.1 rfl | exact own_get 5 h.1 rfl | exact own_get 6 h.1 rfl | exact own_get 7 h.1 rfl)); (first | (simp only [List.getElem?_toArray, List.getElem?_cons_succ, List.getElem?_cons_zero]; rfl) | rfl); simp only [Act.put, List.setIfInBounds_toArray, List.set_cons_zero, List.set_cons_succ])
    | (apply wv_loadrow rfl rfl rfl; (first | exact row_pat); exact sz_pat; (intro w h; (first | exact own_get 0 h.1 rfl | exact own_get 1 h.1 rfl | exact own_get 2 h.1 rfl | exact own_get 3 h.1 rfl | exact own_get 4 h.1 rfl | exact own_get 5 h.1 rfl | exact own_get 6 h.1 rfl | exact own_get 7 h.1 rfl)); (focus (simp; done)); (first | (simp only [List.drop_zero, List.drop_succ_cons, List.take_succ_cons, List.take_zero]; rfl) | rfl); simp only [Act.put, List.setIfInBounds_toArray, List.set_cons_zero, List.set_cons_succ])
    | (apply wv_run rfl; (focus (intro w h; go_simp; first | done | rfl)); simp only [Act.put, List.setIfInBounds_toArray, List.set_cons_zero, List.set_cons_succ])
    | (apply wv_call rfl; (focus (intro w; go_simp; first | done | exact ⟨rfl, rfl⟩)); (focus (intro w h; apply cls_call h; fail)); simp only [Act.put, List.setIfInBounds_toArray, List.set_cons_zero, List.set_cons_succ]))
  refine wv_nil ?_
  simp only [List.drop_succ_cons, List.drop_zero]
  intro w5 ⟨hO5, hS5⟩
  clear l4
  refine own_copy (n := c.und.length) (m := c.und.length) (xs := bcs c.und) (new := (srow (over byt o.toNat c.und) v next).toList) (k := 0) (g := p) (off := o.toNat) (cur := srow byt v next) (t := 104) rfl rfl rfl rfl Try.underlying22 sz_u8 (HU.out _ (own_drop hO5)) (bcs_one _) hO5 rfl HM.out ?_ (srow_put HB.out H1.out) ?_
  · rw [srow_size _ _ _ HB.out]; have := H1.out; omega
  intro w6 hO hS6
  clear hO5
  simp only [List.set_cons_zero, Array.toArray_toList] at hO
  go_wp2
  exact bodyPost_ret (results_none rfl _ _ _) rfl ⟨rfl, hO, hS5.trans hS6⟩
theorem sz_bys : (Try.prog.info? 22).map (·.size) = some 1 := by kernel_rfl
def Cl.laid (c : Cl) (u : Value) (byt : List UInt8) : Cl := ⟨c.a, u, c.n, c.p, cutP byt c.p⟩
set_option maxHeartbeats 1600000 in
theorem lay_c (w : World) (L : List HP) (p : Nat) (v : Value) (byt : List UInt8) (next : Nat) (c : Cl) (hO : Own w (pts p (.cells (srow byt v next) 104) :: pts c.a (.cells c.row 107) :: L)) (hR : rightB c.p = true) (hb : byt.length = 32) :
    Calls Try.prog 62 #[.pointer (some ⟨p, 0, none⟩), .pointer (some ⟨c.a, 0, none⟩)] w
      (RetX w (fun _ => .tuple #[]) (fun u => pts p (.cells (srow (app byt c.p) v next) 104) :: pts c.a (.cells (c.laid u byt).row 107) :: owns 5 1 u (cutP byt c.p).length (bcs (cutP byt c.p)) :: L)) := by
  obtain ⟨p1, p2, p3, p4, p5, p6⟩ := rightB_iff.1 hR
  obtain ⟨o, ho⟩ : ∃ o, o = c.p.off := ⟨_, rfl⟩
  obtain ⟨hi, hhi⟩ : ∃ hi, hi = c.p.off + c.p.dat.size := ⟨_, rfl⟩
  have HB : Hid (byt.length = 32) := hb
  have HR := Lib.hid hR
  have l0 : 0 ≤ o := by omega
  have l1 : o ≤ hi := by omega
  have l2 : hi ≤ 32 := by omega
  have l5 : 0 ≤ hi := by omega
  have l6 : o ≤ 32 := by omega
  have l3 : Hid (¬ (32 = o.toNat)) := by show ¬ _; omega
  have HHI : Hid (hi = c.p.off + c.p.dat.size) := hhi
  have HN : Hid (hi.toNat - o.toNat = c.p.dat.size ∧ o.toNat + c.p.dat.size ≤ 32 ∧ c.p.dat.size ≤ 32 - o.toNat) := by show _ ∧ _; omega
  have HCUT : Hid (cutP byt c.p = (byt.drop o.toNat).take (hi.toNat - o.toNat)) := by show _ = _; rw [show hi.toNat - o.toNat = c.p.dat.size by omega, ho]; rfl
  have HCL : Hid ((cutP byt c.p).length = c.p.dat.size) := cutP_length hb hR
  have HR1 : Hid (c.row[1]? = some (.int .i64 o)) := by show _ = _; rw [ho]; rfl
  have HAPP : Hid (app byt c.p = over byt o.toNat c.p.dat.data.toList) := by show _ = _; rw [ho]; rfl
  clear hb hR p1 p2 p3 p4 p5 p6 ho hhi
  go_enter Try.func62, Try.ntmps62
  go_wp2
  have l4 := l3.out
  refine wp_region_mix (Cls w (pts p (.cells (srow byt v next) 104) :: pts c.a (.cells c.row 107) :: L)) (Cls w (pts p (.cells (srow byt v next) 104) :: pts c.a (.cells c.row 107) :: L)) 12 34 [0] mixed (by kernel_rfl) rfl (cls_drew hO) (fun w h => ⟨id h.1, h.2⟩) (fun _ _ _ _ hd h => ⟨hd ▸ h.1, h.2⟩) ?_
  simp only [List.append_eq, List.cons_append, List.nil_append, List.take_succ_cons, List.take_zero]
  repeat (first
    | (refine wm_run rfl rfl (by intro w h; go_simp; first | done | rfl) ?_; simp only [Act.put, List.setIfInBounds_toArray, List.set_cons_zero, List.set_cons_succ])
    | (refine wm_val rfl ?_; (first
      | (apply wv_skip rfl; simp only [Act.put, List.setIfInBounds_toArray, List.set_cons_zero, List.set_cons_succ])
      | (refine wv_load1 (b := c.a) (cs := c.row) (t := 107) (v := .int .i64 o) rfl rfl rfl row_int (fun w h => own_get 1 h.1 rfl) HR1.out ?_; simp only [Act.put, List.setIfInBounds_toArray, List.set_cons_zero, List.set_cons_succ])
      | (apply wv_load1 rfl rfl rfl; (first | exact row_int | exact row_str | exact row_bool | exact row_u8 | exact row_bys | exact row_pats | exact row_err); (intro w h; (first | exact own_get 0 h.1 rfl | exact own_get 1 h.1 rfl | exact own_get 2 h.1 rfl | exact own_get 3 h.1 rfl | exact own_get 4 h.1 rfl | exact own_get 5 h.1 rfl | exact own_get 6 h.1 rfl | exact own_get 7 h.1 rfl)); (first | (simp only [List.getElem?_toArray, List.getElem?_cons_succ, List.getElem?_cons_zero]; rfl) | rfl); simp only [Act.put, List.setIfInBounds_toArray, List.set_cons_zero, List.set_cons_succ])
      | (apply wv_loadrow rfl rfl rfl; (first | exact row_pat); exact sz_pat; (intro w h; (first | exact own_get 0 h.1 rfl | exact own_get 1 h.1 rfl | exact own_get 2 h.1 rfl | exact own_get 3 h.1 rfl | exact own_get 4 h.1 rfl | exact own_get 5 h.1 rfl | exact own_get 6 h.1 rfl | exact own_get 7 h.1 rfl)); (focus (simp; done)); (first | (simp only [List.drop_zero, List.drop_succ_cons, List.take_succ_cons, List.take_zero]; rfl) | rfl); simp only [Act.put, List.setIfInBounds_toArray, List.set_cons_zero, List.set_cons_succ])
      | (apply wv_run rfl; (focus (intro w h; go_simp; first | done | rfl)); simp only [Act.put, List.setIfInBounds_toArray, List.set_cons_zero, List.set_cons_succ])
      | (apply wv_call rfl; (focus (intro w; go_simp; first | done | exact ⟨rfl, rfl⟩)); (focus (intro w h; apply cls_call h; exact cend_h _ _ c hi HHI.out h.1 (fun w' h' => own_get 1 h' rfl) HR.out)); simp only [Act.put, List.setIfInBounds_toArray, List.set_cons_zero, List.set_cons_succ])); refine wv_nil ?_))
  refine wm_nil ?_
  simp only [List.drop_succ_cons, List.drop_zero]
  intro w5 ⟨hO5, hS5⟩
  clear l4
  clear hO
  apply wk_call ⟨hO5, hS5⟩ rfl
  focus (go_simp; first | done | exact ⟨rfl, rfl⟩)
  refine (clone_n _ _ ⟨p, o.toNat, none⟩ _ _ (cutP byt c.p) hO5 (by rw [HCL.out, HN.out.1]) (fun w' h' => by
    rw [HCUT.out]
    exact srow_cut (own_get 0 h' rfl) HB.out (by have := HN.out; omega) (by have := HN.out; omega) (by omega)) (by have := HN.out; rw [HCL.out]; omega)).mono ?_
  rintro e w6 ⟨u, rfl, hO6, hS6⟩
  obtain ⟨A2, c2, rfl⟩ := (owns_rd hO6).slice
  refine ⟨_, rfl, ?_⟩
  simp only [Act.put, List.setIfInBounds_toArray, List.set_cons_zero, List.set_cons_succ]
  refine wk_run ⟨own_drop hO6, hS5.trans hS6⟩ rfl (by go_simp; first | done | rfl) ?_
  simp only [Act.put, List.setIfInBounds_toArray, List.set_cons_zero, List.set_cons_succ]
  refine wk_run ⟨own_drop hO6, hS5.trans hS6⟩ rfl (by go_simp; first | done | rfl) ?_
  simp only [Act.put, List.setIfInBounds_toArray, List.set_cons_zero, List.set_cons_succ]
  refine wk_last ⟨own_drop hO6, hS5.trans hS6⟩ ?_
  refine own_store1 (k := 2) (b := c.a) (off := 4) (cs := c.row) (cs' := (c.laid (.slice A2 (cutP byt c.p).length c2) byt).row) rfl rfl rfl rfl sz_bys hO6 rfl rfl (by simp [Cl.row]) rfl ?_
  intro w7 hO7 hS7
  simp only [List.set_cons_zero, List.set_cons_succ] at hO7
  have hO : Own w7 (pts p (.cells (srow byt v next) 104) :: pts c.a (.cells (c.laid (.slice A2 (cutP byt c.p).length c2) byt).row 107) :: owns 5 1 (.slice A2 (cutP byt c.p).length c2) (cutP byt c.p).length (bcs (cutP byt c.p)) :: L) := own_perm hO7 ((List.Perm.swap _ _ _).trans ((List.Perm.swap _ _ _).cons _))
  clear hO5 hO6 hO7
  have HR2 : Hid ((c.laid (.slice A2 (cutP byt c.p).length c2) byt).row[1]? = some (.int .i64 o)) := HR1.out
  clear HR1
  go_wp2
  have l4 := l3.out
  refine wp_region_seq (Cls w7 (pts p (.cells (srow byt v next) 104) :: pts c.a (.cells (c.laid (.slice A2 (cutP byt c.p).length c2) byt).row 107) :: owns 5 1 (.slice A2 (cutP byt c.p).length c2) (cutP byt c.p).length (bcs (cutP byt c.p)) :: L)) 14 34 mixed (by kernel_rfl) rfl (cls_drew hO) ?_
  simp only [List.append_eq, List.cons_append, List.nil_append, List.take_succ_cons, List.take_zero]
  repeat (first
    | (apply wv_skip rfl; simp only [Act.put, List.setIfInBounds_toArray, List.set_cons_zero, List.set_cons_succ])
    | (refine wv_load1 (b := c.a) (cs := (c.laid (.slice A2 (cutP byt c.p).length c2) byt).row) (t := 107) (v := .int .i64 o) rfl rfl rfl row_int (fun w h => own_get 1 h.1 rfl) HR2.out ?_; simp only [Act.put, List.setIfInBounds_toArray, List.set_cons_zero, List.set_cons_succ])
    | (refine wv_load1 (b := c.a) (cs := (c.laid (.slice A2 (cutP byt c.p).length c2) byt).row) (t := 107) (v := .string c.p.dat) rfl rfl rfl row_str (fun w h => own_get 1 h.1 rfl) rfl ?_; simp only [Act.put, List.setIfInBounds_toArray, List.set_cons_zero, List.set_cons_succ])
    | (apply wv_load1 rfl rfl rfl; (first | exact row_int | exact row_str | exact row_bool | exact row_u8 | exact row_bys | exact row_pats | exact row_err); (intro w h; (first | exact own_get 0 h.1 rfl | exact own_get 1 h.1 rfl | exact own_get 2 h.1 rfl | exact own_get 3 h.1 rfl | exact own_get 4 h.1 rfl | exact own_get 5 h.1 rfl | exact own_get 6 h.1 rfl | exact own_get 7 h.1 rfl)); (first | (simp only [List.getElem?_toArray, List.getElem?_cons_succ, List.getElem?_cons_zero]; rfl) | rfl); simp only [Act.put, List.setIfInBounds_toArray, List.set_cons_zero, List.set_cons_succ])
    | (apply wv_loadrow rfl rfl rfl; (first | exact row_pat); exact sz_pat; (intro w h; (first | exact own_get 0 h.1 rfl | exact own_get 1 h.1 rfl | exact own_get 2 h.1 rfl | exact own_get 3 h.1 rfl | exact own_get 4 h.1 rfl | exact own_get 5 h.1 rfl | exact own_get 6 h.1 rfl | exact own_get 7 h.1 rfl)); (focus (simp; done)); (first | (simp only [List.drop_zero, List.drop_succ_cons, List.take_succ_cons, List.take_zero]; rfl) | rfl); simp only [Act.put, List.setIfInBounds_toArray, List.set_cons_zero, List.set_cons_succ])
    | (apply wv_run rfl; (focus (intro w h; go_simp; first | done | rfl)); simp only [Act.put, List.setIfInBounds_toArray, List.set_cons_zero, List.set_cons_succ])
    | (apply wv_call rfl; (focus (intro w; go_simp; first | done | exact ⟨rfl, rfl⟩)); (focus (intro w h; apply cls_call h; fail)); simp only [Act.put, List.setIfInBounds_toArray, List.set_cons_zero, List.set_cons_succ]))
  refine wv_nil ?_
  simp only [List.drop_succ_cons, List.drop_zero]
  intro w8 ⟨hO8, hS8⟩
  clear l4 hO
  refine own_copy_str (new := (srow (over byt o.toNat c.p.dat.data.toList) v next).toList) (k := 0) (g := p) (off := o.toNat) (cur := srow byt v next) (t := 104) rfl rfl rfl rfl Try.underlying22 sz_u8 hO8 rfl HN.out.2.2 ?_ (srow_str HB.out HN.out.2.1) ?_
  · rw [srow_size _ _ _ HB.out]; have := HN.out; omega
  intro w9 hO hS9
  clear hO8
  simp only [List.set_cons_zero, Array.toArray_toList] at hO
  go_wp2
  refine bodyPost_ret (results_none rfl _ _ _) rfl ⟨.slice A2 (cutP byt c.p).length c2, rfl, ?_, hS5.trans (hS6.trans (hS7.trans (hS8.trans hS9)))⟩
  rw [HAPP.out]
  exact hO
end Go.Proofs.Ytonohjhmnlfakaa.H
set_option linter.unusedVariables false
set_option linter.unusedSimpArgs false
set_option maxRecDepth 100000
namespace Go.Proofs.Ytonohjhmnlfakaa.H
open Go.RowKit
theorem rd_from {w : World} {A A' : Option Addr} {n c m : Nat} {xs : List Value} (h : Rd w 1 (.slice A n c) n xs) (hm : m ≤ n) (hA : (if c = m then A else A.map (·.add m)) = A') : Rd w 1 (.slice A' (n - m) (c - m)) (n - m) (xs.drop m) := by
  have hx := h.max
  by_cases e : c = m
  · rw [if_pos e] at hA
    subst hA
    have hl := h.out.1
    have : xs.drop m = [] := List.drop_eq_nil_of_le (by omega)
    rw [this, show n - m = 0 by omega]
    exact ⟨by simp, A, _, rfl, Nat.zero_le _, by omega, fun j u hu => by simp at hu⟩
  · rw [if_neg e] at hA
    subst hA
    have h2 := h.cut (lo := m) (k := n - m) (c' := c - m) (by omega) (by omega) (by omega)
    rw [Nat.mul_one, Nat.mul_one] at h2
    have hl := h.out.1
    rw [List.take_of_length_le (by rw [List.length_drop]; omega)] at h2
    exact h2
section
variable {P : Program} {ops : Array Oper} {C : World → Prop} {K : Act → Prop}
theorem run_slice_from {w : World} {T e : TypeId} {A A' : Option Addr} {n c m : Nat} (ht : P.underlying T = some (.slice e)) (hs : (P.info? e).map (·.size) = some 1) (hm : m ≤ n) (hc : n ≤ c) (hA : (if c = m then A else A.map (·.add m)) = A') :
    (Instr.slice T (.slice A n c) (some (.int .i64 m)) none none).run P w = .ok (.slice A' (n - m) (c - m)) w := by
  obtain ⟨i, hi, hz⟩ := Option.map_eq_some_iff.1 hs
  subst hA
  have h0 : (0 : Int) ≤ m := by omega
  have h1 : (m : Int) ≤ n := by omega
  have h2 : (n : Int) ≤ c := by omega
  simp [Instr.slice, run_underlying ht, Instr.sliceBounds, run_sliceBound, sizeOf, typeInfo, hi, hz, h0, h1, h2]
theorem wv_slice_from {o : Oper} {ol : List Oper} {a : Act} {T e : TypeId} {x lo : Operand} {A A' : Option Addr} {n c m : Nat} (hw : Region.wanted o (yielded ops a.tmps) = true) (ho : o.op = .slice T x (some lo) none none) (hx : a.eval x = .slice A n c) (hlo : a.eval lo = .int .i64 m)
    (ht : P.underlying T = some (.slice e)) (hs : (P.info? e).map (·.size) = some 1) (hm : m ≤ n) (hc : n ≤ c) (hA : (if c = m then A else A.map (·.add m)) = A') (h : wpVals P ops C K ol (a.put o.dst (.slice A' (n - m) (c - m)))) : wpVals P ops C K (o :: ol) a := by
  refine wv_run hw (fun w hC => ?_) h
  have hr := run_slice_from (P := P) (w := w) ht hs hm hc hA
  simp only [execOp, ho, hx, hlo]
  simp [run_sliceAt_slice, hlo, hr, Instr.sliceAt, run_underlying ht]
end
/-- All but one cell. -/
def restL (v : Value) (n : Nat) (ps : List Value) (cs : List Cl) (j : Nat) (L : List HP) : List HP :=
  owns 105 1 v n ps :: (cellL (cs.take j) ++ (cellL (cs.drop (j + 1)) ++ (undL (cs.take j) ++ (undL (cs.drop (j + 1)) ++ L))))
theorem split_at {cs : List Cl} {j : Nat} {c : Cl} (hc : cs[j]? = some c) : cs = cs.take j ++ c :: cs.drop (j + 1) := by
  obtain ⟨h1, h2⟩ := List.getElem?_eq_some_iff.1 hc
  rw [← h2, ← List.drop_eq_getElem_cons h1, List.take_append_drop]
theorem perm_out {A B x u : HP} {X Y U V L : List HP} : (A :: B :: ((X ++ x :: Y) ++ (U ++ u :: V)) ++ L).Perm (A :: x :: u :: B :: (X ++ (Y ++ (U ++ (V ++ L))))) := by
  simp only [List.cons_append, List.append_assoc]
  refine List.Perm.cons _ ?_
  have h1 : (X ++ x :: (Y ++ (U ++ u :: (V ++ L)))).Perm (x :: u :: (X ++ (Y ++ (U ++ (V ++ L))))) := by
    refine List.perm_middle.trans (List.Perm.cons _ ?_)
    rw [← List.append_assoc, ← List.append_assoc]
    refine List.perm_middle.trans ?_
    simp only [List.append_assoc]
    exact List.Perm.refl _
  refine (h1.cons B).trans ?_
  exact (List.Perm.swap _ _ _).trans ((List.Perm.swap _ _ _).cons _)
theorem cell_out {w : World} {L : List HP} {p : Nat} {v : Value} {cs : List Cl} {byt : List UInt8} {next j : Nat} {c : Cl} (hc : cs[j]? = some c) (h : Own w (stkL p v cs byt next ++ L)) :
    Own w (pts p (.cells (srow byt v next) 104) :: pts c.a (.cells c.row 107) :: owns 5 1 c.u c.und.length (bcs c.und) :: restL v cs.length (cs.map Cl.ptr) cs j L) := by
  have e1 : cellL cs = cellL (cs.take j) ++ pts c.a (.cells c.row 107) :: cellL (cs.drop (j + 1)) := by
    conv => lhs; rw [split_at hc]
    simp [cellL]
  have e2 : undL cs = undL (cs.take j) ++ owns 5 1 c.u c.und.length (bcs c.und) :: undL (cs.drop (j + 1)) := by
    conv => lhs; rw [split_at hc]
    simp [undL]
  unfold stkL at h
  rw [e1, e2] at h
  exact own_perm h perm_out
theorem cell_in {w : World} {L : List HP} {p : Nat} {v : Value} {cs : List Cl} {byt : List UInt8} {next j : Nat} {c c' : Cl} (hc : cs[j]? = some c) (ha : c'.a = c.a)
    (h : Own w (pts p (.cells (srow byt v next) 104) :: pts c'.a (.cells c'.row 107) :: owns 5 1 c'.u c'.und.length (bcs c'.und) :: restL v cs.length (cs.map Cl.ptr) cs j L)) :
    Own w (stkL p v (cs.set j c') byt next ++ L) := by
  obtain ⟨h1, h2⟩ := List.getElem?_eq_some_iff.1 hc
  have e0 : cs.set j c' = cs.take j ++ c' :: cs.drop (j + 1) := by rw [List.set_eq_take_append_cons_drop, if_pos h1]
  have e1 : cellL (cs.set j c') = cellL (cs.take j) ++ pts c'.a (.cells c'.row 107) :: cellL (cs.drop (j + 1)) := by
    rw [e0]; simp [cellL]
  have e2 : undL (cs.set j c') = undL (cs.take j) ++ owns 5 1 c'.u c'.und.length (bcs c'.und) :: undL (cs.drop (j + 1)) := by
    rw [e0]; simp [undL]
  have e3 : (cs.set j c').map Cl.ptr = cs.map Cl.ptr := by
    apply List.ext_getElem?
    intro i
    rw [List.getElem?_map, List.getElem?_map, List.getElem?_set]
    by_cases hij : j = i
    · subst hij
      simp [h1, hc, Cl.ptr, ha, ← h2]
    · simp [hij]
  unfold stkL
  rw [e1, e2, e3, List.length_set]
  exact own_perm h perm_out.symm
/-- Cells as they were, but what stands under them. -/
structure Relaid (byt : List UInt8) (m k : Nat) (cs cs' : List Cl) : Prop where
  a : cs'.map Cl.a = cs.map Cl.a
  on : cs'.map Cl.on = cs.map Cl.on
  low : cs'.take m = cs.take m
  und : ((cs'.drop m).take k).map Cl.und = unders byt (((cs.drop m).take k).map Cl.p)
  high : cs'.drop (m + k) = cs.drop (m + k)
theorem Relaid.ptr {byt : List UInt8} {m k : Nat} {cs cs' : List Cl} (h : Relaid byt m k cs cs') : cs'.map Cl.ptr = cs.map Cl.ptr := by
  have e : Cl.ptr = (fun a => Value.pointer (some ⟨a, 0, none⟩)) ∘ Cl.a := rfl
  rw [e, ← List.map_map, ← List.map_map, h.a]
theorem Relaid.length {byt : List UInt8} {m k : Nat} {cs cs' : List Cl} (h : Relaid byt m k cs cs') : cs'.length = cs.length := by
  have := congrArg List.length h.a
  simpa using this
theorem Relaid.at_ {byt : List UInt8} {m k : Nat} {cs cs' : List Cl} (h : Relaid byt m k cs cs') {c : Cl} (hc : cs[m + k]? = some c) : cs'[m + k]? = some c := by
  have := congrArg (fun l => l[0]?) h.high
  simpa [hc] using this
theorem Relaid.next {byt : List UInt8} {m k : Nat} {cs cs' : List Cl} (h : Relaid byt m k cs cs') {c : Cl} (hc : cs[m + k]? = some c) (u : Value) :
    Relaid byt m (k + 1) cs (cs'.set (m + k) (c.laid u (appAll byt (((cs.drop m).take k).map Cl.p)))) := by
  have hl := (List.getElem?_eq_some_iff.1 hc).1
  have hl' : m + k < cs'.length := by rw [h.length]; exact hl
  have hc' := h.at_ hc
  obtain ⟨_, hce⟩ := List.getElem?_eq_some_iff.1 hc'
  have hset : ∀ {β : Type} (f : Cl → β) (d : Cl), f d = f c → (cs'.set (m + k) d).map f = cs'.map f := fun f d hf => by
    apply List.ext_getElem?
    intro i
    rw [List.getElem?_map, List.getElem?_map, List.getElem?_set]
    by_cases hij : m + k = i
    · subst hij
      simp [hl', hf, hce]
    · simp [hij]
  have hd : cs.drop m = (cs.drop m).take k ++ c :: cs.drop (m + k + 1) := by
    have h1 := split_at (cs := cs.drop m) (j := k) (c := c) (by rw [List.getElem?_drop]; exact hc)
    rw [List.drop_drop, show m + (k + 1) = m + k + 1 by omega] at h1
    exact h1
  have hlen : ((cs.drop m).take k).length = k := by rw [List.length_take, List.length_drop]; omega
  have hlen' : ((cs'.drop m).take k).length = k := by rw [List.length_take, List.length_drop]; omega
  refine ⟨(hset Cl.a (c.laid u _) rfl).trans h.a, (hset Cl.on (c.laid u _) rfl).trans h.on, by rw [List.take_set_of_le (by omega), h.low], ?_, by rw [show m + (k + 1) = m + k + 1 by omega, List.drop_set_of_lt (by omega), ← List.drop_drop, h.high, List.drop_drop]⟩
  have e1 : (cs.drop m).take (k + 1) = (cs.drop m).take k ++ [c] := by
    rw [List.take_succ_eq_append_getElem (by rw [List.length_drop]; omega)]
    congr 2
    have : (cs.drop m)[k]? = some c := by rw [List.getElem?_drop]; exact hc
    simpa [List.getElem?_eq_getElem (show k < (cs.drop m).length by rw [List.length_drop]; omega)] using this
  have e2 : ((cs'.set (m + k) (c.laid u (appAll byt (((cs.drop m).take k).map Cl.p)))).drop m).take (k + 1) = (cs'.drop m).take k ++ [c.laid u (appAll byt (((cs.drop m).take k).map Cl.p))] := by
    rw [List.drop_set, if_neg (by omega), show m + k - m = k by omega, List.take_set, List.take_succ_eq_append_getElem (by rw [List.length_drop]; omega), List.set_append_right _ _ (by omega), hlen', Nat.sub_self]
    rfl
  rw [e1, e2, List.map_append, List.map_append, h.und, unders_append]
  rfl
theorem row_sptr : isRowB Try.prog 52 = some false := by kernel_rfl
theorem sz_ptr : (Try.prog.info? 105).map (·.size) = some 1 := by kernel_rfl
theorem appAll_length' {byt : List UInt8} (hb : byt.length = 32) {cs : List Cl} (hr : ∀ c ∈ cs, rightB c.p = true) : (appAll byt (cs.map Cl.p)).length = 32 :=
  appAll_length _ _ hb (fun p hp => by
    obtain ⟨c, hc, rfl⟩ := List.mem_map.1 hp
    exact hr c hc)
theorem own_drop3 {w : World} {A B C D : HP} {L : List HP} (h : Own w (A :: B :: C :: D :: L)) : Own w (A :: B :: C :: L) :=
  own_drop (own_perm h (((List.Perm.swap _ _ _).cons _ |>.cons _).trans (((List.Perm.swap _ _ _).cons _).trans (List.Perm.swap _ _ _))))
theorem lay_at (w : World) (L : List HP) (p : Nat) (v : Value) (cs : List Cl) (byt : List UInt8) (next j : Nat) (c : Cl) (hc : cs[j]? = some c) (hO : Own w (stkL p v cs byt next ++ L)) (hR : rightB c.p = true) (hb : byt.length = 32) :
    Calls Try.prog 62 #[.pointer (some ⟨p, 0, none⟩), .pointer (some ⟨c.a, 0, none⟩)] w
      (RetX w (fun _ => .tuple #[]) (fun u => stkL p v (cs.set j (c.laid u byt)) (app byt c.p) next ++ L)) := by
  refine (lay_c w _ p v byt next c (cell_out hc hO) hR hb).mono ?_
  rintro e w' ⟨u, rfl, hO', hS⟩
  exact ⟨u, rfl, cell_in (c' := c.laid u byt) hc rfl (own_drop3 hO'), hS⟩
theorem own_two_back {w : World} {A B : HP} {S L : List HP} : Own w (A :: B :: (S ++ L)) ↔ Own w (S ++ (A :: B :: L)) :=
  ⟨fun h => own_perm h (List.perm_append_comm_assoc [A, B] S L), fun h => own_perm h (List.perm_append_comm_assoc [A, B] S L).symm⟩
set_option maxHeartbeats 1600000 in
theorem relay_w (w : World) (L : List HP) (p bs bi : Nat) (i : Int) (m : Nat) (v : Value) (cs : List Cl) (byt : List UInt8) (next : Nat) (hO : Own w (pts bs (.cells #[.pointer (some ⟨p, 0, none⟩)] 52) :: pts bi (.cells #[.int .i64 i] 3) :: (stkL p v cs byt next ++ L))) (hm : m ≤ cs.length) (hlen : cs.length ≤ 200) (hmin : (if (cs.length : Int) < i then (cs.length : Int) else i) = (m : Int)) (hb : byt.length = 32) (hr : ∀ c ∈ cs, rightB c.p = true) :
    CallsD Try.prog 91 #[.pointer (some ⟨bs, 0, none⟩), .pointer (some ⟨bi, 0, none⟩)] .returning w
      (fun e u' w' => u' = .returning ∧ RetX w (fun _ => .tuple #[]) (fun cs' => pur (Relaid byt m (cs.length - m) cs cs') :: pts bs (.cells #[.pointer (some ⟨p, 0, none⟩)] 52) :: pts bi (.cells #[.int .i64 i] 3) :: (stkL p v cs' (appAll byt ((cs.drop m).map Cl.p)) next ++ L)) e w') := by
  obtain ⟨A, cap, rfl⟩ := (stkAt_of (own_drop (own_drop hO))).rd.slice
  have hmx := (stkAt_of (own_drop (own_drop hO))).rd.max
  obtain ⟨A', hA'⟩ : ∃ A', (if cap = m then A else A.map (·.add m)) = A' := ⟨_, rfl⟩
  have HA := Lib.hid hA'
  have HB : Hid (byt.length = 32) := hb
  have HR := Lib.hid hr
  have HM : Hid (m ≤ cs.length ∧ cs.length ≤ cap ∧ cap ≤ 9223372036854775807) := ⟨hm, hmx.1, hmx.2⟩
  clear hA' hb hr
  go_enter_d Try.func91, Try.ntmps91
  go_wp2
  refine wp_region_seq (Cls w (pts bs (.cells #[.pointer (some ⟨p, 0, none⟩)] 52) :: pts bi (.cells #[.int .i64 i] 3) :: (stkL p (.slice A cs.length cap) cs byt next ++ L))) 14 25 mixed (by kernel_rfl) rfl (cls_drew hO) ?_
  simp only [List.append_eq, List.cons_append, List.nil_append, List.take_succ_cons, List.take_zero]
  repeat (first
    | (apply wv_skip rfl; simp only [Act.put, List.setIfInBounds_toArray, List.set_cons_zero, List.set_cons_succ])
    | (refine wv_load1 (b := bs) (cs := #[.pointer (some ⟨p, 0, none⟩)]) (t := 52) (v := .pointer (some ⟨p, 0, none⟩)) rfl rfl rfl row_sptr (fun w h => own_get 0 h.1 rfl) rfl ?_; simp only [Act.put, List.setIfInBounds_toArray, List.set_cons_zero, List.set_cons_succ])
    | (refine wv_load1 (b := bi) (cs := #[.int .i64 i]) (t := 3) (v := .int .i64 i) rfl rfl rfl row_int (fun w h => own_get 1 h.1 rfl) rfl ?_; simp only [Act.put, List.setIfInBounds_toArray, List.set_cons_zero, List.set_cons_succ])
    | (refine wv_load1 (b := p) (cs := srow byt (.slice A cs.length cap) next) (t := 104) (off := 32) (v := .slice A cs.length cap) rfl rfl rfl row_cells (fun w h => (stkAt_of (own_drop (own_drop h.1))).blk) (srow_v _ _ _ HB.out) ?_; simp only [Act.put, List.setIfInBounds_toArray, List.set_cons_zero, List.set_cons_succ])
    | (refine wv_slice_from rfl rfl rfl rfl Try.underlying102 sz_ptr HM.out.1 HM.out.2.1 HA.out ?_; simp only [Act.put, List.setIfInBounds_toArray, List.set_cons_zero, List.set_cons_succ])
    | (apply wv_load1 rfl rfl rfl; (first | exact row_int | exact row_str | exact row_bool | exact row_u8 | exact row_bys | exact row_pats | exact row_err); (intro w h; (first | exact own_get 0 h.1 rfl | exact own_get 1 h.1 rfl | exact own_get 2 h.1 rfl | exact own_get 3 h.1 rfl | exact own_get 4 h.1 rfl | exact own_get 5 h.1 rfl | exact own_get 6 h.1 rfl | exact own_get 7 h.1 rfl)); (first | (simp only [List.getElem?_toArray, List.getElem?_cons_succ, List.getElem?_cons_zero]; rfl) | rfl); simp only [Act.put, List.setIfInBounds_toArray, List.set_cons_zero, List.set_cons_succ])
    | (apply wv_loadrow rfl rfl rfl; (first | exact row_pat); exact sz_pat; (intro w h; (first | exact own_get 0 h.1 rfl | exact own_get 1 h.1 rfl | exact own_get 2 h.1 rfl | exact own_get 3 h.1 rfl | exact own_get 4 h.1 rfl | exact own_get 5 h.1 rfl | exact own_get 6 h.1 rfl | exact own_get 7 h.1 rfl)); (focus (simp; done)); (first | (simp only [List.drop_zero, List.drop_succ_cons, List.take_succ_cons, List.take_zero]; rfl) | rfl); simp only [Act.put, List.setIfInBounds_toArray, List.set_cons_zero, List.set_cons_succ])
    | (apply wv_run rfl; (focus (intro w h; go_simp; first | done | rfl)); simp only [Act.put, List.setIfInBounds_toArray, List.set_cons_zero, List.set_cons_succ])
    | (apply wv_call rfl; (focus (intro w; go_simp; first | done | exact ⟨rfl, rfl⟩)); (focus (intro w h; apply cls_call h; fail)); simp only [Act.put, List.setIfInBounds_toArray, List.set_cons_zero, List.set_cons_succ]))
  refine wv_nil ?_
  simp only [List.drop_succ_cons, List.drop_zero]
  intro w5 ⟨hO5, hS5⟩
  clear hO hmx hm
  go_wp2
  go_loopw [17] (fun i' wr => ∃ k : Nat, k ≤ cs.length - m ∧ i' = .int .i64 k ∧ (∃ cs', Relaid byt m k cs cs' ∧ Own wr (pts bs (.cells #[.pointer (some ⟨p, 0, none⟩)] 52) :: pts bi (.cells #[.int .i64 i] 3) :: (stkL p (.slice A cs.length cap) cs' (appAll byt (((cs.drop m).take k).map Cl.p)) next ++ L))) ∧ Same w wr) (fun i' _ => cs.length - m - (intOf i').toNat)
  case atStart => exact ⟨0, Nat.zero_le _, rfl, ⟨cs, ⟨rfl, rfl, rfl, by simp [unders], rfl⟩, by rw [List.take_zero]; exact hO5⟩, hS5⟩
  case round =>
    clear hO5 hS5
    obtain ⟨k, hk, rfl, ⟨cs', hre, hO⟩, hS⟩ := hrel
    have HRE := Lib.hid hre
    clear hre
    by_cases hlt : k < cs.length - m
    · obtain ⟨c, hc⟩ : ∃ c, cs[m + k]? = some c := ⟨_, List.getElem?_eq_getElem (by omega)⟩
      have HC := Lib.hid hc
      have hrd : Rd wr 1 (.slice A' (cs.length - m) (cap - m)) (cs.length - m) ((cs.map Cl.ptr).drop m) := by
        have h1 := (stkAt_of (own_drop (own_drop hO))).rd
        rw [HRE.out.ptr, HRE.out.length] at h1
        exact rd_from h1 HM.out.1 HA.out
      obtain ⟨ad, rfl⟩ := hrd.addr (by rw [List.length_drop, List.length_map]; omega)
      have hcell : wr.cell? (ad.add k) = some (.pointer (some ⟨c.a, 0, none⟩)) := by
        have h1 : wr.cell? ((ad.add (k * 1)).add 0) = some c.ptr := hrd.cell (by rw [Nat.mul_one, Nat.add_zero, List.getElem?_drop, List.getElem?_map, hc]; rfl)
        rwa [addr_add, Nat.mul_one, Nat.add_zero] at h1
      have HRT : Hid (rightB c.p = true) := HR.out c (List.mem_of_getElem? hc)
      have HBL : Hid ((appAll byt (((cs.drop m).take k).map Cl.p)).length = 32) := appAll_length' HB.out (fun c hc => HR.out c (List.mem_of_mem_drop (List.mem_of_mem_take hc)))
      have hm1 : (k : Int) < ((cs.length - m : Nat) : Int) := by omega
      clear hc hrd
      go_wp2_with (first | (refine own_load1 (b := bs) (off := 0) (cs := #[.pointer (some ⟨p, 0, none⟩)]) (t := 52) (v := .pointer (some ⟨p, 0, none⟩)) rfl rfl rfl row_sptr (own_get 0 hO rfl) rfl ?_) | (go_at_call 62; refine (lay_at _ (pts bs (.cells #[.pointer (some ⟨p, 0, none⟩)] 52) :: pts bi (.cells #[.int .i64 i] 3) :: L) p _ cs' _ next (m + k) c (HRE.out.at_ HC.out) (own_two_back.1 hO) HRT.out HBL.out).mono ?_; clear hO hcell; rintro e w6 ⟨u, rfl, hO, hS6⟩))
      go_roundw
      case rel => exact ⟨k + 1, by omega, by go_num, ⟨_, HRE.out.next HC.out u, by
        have h2 := own_two_back.2 hO
        have e : ((cs.drop m).take (k + 1)).map Cl.p = ((cs.drop m).take k).map Cl.p ++ [c.p] := by
          rw [List.take_succ_eq_append_getElem (by rw [List.length_drop]; omega), List.map_append]
          congr 2
          have h5 : (cs.drop m)[k]? = some c := by rw [List.getElem?_drop]; exact HC.out
          have h6 : (cs.drop m)[k]'(by rw [List.length_drop]; omega) = c := by
            simpa [List.getElem?_eq_getElem (show k < (cs.drop m).length by rw [List.length_drop]; omega)] using h5
          rw [h6]; rfl
        rw [e, appAll_snoc]
        exact h2⟩, hS.trans hS6⟩
      case measure => simp [intOf]; omega
    · have hke : k = cs.length - m := by omega
      subst hke
      go_wp2
      refine bodyPost_ret (results_none rfl _ _ _) rfl ⟨cs', rfl, ?_, hS⟩
      rw [own_pur]
      refine ⟨HRE.out, ?_⟩
      rw [List.take_of_length_le (by rw [List.length_drop]; omega)] at hO
      exact hO
end Go.Proofs.Ytonohjhmnlfakaa.H
set_option linter.unusedVariables false
set_option linter.unusedSimpArgs false
set_option maxRecDepth 100000
namespace Go.Proofs.Ytonohjhmnlfakaa.H
open Go.RowKit
theorem own_two_end {w : World} {A B : HP} {S L : List HP} : Own w (A :: B :: (S ++ L)) ↔ Own w (S ++ (L ++ [A, B])) := by
  have h : (A :: B :: (S ++ L)).Perm (S ++ (L ++ [A, B])) := by
    have := List.perm_append_comm (l₁ := [A, B]) (l₂ := S ++ L)
    rw [List.append_assoc] at this
    exact this
  exact ⟨fun x => own_perm x h, fun x => own_perm x h.symm⟩
theorem own_drops {w : World} {L : List HP} : ∀ {S : List HP}, Own w (S ++ L) → Own w L
  | [], h => h
  | _ :: S, h => own_drops (S := S) (own_drop h)
theorem own_third {w : World} {A B X : HP} {R : List HP} : Own w (A :: B :: X :: R) ↔ Own w (X :: A :: B :: R) := by
  have h : (A :: B :: X :: R).Perm (X :: A :: B :: R) := ((List.Perm.swap _ _ _).cons _).trans (List.Perm.swap _ _ _)
  exact ⟨fun x => own_perm x h, fun x => own_perm x h.symm⟩
theorem cell_in_rest {w : World} {A B : HP} {L : List HP} {v : Value} {n : Nat} {ps : List Value} {cs : List Cl} {i : Nat} {c : Cl} (hc : cs[i]? = some c) (h : Own w (A :: B :: owns 105 1 v n ps :: ((cellL cs ++ undL cs) ++ L))) :
    w.heap[c.a]? = some (.cells c.row 107) ∧ RdB w c.u c.und := by
  constructor
  · obtain ⟨L', h'⟩ := own_mem h (A := pts c.a (.cells c.row 107)) (by
      simp only [List.mem_cons, List.mem_append]
      exact .inr (.inr (.inr (.inl (.inl (List.mem_map.2 ⟨c, List.mem_of_getElem? hc, rfl⟩))))))
    exact own_pts h'
  · obtain ⟨L', h'⟩ := own_mem h (A := owns 5 1 c.u c.und.length (bcs c.und)) (by
      simp only [List.mem_cons, List.mem_append]
      exact .inr (.inr (.inr (.inl (.inr (List.mem_map.2 ⟨c, List.mem_of_getElem? hc, rfl⟩))))))
    exact owns_rd h'
/-- The cells stand one above the other. -/
structure Piled (b : List UInt8) (cs : List Cl) : Prop where
  base : b.length = 32
  und : cs.map Cl.und = unders b (cs.map Cl.p)
  right : ∀ c ∈ cs, rightB c.p = true
  len : cs.length ≤ 200
theorem Piled.low {b : List UInt8} {cs : List Cl} (h : Piled b cs) (k : Nat) : (appAll b ((cs.take k).map Cl.p)).length = 32 :=
  appAll_length' h.base (fun c hc => h.right c (List.mem_of_mem_take hc))
theorem Piled.step {b : List UInt8} {cs : List Cl} (h : Piled b cs) {k : Nat} {c : Cl} (hc : cs[k]? = some c) :
    c.und.length = c.p.dat.size ∧ over (appAll b ((cs.take (k + 1)).map Cl.p)) c.p.off.toNat c.und = appAll b ((cs.take k).map Cl.p) := by
  have hR := h.right c (List.mem_of_getElem? hc)
  have hl := h.low k
  have h1 : (cs.map Cl.und)[k]? = some c.und := by rw [List.getElem?_map, hc]; rfl
  rw [h.und, unders_get _ _ _ c.p (by rw [List.getElem?_map, hc]; rfl), ← List.map_take] at h1
  have hu : c.und = cutP (appAll b ((cs.take k).map Cl.p)) c.p := (Option.some.inj h1).symm
  obtain ⟨g1, g2⟩ := List.getElem?_eq_some_iff.1 hc
  refine ⟨by rw [hu]; exact cutP_length hl hR, ?_⟩
  rw [List.take_succ_eq_append_getElem g1, List.map_append, g2]
  show over (appAll b ((cs.take k).map Cl.p ++ [c.p])) _ _ = _
  rw [appAll_snoc, hu]
  exact lift_lay hl hR
set_option maxHeartbeats 1600000 in
theorem bare_c {α : Type} (V : α → Value) (CS : α → List Cl) (BY : α → List UInt8) (LL : α → List HP) (w : World) (L : List HP) (p i : Nat) (v : Value) (cs : List Cl) (b : List UInt8) (next : Nat) (f : FuncId) (caps : Array Value)
    (hO : Own w (stkL p v cs (appAll b (cs.map Cl.p)) next ++ L)) (hi : i ≤ cs.length) (hP : Piled b cs)
    (hdo : ∀ w' F, Own w' (stkL p v cs (appAll b ((cs.take i).map Cl.p)) next ++ (L ++ F)) → Calls Try.prog f caps w' (RetX w' (fun _ => .tuple #[]) (fun x => stkL p (V x) (CS x) (BY x) next ++ (LL x ++ F))))
    (hcf : ∀ w, (callFunc f caps).run Try.prog w = .ok (.enter f caps) w)
    (hok : ∀ x w' F, Own w' (LL x ++ F) → (BY x).length = 32 ∧ (∀ c ∈ CS x, rightB c.p = true) ∧ (CS x).length ≤ 200) :
    Calls Try.prog 66 #[.pointer (some ⟨p, 0, none⟩), .int .i64 i, .func (.func f) #[] caps] w
      (RetX w (fun _ => .tuple #[]) (fun y : α × List Cl => pur (Relaid (BY y.1) (min i (CS y.1).length) ((CS y.1).length - min i (CS y.1).length) (CS y.1) y.2) :: (stkL p (V y.1) y.2 (appAll (BY y.1) (((CS y.1).drop (min i (CS y.1).length)).map Cl.p)) next ++ LL y.1))) := by
  obtain ⟨A, cap, rfl⟩ := (stkAt_of hO).rd.slice
  have hmx := (stkAt_of hO).rd.max
  have hmf : ∀ (fn : Fn) (first cap : Array Value) (w : World), (Instr.makeFunc fn first cap).run Try.prog w = .ok (.func fn first cap) w := fun _ _ _ _ => rfl
  have HMF := Lib.hid hmf
  have HP := Lib.hid hP
  have HDO := Lib.hid hdo
  have HOK := Lib.hid hok
  have HCF := Lib.hid hcf
  have HB : Hid ((appAll b (cs.map Cl.p)).length = 32) := appAll_length' hP.base hP.right
  have hlen := hP.len
  clear hmf hP hdo hok hcf
  go_enter_defers Try.func66, Try.ntmps66
  go_wp2_with (first | (refine own_box (x := .tmp 0) (cs := #[.pointer (some ⟨p, 0, none⟩)]) rfl rfl rfl rfl hO ?_; clear hO; intro bs w1 hO hS1) | (refine own_box (x := .tmp 1) (cs := #[.int .i64 i]) rfl rfl rfl rfl hO ?_; clear hO; intro bi w2 hO hS2) | (refine own_load1 (b := bs) (off := 0) (cs := #[.pointer (some ⟨p, 0, none⟩)]) (t := 52) (v := .pointer (some ⟨p, 0, none⟩)) rfl rfl rfl row_sptr (own_get 1 hO rfl) rfl ?_) | (refine own_load1 (b := p) (off := 32) (cs := srow _ (.slice A cs.length cap) next) (t := 104) (v := .slice A cs.length cap) rfl rfl rfl row_cells (own_get 2 hO rfl) (srow_v _ _ _ HB.out) ?_))
  go_loopw [6] (fun k' wr => ∃ j : Nat, i ≤ j ∧ j ≤ cs.length ∧ k' = .int .i64 ((j : Int) - 1) ∧ Own wr (pts bi (.cells #[.int .i64 i] 3) :: pts bs (.cells #[.pointer (some ⟨p, 0, none⟩)] 52) :: (stkL p (.slice A cs.length cap) cs (appAll b ((cs.take j).map Cl.p)) next ++ L)) ∧ Same w wr) (fun k' _ => (intOf k' + 1).toNat)
  case atStart => exact ⟨cs.length, hi, Nat.le_refl _, by go_num, by rw [List.take_length]; exact hO, hS1.trans hS2⟩
  case round =>
    clear hO hS1 hS2
    obtain ⟨j, hij, hjl, hk', hO, hS⟩ := hrel
    by_cases hlt : i < j
    · obtain ⟨h, rfl⟩ : ∃ h, j = h + 1 := ⟨j - 1, by omega⟩
      rw [show (((h + 1 : Nat) : Int) - 1) = (h : Int) by omega] at hk'
      subst hk'
      obtain ⟨c, hc⟩ : ∃ c, cs[h]? = some c := ⟨_, List.getElem?_eq_getElem (by omega)⟩
      have HC := Lib.hid hc
      have hcond : (i : Int) ≤ (h : Int) := by omega
      have hcond2 : decide ((h : Int) ≥ (i : Int)) = true := by simp; omega
      have hst := stkAt_of (own_drop (own_drop hO))
      obtain ⟨ad, rfl⟩ := hst.rd.addr (by rw [List.length_map]; omega)
      have HCELL : Hid (∀ w' F, Own w' (stkL p (.slice (some ad) cs.length cap) cs (appAll b ((cs.take (h + 1)).map Cl.p)) next ++ F) → w'.cell? (ad.add h) = some (.pointer (some ⟨c.a, 0, none⟩))) := fun w' F h' => ptr_cell (stkAt_of h').rd HC.out
      have HBH : Hid ((appAll b ((cs.take (h + 1)).map Cl.p)).length = 32) := HP.out.low (h + 1)
      have hm1 : (h : Int) < cs.length := by omega
      have HRT := rightB_iff.1 (HP.out.right c (List.mem_of_getElem? hc))
      have HST := HP.out.step hc
      have HRT' := Lib.hid HRT
      have HST' := Lib.hid HST
      clear hc hst HRT HST
      go_wp2_with (first | (refine own_load1 (b := bs) (off := 0) (cs := #[.pointer (some ⟨p, 0, none⟩)]) (t := 52) (v := .pointer (some ⟨p, 0, none⟩)) rfl rfl rfl row_sptr (own_get 1 hO rfl) rfl ?_) | (refine own_load1 (b := bi) (off := 0) (cs := #[.int .i64 i]) (t := 3) (v := .int .i64 i) rfl rfl rfl row_int (own_get 0 hO rfl) rfl ?_))
      refine wp_region_seq (Cls wr (pts bi (.cells #[.int .i64 i] 3) :: pts bs (.cells #[.pointer (some ⟨p, 0, none⟩)] 52) :: (stkL p (.slice (some ad) cs.length cap) cs (appAll b ((cs.take (h + 1)).map Cl.p)) next ++ L))) 8 30 mixed (by kernel_rfl) rfl (cls_drew hO) ?_
      simp only [List.append_eq, List.cons_append, List.nil_append, List.take_succ_cons, List.take_zero]
      repeat (first
        | (apply wv_skip rfl; simp only [Act.put, List.setIfInBounds_toArray, List.set_cons_zero, List.set_cons_succ])
        | (refine wv_load1 (b := bs) (cs := #[.pointer (some ⟨p, 0, none⟩)]) (t := 52) (v := .pointer (some ⟨p, 0, none⟩)) rfl rfl rfl row_sptr (fun w h => own_get 1 h.1 rfl) rfl ?_; simp only [Act.put, List.setIfInBounds_toArray, List.set_cons_zero, List.set_cons_succ])
        | (refine wv_load1 (b := p) (cs := srow _ (.slice (some ad) cs.length cap) next) (t := 104) (off := 32) (v := .slice (some ad) cs.length cap) rfl rfl rfl row_cells (fun w h => own_get 2 h.1 rfl) (srow_v _ _ _ HBH.out) ?_; simp only [Act.put, List.setIfInBounds_toArray, List.set_cons_zero, List.set_cons_succ])
        | (refine wv_load1_at (ad := ad.add h) rfl rfl rfl row_ptr (fun w h => HCELL.out _ _ (own_drop (own_drop h.1))) ?_; simp only [Act.put, List.setIfInBounds_toArray, List.set_cons_zero, List.set_cons_succ])
        | (apply wv_load1 rfl rfl rfl; (first | exact row_int | exact row_str | exact row_bool | exact row_u8 | exact row_bys | exact row_pats | exact row_err); (intro w h; (first | exact own_get 0 h.1 rfl | exact own_get 1 h.1 rfl | exact own_get 2 h.1 rfl | exact own_get 3 h.1 rfl | exact own_get 4 h.1 rfl | exact own_get 5 h.1 rfl | exact own_get 6 h.1 rfl | exact own_get 7 h.1 rfl)); (first | (simp only [List.getElem?_toArray, List.getElem?_cons_succ, List.getElem?_cons_zero]; rfl) | rfl); simp only [Act.put, List.setIfInBounds_toArray, List.set_cons_zero, List.set_cons_succ])
        | (apply wv_loadrow rfl rfl rfl; (first | exact row_pat); exact sz_pat; (intro w h; (first | exact own_get 0 h.1 rfl | exact own_get 1 h.1 rfl | exact own_get 2 h.1 rfl | exact own_get 3 h.1 rfl | exact own_get 4 h.1 rfl | exact own_get 5 h.1 rfl | exact own_get 6 h.1 rfl | exact own_get 7 h.1 rfl)); (focus (simp; done)); (first | (simp only [List.drop_zero, List.drop_succ_cons, List.take_succ_cons, List.take_zero]; rfl) | rfl); simp only [Act.put, List.setIfInBounds_toArray, List.set_cons_zero, List.set_cons_succ])
        | (apply wv_run rfl; (focus (intro w h; go_simp; first | done | rfl)); simp only [Act.put, List.setIfInBounds_toArray, List.set_cons_zero, List.set_cons_succ])
        | (apply wv_call rfl; (focus (intro w; go_simp; first | done | exact ⟨rfl, rfl⟩)); (focus (intro w h; apply cls_call h; fail)); simp only [Act.put, List.setIfInBounds_toArray, List.set_cons_zero, List.set_cons_succ]))
      refine wv_nil ?_
      simp only [List.drop_succ_cons, List.drop_zero]
      intro w5 ⟨hO5, hS5⟩
      clear hO
      go_wp2_with (go_at_call 90; refine (lift_c _ _ p _ _ next c (own_third.1 hO5) (fun w' h' => (cell_in_rest HC.out h').1) (fun w' h' => (cell_in_rest HC.out h').2) HBH.out HRT'.out.2.2.1 (by rw [HST'.out.1]; exact HRT'.out.2.2.2.2.1) (by rw [HST'.out.1]; have := HRT'.out; omega)).mono ?_; clear hO5; rintro e w6 ⟨rfl, hO, hS6⟩; rw [HST'.out.2] at hO; have hO := own_third.2 hO)
      go_roundw
      case rel => exact ⟨h, by omega, by omega, by go_num, hO, hS.trans (hS5.trans hS6)⟩
      case measure => simp [intOf]
    · have hje : i = j := by omega
      subst hje
      subst hk'
      have hcond2 : decide (((i : Int) - 1) ≥ (i : Int)) = false := by simp; omega
      have hcfw := HCF.out wr
      go_wp2_with (first | (refine own_load1 (b := bs) (off := 0) (cs := #[.pointer (some ⟨p, 0, none⟩)]) (t := 52) (v := .pointer (some ⟨p, 0, none⟩)) rfl rfl rfl row_sptr (own_get 1 hO rfl) rfl ?_) | (refine own_load1 (b := bi) (off := 0) (cs := #[.int .i64 i]) (t := 3) (v := .int .i64 i) rfl rfl rfl row_int (own_get 0 hO rfl) rfl ?_) | ((refine (HDO.out wr [pts bi (.cells #[.int .i64 i] 3), pts bs (.cells #[.pointer (some ⟨p, 0, none⟩)] 52)] (own_two_end.1 hO)).mono ?_); clear hO hcfw; rintro e w6 ⟨x, rfl, hO, hS6⟩))
      have hO := own_two_end.2 hO
      have hx := HOK.out x w6 _ (own_drops (own_two_end.1 hO))
      refine leaves_cons (f := 91) (args := #[.pointer (some ⟨bs, 0, none⟩), .pointer (some ⟨bi, 0, none⟩)]) (by simp) (by simp [go_sem]) ?_
      refine (relay_w w6 (LL x) p bs bi i (min i (CS x).length) (V x) (CS x) (BY x) next (own_perm hO (List.Perm.swap _ _ _)) (Nat.min_le_right _ _) hx.2.2 ?_ hx.1 hx.2.1).mono ?_
      · rw [Nat.min_def]; split <;> split <;> omega
      rintro e u' w7 ⟨rfl, cs', rfl, hO7, hS7⟩
      rw [own_pur] at hO7
      exact ⟨_, results_none rfl _ _ _, ⟨(x, cs'), rfl, own_pur.2 ⟨hO7.1, own_drop (own_drop hO7.2)⟩, hS.trans (hS6.trans hS7)⟩⟩
end Go.Proofs.Ytonohjhmnlfakaa.H
