/- Contract of Settle. Contracts of Base, New, Push. Contracts of Push and Pop. -/
import Derived.Test.YtonohjhmnlfakaaZ07
set_option linter.unusedVariables false
set_option linter.unusedSimpArgs false
set_option maxRecDepth 100000
namespace Go.Proofs.Ytonohjhmnlfakaa.H
open Go.RowKit
theorem info_ptr : (Try.prog.info? 105).map (fun i => (i.zero, i.size, i.bytes)) = some (some (.pointer none), 1, 8) := by kernel_rfl
theorem sz_cells : (Try.prog.info? 102).map (·.size) = some 1 := by kernel_rfl
theorem ptr_one (a : Nat) : ∀ u ∈ [Value.pointer (some ⟨a, 0, none⟩)], u.oneCell' = true := by
  intro u hu
  simp at hu
  subst hu
  rfl
theorem own_subS {w : World} {L L' : List HP} (h : Own w L) (hs : L'.Sublist L) : Own w L' := by
  obtain ⟨t, ht⟩ := hs.exists_perm_append
  exact own_drops (own_perm h (ht.trans List.perm_append_comm))
theorem own_three {w : World} {A B C : HP} {S R : List HP} : Own w (S ++ (A :: B :: C :: R)) ↔ Own w (A :: B :: C :: (S ++ R)) :=
  ⟨fun h => own_perm h (List.perm_append_comm_assoc S [A, B, C] R), fun h => own_perm h (List.perm_append_comm_assoc S [A, B, C] R).symm⟩
/-- Those that are not among some. -/
def leftC (cs : List Cl) (l : List Int) : List Cl := cs.filter fun c => !l.contains (c.n : Int)
theorem left_yes {cs : List Cl} {l : List Int} {k : Nat} {c : Cl} (hc : cs[k]? = some c) (h : l.contains (c.n : Int) = false) : leftC (cs.take (k + 1)) l = leftC (cs.take k) l ++ [c] := by
  obtain ⟨h1, h2⟩ := List.getElem?_eq_some_iff.1 hc
  unfold leftC
  rw [List.take_succ_eq_append_getElem h1, h2, List.filter_append]
  simp only [List.filter_cons, h, Bool.not_false, if_true, List.filter_nil]
theorem left_no {cs : List Cl} {l : List Int} {k : Nat} {c : Cl} (hc : cs[k]? = some c) (h : l.contains (c.n : Int) = true) : leftC (cs.take (k + 1)) l = leftC (cs.take k) l := by
  obtain ⟨h1, h2⟩ := List.getElem?_eq_some_iff.1 hc
  unfold leftC
  rw [List.take_succ_eq_append_getElem h1, h2, List.filter_append]
  simp only [List.filter_cons, h, Bool.not_true, Bool.false_eq_true, if_false, List.filter_nil, List.append_nil]
theorem srow_setv (byt : List UInt8) (v v' : Value) (next : Nat) (hb : byt.length = 32) : (srow byt v next).setIfInBounds 32 v' = srow byt v' next := by
  apply Array.ext'
  rw [Array.toList_setIfInBounds]
  simp only [srow]
  rw [List.set_append_right _ _ (by rw [bcs_length]; omega), bcs_length, hb]
  rfl
theorem left_len (cs : List Cl) (l : List Int) (k : Nat) (h : cs.length ≤ 200) : ((leftC (cs.take k) l).map Cl.ptr).length ≤ 200 := by
  rw [List.length_map]
  unfold leftC
  have h1 := List.length_filter_le (fun c : Cl => !l.contains (c.n : Int)) (cs.take k)
  rw [List.length_take] at h1
  omega
set_option maxHeartbeats 3200000 in
theorem settle1_c (w : World) (R : List HP) (p bs bin g : Nat) (v : Value) (cs : List Cl) (byt : List UInt8) (next : Nat) (l : List Int) (hO : Own w (stkL p v cs byt next ++ (pts bin (.cells #[.slice (some ⟨g, 0, none⟩) cs.length cs.length] 110) :: pts g (.cells (bls (inOf cs l)).toArray 4) :: pts bs (.cells #[.pointer (some ⟨p, 0, none⟩)] 52) :: R))) (hb : byt.length = 32) (hr : ∀ c ∈ cs, rightB c.p = true) (hlen : cs.length ≤ 200) :
    Calls Try.prog 68 #[.pointer (some ⟨bs, 0, none⟩), .pointer (some ⟨bin, 0, none⟩)] w
      (RetX w (fun _ => .tuple #[]) (fun lv => stkL p lv (leftC cs l) (appAll byt (selP cs l)) next ++ (pts bin (.cells #[.slice (some ⟨g, 0, none⟩) cs.length cs.length] 110) :: pts g (.cells (bls (inOf cs l)).toArray 4) :: pts bs (.cells #[.pointer (some ⟨p, 0, none⟩)] 52) :: R))) := by
  obtain ⟨A, cap, rfl⟩ := (stkAt_of hO).rd.slice
  have hmx := (stkAt_of hO).rd.max
  have HB : Hid (byt.length = 32) := hb
  have HR := Lib.hid hr
  have hO := own_three.1 hO
  clear hb hr
  go_enter Try.func68, Try.ntmps68
  go_wp2_with (first | (refine own_load1 (b := bs) (off := 0) (cs := #[.pointer (some ⟨p, 0, none⟩)]) (t := 52) (v := .pointer (some ⟨p, 0, none⟩)) rfl rfl rfl row_sptr (own_get 2 hO rfl) rfl ?_) | (refine own_load1 (b := p) (off := 32) (cs := srow byt (.slice A cs.length cap) next) (t := 104) (v := .slice A cs.length cap) rfl rfl rfl row_cells (own_get 3 hO rfl) (srow_v _ _ _ HB.out) ?_))
  go_loopw [2, 10] (fun lv i' wr => ∃ k : Nat, k ≤ cs.length ∧ i' = .int .i64 k ∧ Own wr (owns 105 1 lv ((leftC (cs.take k) l).map Cl.ptr).length ((leftC (cs.take k) l).map Cl.ptr) :: pts bin (.cells #[.slice (some ⟨g, 0, none⟩) cs.length cs.length] 110) :: pts g (.cells (bls (inOf cs l)).toArray 4) :: pts bs (.cells #[.pointer (some ⟨p, 0, none⟩)] 52) :: (stkL p (.slice A cs.length cap) cs (appAll byt (selP (cs.take k) l)) next ++ R)) ∧ Same w wr) (fun _ i' _ => cs.length - (intOf i').toNat)
  case atStart => exact ⟨0, Nat.zero_le _, rfl, owns_nil hO, Same.refl _⟩
  case round =>
    clear hO
    obtain ⟨k, hk, rfl, hO, hS⟩ := hrel
    have HLN : Hid ((appAll byt (selP (cs.take k) l)).length = 32) := appAll_length _ _ HB.out (sel_right (fun c hc => HR.out c (List.mem_of_mem_take hc)) l)
    by_cases hlt : k < cs.length
    · obtain ⟨c, hc⟩ : ∃ c, cs[k]? = some c := ⟨_, List.getElem?_eq_getElem hlt⟩
      have HC := Lib.hid hc
      have hst := stkAt_of (own_drop (own_drop (own_drop (own_drop hO))))
      obtain ⟨ad, rfl⟩ := hst.rd.addr (by rw [List.length_map]; omega)
      have hcell := ptr_cell hst.rd hc
      have hk1 : (k : Int) < cs.length := by omega
      obtain ⟨B1, hB1⟩ : ∃ B1, l.contains (c.n : Int) = B1 := ⟨_, rfl⟩
      have HE1 := Lib.hid hB1
      have HB1 : Hid ((bls (inOf cs l)).toArray[k]? = some (.bool B1)) := by
        show _ = _
        rw [← hB1]
        simp only [bls, inOf, List.getElem?_toArray, List.getElem?_map, hc]
        rfl
      have HCR : Hid (∀ w' S, Own w' (stkL p (.slice (some ad) cs.length cap) cs (appAll byt (selP (cs.take k) l)) next ++ S) → w'.heap[c.a]? = some (.cells c.row 107)) := fun w' S h => (stkAt_of h).cell _ _ HC.out
      obtain ⟨p1, p2, p3, p4, p5, p6⟩ := rightB_iff.1 (HR.out c (List.mem_of_getElem? hc))
      obtain ⟨o, ho⟩ : ∃ o, o = c.p.off := ⟨_, rfl⟩
      have l0 : 0 ≤ o := by omega
      have l1 : o ≤ 32 := by omega
      have l3 : Hid (¬ (32 = o.toNat)) := by show ¬ _; omega
      have HR1 : Hid (c.row[1]? = some (.int .i64 o)) := by show _ = _; rw [ho]; rfl
      have HO : Hid (c.p.off.toNat = o.toNat ∧ o.toNat + c.p.dat.size ≤ 32 ∧ c.p.dat.size ≤ 32 - o.toNat) := by show _ ∧ _; rw [← ho]; omega
      have HLE : Hid (((leftC (cs.take k) l).map Cl.ptr).length ≤ 200) := left_len cs l k hlen
      clear hc hst hB1 p1 p2 p3 p4 p5 p6 ho
      cases B1 with
      | false =>
        go_wp2_with (first | (refine own_load1 (b := bin) (off := 0) (cs := #[.slice (some ⟨g, 0, none⟩) cs.length cs.length]) (t := 110) (v := .slice (some ⟨g, 0, none⟩) cs.length cs.length) rfl rfl rfl row_bls (own_get 1 hO rfl) rfl ?_) | (refine own_load1 (b := g) (off := k) (cs := (bls (inOf cs l)).toArray) (t := 4) (v := .bool false) rfl rfl rfl row_b (own_get 2 hO rfl) HB1.out ?_; clear hcell) | (refine own_append (m := 1) (n := ((leftC (cs.take k) l).map Cl.ptr).length) (xs := ((leftC (cs.take k) l).map Cl.ptr)) (news := [.pointer (some ⟨c.a, 0, none⟩)]) rfl rfl rfl rfl Try.underlying102 info_ptr rfl (by decide) (own_perm (own_alloc_new hO (.cells #[.pointer (some ⟨c.a, 0, none⟩)] 105)) (List.Perm.swap _ _ _)) ?_ (ptr_one _) ?_ ?_ ?_; (exact rd_block (own_get 1 (own_perm (own_alloc_new hO (.cells #[.pointer (some ⟨c.a, 0, none⟩)] 105)) (List.Perm.swap _ _ _)) rfl) rfl (by simp) (by simp) (by simp)); (have := HLE.out; unfold maxLen; omega); (have := HLE.out; omega); clear hO; intro v' w9 hO hS9 hv'))
        go_roundw
        case rel => exact ⟨k + 1, by omega, by go_num, by
          rw [sel_no HC.out HE1.out, left_yes HC.out HE1.out, List.map_append, List.length_append]
          exact own_skip hO, hS.trans ((Same.alloc _ _).trans hS9)⟩
        case measure => simp [intOf]; omega
      | true =>
        go_wp2_with (first | (refine own_load1 (b := bin) (off := 0) (cs := #[.slice (some ⟨g, 0, none⟩) cs.length cs.length]) (t := 110) (v := .slice (some ⟨g, 0, none⟩) cs.length cs.length) rfl rfl rfl row_bls (own_get 1 hO rfl) rfl ?_) | (refine own_load1 (b := g) (off := k) (cs := (bls (inOf cs l)).toArray) (t := 4) (v := .bool true) rfl rfl rfl row_b (own_get 2 hO rfl) HB1.out ?_; clear hcell))
        have l4 := l3.out
        refine wp_region_seq (Cls wr (owns 105 1 u2 ((leftC (cs.take k) l).map Cl.ptr).length ((leftC (cs.take k) l).map Cl.ptr) :: pts bin (.cells #[.slice (some ⟨g, 0, none⟩) cs.length cs.length] 110) :: pts g (.cells (bls (inOf cs l)).toArray 4) :: pts bs (.cells #[.pointer (some ⟨p, 0, none⟩)] 52) :: (stkL p (.slice (some ad) cs.length cap) cs (appAll byt (selP (cs.take k) l)) next ++ R))) 14 43 mixed (by kernel_rfl) rfl (cls_drew hO) ?_
        simp only [List.append_eq, List.cons_append, List.nil_append, List.take_succ_cons, List.take_zero]
        repeat (first
          | (apply wv_skip rfl; simp only [Act.put, List.setIfInBounds_toArray, List.set_cons_zero, List.set_cons_succ])
          | (refine wv_load1 (b := bs) (cs := #[.pointer (some ⟨p, 0, none⟩)]) (t := 52) (v := .pointer (some ⟨p, 0, none⟩)) rfl rfl rfl row_sptr (fun w h => own_get 3 h.1 rfl) rfl ?_; simp only [Act.put, List.setIfInBounds_toArray, List.set_cons_zero, List.set_cons_succ])
          | (refine wv_load1 (b := c.a) (cs := c.row) (t := 107) (v := .int .i64 o) rfl rfl rfl row_int (fun w h => HCR.out _ _ (own_drop (own_drop (own_drop (own_drop h.1))))) HR1.out ?_; simp only [Act.put, List.setIfInBounds_toArray, List.set_cons_zero, List.set_cons_succ])
          | (refine wv_load1 (b := c.a) (cs := c.row) (t := 107) (v := .string c.p.dat) rfl rfl rfl row_str (fun w h => HCR.out _ _ (own_drop (own_drop (own_drop (own_drop h.1))))) rfl ?_; simp only [Act.put, List.setIfInBounds_toArray, List.set_cons_zero, List.set_cons_succ])
          | (apply wv_load1 rfl rfl rfl; (first | exact row_int | exact row_str | exact row_bool | exact row_u8 | exact row_bys | exact row_pats | exact row_err); (intro w h; (first | exact own_get 0 h.1 rfl | exact own_get 1 h.1 rfl | exact own_get 2 h.1 rfl | exact own_get 3 h.1 rfl | exact own_get 4 h.1 rfl | exact own_get 5 h.1 rfl | exact own_get 6 h.1 rfl | exact own_get 7 h.1 rfl)); (first | (simp only [List.getElem?_toArray, List.getElem?_cons_succ, List.getElem?_cons_zero]; rfl) | rfl); simp only [Act.put, List.setIfInBounds_toArray, List.set_cons_zero, List.set_cons_succ])
          | (apply wv_loadrow rfl rfl rfl; (first | exact row_pat); exact sz_pat; (intro w h; (first | exact own_get 0 h.1 rfl | exact own_get 1 h.1 rfl | exact own_get 2 h.1 rfl | exact own_get 3 h.1 rfl | exact own_get 4 h.1 rfl | exact own_get 5 h.1 rfl | exact own_get 6 h.1 rfl | exact own_get 7 h.1 rfl)); (focus (simp; done)); (first | (simp only [List.drop_zero, List.drop_succ_cons, List.take_succ_cons, List.take_zero]; rfl) | rfl); simp only [Act.put, List.setIfInBounds_toArray, List.set_cons_zero, List.set_cons_succ])
          | (apply wv_run rfl; (focus (intro w h; go_simp; first | done | rfl)); simp only [Act.put, List.setIfInBounds_toArray, List.set_cons_zero, List.set_cons_succ])
          | (apply wv_call rfl; (focus (intro w; go_simp; first | done | exact ⟨rfl, rfl⟩)); (focus (intro w h; apply cls_call h; fail)); simp only [Act.put, List.setIfInBounds_toArray, List.set_cons_zero, List.set_cons_succ]))
        refine wv_nil ?_
        simp only [List.drop_succ_cons, List.drop_zero]
        intro w5 ⟨hO5, hS5⟩
        clear hO l4
        refine own_copy_str (new := (srow (over (appAll byt (selP (cs.take k) l)) o.toNat c.p.dat.data.toList) (.slice (some ad) cs.length cap) next).toList) (k := 4) (g := p) (off := o.toNat) (cur := srow (appAll byt (selP (cs.take k) l)) (.slice (some ad) cs.length cap) next) (t := 104) rfl rfl rfl rfl Try.underlying22 sz_u8 hO5 rfl HO.out.2.2 ?_ (srow_str HLN.out HO.out.2.1) ?_
        · rw [srow_size _ _ _ HLN.out]; have := HO.out; omega
        intro w6 hO hS6
        clear hO5
        have hO : Own w6 (owns 105 1 u2 ((leftC (cs.take k) l).map Cl.ptr).length ((leftC (cs.take k) l).map Cl.ptr) :: pts bin (.cells #[.slice (some ⟨g, 0, none⟩) cs.length cs.length] 110) :: pts g (.cells (bls (inOf cs l)).toArray 4) :: pts bs (.cells #[.pointer (some ⟨p, 0, none⟩)] 52) :: (stkL p (.slice (some ad) cs.length cap) cs (over (appAll byt (selP (cs.take k) l)) o.toNat c.p.dat.data.toList) next ++ R)) := hO
        go_wp2
        go_roundw
        case rel => exact ⟨k + 1, by omega, by go_num, by
          rw [left_no HC.out HE1.out, sel_yes HC.out HE1.out, appAll_snoc]
          have e : app (appAll byt (selP (cs.take k) l)) c.p = over (appAll byt (selP (cs.take k) l)) o.toNat c.p.dat.data.toList := by rw [← HO.out.1]; rfl
          rw [e]
          exact hO, hS.trans (hS5.trans hS6)⟩
        case measure => simp [intOf]; omega
    · have hke : k = cs.length := by omega
      subst hke
      rw [List.take_length, List.length_map] at hO
      rw [List.take_length] at HLN
      obtain ⟨A2, c2, rfl⟩ := (owns_rd hO).slice
      go_wp2_with (first | (refine own_load1 (b := bs) (off := 0) (cs := #[.pointer (some ⟨p, 0, none⟩)]) (t := 52) (v := .pointer (some ⟨p, 0, none⟩)) rfl rfl rfl row_sptr (own_get 3 hO rfl) rfl ?_) | (refine own_store1 (k := 4) (b := p) (off := 32) (cs := srow (appAll byt (selP cs l)) (.slice A cs.length cap) next) (cs' := srow (appAll byt (selP cs l)) (.slice A2 (leftC cs l).length c2) next) rfl rfl rfl rfl sz_cells hO rfl rfl (by rw [srow_size _ _ _ HLN.out]; omega) (srow_setv _ _ _ _ HLN.out) ?_; clear hO; intro w6 hO hS6; simp only [List.set_cons_zero, List.set_cons_succ] at hO))
      refine bodyPost_ret (results_none rfl _ _ _) rfl ⟨.slice A2 (leftC cs l).length c2, rfl, ?_, hS.trans hS6⟩
      have h1 := own_perm hO (List.perm_middle (l₁ := [pts bin (.cells #[.slice (some ⟨g, 0, none⟩) cs.length cs.length] 110), pts g (.cells (bls (inOf cs l)).toArray 4), pts bs (.cells #[.pointer (some ⟨p, 0, none⟩)] 52), pts p (.cells (srow (appAll byt (selP cs l)) (.slice A2 (leftC cs l).length c2) next) 104)]) (a := owns 105 1 (.slice A2 (leftC cs l).length c2) (leftC cs l).length ((leftC cs l).map Cl.ptr)) (l₂ := owns 105 1 (.slice A cs.length cap) cs.length (cs.map Cl.ptr) :: ((cellL cs ++ undL cs) ++ R))).symm
      refine own_three.2 (own_subS h1 ?_)
      refine .cons_cons _ (.cons_cons _ (.cons_cons _ (.cons_cons _ (.cons_cons _ (.cons _ ?_)))))
      exact List.Sublist.append (List.Sublist.append (List.filter_sublist.map _) (List.filter_sublist.map _)) (List.Sublist.refl _)
/-- What is left on. -/
def leftL (l : List On) (s : List Int) : List On := l.filter fun o => !s.contains (o.n : Int)
def Stk.settled (m : Stk) (s : List Int) : Stk := ⟨appAll m.base (selL m.l s), leftL m.l s, m.next⟩
theorem left_on {cs : List Cl} {l : List On} {s : List Int} (h : cs.map Cl.on = l) : (leftC cs s).map Cl.on = leftL l s := by
  subst h
  unfold leftC leftL
  rw [List.filter_map]
  rfl
theorem settle_bare (w : World) (L : List HP) (p bs bin g : Nat) (v : Value) (cs : List Cl) (base : List UInt8) (next : Nat) (l : List Int) (hP : Piled base cs)
    (hO : Own w (pts bin (.cells #[.slice (some ⟨g, 0, none⟩) cs.length cs.length] 110) :: pts g (.cells (bls (inOf cs l)).toArray 4) :: pts bs (.cells #[.pointer (some ⟨p, 0, none⟩)] 52) :: (stkL p v cs (appAll base (cs.map Cl.p)) next ++ L))) :
    Calls Try.prog 66 #[.pointer (some ⟨p, 0, none⟩), .int .i64 0, .func (.func 68) #[] #[.pointer (some ⟨bs, 0, none⟩), .pointer (some ⟨bin, 0, none⟩)]] w
      (RetX w (fun _ => .tuple #[]) (fun y : Value × List Cl => pur (y.2.map Cl.on = (leftC cs l).map Cl.on ∧ y.2.map Cl.und = unders (appAll base (selP cs l)) ((leftC cs l).map Cl.p)) :: (stkL p y.1 y.2 (appAll (appAll base (selP cs l)) ((leftC cs l).map Cl.p)) next ++ L))) := by
  have hlr : ∀ c ∈ leftC cs l, rightB c.p = true := fun c hc => hP.right c (List.mem_filter.1 hc).1
  have hll : (leftC cs l).length ≤ 200 := Nat.le_trans (List.length_filter_le _ _) hP.len
  have hbl : (appAll base (selP cs l)).length = 32 := appAll_length _ _ hP.base (sel_right hP.right l)
  have hb := bare_c (α := Value) (fun lv => lv) (fun _ => leftC cs l) (fun _ => appAll base (selP cs l)) (fun _ => pts bin (.cells #[.slice (some ⟨g, 0, none⟩) cs.length cs.length] 110) :: pts g (.cells (bls (inOf cs l)).toArray 4) :: pts bs (.cells #[.pointer (some ⟨p, 0, none⟩)] 52) :: L) w (pts bin (.cells #[.slice (some ⟨g, 0, none⟩) cs.length cs.length] 110) :: pts g (.cells (bls (inOf cs l)).toArray 4) :: pts bs (.cells #[.pointer (some ⟨p, 0, none⟩)] 52) :: L) p 0 v cs base next 68 #[.pointer (some ⟨bs, 0, none⟩), .pointer (some ⟨bin, 0, none⟩)] (own_three.2 hO) (Nat.zero_le _) hP
    (fun w' F h' => settle1_c w' (L ++ F) p bs bin g v cs base next l h' hP.base hP.right hP.len) (fun w' => by simp [go_sem, callFunc]; rfl) (fun _ _ _ _ => ⟨hbl, hlr, hll⟩)
  refine hb.mono ?_
  rintro e w' ⟨⟨lv, cs'⟩, rfl, hO', hS⟩
  rw [own_pur] at hO'
  obtain ⟨hre, hO'⟩ := hO'
  have hre' := relaid_all (n := (leftC cs l).length) (by simpa using hre) rfl
  simp only [Nat.zero_min, List.drop_zero] at hO'
  exact ⟨(lv, cs'), rfl, own_pur.2 ⟨hre', own_drop (own_drop (own_drop (own_three.1 hO')))⟩, hS⟩
section
variable (w : World) (L : List HP) (p : Nat) (m : Stk) (sv : Value) (l : List Int)
set_option maxHeartbeats 1600000 in
theorem settle_no (hO : Own w (stk p m :: L)) (hk : m.Ok) (hs : ∀ w', Own w' L → Rd w' 1 sv l.length (ints l)) (hl : ∀ x ∈ l, i64 x) (e : Int) (he : (OutL m.l l ∧ e = 2) ∨ (¬ OutL m.l l ∧ BusyL m.l l ∧ e = 12)) :
    Calls Try.prog 29 #[.pointer (some ⟨p, 0, none⟩), sv] w (Ret w (.int .i64 e) (stk p m :: L)) := by
  obtain ⟨v, cs, hrep, hO⟩ := stk_open.1 hO
  have HREP := Lib.hid hrep
  have HK := Lib.hid hk
  have HS := Lib.hid hs
  have HL := Lib.hid hl
  rcases he with ⟨h1, rfl⟩ | ⟨h1, h2, rfl⟩
  · have HOUT := Lib.hid ((out_iff hrep.on).2 h1)
    clear hrep hk hs hl h1
    go_enter Try.func29, Try.ntmps29
    go_wp2_with (first | (refine own_box (x := .tmp 0) (cs := #[.pointer (some ⟨p, 0, none⟩)]) rfl rfl rfl rfl hO ?_; clear hO; intro bs w1 hO hS1) | (refine own_alloc (T := 110) (cs := #[.slice none 0 0]) rfl rfl zero_bls rfl hO ?_; clear hO; intro bin w4 hO hS4) | (refine own_load1 (b := bs) (off := 0) (cs := #[.pointer (some ⟨p, 0, none⟩)]) (t := 52) (v := .pointer (some ⟨p, 0, none⟩)) rfl rfl rfl row_sptr (own_get 0 hO rfl) rfl ?_) | (go_at_call 65; refine (chosen_out _ _ p v cs m.bytes m.next sv l hO (fun w' h => stkAt_of (own_drop h)) (HREP.out.csok HK.out) (fun w' h => HS.out w' (own_drops (own_drop h))) HL.out HOUT.out).mono ?_; clear hO; rintro e w3 ⟨rfl, hO, hS3⟩) | (refine own_store1 (k := 0) (b := bin) (off := 0) (cs := #[.slice none 0 0]) (cs' := #[.slice none 0 0]) rfl rfl rfl rfl sz_bls hO rfl rfl (by simp) rfl ?_; clear hO; intro w5 hO hS5; simp only [List.set_cons_zero, List.set_cons_succ] at hO))
    go_ret
    exact ⟨rfl, stk_open.2 ⟨v, cs, HREP.out, own_drop (own_drop hO)⟩, hS1.trans (hS3.trans (hS4.trans hS5))⟩
  · have HOUT := Lib.hid (fun h => h1 ((out_iff hrep.on).1 h))
    have HBUSY := Lib.hid ((busy_iff hrep.on).2 h2)
    clear hrep hk hs hl h1 h2
    go_enter Try.func29, Try.ntmps29
    go_wp2_with (first | (refine own_box (x := .tmp 0) (cs := #[.pointer (some ⟨p, 0, none⟩)]) rfl rfl rfl rfl hO ?_; clear hO; intro bs w1 hO hS1) | (refine own_alloc (T := 110) (cs := #[.slice none 0 0]) rfl rfl zero_bls rfl hO ?_; clear hO; intro bin w4 hO hS4) | (refine own_load1 (b := bs) (off := 0) (cs := #[.pointer (some ⟨p, 0, none⟩)]) (t := 52) (v := .pointer (some ⟨p, 0, none⟩)) rfl rfl rfl row_sptr (own_get 0 hO rfl) rfl ?_) | (go_at_call 65; refine (chosen_busy _ _ p v cs m.bytes m.next sv l hO (fun w' h => stkAt_of (own_drop h)) (HREP.out.csok HK.out) (fun w' h => HS.out w' (own_drops (own_drop h))) HL.out HOUT.out HBUSY.out).mono ?_; clear hO; rintro e w3 ⟨rfl, hO, hS3⟩) | (refine own_store1 (k := 0) (b := bin) (off := 0) (cs := #[.slice none 0 0]) (cs' := #[.slice none 0 0]) rfl rfl rfl rfl sz_bls hO rfl rfl (by simp) rfl ?_; clear hO; intro w5 hO hS5; simp only [List.set_cons_zero, List.set_cons_succ] at hO))
    go_ret
    exact ⟨rfl, stk_open.2 ⟨v, cs, HREP.out, own_drop (own_drop hO)⟩, hS1.trans (hS3.trans (hS4.trans hS5))⟩
set_option maxHeartbeats 1600000 in
theorem settle_ok (hO : Own w (stk p m :: L)) (hk : m.Ok) (hs : ∀ w', Own w' L → Rd w' 1 sv l.length (ints l)) (hl : ∀ x ∈ l, i64 x) (h1 : ¬ OutL m.l l) (h2 : ¬ BusyL m.l l) :
    Calls Try.prog 29 #[.pointer (some ⟨p, 0, none⟩), sv] w (Ret w (.int .i64 0) (stk p (m.settled l) :: L)) := by
  obtain ⟨v, cs, hrep, hO⟩ := stk_open.1 hO
  have HREP := Lib.hid hrep
  have HK := Lib.hid hk
  have HS := Lib.hid hs
  have HL := Lib.hid hl
  have HOUT := Lib.hid (fun h => h1 ((out_iff hrep.on).1 h))
  have HBUSY := Lib.hid (fun h => h2 ((busy_iff hrep.on).1 h))
  have HPI := Lib.hid (hrep.piled hk)
  have HBY := Lib.hid hrep.bytes
  have hmf : ∀ (fn : Fn) (first cap : Array Value) (w : World), (Instr.makeFunc fn first cap).run Try.prog w = .ok (.func fn first cap) w := fun _ _ _ _ => rfl
  have HMF := Lib.hid hmf
  clear hrep hk hs hl h1 h2 hmf
  go_enter Try.func29, Try.ntmps29
  go_wp2_with (first | (refine own_box (x := .tmp 0) (cs := #[.pointer (some ⟨p, 0, none⟩)]) rfl rfl rfl rfl hO ?_; clear hO; intro bs w1 hO hS1) | (refine own_alloc (T := 110) (cs := #[.slice none 0 0]) rfl rfl zero_bls rfl hO ?_; clear hO; intro bin w4 hO hS4) | (refine own_load1 (b := bs) (off := 0) (cs := #[.pointer (some ⟨p, 0, none⟩)]) (t := 52) (v := .pointer (some ⟨p, 0, none⟩)) rfl rfl rfl row_sptr (own_get 0 hO rfl) rfl ?_) | (refine own_load1 (b := bs) (off := 0) (cs := #[.pointer (some ⟨p, 0, none⟩)]) (t := 52) (v := .pointer (some ⟨p, 0, none⟩)) rfl rfl rfl row_sptr (own_get 2 hO rfl) rfl ?_) | (go_at_call 65; refine (chosen_ok _ _ p v cs m.bytes m.next sv l hO (fun w' h => stkAt_of (own_drop h)) (HREP.out.csok HK.out) (fun w' h => HS.out w' (own_drops (own_drop h))) HL.out HOUT.out HBUSY.out).mono ?_; clear hO; rintro e w3 ⟨g, rfl, hO, hS3⟩) | (refine own_store1 (k := 0) (b := bin) (off := 0) (cs := #[.slice none 0 0]) (cs' := #[.slice (some ⟨g, 0, none⟩) cs.length cs.length]) rfl rfl rfl rfl sz_bls hO rfl rfl (by simp) rfl ?_; clear hO; intro w5 hO hS5; simp only [List.set_cons_zero, List.set_cons_succ] at hO) | (go_at_call 66; refine (settle_bare _ L p bs bin g v cs m.base m.next l HPI.out (by rw [← HBY.out]; exact hO)).mono ?_; clear hO; rintro e w6 ⟨⟨lv, cs'⟩, rfl, hO, hS6⟩))
  go_ret
  refine ⟨rfl, ?_, hS1.trans (hS3.trans (hS4.trans (hS5.trans hS6)))⟩
  rw [own_pur] at hO
  have hon := hO.1.1.trans (left_on HREP.out.on)
  refine stk_open.2 ⟨lv, cs', ⟨hon, ?_⟩, ?_⟩
  · rw [hO.1.2, sel_eq HREP.out.on]
    show unders _ _ = unders _ ((leftL m.l l).map On.p)
    rw [← left_on HREP.out.on, List.map_map]; rfl
  · have e : (m.settled l).bytes = appAll (appAll m.base (selP cs l)) ((leftC cs l).map Cl.p) := by
      rw [sel_eq HREP.out.on]
      show appAll (appAll m.base (selL m.l l)) ((leftL m.l l).map On.p) = _
      rw [← left_on HREP.out.on, List.map_map]; rfl
    rw [e]
    exact hO.2
end
end Go.Proofs.Ytonohjhmnlfakaa.H
set_option linter.unusedVariables false
set_option linter.unusedSimpArgs false
set_option maxRecDepth 100000
namespace Go.Proofs.Ytonohjhmnlfakaa.H
open Go.RowKit
theorem out_nil (l : List On) : ¬ OutL l [] := fun ⟨x, hx, _⟩ => by cases hx
theorem busy_nil (l : List On) : ¬ BusyL l [] := fun ⟨i, k, _, c, d, _, _, h, _⟩ => by simp at h
theorem sel_nil (l : List On) : selL l [] = [] := by simp [selL]
theorem base_c (w : World) (L : List HP) (p : Nat) (m : Stk) (hO : Own w (stk p m :: L)) (hk : m.Ok) :
    Calls Try.prog 30 #[.pointer (some ⟨p, 0, none⟩)] w (RetX w (fun g => .slice (some ⟨g, 0, none⟩) 32 32) (fun g => stk p m :: pts g (.cells (bcs m.base).toArray 46) :: L)) := by
  have HK := Lib.hid hk
  have HE : Hid (appAll m.base (selL m.l []) = m.base) := by show _ = _; rw [sel_nil]; rfl
  clear hk
  go_enter Try.func30, Try.ntmps30
  go_wp2_with (go_at_call 28; refine (roll_ok _ L p m _ [] hO HK.out (fun w' h => rd_nil _ _) (fun x hx => by cases hx) (out_nil _) (busy_nil _)).mono ?_; clear hO; rintro e w5 ⟨g, rfl, hO, hS5⟩; rw [HE.out] at hO)
  go_ret
  exact ⟨g, rfl, hO, hS5⟩
theorem new_no_s (w : World) (L : List HP) (A : Option Addr) (n c : Nat) (hO : Own w L) (h : n ≠ 32) :
    Calls Try.prog 23 #[.slice A n c] w (Ret w (.pointer none) L) := by
  have e : ((n : Int) != 32) = true := by simp; omega
  clear h
  go_enter Try.func23, Try.ntmps23
  go_wp2
  go_ret
  exact ⟨rfl, hO, Same.refl _⟩
set_option maxHeartbeats 800000 in
theorem new_c (w : World) (L : List HP) (v : Value) (bs : List UInt8) (hO : Own w L) (hr : ∀ w', Own w' L → RdB w' v bs) (h32 : bs.length = 32) :
    Calls Try.prog 23 #[v] w (RetX w (fun p => .pointer (some ⟨p, 0, none⟩)) (fun p => stk p ⟨bs, [], 0⟩ :: L)) := by
  obtain ⟨A, c, rfl⟩ := (hr w hO).slice
  have e : ((bs.length : Int) != 32) = false := by simp; omega
  have HR := Lib.hid hr
  have HB : Hid (bs.length = 32) := h32
  clear hr h32
  go_enter Try.func23, Try.ntmps23
  go_wp2_with (first | (refine own_box_agg (cs := srow (List.replicate 32 0) (.slice none 0 0) 0) rfl rfl rfl hO ?_; clear hO; intro p w2 hO hS2) | (refine own_copy (n := bs.length) (m := bs.length) (xs := bcs bs) (new := (srow (over (List.replicate 32 0) 0 bs) (.slice none 0 0) 0).toList) (k := 0) (g := p) (off := 0) (cur := srow (List.replicate 32 0) (.slice none 0 0) 0) (t := 104) rfl rfl rfl rfl Try.underlying22 sz_u8 (HR.out _ (own_drop hO)) (bcs_one _) hO rfl ?_ ?_ ?_ ?_; (rw [HB.out]; rfl); (rw [srow_size _ _ _ (by simp), HB.out]; omega); (exact srow_put (by simp) (by rw [HB.out]; omega)); clear hO; intro w3 hO hS3; simp only [List.set_cons_zero, Array.toArray_toList] at hO))
  go_ret
  refine ⟨p, rfl, stk_open.2 ⟨.slice none 0 0, [], ⟨rfl, rfl⟩, ?_⟩, hS2.trans hS3⟩
  have e2 : over (List.replicate 32 (0 : UInt8)) 0 bs = bs := by
    unfold over
    rw [List.take_zero, List.nil_append, List.drop_of_length_le (by simp [HB.out]), List.append_nil]
  rw [e2] at hO
  show Own w3 (pts p _ :: owns _ 1 (.slice none 0 0) 0 [] :: L)
  exact own_perm (owns_nil hO) (List.Perm.swap _ _ _)
end Go.Proofs.Ytonohjhmnlfakaa.H
set_option linter.unusedVariables false
set_option linter.unusedSimpArgs false
set_option maxRecDepth 100000
namespace Go.Proofs.Ytonohjhmnlfakaa.H
open Go.RowKit
def Stk.pushed (m : Stk) (p : Pat) : Stk := ⟨m.base, m.l ++ [⟨m.next, p⟩], m.next + 1⟩
theorem Stk.Ok.pushed {m : Stk} (h : m.Ok) {p : Pat} (hp : rightB p = true) (hl : m.l.length < 200) (hn : m.next < 1000000) : (m.pushed p).Ok := by
  refine ⟨h.base, fun x hx => ?_, ?_, fun x hx => ?_, by simp [Stk.pushed]; omega, by simp [Stk.pushed]; omega⟩
  · simp only [Stk.pushed, List.mem_append, List.mem_singleton] at hx
    rcases hx with hx | rfl
    · exact h.right x hx
    · exact hp
  · simp only [Stk.pushed, List.pairwise_append]
    refine ⟨h.asc, by simp, fun a ha b hb => ?_⟩
    simp only [List.mem_singleton] at hb
    subst hb
    exact h.lt a ha
  · simp only [Stk.pushed, List.mem_append, List.mem_singleton] at hx ⊢
    rcases hx with hx | rfl
    · have := h.lt x hx; omega
    · simp
theorem sz_i64 : (Try.prog.info? 3).map (·.size) = some 1 := by kernel_rfl
theorem srow_setn (byt : List UInt8) (v : Value) (next next' : Nat) (x : Int) (hx : x = next') (hb : byt.length = 32) : (srow byt v next).setIfInBounds 33 (.int .i64 x) = srow byt v next' := by
  subst hx
  apply Array.ext'
  rw [Array.toList_setIfInBounds]
  simp only [srow]
  rw [List.set_append_right _ _ (by rw [bcs_length]; omega), bcs_length, hb]
  rfl
theorem perm_count {l l' : List HP} (h : ∀ [DecidableEq HP] (x : HP), l.count x = l'.count x) : l.Perm l' := by
  classical exact List.perm_iff_count.2 fun x => h x
/-- A new cell put to the others. -/
theorem cell_new {w : World} {L : List HP} {p : Nat} {v : Value} {cs : List Cl} {byt : List UInt8} {next : Nat} {c : Cl} {X : HP} (hu : c.u = .slice none 0 0) (hd : c.und = [])
    (h : Own w (owns 105 1 v (cs.length + 1) (cs.map Cl.ptr ++ [c.ptr]) :: pts c.a (.cells c.row 107) :: X :: pts p (.cells (srow byt v next) 104) :: ((cellL cs ++ undL cs) ++ L))) :
    Own w (stkL p v (cs ++ [c]) byt next ++ (X :: L)) := by
  have h2 := owns_nil (e := 5) (size := 1) h
  have e : stkL p v (cs ++ [c]) byt next ++ (X :: L) = pts p (.cells (srow byt v next) 104) :: owns 105 1 v (cs.length + 1) (cs.map Cl.ptr ++ [c.ptr]) :: ((cellL cs ++ [pts c.a (.cells c.row 107)]) ++ (undL cs ++ [owns 5 1 (.slice none 0 0) 0 []])) ++ (X :: L) := by
    simp [stkL, cellL, undL, hu, hd, bcs]
  rw [e]
  exact own_perm h2 (perm_count fun x => by simp only [List.count_append, List.count_cons, List.count_nil]; omega)
section
variable (w : World) (L : List HP) (p : Nat) (m : Stk) (a0 a1 : Int) (s : ByteArray)
theorem push_form (hO : Own w (stk p m :: L)) (hk : m.Ok) (hR : rightB ⟨a0, a1, s⟩ = false) :
    Calls Try.prog 24 #[.pointer (some ⟨p, 0, none⟩), .agg #[.int .i64 a0, .int .i64 a1, .string s]] w (Ret w (.tuple #[.int .i64 0, .int .i64 3]) (stk p m :: L)) := by
  have HR := Lib.hid hR
  clear hR hk
  go_enter Try.func24, Try.ntmps24
  go_wp2_with (first | (refine own_box_agg (x := .tmp 1) rfl rfl rfl hO ?_; clear hO; intro b w1 hO hS1) | (apply own_loadrow rfl rfl rfl; (first | exact row_pat); exact sz_pat; (first | exact own_get 0 hO rfl | exact own_get 1 hO rfl | exact own_get 2 hO rfl | exact own_get 3 hO rfl | exact own_get 4 hO rfl | exact own_get 5 hO rfl | exact own_get 6 hO rfl | exact own_get 7 hO rfl); (focus (simp; done)); (first | (simp only [List.drop_zero, List.drop_succ_cons, List.take_succ_cons, List.take_zero]; rfl) | rfl)) | (go_at_call 36; refine (right_v _ _ _ _ _ HR.out hO).mono ?_; clear hO; rintro e w3 ⟨rfl, hO, hS3⟩))
  go_ret2
  exact ⟨rfl, own_drop hO, hS1.trans hS3⟩
set_option maxHeartbeats 800000 in
theorem push_full (hO : Own w (stk p m :: L)) (hk : m.Ok) (hR : rightB ⟨a0, a1, s⟩ = true) (hl : m.l.length = 200) :
    Calls Try.prog 24 #[.pointer (some ⟨p, 0, none⟩), .agg #[.int .i64 a0, .int .i64 a1, .string s]] w (Ret w (.tuple #[.int .i64 0, .int .i64 11]) (stk p m :: L)) := by
  obtain ⟨v, cs, hrep, hO⟩ := stk_open.1 hO
  obtain ⟨A, cap, rfl⟩ := (stkAt_of hO).rd.slice
  have HREP := Lib.hid hrep
  have HR := Lib.hid hR
  have HB : Hid (m.bytes.length = 32) := (hrep.csok hk).byt
  have hlen : ((cs.length : Int) == 200) = true := by rw [hrep.length, hl]; rfl
  clear hR hk hrep hl
  go_enter Try.func24, Try.ntmps24
  go_wp2_with (first | (refine own_box_agg (x := .tmp 1) rfl rfl rfl hO ?_; clear hO; intro b w1 hO hS1) | (apply own_loadrow rfl rfl rfl; (first | exact row_pat); exact sz_pat; (first | exact own_get 0 hO rfl | exact own_get 1 hO rfl | exact own_get 2 hO rfl | exact own_get 3 hO rfl | exact own_get 4 hO rfl | exact own_get 5 hO rfl | exact own_get 6 hO rfl | exact own_get 7 hO rfl); (focus (simp; done)); (first | (simp only [List.drop_zero, List.drop_succ_cons, List.take_succ_cons, List.take_zero]; rfl) | rfl)) | (go_at_call 36; refine (right_v _ _ _ _ _ HR.out hO).mono ?_; clear hO; rintro e w3 ⟨rfl, hO, hS3⟩) | (refine own_load1 (b := p) (off := 32) (cs := srow m.bytes (.slice A cs.length cap) m.next) (t := 104) (v := .slice A cs.length cap) rfl rfl rfl row_cells (own_get 1 hO rfl) (srow_v _ _ _ HB.out) ?_))
  go_ret2
  exact ⟨rfl, stk_open.2 ⟨_, cs, HREP.out, own_drop hO⟩, hS1.trans hS3⟩
set_option maxHeartbeats 3200000 in
theorem push_ok (hO : Own w (stk p m :: L)) (hk : m.Ok) (hR : rightB ⟨a0, a1, s⟩ = true) (hl : m.l.length < 200) (hn : m.next < 1000000) :
    Calls Try.prog 24 #[.pointer (some ⟨p, 0, none⟩), .agg #[.int .i64 a0, .int .i64 a1, .string s]] w (Ret w (.tuple #[.int .i64 m.next, .int .i64 0]) (stk p (m.pushed ⟨a0, a1, s⟩) :: L)) := by
  obtain ⟨v, cs, hrep, hO⟩ := stk_open.1 hO
  obtain ⟨A, cap, rfl⟩ := (stkAt_of hO).rd.slice
  have HREP := Lib.hid hrep
  have HR := Lib.hid hR
  have HK := Lib.hid hk
  have HB : Hid (m.bytes.length = 32) := (hrep.csok hk).byt
  have hlen : ((cs.length : Int) == 200) = false := by rw [hrep.length]; simp; omega
  have HLE : Hid (cs.length ≤ 200) := (hrep.csok hk).len
  have HN : Hid (m.next < 1000000) := hn
  clear hR hk hrep hl
  go_enter Try.func24, Try.ntmps24
  go_wp2_with (first | (refine own_box_agg (x := .tmp 1) rfl rfl rfl hO ?_; clear hO; intro b w1 hO hS1) | (apply own_loadrow rfl rfl rfl; (first | exact row_pat); exact sz_pat; (first | exact own_get 0 hO rfl | exact own_get 1 hO rfl | exact own_get 2 hO rfl | exact own_get 3 hO rfl | exact own_get 4 hO rfl | exact own_get 5 hO rfl | exact own_get 6 hO rfl | exact own_get 7 hO rfl); (focus (simp; done)); (first | (simp only [List.drop_zero, List.drop_succ_cons, List.take_succ_cons, List.take_zero]; rfl) | rfl)) | (go_at_call 36; refine (right_v _ _ _ _ _ HR.out hO).mono ?_; clear hO; rintro e w3 ⟨rfl, hO, hS3⟩) | (refine own_load1 (b := p) (off := 32) (cs := srow m.bytes (.slice A cs.length cap) m.next) (t := 104) (v := .slice A cs.length cap) rfl rfl rfl row_cells (own_get 1 hO rfl) (srow_v _ _ _ HB.out) ?_))
  refine wp_region_seq (Cls w3 (pts b (.cells #[.int .i64 a0, .int .i64 a1, .string s] 33) :: (stkL p (.slice A cs.length cap) cs m.bytes m.next ++ L))) 6 52 mixed (by kernel_rfl) rfl (cls_drew hO) ?_
  simp only [List.append_eq, List.cons_append, List.nil_append, List.take_succ_cons, List.take_zero]
  repeat (first
    | (apply wv_skip rfl; simp only [Act.put, List.setIfInBounds_toArray, List.set_cons_zero, List.set_cons_succ])
    | (refine wv_load1 (b := p) (cs := srow m.bytes (.slice A cs.length cap) m.next) (t := 104) (off := 33) (v := .int .i64 m.next) rfl rfl rfl row_int (fun w h => own_get 1 h.1 rfl) (srow_next _ _ _ HB.out) ?_; simp only [Act.put, List.setIfInBounds_toArray, List.set_cons_zero, List.set_cons_succ])
    | (apply wv_load1 rfl rfl rfl; (first | exact row_int | exact row_str | exact row_bool | exact row_u8 | exact row_bys | exact row_pats | exact row_err); (intro w h; (first | exact own_get 0 h.1 rfl | exact own_get 1 h.1 rfl | exact own_get 2 h.1 rfl | exact own_get 3 h.1 rfl | exact own_get 4 h.1 rfl | exact own_get 5 h.1 rfl | exact own_get 6 h.1 rfl | exact own_get 7 h.1 rfl)); (first | (simp only [List.getElem?_toArray, List.getElem?_cons_succ, List.getElem?_cons_zero]; rfl) | rfl); simp only [Act.put, List.setIfInBounds_toArray, List.set_cons_zero, List.set_cons_succ])
    | (apply wv_loadrow rfl rfl rfl; (first | exact row_pat); exact sz_pat; (intro w h; (first | exact own_get 0 h.1 rfl | exact own_get 1 h.1 rfl | exact own_get 2 h.1 rfl | exact own_get 3 h.1 rfl | exact own_get 4 h.1 rfl | exact own_get 5 h.1 rfl | exact own_get 6 h.1 rfl | exact own_get 7 h.1 rfl)); (focus (simp; done)); (first | (simp only [List.drop_zero, List.drop_succ_cons, List.take_succ_cons, List.take_zero]; rfl) | rfl); simp only [Act.put, List.setIfInBounds_toArray, List.set_cons_zero, List.set_cons_succ])
    | (apply wv_run rfl; (focus (intro w h; go_simp; first | done | rfl)); simp only [Act.put, List.setIfInBounds_toArray, List.set_cons_zero, List.set_cons_succ])
    | (apply wv_call rfl; (focus (intro w; go_simp; first | done | exact ⟨rfl, rfl⟩)); (focus (intro w h; apply cls_call h; fail)); simp only [Act.put, List.setIfInBounds_toArray, List.set_cons_zero, List.set_cons_succ]))
  refine wv_nil ?_
  simp only [List.drop_succ_cons, List.drop_zero]
  intro w5 ⟨hO5, hS5⟩
  clear hO
  go_wp2_with (first | (refine own_box_agg (cs := #[.int .i64 a0, .int .i64 a1, .string s, .int .i64 m.next, .slice none 0 0]) rfl rfl rfl hO5 ?_; clear hO5; intro a w6 hO hS6) | (refine own_load1 (b := p) (off := 33) (cs := srow m.bytes (.slice A cs.length cap) m.next) (t := 104) (v := .int .i64 m.next) rfl rfl rfl row_int (own_get 2 hO rfl) (srow_next _ _ _ HB.out) ?_) | (refine own_store1 (k := 2) (b := p) (off := 33) (cs := srow m.bytes (.slice A cs.length cap) m.next) (cs' := srow m.bytes (.slice A cs.length cap) (m.next + 1)) rfl rfl rfl rfl sz_i64 hO rfl rfl (by rw [srow_size _ _ _ HB.out]; omega) (srow_setn _ _ _ _ _ (by simp) HB.out) ?_; clear hO; intro w7 hO hS7; simp only [List.set_cons_zero, List.set_cons_succ] at hO) | (refine own_load1 (b := p) (off := 32) (cs := srow m.bytes (.slice A cs.length cap) (m.next + 1)) (t := 104) (v := .slice A cs.length cap) rfl rfl rfl row_cells (own_get 2 hO rfl) (srow_v _ _ _ HB.out) ?_) | (refine own_append (m := 1) (n := cs.length) (xs := cs.map Cl.ptr) (news := [.pointer (some ⟨a, 0, none⟩)]) rfl rfl rfl rfl Try.underlying102 info_ptr rfl (by decide) (own_at (own_alloc_new hO (.cells #[.pointer (some ⟨a, 0, none⟩)] 105)) (k := 4) rfl) ?_ (ptr_one _) ?_ ?_ ?_; (exact rd_block (own_get 0 (own_alloc_new hO (.cells #[.pointer (some ⟨a, 0, none⟩)] 105)) rfl) rfl (by simp) (by simp) (by simp)); (have := HLE.out; unfold maxLen; omega); (have := HLE.out; omega); clear hO; intro v' w9 hO hS9 hv'; clear hv'; obtain ⟨A3, c3, rfl⟩ := (owns_rd hO).slice) | (refine own_store1 (k := 4) (b := p) (off := 32) (cs := srow m.bytes (.slice A cs.length cap) (m.next + 1)) (cs' := srow m.bytes (.slice A3 (cs.length + 1) c3) (m.next + 1)) rfl rfl rfl rfl sz_cells hO rfl rfl (by rw [srow_size _ _ _ HB.out]; omega) (srow_setv _ _ _ _ HB.out) ?_; clear hO; intro w10 hO hS10; simp only [List.set_cons_zero, List.set_cons_succ] at hO; have hO := cell_new (c := ⟨a, .slice none 0 0, m.next, ⟨a0, a1, s⟩, []⟩) rfl rfl (own_skip hO)) | (go_at_call 62; refine (lay_at _ _ p _ (cs ++ [⟨a, .slice none 0 0, m.next, ⟨a0, a1, s⟩, []⟩]) m.bytes (m.next + 1) cs.length ⟨a, .slice none 0 0, m.next, ⟨a0, a1, s⟩, []⟩ (by simp) hO HR.out HB.out).mono ?_; clear hO; rintro e w11 ⟨u, rfl, hO, hS11⟩; have hcl := (stkAt_of hO).cell cs.length ((⟨a, .slice none 0 0, m.next, ⟨a0, a1, s⟩, []⟩ : Cl).laid u m.bytes) (by simp)) | (refine own_load1 (b := a) (off := 3) (cs := ((⟨a, .slice none 0 0, m.next, ⟨a0, a1, s⟩, []⟩ : Cl).laid u m.bytes).row) (t := 107) (v := .int .i64 m.next) rfl rfl rfl row_int hcl rfl ?_))
  go_ret2
  refine ⟨rfl, ?_, hS1.trans (hS3.trans (hS5.trans (hS6.trans (hS7.trans ((Same.alloc _ _).trans (hS9.trans (hS10.trans hS11)))))))⟩
  have e1 : (cs ++ [(⟨a, .slice none 0 0, m.next, ⟨a0, a1, s⟩, []⟩ : Cl)]).set cs.length ((⟨a, .slice none 0 0, m.next, ⟨a0, a1, s⟩, []⟩ : Cl).laid u m.bytes) = cs ++ [(⟨a, .slice none 0 0, m.next, ⟨a0, a1, s⟩, []⟩ : Cl).laid u m.bytes] := by
    rw [List.set_append_right _ _ (Nat.le_refl _), Nat.sub_self]; rfl
  rw [e1] at hO
  have hbytes : (m.pushed ⟨a0, a1, s⟩).bytes = app m.bytes ⟨a0, a1, s⟩ := by
    unfold Stk.bytes Stk.pats Stk.pushed
    rw [List.map_append]
    exact appAll_snoc _ _ _
  refine stk_open.2 ⟨.slice A3 (cs.length + 1) c3, cs ++ [(⟨a, .slice none 0 0, m.next, ⟨a0, a1, s⟩, []⟩ : Cl).laid u m.bytes], ⟨?_, ?_⟩, ?_⟩
  · rw [List.map_append, HREP.out.on]; rfl
  · rw [List.map_append, HREP.out.und]
    show _ = unders m.base ((m.l ++ [On.mk m.next (Pat.mk a0 a1 s)]).map On.p)
    rw [List.map_append]
    exact (unders_snoc _ _ _).symm
  · rw [hbytes]
    exact own_subS hO (List.Sublist.append (List.Sublist.refl _) (List.Sublist.cons _ (List.Sublist.refl _)))
/-- Without the last one. -/
def Stk.popped (m : Stk) : Stk := ⟨m.base, m.l.dropLast, m.next⟩
theorem owns_low {w : World} {L : List HP} {e n k cap : Nat} {A : Option Addr} {xs : List Value} (h : Own w (owns e 1 (.slice A n cap) n xs :: L)) (hk : k ≤ n) (hn : 0 < n) : Own w (owns e 1 (.slice A k cap) k (xs.take k) :: L) := by
  obtain ⟨g, cap', rest, hv, h1, h2, h3, h4, h5⟩ := owns_open h (by rintro ⟨⟩; omega)
  cases hv
  refine owns_of_pts h5 (by simpa using h3) (by omega) h2 ?_
  rw [List.toList_toArray, Nat.mul_one, List.take_append_of_le_length (by omega)]
theorem cell_in_tail {w : World} {X L : List HP} {cs : List Cl} {i : Nat} {c : Cl} (hc : cs[i]? = some c) (h : Own w (X ++ ((cellL cs ++ undL cs) ++ L))) :
    w.heap[c.a]? = some (.cells c.row 107) ∧ RdB w c.u c.und := by
  have h0 := own_drops h
  constructor
  · obtain ⟨L', h'⟩ := own_mem h0 (A := pts c.a (.cells c.row 107)) (by
      simp only [List.mem_append]
      exact .inl (.inl (List.mem_map.2 ⟨c, List.mem_of_getElem? hc, rfl⟩)))
    exact own_pts h'
  · obtain ⟨L', h'⟩ := own_mem h0 (A := owns 5 1 c.u c.und.length (bcs c.und)) (by
      simp only [List.mem_append]
      exact .inl (.inr (List.mem_map.2 ⟨c, List.mem_of_getElem? hc, rfl⟩)))
    exact owns_rd h'
end
end Go.Proofs.Ytonohjhmnlfakaa.H
