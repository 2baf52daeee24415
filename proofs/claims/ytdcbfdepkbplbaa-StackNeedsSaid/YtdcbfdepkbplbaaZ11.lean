/- Contract of Settle. Contracts of Base, New, Push. -/
import Derived.Test.YtdcbfdepkbplbaaZ10
set_option linter.unusedVariables false
set_option linter.unusedSimpArgs false
set_option maxRecDepth 100000
namespace Go.Proofs.Ytdcbfdepkbplbaa.H
open Go.RowKit
theorem info_ptr : (Try.prog.info? 68).map (fun i => (i.zero, i.size, i.bytes)) = some (some (.pointer none), 1, 8) := by kernel_rfl
theorem sz_cells : (Try.prog.info? 70).map (·.size) = some 1 := by kernel_rfl
theorem ptr_one (a : Nat) : ∀ u ∈ [Value.pointer (some ⟨a, 0, none⟩)], u.oneCell' = true := by
  intro u hu
  simp at hu
  subst hu
  rfl
theorem own_sub {w : World} {L L' : List HP} (h : Own w L) (hs : L'.Sublist L) : Own w L' := by
  obtain ⟨t, ht⟩ := hs.exists_perm_append
  exact own_drops (own_perm h (ht.trans List.perm_append_comm))
theorem own_three {w : World} {A B C : HP} {S R : List HP} : Own w (S ++ (A :: B :: C :: R)) ↔ Own w (A :: B :: C :: (S ++ R)) :=
  ⟨fun h => own_perm h (List.perm_append_comm_assoc S [A, B, C] R), fun h => own_perm h (List.perm_append_comm_assoc S [A, B, C] R).symm⟩
/-- Those that are not among some. -/
def leftC (cs : List Cl) (l : List Int) : List Cl := cs.filter fun c => !l.contains (c.n : Int)
theorem left_yes {cs : List Cl} {l : List Int} {k : Nat} {c : Cl} (hc : cs[k]? = some c) (h : l.contains (c.n : Int) = false) : leftC (cs.take (k + 1)) l = leftC (cs.take k) l ++ [c] := by
  obtain ⟨h1, h2⟩ := List.getElem?_eq_some_iff.1 hc
  unfold leftC
  rw [List.take_succ_eq_append_getElem h1, h2, List.filter_append]
  simp only [List.filter_cons, h, Bool.not_false, if_true, List.filter_nil]
theorem left_no {cs : List Cl} {l : List Int} {k : Nat} {c : Cl} (hc : cs[k]? = some c) (h : l.contains (c.n : Int) = true) : leftC (cs.take (k + 1)) l = leftC (cs.take k) l := by
  obtain ⟨h1, h2⟩ := List.getElem?_eq_some_iff.1 hc
  unfold leftC
  rw [List.take_succ_eq_append_getElem h1, h2, List.filter_append]
  simp only [List.filter_cons, h, Bool.not_true, Bool.false_eq_true, if_false, List.filter_nil, List.append_nil]
theorem srow_setv (byt : List UInt8) (v v' : Value) (next : Nat) (hb : byt.length = 32) : (srow byt v next).setIfInBounds 32 v' = srow byt v' next := by
  apply Array.ext'
  rw [Array.toList_setIfInBounds]
  simp only [srow]
  rw [List.set_append_right _ _ (by rw [bcs_length]; omega), bcs_length, hb]
  rfl
theorem left_len (cs : List Cl) (l : List Int) (k : Nat) (h : cs.length ≤ 200) : ((leftC (cs.take k) l).map Cl.ptr).length ≤ 200 := by
  rw [List.length_map]
  unfold leftC
  have h1 := List.length_filter_le (fun c : Cl => !l.contains (c.n : Int)) (cs.take k)
  rw [List.length_take] at h1
  omega
set_option maxHeartbeats 3200000 in
theorem settle1_c (w : World) (R : List HP) (p bs bin g : Nat) (v : Value) (cs : List Cl) (byt : List UInt8) (next : Nat) (l : List Int) (hO : Own w (stkL p v cs byt next ++ (pts bin (.cells #[.slice (some ⟨g, 0, none⟩) cs.length cs.length] 74) :: pts g (.cells (bls (inOf cs l)).toArray 4) :: pts bs (.cells #[.pointer (some ⟨p, 0, none⟩)] 25) :: R))) (hb : byt.length = 32) (hr : ∀ c ∈ cs, rightB c.p = true) (hlen : cs.length ≤ 200) :
    Calls Try.prog 43 #[.pointer (some ⟨bs, 0, none⟩), .pointer (some ⟨bin, 0, none⟩)] w
      (RetX w (fun _ => .tuple #[]) (fun lv => stkL p lv (leftC cs l) (appAll byt (selP cs l)) next ++ (pts bin (.cells #[.slice (some ⟨g, 0, none⟩) cs.length cs.length] 74) :: pts g (.cells (bls (inOf cs l)).toArray 4) :: pts bs (.cells #[.pointer (some ⟨p, 0, none⟩)] 25) :: R))) := by
  obtain ⟨A, cap, rfl⟩ := (stkAt_of hO).rd.slice
  have hmx := (stkAt_of hO).rd.max
  have HB : Hid (byt.length = 32) := hb
  have HR := Lib.hid hr
  have hO := own_three.1 hO
  clear hb hr
  go_enter Try.func43, Try.ntmps43
  go_wp2_with (first | (refine own_load1 (b := bs) (off := 0) (cs := #[.pointer (some ⟨p, 0, none⟩)]) (t := 25) (v := .pointer (some ⟨p, 0, none⟩)) rfl rfl rfl row_sptr (own_get 2 hO rfl) rfl ?_) | (refine own_load1 (b := p) (off := 32) (cs := srow byt (.slice A cs.length cap) next) (t := 72) (v := .slice A cs.length cap) rfl rfl rfl row_cells (own_get 3 hO rfl) (srow_v _ _ _ HB.out) ?_))
  go_loopw [2, 10] (fun lv i' wr => ∃ k : Nat, k ≤ cs.length ∧ i' = .int .i64 k ∧ Own wr (owns 68 1 lv ((leftC (cs.take k) l).map Cl.ptr).length ((leftC (cs.take k) l).map Cl.ptr) :: pts bin (.cells #[.slice (some ⟨g, 0, none⟩) cs.length cs.length] 74) :: pts g (.cells (bls (inOf cs l)).toArray 4) :: pts bs (.cells #[.pointer (some ⟨p, 0, none⟩)] 25) :: (stkL p (.slice A cs.length cap) cs (appAll byt (selP (cs.take k) l)) next ++ R)) ∧ Same w wr) (fun _ i' _ => cs.length - (intOf i').toNat)
  case atStart => exact ⟨0, Nat.zero_le _, rfl, owns_nil hO, Same.refl _⟩
  case round =>
    clear hO
    obtain ⟨k, hk, rfl, hO, hS⟩ := hrel
    have HLN : Hid ((appAll byt (selP (cs.take k) l)).length = 32) := appAll_length _ _ HB.out (sel_right (fun c hc => HR.out c (List.mem_of_mem_take hc)) l)
    by_cases hlt : k < cs.length
    · obtain ⟨c, hc⟩ : ∃ c, cs[k]? = some c := ⟨_, List.getElem?_eq_getElem hlt⟩
      have HC := Lib.hid hc
      have hst := stkAt_of (own_drop (own_drop (own_drop (own_drop hO))))
      obtain ⟨ad, rfl⟩ := hst.rd.addr (by rw [List.length_map]; omega)
      have hcell := ptr_cell hst.rd hc
      have hk1 : (k : Int) < cs.length := by omega
      obtain ⟨B1, hB1⟩ : ∃ B1, l.contains (c.n : Int) = B1 := ⟨_, rfl⟩
      have HE1 := Lib.hid hB1
      have HB1 : Hid ((bls (inOf cs l)).toArray[k]? = some (.bool B1)) := by
        show _ = _
        rw [← hB1]
        simp only [bls, inOf, List.getElem?_toArray, List.getElem?_map, hc]
        rfl
      have HCR : Hid (∀ w' S, Own w' (stkL p (.slice (some ad) cs.length cap) cs (appAll byt (selP (cs.take k) l)) next ++ S) → w'.heap[c.a]? = some (.cells c.row 67)) := fun w' S h => (stkAt_of h).cell _ _ HC.out
      obtain ⟨p1, p2, p3, p4, p5, p6⟩ := rightB_iff.1 (HR.out c (List.mem_of_getElem? hc))
      obtain ⟨o, ho⟩ : ∃ o, o = c.p.off := ⟨_, rfl⟩
      have l0 : 0 ≤ o := by omega
      have l1 : o ≤ 32 := by omega
      have l3 : Hid (¬ (32 = o.toNat)) := by show ¬ _; omega
      have HR1 : Hid (c.row[1]? = some (.int .i64 o)) := by show _ = _; rw [ho]; rfl
      have HO : Hid (c.p.off.toNat = o.toNat ∧ o.toNat + c.p.dat.size ≤ 32 ∧ c.p.dat.size ≤ 32 - o.toNat) := by show _ ∧ _; rw [← ho]; omega
      have HLE : Hid (((leftC (cs.take k) l).map Cl.ptr).length ≤ 200) := left_len cs l k hlen
      clear hc hst hB1 p1 p2 p3 p4 p5 p6 ho
      cases B1 with
      | false =>
        go_wp2_with (first | (refine own_load1 (b := bin) (off := 0) (cs := #[.slice (some ⟨g, 0, none⟩) cs.length cs.length]) (t := 74) (v := .slice (some ⟨g, 0, none⟩) cs.length cs.length) rfl rfl rfl row_bls (own_get 1 hO rfl) rfl ?_) | (refine own_load1 (b := g) (off := k) (cs := (bls (inOf cs l)).toArray) (t := 4) (v := .bool false) rfl rfl rfl row_b (own_get 2 hO rfl) HB1.out ?_; clear hcell) | (refine own_append (m := 1) (n := ((leftC (cs.take k) l).map Cl.ptr).length) (xs := ((leftC (cs.take k) l).map Cl.ptr)) (news := [.pointer (some ⟨c.a, 0, none⟩)]) rfl rfl rfl rfl Try.underlying70 info_ptr rfl (by decide) (own_perm (own_alloc_new hO (.cells #[.pointer (some ⟨c.a, 0, none⟩)] 68)) (List.Perm.swap _ _ _)) ?_ (ptr_one _) ?_ ?_ ?_; (exact rd_block (own_get 1 (own_perm (own_alloc_new hO (.cells #[.pointer (some ⟨c.a, 0, none⟩)] 68)) (List.Perm.swap _ _ _)) rfl) rfl (by simp) (by simp) (by simp)); (have := HLE.out; unfold maxLen; omega); (have := HLE.out; omega); clear hO; intro v' w9 hO hS9 hv'))
        go_roundw
        case rel => exact ⟨k + 1, by omega, by go_num, by
          rw [sel_no HC.out HE1.out, left_yes HC.out HE1.out, List.map_append, List.length_append]
          exact own_skip hO, hS.trans ((Same.alloc _ _).trans hS9)⟩
        case measure => simp [intOf]; omega
      | true =>
        go_wp2_with (first | (refine own_load1 (b := bin) (off := 0) (cs := #[.slice (some ⟨g, 0, none⟩) cs.length cs.length]) (t := 74) (v := .slice (some ⟨g, 0, none⟩) cs.length cs.length) rfl rfl rfl row_bls (own_get 1 hO rfl) rfl ?_) | (refine own_load1 (b := g) (off := k) (cs := (bls (inOf cs l)).toArray) (t := 4) (v := .bool true) rfl rfl rfl row_b (own_get 2 hO rfl) HB1.out ?_; clear hcell))
        have l4 := l3.out
        refine wp_region_seq (Cls wr (owns 68 1 u2 ((leftC (cs.take k) l).map Cl.ptr).length ((leftC (cs.take k) l).map Cl.ptr) :: pts bin (.cells #[.slice (some ⟨g, 0, none⟩) cs.length cs.length] 74) :: pts g (.cells (bls (inOf cs l)).toArray 4) :: pts bs (.cells #[.pointer (some ⟨p, 0, none⟩)] 25) :: (stkL p (.slice (some ad) cs.length cap) cs (appAll byt (selP (cs.take k) l)) next ++ R))) 14 43 mixed (by kernel_rfl) rfl (cls_drew hO) ?_
        simp only [List.append_eq, List.cons_append, List.nil_append, List.take_succ_cons, List.take_zero]
        repeat (first
          | (apply wv_skip rfl; simp only [Act.put, List.setIfInBounds_toArray, List.set_cons_zero, List.set_cons_succ])
          | (refine wv_load1 (b := bs) (cs := #[.pointer (some ⟨p, 0, none⟩)]) (t := 25) (v := .pointer (some ⟨p, 0, none⟩)) rfl rfl rfl row_sptr (fun w h => own_get 3 h.1 rfl) rfl ?_; simp only [Act.put, List.setIfInBounds_toArray, List.set_cons_zero, List.set_cons_succ])
          | (refine wv_load1 (b := c.a) (cs := c.row) (t := 67) (v := .int .i64 o) rfl rfl rfl row_int (fun w h => HCR.out _ _ (own_drop (own_drop (own_drop (own_drop h.1))))) HR1.out ?_; simp only [Act.put, List.setIfInBounds_toArray, List.set_cons_zero, List.set_cons_succ])
          | (refine wv_load1 (b := c.a) (cs := c.row) (t := 67) (v := .string c.p.dat) rfl rfl rfl row_str (fun w h => HCR.out _ _ (own_drop (own_drop (own_drop (own_drop h.1))))) rfl ?_; simp only [Act.put, List.setIfInBounds_toArray, List.set_cons_zero, List.set_cons_succ])
          | (apply wv_load1 rfl rfl rfl; (first | exact row_int | exact row_str | exact row_bool | exact row_u8 | exact row_bys | exact row_pats | exact row_err); (intro w h; (first | exact own_get 0 h.1 rfl | exact own_get 1 h.1 rfl | exact own_get 2 h.1 rfl | exact own_get 3 h.1 rfl | exact own_get 4 h.1 rfl | exact own_get 5 h.1 rfl | exact own_get 6 h.1 rfl | exact own_get 7 h.1 rfl)); (first | (simp only [List.getElem?_toArray, List.getElem?_cons_succ, List.getElem?_cons_zero]; rfl) | rfl); simp only [Act.put, List.setIfInBounds_toArray, List.set_cons_zero, List.set_cons_succ])
          | (apply wv_loadrow rfl rfl rfl; (first | exact row_pat); exact sz_pat; (intro w h; (first | exact own_get 0 h.1 rfl | exact own_get 1 h.1 rfl | exact own_get 2 h.1 rfl | exact own_get 3 h.1 rfl | exact own_get 4 h.1 rfl | exact own_get 5 h.1 rfl | exact own_get 6 h.1 rfl | exact own_get 7 h.1 rfl)); (focus (simp; done)); (first | (simp only [List.drop_zero, List.drop_succ_cons, List.take_succ_cons, List.take_zero]; rfl) | rfl); simp only [Act.put, List.setIfInBounds_toArray, List.set_cons_zero, List.set_cons_succ])
          | (apply wv_run rfl; (focus (intro w h; go_simp; first | done | rfl)); simp only [Act.put, List.setIfInBounds_toArray, List.set_cons_zero, List.set_cons_succ])
          | (apply wv_call rfl; (focus (intro w; go_simp; first | done | exact ⟨rfl, rfl⟩)); (focus (intro w h; apply cls_call h; fail)); simp only [Act.put, List.setIfInBounds_toArray, List.set_cons_zero, List.set_cons_succ]))
        refine wv_nil ?_
        simp only [List.drop_succ_cons, List.drop_zero]
        intro w5 ⟨hO5, hS5⟩
        clear hO l4
        refine own_copy_str (new := (srow (over (appAll byt (selP (cs.take k) l)) o.toNat c.p.dat.data.toList) (.slice (some ad) cs.length cap) next).toList) (k := 4) (g := p) (off := o.toNat) (cur := srow (appAll byt (selP (cs.take k) l)) (.slice (some ad) cs.length cap) next) (t := 72) rfl rfl rfl rfl Try.underlying22 sz_u8 hO5 rfl HO.out.2.2 ?_ (srow_str HLN.out HO.out.2.1) ?_
        · rw [srow_size _ _ _ HLN.out]; have := HO.out; omega
        intro w6 hO hS6
        clear hO5
        have hO : Own w6 (owns 68 1 u2 ((leftC (cs.take k) l).map Cl.ptr).length ((leftC (cs.take k) l).map Cl.ptr) :: pts bin (.cells #[.slice (some ⟨g, 0, none⟩) cs.length cs.length] 74) :: pts g (.cells (bls (inOf cs l)).toArray 4) :: pts bs (.cells #[.pointer (some ⟨p, 0, none⟩)] 25) :: (stkL p (.slice (some ad) cs.length cap) cs (over (appAll byt (selP (cs.take k) l)) o.toNat c.p.dat.data.toList) next ++ R)) := hO
        go_wp2
        go_roundw
        case rel => exact ⟨k + 1, by omega, by go_num, by
          rw [left_no HC.out HE1.out, sel_yes HC.out HE1.out, appAll_snoc]
          have e : app (appAll byt (selP (cs.take k) l)) c.p = over (appAll byt (selP (cs.take k) l)) o.toNat c.p.dat.data.toList := by rw [← HO.out.1]; rfl
          rw [e]
          exact hO, hS.trans (hS5.trans hS6)⟩
        case measure => simp [intOf]; omega
    · have hke : k = cs.length := by omega
      subst hke
      rw [List.take_length, List.length_map] at hO
      rw [List.take_length] at HLN
      obtain ⟨A2, c2, rfl⟩ := (owns_rd hO).slice
      go_wp2_with (first | (refine own_load1 (b := bs) (off := 0) (cs := #[.pointer (some ⟨p, 0, none⟩)]) (t := 25) (v := .pointer (some ⟨p, 0, none⟩)) rfl rfl rfl row_sptr (own_get 3 hO rfl) rfl ?_) | (refine own_store1 (k := 4) (b := p) (off := 32) (cs := srow (appAll byt (selP cs l)) (.slice A cs.length cap) next) (cs' := srow (appAll byt (selP cs l)) (.slice A2 (leftC cs l).length c2) next) rfl rfl rfl rfl sz_cells hO rfl rfl (by rw [srow_size _ _ _ HLN.out]; omega) (srow_setv _ _ _ _ HLN.out) ?_; clear hO; intro w6 hO hS6; simp only [List.set_cons_zero, List.set_cons_succ] at hO))
      refine bodyPost_ret (results_none rfl _ _ _) rfl ⟨.slice A2 (leftC cs l).length c2, rfl, ?_, hS.trans hS6⟩
      have h1 := own_perm hO (List.perm_middle (l₁ := [pts bin (.cells #[.slice (some ⟨g, 0, none⟩) cs.length cs.length] 74), pts g (.cells (bls (inOf cs l)).toArray 4), pts bs (.cells #[.pointer (some ⟨p, 0, none⟩)] 25), pts p (.cells (srow (appAll byt (selP cs l)) (.slice A2 (leftC cs l).length c2) next) 72)]) (a := owns 68 1 (.slice A2 (leftC cs l).length c2) (leftC cs l).length ((leftC cs l).map Cl.ptr)) (l₂ := owns 68 1 (.slice A cs.length cap) cs.length (cs.map Cl.ptr) :: ((cellL cs ++ undL cs) ++ R))).symm
      refine own_three.2 (own_sub h1 ?_)
      refine .cons_cons _ (.cons_cons _ (.cons_cons _ (.cons_cons _ (.cons_cons _ (.cons _ ?_)))))
      exact List.Sublist.append (List.Sublist.append (List.filter_sublist.map _) (List.filter_sublist.map _)) (List.Sublist.refl _)
/-- What is left on. -/
def leftL (l : List On) (s : List Int) : List On := l.filter fun o => !s.contains (o.n : Int)
def Stk.settled (m : Stk) (s : List Int) : Stk := ⟨appAll m.base (selL m.l s), leftL m.l s, m.next⟩
theorem left_on {cs : List Cl} {l : List On} {s : List Int} (h : cs.map Cl.on = l) : (leftC cs s).map Cl.on = leftL l s := by
  subst h
  unfold leftC leftL
  rw [List.filter_map]
  rfl
theorem settle_bare (w : World) (L : List HP) (p bs bin g : Nat) (v : Value) (cs : List Cl) (base : List UInt8) (next : Nat) (l : List Int) (hP : Piled base cs)
    (hO : Own w (pts bin (.cells #[.slice (some ⟨g, 0, none⟩) cs.length cs.length] 74) :: pts g (.cells (bls (inOf cs l)).toArray 4) :: pts bs (.cells #[.pointer (some ⟨p, 0, none⟩)] 25) :: (stkL p v cs (appAll base (cs.map Cl.p)) next ++ L))) :
    Calls Try.prog 37 #[.pointer (some ⟨p, 0, none⟩), .int .i64 0, .func (.func 43) #[] #[.pointer (some ⟨bs, 0, none⟩), .pointer (some ⟨bin, 0, none⟩)]] w
      (RetX w (fun _ => .tuple #[]) (fun y : Value × List Cl => pur (y.2.map Cl.on = (leftC cs l).map Cl.on ∧ y.2.map Cl.und = unders (appAll base (selP cs l)) ((leftC cs l).map Cl.p)) :: (stkL p y.1 y.2 (appAll (appAll base (selP cs l)) ((leftC cs l).map Cl.p)) next ++ L))) := by
  have hlr : ∀ c ∈ leftC cs l, rightB c.p = true := fun c hc => hP.right c (List.mem_filter.1 hc).1
  have hll : (leftC cs l).length ≤ 200 := Nat.le_trans (List.length_filter_le _ _) hP.len
  have hbl : (appAll base (selP cs l)).length = 32 := appAll_length _ _ hP.base (sel_right hP.right l)
  have hb := bare_c (α := Value) (fun lv => lv) (fun _ => leftC cs l) (fun _ => appAll base (selP cs l)) (fun _ => pts bin (.cells #[.slice (some ⟨g, 0, none⟩) cs.length cs.length] 74) :: pts g (.cells (bls (inOf cs l)).toArray 4) :: pts bs (.cells #[.pointer (some ⟨p, 0, none⟩)] 25) :: L) w (pts bin (.cells #[.slice (some ⟨g, 0, none⟩) cs.length cs.length] 74) :: pts g (.cells (bls (inOf cs l)).toArray 4) :: pts bs (.cells #[.pointer (some ⟨p, 0, none⟩)] 25) :: L) p 0 v cs base next 43 #[.pointer (some ⟨bs, 0, none⟩), .pointer (some ⟨bin, 0, none⟩)] (own_three.2 hO) (Nat.zero_le _) hP
    (fun w' F h' => settle1_c w' (L ++ F) p bs bin g v cs base next l h' hP.base hP.right hP.len) (fun w' => by simp [go_sem, callFunc]; rfl) (fun _ _ _ _ => ⟨hbl, hlr, hll⟩)
  refine hb.mono ?_
  rintro e w' ⟨⟨lv, cs'⟩, rfl, hO', hS⟩
  rw [own_pur] at hO'
  obtain ⟨hre, hO'⟩ := hO'
  have hre' := relaid_all (n := (leftC cs l).length) (by simpa using hre) rfl
  simp only [Nat.zero_min, List.drop_zero] at hO'
  exact ⟨(lv, cs'), rfl, own_pur.2 ⟨hre', own_drop (own_drop (own_drop (own_three.1 hO')))⟩, hS⟩
section
variable (w : World) (L : List HP) (p : Nat) (m : Stk) (sv : Value) (l : List Int)
set_option maxHeartbeats 1600000 in
theorem settle_no (hO : Own w (stk p m :: L)) (hk : m.Ok) (hs : ∀ w', Own w' L → Rd w' 1 sv l.length (ints l)) (hl : ∀ x ∈ l, i64 x) (e : Int) (he : (OutL m.l l ∧ e = 2) ∨ (¬ OutL m.l l ∧ BusyL m.l l ∧ e = 12)) :
    Calls Try.prog 22 #[.pointer (some ⟨p, 0, none⟩), sv] w (Ret w (.int .i64 e) (stk p m :: L)) := by
  obtain ⟨v, cs, hrep, hO⟩ := stk_open.1 hO
  have HREP := Lib.hid hrep
  have HK := Lib.hid hk
  have HS := Lib.hid hs
  have HL := Lib.hid hl
  rcases he with ⟨h1, rfl⟩ | ⟨h1, h2, rfl⟩
  · have HOUT := Lib.hid ((out_iff hrep.on).2 h1)
    clear hrep hk hs hl h1
    go_enter Try.func22, Try.ntmps22
    go_wp2_with (first | (refine own_box (x := .tmp 0) (cs := #[.pointer (some ⟨p, 0, none⟩)]) rfl rfl rfl rfl hO ?_; clear hO; intro bs w1 hO hS1) | (refine own_alloc (T := 74) (cs := #[.slice none 0 0]) rfl rfl zero_bls rfl hO ?_; clear hO; intro bin w4 hO hS4) | (refine own_load1 (b := bs) (off := 0) (cs := #[.pointer (some ⟨p, 0, none⟩)]) (t := 25) (v := .pointer (some ⟨p, 0, none⟩)) rfl rfl rfl row_sptr (own_get 0 hO rfl) rfl ?_) | (go_at_call 36; refine (chosen_out _ _ p v cs m.bytes m.next sv l hO (fun w' h => stkAt_of (own_drop h)) (HREP.out.csok HK.out) (fun w' h => HS.out w' (own_drops (own_drop h))) HL.out HOUT.out).mono ?_; clear hO; rintro e w3 ⟨rfl, hO, hS3⟩) | (refine own_store1 (k := 0) (b := bin) (off := 0) (cs := #[.slice none 0 0]) (cs' := #[.slice none 0 0]) rfl rfl rfl rfl sz_bls hO rfl rfl (by simp) rfl ?_; clear hO; intro w5 hO hS5; simp only [List.set_cons_zero, List.set_cons_succ] at hO))
    go_ret
    exact ⟨rfl, stk_open.2 ⟨v, cs, HREP.out, own_drop (own_drop hO)⟩, hS1.trans (hS3.trans (hS4.trans hS5))⟩
  · have HOUT := Lib.hid (fun h => h1 ((out_iff hrep.on).1 h))
    have HBUSY := Lib.hid ((busy_iff hrep.on).2 h2)
    clear hrep hk hs hl h1 h2
    go_enter Try.func22, Try.ntmps22
    go_wp2_with (first | (refine own_box (x := .tmp 0) (cs := #[.pointer (some ⟨p, 0, none⟩)]) rfl rfl rfl rfl hO ?_; clear hO; intro bs w1 hO hS1) | (refine own_alloc (T := 74) (cs := #[.slice none 0 0]) rfl rfl zero_bls rfl hO ?_; clear hO; intro bin w4 hO hS4) | (refine own_load1 (b := bs) (off := 0) (cs := #[.pointer (some ⟨p, 0, none⟩)]) (t := 25) (v := .pointer (some ⟨p, 0, none⟩)) rfl rfl rfl row_sptr (own_get 0 hO rfl) rfl ?_) | (go_at_call 36; refine (chosen_busy _ _ p v cs m.bytes m.next sv l hO (fun w' h => stkAt_of (own_drop h)) (HREP.out.csok HK.out) (fun w' h => HS.out w' (own_drops (own_drop h))) HL.out HOUT.out HBUSY.out).mono ?_; clear hO; rintro e w3 ⟨rfl, hO, hS3⟩) | (refine own_store1 (k := 0) (b := bin) (off := 0) (cs := #[.slice none 0 0]) (cs' := #[.slice none 0 0]) rfl rfl rfl rfl sz_bls hO rfl rfl (by simp) rfl ?_; clear hO; intro w5 hO hS5; simp only [List.set_cons_zero, List.set_cons_succ] at hO))
    go_ret
    exact ⟨rfl, stk_open.2 ⟨v, cs, HREP.out, own_drop (own_drop hO)⟩, hS1.trans (hS3.trans (hS4.trans hS5))⟩
set_option maxHeartbeats 1600000 in
theorem settle_ok (hO : Own w (stk p m :: L)) (hk : m.Ok) (hs : ∀ w', Own w' L → Rd w' 1 sv l.length (ints l)) (hl : ∀ x ∈ l, i64 x) (h1 : ¬ OutL m.l l) (h2 : ¬ BusyL m.l l) :
    Calls Try.prog 22 #[.pointer (some ⟨p, 0, none⟩), sv] w (Ret w (.int .i64 0) (stk p (m.settled l) :: L)) := by
  obtain ⟨v, cs, hrep, hO⟩ := stk_open.1 hO
  have HREP := Lib.hid hrep
  have HK := Lib.hid hk
  have HS := Lib.hid hs
  have HL := Lib.hid hl
  have HOUT := Lib.hid (fun h => h1 ((out_iff hrep.on).1 h))
  have HBUSY := Lib.hid (fun h => h2 ((busy_iff hrep.on).1 h))
  have HPI := Lib.hid (hrep.piled hk)
  have HBY := Lib.hid hrep.bytes
  have hmf : ∀ (fn : Fn) (first cap : Array Value) (w : World), (Instr.makeFunc fn first cap).run Try.prog w = .ok (.func fn first cap) w := fun _ _ _ _ => rfl
  have HMF := Lib.hid hmf
  clear hrep hk hs hl h1 h2 hmf
  go_enter Try.func22, Try.ntmps22
  go_wp2_with (first | (refine own_box (x := .tmp 0) (cs := #[.pointer (some ⟨p, 0, none⟩)]) rfl rfl rfl rfl hO ?_; clear hO; intro bs w1 hO hS1) | (refine own_alloc (T := 74) (cs := #[.slice none 0 0]) rfl rfl zero_bls rfl hO ?_; clear hO; intro bin w4 hO hS4) | (refine own_load1 (b := bs) (off := 0) (cs := #[.pointer (some ⟨p, 0, none⟩)]) (t := 25) (v := .pointer (some ⟨p, 0, none⟩)) rfl rfl rfl row_sptr (own_get 0 hO rfl) rfl ?_) | (refine own_load1 (b := bs) (off := 0) (cs := #[.pointer (some ⟨p, 0, none⟩)]) (t := 25) (v := .pointer (some ⟨p, 0, none⟩)) rfl rfl rfl row_sptr (own_get 2 hO rfl) rfl ?_) | (go_at_call 36; refine (chosen_ok _ _ p v cs m.bytes m.next sv l hO (fun w' h => stkAt_of (own_drop h)) (HREP.out.csok HK.out) (fun w' h => HS.out w' (own_drops (own_drop h))) HL.out HOUT.out HBUSY.out).mono ?_; clear hO; rintro e w3 ⟨g, rfl, hO, hS3⟩) | (refine own_store1 (k := 0) (b := bin) (off := 0) (cs := #[.slice none 0 0]) (cs' := #[.slice (some ⟨g, 0, none⟩) cs.length cs.length]) rfl rfl rfl rfl sz_bls hO rfl rfl (by simp) rfl ?_; clear hO; intro w5 hO hS5; simp only [List.set_cons_zero, List.set_cons_succ] at hO) | (go_at_call 37; refine (settle_bare _ L p bs bin g v cs m.base m.next l HPI.out (by rw [← HBY.out]; exact hO)).mono ?_; clear hO; rintro e w6 ⟨⟨lv, cs'⟩, rfl, hO, hS6⟩))
  go_ret
  refine ⟨rfl, ?_, hS1.trans (hS3.trans (hS4.trans (hS5.trans hS6)))⟩
  rw [own_pur] at hO
  have hon := hO.1.1.trans (left_on HREP.out.on)
  refine stk_open.2 ⟨lv, cs', ⟨hon, ?_⟩, ?_⟩
  · rw [hO.1.2, sel_eq HREP.out.on]
    show unders _ _ = unders _ ((leftL m.l l).map On.p)
    rw [← left_on HREP.out.on, List.map_map]; rfl
  · have e : (m.settled l).bytes = appAll (appAll m.base (selP cs l)) ((leftC cs l).map Cl.p) := by
      rw [sel_eq HREP.out.on]
      show appAll (appAll m.base (selL m.l l)) ((leftL m.l l).map On.p) = _
      rw [← left_on HREP.out.on, List.map_map]; rfl
    rw [e]
    exact hO.2
end
end Go.Proofs.Ytdcbfdepkbplbaa.H
set_option linter.unusedVariables false
set_option linter.unusedSimpArgs false
set_option maxRecDepth 100000
namespace Go.Proofs.Ytdcbfdepkbplbaa.H
open Go.RowKit
theorem out_nil (l : List On) : ¬ OutL l [] := fun ⟨x, hx, _⟩ => by cases hx
theorem busy_nil (l : List On) : ¬ BusyL l [] := fun ⟨i, k, _, c, d, _, _, h, _⟩ => by simp at h
theorem sel_nil (l : List On) : selL l [] = [] := by simp [selL]
theorem base_c (w : World) (L : List HP) (p : Nat) (m : Stk) (hO : Own w (stk p m :: L)) (hk : m.Ok) :
    Calls Try.prog 20 #[.pointer (some ⟨p, 0, none⟩)] w (RetX w (fun g => .slice (some ⟨g, 0, none⟩) 32 32) (fun g => stk p m :: pts g (.cells (bcs m.base).toArray 69) :: L)) := by
  have HK := Lib.hid hk
  have HE : Hid (appAll m.base (selL m.l []) = m.base) := by show _ = _; rw [sel_nil]; rfl
  clear hk
  go_enter Try.func20, Try.ntmps20
  go_wp2_with (go_at_call 17; refine (roll_ok _ L p m _ [] hO HK.out (fun w' h => rd_nil _ _) (fun x hx => by cases hx) (out_nil _) (busy_nil _)).mono ?_; clear hO; rintro e w5 ⟨g, rfl, hO, hS5⟩; rw [HE.out] at hO)
  go_ret
  exact ⟨g, rfl, hO, hS5⟩
theorem new_no (w : World) (L : List HP) (A : Option Addr) (n c : Nat) (hO : Own w L) (h : n ≠ 32) :
    Calls Try.prog 31 #[.slice A n c] w (Ret w (.pointer none) L) := by
  have e : ((n : Int) != 32) = true := by simp; omega
  clear h
  go_enter Try.func31, Try.ntmps31
  go_wp2
  go_ret
  exact ⟨rfl, hO, Same.refl _⟩
set_option maxHeartbeats 800000 in
theorem new_c (w : World) (L : List HP) (v : Value) (bs : List UInt8) (hO : Own w L) (hr : ∀ w', Own w' L → RdB w' v bs) (h32 : bs.length = 32) :
    Calls Try.prog 31 #[v] w (RetX w (fun p => .pointer (some ⟨p, 0, none⟩)) (fun p => stk p ⟨bs, [], 0⟩ :: L)) := by
  obtain ⟨A, c, rfl⟩ := (hr w hO).slice
  have e : ((bs.length : Int) != 32) = false := by simp; omega
  have HR := Lib.hid hr
  have HB : Hid (bs.length = 32) := h32
  clear hr h32
  go_enter Try.func31, Try.ntmps31
  go_wp2_with (first | (refine own_box_agg (cs := srow (List.replicate 32 0) (.slice none 0 0) 0) rfl rfl rfl hO ?_; clear hO; intro p w2 hO hS2) | (refine own_copy (n := bs.length) (m := bs.length) (xs := bcs bs) (new := (srow (over (List.replicate 32 0) 0 bs) (.slice none 0 0) 0).toList) (k := 0) (g := p) (off := 0) (cur := srow (List.replicate 32 0) (.slice none 0 0) 0) (t := 72) rfl rfl rfl rfl Try.underlying22 sz_u8 (HR.out _ (own_drop hO)) (bcs_one _) hO rfl ?_ ?_ ?_ ?_; (rw [HB.out]; rfl); (rw [srow_size _ _ _ (by simp), HB.out]; omega); (exact srow_put (by simp) (by rw [HB.out]; omega)); clear hO; intro w3 hO hS3; simp only [List.set_cons_zero, Array.toArray_toList] at hO))
  go_ret
  refine ⟨p, rfl, stk_open.2 ⟨.slice none 0 0, [], ⟨rfl, rfl⟩, ?_⟩, hS2.trans hS3⟩
  have e2 : over (List.replicate 32 (0 : UInt8)) 0 bs = bs := by
    unfold over
    rw [List.take_zero, List.nil_append, List.drop_of_length_le (by simp [HB.out]), List.append_nil]
  rw [e2] at hO
  show Own w3 (pts p _ :: owns _ 1 (.slice none 0 0) 0 [] :: L)
  exact own_perm (owns_nil hO) (List.Perm.swap _ _ _)
end Go.Proofs.Ytdcbfdepkbplbaa.H
