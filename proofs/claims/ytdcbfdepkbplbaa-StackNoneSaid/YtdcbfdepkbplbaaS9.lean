/- Contracts of Roll and Base. -/
import Derived.Test.YtdcbfdepkbplbaaS7
import Derived.Test.YtdcbfdepkbplbaaS8
set_option linter.unusedVariables false
set_option linter.unusedSimpArgs false
set_option maxRecDepth 100000
namespace Go.Proofs.Ytdcbfdepkbplbaa.H
open Go.RowKit
theorem row_blk : isRowB Try.prog 69 = some true := by kernel_rfl
theorem sz_blk : (Try.prog.info? 69).map (·.size) = some 32 := by kernel_rfl
theorem row_bls : isRowB Try.prog 74 = some false := by kernel_rfl
theorem sz_bls : (Try.prog.info? 74).map (·.size) = some 1 := by kernel_rfl
theorem zero_bls : (Try.prog.info? 74).map (·.zero) = some (some (.slice none 0 0)) := by kernel_rfl
theorem zero_bys : (Try.prog.info? 22).map (·.zero) = some (some (.slice none 0 0)) := by kernel_rfl
/-- The patches of those that are among some. -/
def selP (cs : List Cl) (l : List Int) : List Pat := (cs.filter fun c => l.contains (c.n : Int)).map Cl.p
theorem sel_yes {cs : List Cl} {l : List Int} {k : Nat} {c : Cl} (hc : cs[k]? = some c) (h : l.contains (c.n : Int) = true) : selP (cs.take (k + 1)) l = selP (cs.take k) l ++ [c.p] := by
  obtain ⟨h1, h2⟩ := List.getElem?_eq_some_iff.1 hc
  unfold selP
  rw [List.take_succ_eq_append_getElem h1, h2, List.filter_append, List.map_append]
  simp only [List.filter_cons, h, if_true, List.filter_nil]
  rfl
theorem sel_no {cs : List Cl} {l : List Int} {k : Nat} {c : Cl} (hc : cs[k]? = some c) (h : l.contains (c.n : Int) = false) : selP (cs.take (k + 1)) l = selP (cs.take k) l := by
  obtain ⟨h1, h2⟩ := List.getElem?_eq_some_iff.1 hc
  unfold selP
  rw [List.take_succ_eq_append_getElem h1, h2, List.filter_append, List.map_append]
  simp only [List.filter_cons, h, List.filter_nil, Bool.false_eq_true, if_false, List.map_nil, List.append_nil]
theorem sel_right {cs : List Cl} (hr : ∀ c ∈ cs, rightB c.p = true) (l : List Int) : ∀ p ∈ selP cs l, rightB p = true := by
  intro p hp
  obtain ⟨c, hc, rfl⟩ := List.mem_map.1 hp
  exact hr c (List.mem_filter.1 hc).1
theorem srow_row {byt : List UInt8} {v : Value} {next : Nat} (hb : byt.length = 32) : ((srow byt v next).toList.drop 0).take 32 = bcs byt := by
  simp only [srow, List.drop_zero]
  rw [List.take_append_of_le_length (by rw [bcs_length]; omega), List.take_of_length_le (by rw [bcs_length]; omega)]
theorem own_four {w : World} {A B C D : HP} {S R : List HP} : Own w (S ++ (A :: B :: C :: D :: R)) ↔ Own w (A :: B :: C :: D :: (S ++ R)) :=
  ⟨fun h => own_perm h (List.perm_append_comm_assoc S [A, B, C, D] R), fun h => own_perm h (List.perm_append_comm_assoc S [A, B, C, D] R).symm⟩
set_option maxHeartbeats 3200000 in
theorem roll1_c (w : World) (R : List HP) (p bs bin bout g : Nat) (v : Value) (cs : List Cl) (byt : List UInt8) (next : Nat) (l : List Int) (ov : Value) (hO : Own w (stkL p v cs byt next ++ (pts bin (.cells #[.slice (some ⟨g, 0, none⟩) cs.length cs.length] 74) :: pts g (.cells (bls (inOf cs l)).toArray 4) :: pts bout (.cells #[ov] 22) :: pts bs (.cells #[.pointer (some ⟨p, 0, none⟩)] 25) :: R))) (hb : byt.length = 32) (hr : ∀ c ∈ cs, rightB c.p = true) (hlen : cs.length ≤ 200) :
    Calls Try.prog 38 #[.pointer (some ⟨bs, 0, none⟩), .pointer (some ⟨bin, 0, none⟩), .pointer (some ⟨bout, 0, none⟩)] w
      (RetX w (fun _ => .tuple #[]) (fun gb => stkL p v cs byt next ++ (pts bin (.cells #[.slice (some ⟨g, 0, none⟩) cs.length cs.length] 74) :: pts g (.cells (bls (inOf cs l)).toArray 4) :: pts bout (.cells #[.slice (some ⟨gb, 0, none⟩) 32 32] 22) :: pts bs (.cells #[.pointer (some ⟨p, 0, none⟩)] 25) :: pts gb (.cells (bcs (appAll byt (selP cs l))).toArray 69) :: R))) := by
  obtain ⟨A, cap, rfl⟩ := (stkAt_of hO).rd.slice
  have hmx := (stkAt_of hO).rd.max
  have HB : Hid (byt.length = 32) := hb
  have HR := Lib.hid hr
  have hO := own_four.1 hO
  clear hb hr
  go_enter Try.func38, Try.ntmps38
  go_wp2_with (first | (refine own_load1 (b := bs) (off := 0) (cs := #[.pointer (some ⟨p, 0, none⟩)]) (t := 25) (v := .pointer (some ⟨p, 0, none⟩)) rfl rfl rfl row_sptr (own_get 3 hO rfl) rfl ?_) | (refine own_load1 (b := bs) (off := 0) (cs := #[.pointer (some ⟨p, 0, none⟩)]) (t := 25) (v := .pointer (some ⟨p, 0, none⟩)) rfl rfl rfl row_sptr (own_get 4 hO rfl) rfl ?_) | (refine own_load1 (b := p) (off := 32) (cs := srow byt (.slice A cs.length cap) next) (t := 72) (v := .slice A cs.length cap) rfl rfl rfl row_cells (own_get 5 hO rfl) (srow_v _ _ _ HB.out) ?_) | (refine own_loadrow (b := p) (off := 0) (cs := srow byt (.slice A cs.length cap) next) (t := 72) (vs := bcs byt) rfl rfl rfl row_blk sz_blk (own_get 4 hO rfl) (by rw [srow_size _ _ _ HB.out]; omega) (srow_row HB.out) ?_) | (refine own_alloc rfl rfl zero_blk rfl hO ?_; clear hO; intro gb w3 hO hS3) | (refine own_store_all (k := 0) (cs := (bcs (List.replicate 32 0)).toArray) (vs := (bcs byt).toArray) rfl rfl rfl rfl sz_blk hO rfl (by simp [bcs_length, HB.out]) (by simp [bcs_length]) (by simpa using bcs_one byt) ?_; clear hO; intro w4 hO hS4; simp only [List.set_cons_zero] at hO))
  go_loopw [15] (fun i' wr => ∃ k : Nat, k ≤ cs.length ∧ i' = .int .i64 k ∧ Own wr (pts gb (.cells (bcs (appAll byt (selP (cs.take k) l))).toArray 69) :: pts bin (.cells #[.slice (some ⟨g, 0, none⟩) cs.length cs.length] 74) :: pts g (.cells (bls (inOf cs l)).toArray 4) :: pts bout (.cells #[ov] 22) :: pts bs (.cells #[.pointer (some ⟨p, 0, none⟩)] 25) :: (stkL p (.slice A cs.length cap) cs byt next ++ R)) ∧ Same w wr) (fun i' _ => cs.length - (intOf i').toNat)
  case atStart => exact ⟨0, Nat.zero_le _, rfl, hO, hS3.trans hS4⟩
  case round =>
    clear hO hS3 hS4
    obtain ⟨k, hk, rfl, hO, hS⟩ := hrel
    by_cases hlt : k < cs.length
    · obtain ⟨c, hc⟩ : ∃ c, cs[k]? = some c := ⟨_, List.getElem?_eq_getElem hlt⟩
      have HC := Lib.hid hc
      have hst := stkAt_of (own_drop (own_drop (own_drop (own_drop (own_drop hO)))))
      obtain ⟨ad, rfl⟩ := hst.rd.addr (by rw [List.length_map]; omega)
      have hcell := ptr_cell hst.rd hc
      have hk1 : (k : Int) < cs.length := by omega
      obtain ⟨B1, hB1⟩ : ∃ B1, l.contains (c.n : Int) = B1 := ⟨_, rfl⟩
      have HE1 := Lib.hid hB1
      have HB1 : Hid ((bls (inOf cs l)).toArray[k]? = some (.bool B1)) := by
        show _ = _
        rw [← hB1]
        simp only [bls, inOf, List.getElem?_toArray, List.getElem?_map, hc]
        rfl
      have HCR : Hid (∀ w' S, Own w' (stkL p (.slice (some ad) cs.length cap) cs byt next ++ S) → w'.heap[c.a]? = some (.cells c.row 67)) := fun w' S h => (stkAt_of h).cell _ _ HC.out
      obtain ⟨p1, p2, p3, p4, p5, p6⟩ := rightB_iff.1 (HR.out c (List.mem_of_getElem? hc))
      obtain ⟨o, ho⟩ : ∃ o, o = c.p.off := ⟨_, rfl⟩
      have l0 : 0 ≤ o := by omega
      have l1 : o ≤ 32 := by omega
      have l3 : Hid (¬ (32 = o.toNat)) := by show ¬ _; omega
      have HR1 : Hid (c.row[1]? = some (.int .i64 o)) := by show _ = _; rw [ho]; rfl
      have HO : Hid (c.p.off.toNat = o.toNat ∧ o.toNat + c.p.dat.size ≤ 32 ∧ c.p.dat.size ≤ 32 - o.toNat) := by show _ ∧ _; rw [← ho]; omega
      have HLN : Hid ((appAll byt (selP (cs.take k) l)).length = 32) := appAll_length _ _ HB.out (sel_right (fun c hc => HR.out c (List.mem_of_mem_take hc)) l)
      clear hc hst hB1 p1 p2 p3 p4 p5 p6 ho
      cases B1 with
      | false =>
        go_wp2_with (first | (refine own_load1 (b := bin) (off := 0) (cs := #[.slice (some ⟨g, 0, none⟩) cs.length cs.length]) (t := 74) (v := .slice (some ⟨g, 0, none⟩) cs.length cs.length) rfl rfl rfl row_bls (own_get 1 hO rfl) rfl ?_) | (refine own_load1 (b := g) (off := k) (cs := (bls (inOf cs l)).toArray) (t := 4) (v := .bool false) rfl rfl rfl row_b (own_get 2 hO rfl) HB1.out ?_))
        go_roundw
        case rel => exact ⟨k + 1, by omega, by go_num, by rw [sel_no HC.out HE1.out]; exact hO, hS⟩
        case measure => simp [intOf]; omega
      | true =>
        go_wp2_with (first | (refine own_load1 (b := bin) (off := 0) (cs := #[.slice (some ⟨g, 0, none⟩) cs.length cs.length]) (t := 74) (v := .slice (some ⟨g, 0, none⟩) cs.length cs.length) rfl rfl rfl row_bls (own_get 1 hO rfl) rfl ?_) | (refine own_load1 (b := g) (off := k) (cs := (bls (inOf cs l)).toArray) (t := 4) (v := .bool true) rfl rfl rfl row_b (own_get 2 hO rfl) HB1.out ?_))
        have l4 := l3.out
        refine wp_region_seq (Cls wr (pts gb (.cells (bcs (appAll byt (selP (cs.take k) l))).toArray 69) :: pts bin (.cells #[.slice (some ⟨g, 0, none⟩) cs.length cs.length] 74) :: pts g (.cells (bls (inOf cs l)).toArray 4) :: pts bout (.cells #[ov] 22) :: pts bs (.cells #[.pointer (some ⟨p, 0, none⟩)] 25) :: (stkL p (.slice (some ad) cs.length cap) cs byt next ++ R))) 11 38 mixed (by kernel_rfl) rfl (cls_drew hO) ?_
        simp only [List.take_succ_cons, List.take_zero]
        repeat (first
          | (apply wv_skip rfl; simp only [Act.put, List.setIfInBounds_toArray, List.set_cons_zero, List.set_cons_succ])
          | (refine wv_load1 (b := c.a) (cs := c.row) (t := 67) (v := .int .i64 o) rfl rfl rfl row_int (fun w h => HCR.out _ _ (own_drop (own_drop (own_drop (own_drop (own_drop h.1)))))) HR1.out ?_; simp only [Act.put, List.setIfInBounds_toArray, List.set_cons_zero, List.set_cons_succ])
          | (refine wv_load1 (b := c.a) (cs := c.row) (t := 67) (v := .string c.p.dat) rfl rfl rfl row_str (fun w h => HCR.out _ _ (own_drop (own_drop (own_drop (own_drop (own_drop h.1)))))) rfl ?_; simp only [Act.put, List.setIfInBounds_toArray, List.set_cons_zero, List.set_cons_succ])
          | (apply wv_load1 rfl rfl rfl; (first | exact row_int | exact row_str | exact row_bool | exact row_u8 | exact row_bys | exact row_pats | exact row_err); (intro w h; (first | exact own_get 0 h.1 rfl | exact own_get 1 h.1 rfl | exact own_get 2 h.1 rfl | exact own_get 3 h.1 rfl | exact own_get 4 h.1 rfl | exact own_get 5 h.1 rfl | exact own_get 6 h.1 rfl | exact own_get 7 h.1 rfl)); (first | (simp only [List.getElem?_toArray, List.getElem?_cons_succ, List.getElem?_cons_zero]; rfl) | rfl); simp only [Act.put, List.setIfInBounds_toArray, List.set_cons_zero, List.set_cons_succ])
          | (apply wv_loadrow rfl rfl rfl; (first | exact row_pat); exact sz_pat; (intro w h; (first | exact own_get 0 h.1 rfl | exact own_get 1 h.1 rfl | exact own_get 2 h.1 rfl | exact own_get 3 h.1 rfl | exact own_get 4 h.1 rfl | exact own_get 5 h.1 rfl | exact own_get 6 h.1 rfl | exact own_get 7 h.1 rfl)); (focus (simp; done)); (first | (simp only [List.drop_zero, List.drop_succ_cons, List.take_succ_cons, List.take_zero]; rfl) | rfl); simp only [Act.put, List.setIfInBounds_toArray, List.set_cons_zero, List.set_cons_succ])
          | (apply wv_run rfl; (focus (intro w h; go_simp; first | done | rfl)); simp only [Act.put, List.setIfInBounds_toArray, List.set_cons_zero, List.set_cons_succ])
          | (apply wv_call rfl; (focus (intro w; go_simp; first | done | exact ⟨rfl, rfl⟩)); (focus (intro w h; apply cls_call h; fail)); simp only [Act.put, List.setIfInBounds_toArray, List.set_cons_zero, List.set_cons_succ]))
        refine wv_nil ?_
        simp only [List.drop_succ_cons, List.drop_zero]
        intro w5 ⟨hO5, hS5⟩
        clear hO l4 hcell
        refine own_copy_str (new := bcs (over (appAll byt (selP (cs.take k) l)) o.toNat c.p.dat.data.toList)) (k := 0) (g := gb) (off := o.toNat) (cur := (bcs (appAll byt (selP (cs.take k) l))).toArray) (t := 69) rfl rfl rfl rfl Try.underlying22 sz_u8 hO5 rfl HO.out.2.2 ?_ (bcs_over _ _ _ (by rw [Array.length_toList]; rfl)) ?_
        · rw [List.size_toArray, bcs_length, HLN.out]; have := HO.out; omega
        intro w6 hO hS6
        clear hO5
        simp only [List.set_cons_zero] at hO
        go_wp2
        go_roundw
        case rel => exact ⟨k + 1, by omega, by go_num, by
          rw [sel_yes HC.out HE1.out, appAll_snoc]
          have e : app (appAll byt (selP (cs.take k) l)) c.p = over (appAll byt (selP (cs.take k) l)) o.toNat c.p.dat.data.toList := by rw [← HO.out.1]; rfl
          rw [e]
          exact hO, hS.trans (hS5.trans hS6)⟩
        case measure => simp [intOf]; omega
    · have hke : k = cs.length := by omega
      subst hke
      rw [List.take_length] at hO
      go_wp2_with (refine own_store1 (k := 3) (b := bout) (off := 0) (cs := #[ov]) (cs' := #[.slice (some ⟨gb, 0, none⟩) 32 32]) rfl rfl rfl rfl sz_bys hO rfl rfl (by simp) rfl ?_; clear hO; intro w6 hO hS6; simp only [List.set_cons_zero, List.set_cons_succ] at hO)
      refine bodyPost_ret (results_none rfl _ _ _) rfl ⟨gb, rfl, ?_, hS.trans hS6⟩
      have hp := (List.perm_append_comm_assoc [pts gb (.cells (bcs (appAll byt (selP cs l))).toArray 69), pts bin (.cells #[.slice (some ⟨g, 0, none⟩) cs.length cs.length] 74), pts g (.cells (bls (inOf cs l)).toArray 4), pts bout (.cells #[.slice (some ⟨gb, 0, none⟩) 32 32] 22), pts bs (.cells #[.pointer (some ⟨p, 0, none⟩)] 25)] (stkL p (.slice A cs.length cap) cs byt next) R).trans ((List.perm_middle (l₁ := [pts bin (.cells #[.slice (some ⟨g, 0, none⟩) cs.length cs.length] 74), pts g (.cells (bls (inOf cs l)).toArray 4), pts bout (.cells #[.slice (some ⟨gb, 0, none⟩) 32 32] 22), pts bs (.cells #[.pointer (some ⟨p, 0, none⟩)] 25)]) (l₂ := R)).symm.append_left _)
      exact own_perm hO hp
end Go.Proofs.Ytdcbfdepkbplbaa.H
