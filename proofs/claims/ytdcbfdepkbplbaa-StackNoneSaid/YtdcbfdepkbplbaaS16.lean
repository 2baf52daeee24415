/- What Squash does with the cells taken back. -/
import Derived.Test.YtdcbfdepkbplbaaS15
set_option linter.unusedVariables false
set_option linter.unusedSimpArgs false
set_option maxRecDepth 100000
namespace Go.Proofs.Ytdcbfdepkbplbaa.H
open Go.RowKit
def restX (v : Value) (n : Nat) (ps : List Value) (cs : List Cl) (j : Nat) : List HP :=
  owns 68 1 v n ps :: (cellL (cs.take j) ++ (cellL (cs.drop (j + 1)) ++ (undL (cs.take j) ++ undL (cs.drop (j + 1)))))
theorem restL_eq (v : Value) (n : Nat) (ps : List Value) (cs : List Cl) (j : Nat) (L : List HP) : restL v n ps cs j L = restX v n ps cs j ++ L := by simp [restL, restX, List.append_assoc]
/-- The cell with another patch. -/
def Cl.with (c : Cl) (q : Pat) : Cl := ⟨c.a, c.u, c.n, q, c.und⟩
theorem pat_one3 (x y : Int) (z : ByteArray) : ∀ u ∈ [Value.int .i64 x, .int .i64 y, .string z], u.oneCell' = true := by
  intro u hu
  simp at hu
  rcases hu with rfl | rfl | rfl <;> rfl
def patV (q : Pat) : Array Value := #[.int .i64 q.blk, .int .i64 q.off, .string q.dat]
theorem ptr_ones (cs : List Cl) (rest : List Value) : ∀ u ∈ (cs.map Cl.ptr ++ rest).take cs.length, u.oneCell' = true := by
  intro u hu
  rw [List.take_append_of_le_length (by simp), List.take_of_length_le (by simp)] at hu
  obtain ⟨c, _, rfl⟩ := List.mem_map.1 hu
  rfl
theorem del_take {ps rest : List Value} {k n : Nat} (hn : ps.length = n + 1) (hk : k ≤ n) : (delRow (ps ++ rest) k n).take n = ps.eraseIdx k := by
  unfold delRow
  rw [List.take_append_of_le_length (l₁ := ps) (by omega), List.take_append_of_le_length (l₁ := ps) (i := n + 1) (by omega), List.take_of_length_le (l := ps) (i := n + 1) (by omega)]
  have h1 : (ps.take k ++ ps.drop (k + 1)).length = n := by simp; omega
  rw [List.take_append_of_le_length (Nat.le_of_eq h1.symm), List.take_of_length_le (Nat.le_of_eq h1), List.eraseIdx_eq_take_drop_succ]
theorem del_size {cur : List Value} {k n : Nat} (hk : k ≤ n) (hn : n + 1 ≤ cur.length) : (delRow cur k n).length = cur.length := by
  simp [delRow]; omega
theorem pat_one' (q : Pat) : ∀ u ∈ (patV q).toList, u.oneCell' = true := pat_one3 q.blk q.off q.dat
theorem row_patch_put (c : Cl) (q : Pat) : c.row.toList.take 0 ++ (patV q).toList ++ c.row.toList.drop (0 + 3) = (c.with q).row.toList := rfl
theorem map_erase {α β : Type} (f : α → β) (l : List α) (k : Nat) : (l.map f).eraseIdx k = (l.eraseIdx k).map f := by
  rw [List.eraseIdx_eq_take_drop_succ, List.eraseIdx_eq_take_drop_succ, List.map_append, List.map_take, List.map_drop]
theorem delete_j (w : World) (L : List HP) (g k cap i : Nat) (x : Int) (cur : List Value) (hO : Own w (pts g (.cells cur.toArray 68) :: L)) (hx : x = i + 1) (hi : i ≤ k) (hk : k + 1 ≤ cap) (hc : cur.length = cap) (hm : cap ≤ maxLen) (h200 : k ≤ 200) (hone : ∀ u ∈ cur.take (k + 1), u.oneCell' = true) :
    Calls Try.prog 42 #[.slice (some ⟨g, 0, none⟩) (k + 1) cap, .int .i64 i, .int .i64 x] w
      (Ret w (.slice (some ⟨g, 0, none⟩) k cap) (pts g (.cells (delRow cur i k).toArray 68) :: L)) := by
  subst hx
  exact delete_c w L g k cap i cur hO hi hk hc hm h200 hone
set_option maxHeartbeats 3200000 in
theorem squash1_c (w : World) (R : List HP) (p bj bl bs bk i k : Nat) (v : Value) (cs : List Cl) (byt : List UInt8) (next : Nat) (q : Pat) (c : Cl) (hO : Own w (stkL p v cs byt next ++ (pts bj (.cells (patV q) 33) :: pts bl (.cells #[.pointer (some ⟨c.a, 0, none⟩)] 68) :: pts bs (.cells #[.pointer (some ⟨p, 0, none⟩)] 25) :: pts bk (.cells #[.int .i64 k] 3) :: R))) (hc : cs[i]? = some c) (hk : k < cs.length) (hb : byt.length = 32) (hlen : cs.length ≤ 200) :
    Calls Try.prog 41 #[.pointer (some ⟨bj, 0, none⟩), .pointer (some ⟨bl, 0, none⟩), .pointer (some ⟨bs, 0, none⟩), .pointer (some ⟨bk, 0, none⟩)] w
      (RetX w (fun _ => .tuple #[]) (fun v' => stkL p v' ((cs.set i (c.with q)).eraseIdx k) byt next ++ (pts bj (.cells (patV q) 33) :: pts bl (.cells #[.pointer (some ⟨c.a, 0, none⟩)] 68) :: pts bs (.cells #[.pointer (some ⟨p, 0, none⟩)] 25) :: pts bk (.cells #[.int .i64 k] 3) :: R))) := by
  have HB : Hid (byt.length = 32) := hb
  have HC := Lib.hid hc
  have h1 := cell_out hc hO
  rw [restL_eq] at h1
  have hO := (own_four (S := pts p (.cells (srow byt v next) 72) :: pts c.a (.cells c.row 67) :: owns 5 1 c.u c.und.length (bcs c.und) :: restX v cs.length (cs.map Cl.ptr) cs i)).1 h1
  clear hb hc h1
  go_enter Try.func41, Try.ntmps41
  go_upto_region 1 with (first | (refine own_load1 (b := bl) (off := 0) (cs := #[.pointer (some ⟨c.a, 0, none⟩)]) (t := 68) (v := .pointer (some ⟨c.a, 0, none⟩)) rfl rfl rfl row_ptr (own_get 1 hO rfl) rfl ?_) | (refine own_loadrow (b := bj) (off := 0) (cs := patV q) (t := 33) (vs := [.int .i64 q.blk, .int .i64 q.off, .string q.dat]) rfl rfl rfl row_pat sz_pat (own_get 0 hO rfl) (by simp [patV]) rfl ?_) | (refine own_store (k := 5) (off := 0) (b := c.a) (cs := c.row) (vs := (patV q).toList) (new := (c.with q).row.toList) rfl rfl rfl rfl sz_pat hO rfl rfl rfl (fun u hu => pat_one' q u hu) (by simp [Cl.row]) (row_patch_put c q) ?_; clear hO; intro w3 hO hS3; simp only [List.set_cons_zero, List.set_cons_succ, Array.toArray_toList] at hO))
  have h2 := cell_in (c' := c.with q) HC.out rfl (by rw [restL_eq]; exact (own_four (S := pts p (.cells (srow byt v next) 72) :: pts c.a (.cells (c.with q).row 67) :: owns 5 1 c.u c.und.length (bcs c.und) :: restX v cs.length (cs.map Cl.ptr) cs i)).2 hO)
  clear hO
  obtain ⟨ds, hds⟩ : ∃ ds, ds = cs.set i (c.with q) := ⟨_, rfl⟩
  rw [← hds] at h2
  have hdl : ds.length = cs.length := by rw [hds]; simp
  obtain ⟨n, hn⟩ : ∃ n, ds.length = n + 1 := ⟨ds.length - 1, by omega⟩
  have h3 := own_perm h2 (List.Perm.swap _ _ _)
  obtain ⟨g, cap, rest, hv, hle, hmx, hsz, hl1, h4⟩ := owns_open h3 (by
    intro e
    have h5 := owns_row h3
    rw [e] at h5
    rcases h5.2 with ⟨e1, _⟩ | ⟨g, cap, cur, e1, _⟩
    · omega
    · cases e1)
  subst hv
  rw [hn] at h4
  have hO := (own_four (S := pts g (.cells (ds.map Cl.ptr ++ rest).toArray 68) :: pts p (.cells (srow byt (.slice (some ⟨g, 0, none⟩) (n + 1) cap) next) 72) :: (cellL ds ++ undL ds))).1 (by simpa [List.append_assoc] using h4)
  have hO : Own w3 (pts bj (.cells (patV q) 33) :: pts bl (.cells #[.pointer (some ⟨c.a, 0, none⟩)] 68) :: pts bs (.cells #[.pointer (some ⟨p, 0, none⟩)] 25) :: pts bk (.cells #[.int .i64 k] 3) :: pts g (.cells (ds.map Cl.ptr ++ rest).toArray 68) :: pts p (.cells (srow byt (.slice (some ⟨g, 0, none⟩) (n + 1) cap) next) 72) :: ((cellL ds ++ undL ds) ++ R)) := by simpa [List.append_assoc] using hO
  clear h2 h3 h4
  have HX : Hid (n + 1 ≤ cap ∧ cap ≤ maxLen ∧ (ds.map Cl.ptr ++ rest).length = cap ∧ k ≤ n ∧ n ≤ 200 ∧ ds.length = n + 1) := ⟨by omega, hmx, by simpa using hsz, by omega, by omega, hn⟩
  have HDS := Lib.hid hds
  have hkw : IntKind.i64.wrap ((k : Int) + 1) = ((k + 1 : Nat) : Int) := by rw [IntKind.wrap_i64] <;> omega
  clear hds hdl hn hle hmx hsz hl1
  refine wp_region_mix (Cls w3 (pts bj (.cells (patV q) 33) :: pts bl (.cells #[.pointer (some ⟨c.a, 0, none⟩)] 68) :: pts bs (.cells #[.pointer (some ⟨p, 0, none⟩)] 25) :: pts bk (.cells #[.int .i64 k] 3) :: pts g (.cells (ds.map Cl.ptr ++ rest).toArray 68) :: pts p (.cells (srow byt (.slice (some ⟨g, 0, none⟩) (n + 1) cap) next) 72) :: ((cellL ds ++ undL ds) ++ R))) (Cls w3 ([pts bs (.cells #[.pointer (some ⟨p, 0, none⟩)] 25)])) 8 19 [0] mixed (by kernel_rfl) rfl (cls_drew hO) (fun w h => ⟨(fun h => own_sub h (.cons _ (.cons _ (.cons_cons _ (List.nil_sublist _))))) h.1, h.2⟩) (fun _ _ _ _ hd h => ⟨hd ▸ h.1, h.2⟩) ?_
  simp only [List.take_succ_cons, List.take_zero]
  repeat (first
    | (refine wm_load1 (b := bs) (off := 0) (cs := #[.pointer (some ⟨p, 0, none⟩)]) (t := 25) (v := .pointer (some ⟨p, 0, none⟩)) rfl rfl rfl rfl row_sptr (fun w h => own_get 0 h.1 rfl) rfl ?_; simp only [Act.put, List.setIfInBounds_toArray, List.set_cons_zero, List.set_cons_succ])
    | (refine wm_run rfl rfl (by intro w h; go_simp; first | done | rfl) ?_; simp only [Act.put, List.setIfInBounds_toArray, List.set_cons_zero, List.set_cons_succ])
    | (refine wm_val rfl ?_; (first
      | (apply wv_skip rfl; simp only [Act.put, List.setIfInBounds_toArray, List.set_cons_zero, List.set_cons_succ])
      | (refine wv_load1 (b := bs) (cs := #[.pointer (some ⟨p, 0, none⟩)]) (t := 25) (v := .pointer (some ⟨p, 0, none⟩)) rfl rfl rfl row_sptr (fun w h => own_get 2 h.1 rfl) rfl ?_; simp only [Act.put, List.setIfInBounds_toArray, List.set_cons_zero, List.set_cons_succ])
      | (refine wv_load1 (b := p) (cs := srow byt (.slice (some ⟨g, 0, none⟩) (n + 1) cap) next) (t := 72) (off := 32) (v := (.slice (some ⟨g, 0, none⟩) (n + 1) cap)) rfl rfl rfl row_cells (fun w h => own_get 5 h.1 rfl) (srow_v _ _ _ HB.out) ?_; simp only [Act.put, List.setIfInBounds_toArray, List.set_cons_zero, List.set_cons_succ])
      | (refine wv_load1 (b := bk) (cs := #[.int .i64 k]) (t := 3) (v := .int .i64 k) rfl rfl rfl row_int (fun w h => own_get 3 h.1 rfl) rfl ?_; simp only [Act.put, List.setIfInBounds_toArray, List.set_cons_zero, List.set_cons_succ])
      | (apply wv_load1 rfl rfl rfl; (first | exact row_int | exact row_str | exact row_bool | exact row_u8 | exact row_bys | exact row_pats | exact row_err); (intro w h; (first | exact own_get 0 h.1 rfl | exact own_get 1 h.1 rfl | exact own_get 2 h.1 rfl | exact own_get 3 h.1 rfl | exact own_get 4 h.1 rfl | exact own_get 5 h.1 rfl | exact own_get 6 h.1 rfl | exact own_get 7 h.1 rfl)); (first | (simp only [List.getElem?_toArray, List.getElem?_cons_succ, List.getElem?_cons_zero]; rfl) | rfl); simp only [Act.put, List.setIfInBounds_toArray, List.set_cons_zero, List.set_cons_succ])
      | (apply wv_loadrow rfl rfl rfl; (first | exact row_pat); exact sz_pat; (intro w h; (first | exact own_get 0 h.1 rfl | exact own_get 1 h.1 rfl | exact own_get 2 h.1 rfl | exact own_get 3 h.1 rfl | exact own_get 4 h.1 rfl | exact own_get 5 h.1 rfl | exact own_get 6 h.1 rfl | exact own_get 7 h.1 rfl)); (focus (simp; done)); (first | (simp only [List.drop_zero, List.drop_succ_cons, List.take_succ_cons, List.take_zero]; rfl) | rfl); simp only [Act.put, List.setIfInBounds_toArray, List.set_cons_zero, List.set_cons_succ])
      | (apply wv_run rfl; (focus (intro w h; go_simp; first | done | rfl)); simp only [Act.put, List.setIfInBounds_toArray, List.set_cons_zero, List.set_cons_succ])
      | (apply wv_call rfl; (focus (intro w; go_simp; first | done | exact ⟨rfl, rfl⟩)); (focus (intro w h; apply cls_call h; fail)); simp only [Act.put, List.setIfInBounds_toArray, List.set_cons_zero, List.set_cons_succ])); refine wv_nil ?_))
  refine wm_nil ?_
  simp only [List.drop_succ_cons, List.drop_zero]
  intro w5 ⟨hO5, hS5⟩
  clear hO
  apply wk_call ⟨own_sub hO5 (.cons _ (.cons _ (.cons_cons _ (List.nil_sublist _)))), hS5⟩ rfl
  focus (go_simp; first | done | exact ⟨rfl, rfl⟩)
  refine (delete_j w5 _ g n cap k _ (ds.map Cl.ptr ++ rest) (own_at hO5 (k := 4) rfl) (by simp) HX.out.2.2.2.1 HX.out.1 HX.out.2.2.1 HX.out.2.1 HX.out.2.2.2.2.1 (by rw [← HX.out.2.2.2.2.2]; exact ptr_ones ds rest)).mono ?_
  rintro e w6 ⟨rfl, hO6, hS6⟩
  clear hO5
  refine ⟨_, rfl, ?_⟩
  simp only [Act.put, List.setIfInBounds_toArray, List.set_cons_zero, List.set_cons_succ]
  have hK : Cls w3 [pts bs (.cells #[.pointer (some ⟨p, 0, none⟩)] 25)] w6 := ⟨own_sub hO6 (.cons _ (.cons _ (.cons _ (.cons_cons _ (List.nil_sublist _))))), hS5.trans hS6⟩
  refine wk_run hK rfl (by go_simp; first | done | rfl) ?_
  simp only [Act.put, List.setIfInBounds_toArray, List.set_cons_zero, List.set_cons_succ]
  refine wk_run hK rfl (by go_simp; first | done | rfl) ?_
  simp only [Act.put, List.setIfInBounds_toArray, List.set_cons_zero, List.set_cons_succ]
  refine wk_last hK ?_
  refine own_store1 (k := 5) (b := p) (off := 32) (cs := srow byt (.slice (some ⟨g, 0, none⟩) (n + 1) cap) next) (cs' := srow byt (.slice (some ⟨g, 0, none⟩) n cap) next) rfl rfl rfl rfl sz_cells hO6 rfl rfl (by rw [srow_size _ _ _ HB.out]; omega) (srow_setv _ _ _ _ HB.out) ?_
  intro w7 hO7 hS7
  simp only [List.set_cons_zero, List.set_cons_succ] at hO7
  clear hO6 hK
  go_wp2
  refine bodyPost_ret (results_none rfl _ _ _) rfl ⟨.slice (some ⟨g, 0, none⟩) n cap, rfl, ?_, hS3.trans (hS5.trans (hS6.trans hS7))⟩
  rw [← HDS.out]
  have hx := HX.out
  have hdn : (ds.eraseIdx k).length = n := by rw [List.length_eraseIdx_of_lt (by omega)]; omega
  have hO8 := owns_of_pts (e := 68) (size := 1) (n := n) (cap := cap) (xs := (ds.map Cl.ptr).eraseIdx k) hO7 (by rw [List.size_toArray, del_size hx.2.2.2.1 (by omega)]; omega) (by omega) hx.2.1 (by rw [List.toList_toArray, Nat.mul_one]; exact del_take (by rw [List.length_map]; omega) hx.2.2.2.1)
  refine own_four.2 ?_
  unfold stkL
  rw [hdn, ← map_erase]
  have hp : ∀ {A B C D E F : HP} {S : List HP}, (E :: A :: B :: C :: D :: F :: S).Perm (A :: B :: C :: D :: F :: E :: S) := fun {A B C D E F S} => (List.perm_middle (l₁ := [A, B, C, D, F]) (a := E) (l₂ := S)).symm
  refine own_sub (own_perm hO8 hp) (.cons_cons _ (.cons_cons _ (.cons_cons _ (.cons_cons _ (.cons_cons _ (.cons_cons _ ?_))))))
  exact List.Sublist.append (List.Sublist.append ((List.eraseIdx_sublist _ _).map _) ((List.eraseIdx_sublist _ _).map _)) (List.Sublist.refl _)
end Go.Proofs.Ytdcbfdepkbplbaa.H
