/- Contract of the reference's Diff. -/
import Derived.Test.YtefohmjllcnnkaaR11
import Derived.Test.YtefohmjllcnnkaaM7
import Derived.Laws.Concat
set_option linter.unusedVariables false
set_option linter.unusedSimpArgs false
set_option maxRecDepth 100000
namespace Go.Proofs.Ytefohmjllcnnkaa.H
open Go.RowKit
theorem sz_str : (Try.prog.info? 9).map (·.size) = some 1 := by kernel_rfl
/-- Which one of the reference's guards strikes. -/
theorem rdiff_enter {blk : Int} {n m : Nat} (h : ¬ (0 ≤ blk ∧ blk < 96 ∧ n = 32 ∧ m = 32)) :
    ((n : Int) != 32) = true ∨ (((n : Int) != 32) = false ∧ ((m : Int) != 32) = true) ∨ (((n : Int) != 32) = false ∧ ((m : Int) != 32) = false ∧ decide (blk < 0) = true) ∨ (((n : Int) != 32) = false ∧ ((m : Int) != 32) = false ∧ decide (blk < 0) = false ∧ decide (blk ≥ 96) = true) := by
  by_cases h1 : n = 32
  · by_cases h2 : m = 32
    · by_cases h3 : blk < 0
      · exact .inr (.inr (.inl ⟨by simp; omega, by simp; omega, by simp; omega⟩))
      · exact .inr (.inr (.inr ⟨by simp; omega, by simp; omega, by simp; omega, by simp; omega⟩))
    · exact .inr (.inl ⟨by simp; omega, by simp; omega⟩)
  · exact .inl (by simp; omega)
set_option maxHeartbeats 800000 in
theorem rdiff_no (w : World) (L : List HP) (A B : Option Addr) (n m c c' : Nat) (blk : Int) (hO : Own w L) (h : ¬ (0 ≤ blk ∧ blk < 96 ∧ n = 32 ∧ m = 32)) :
    Calls Try.prog 31 #[.int .i64 blk, .slice A n c, .slice B m c'] w (Ret w (.slice none 0 0) L) := by
  rcases rdiff_enter h with e1 | ⟨e1, e2⟩ | ⟨e1, e2, e3⟩ | ⟨e1, e2, e3, e4⟩
  all_goals
    clear h
    go_enter Try.func31, Try.ntmps31
    go_wp2
    go_ret
    exact ⟨rfl, hO, Same.refl _⟩
theorem wv_concat {P : Program} {ops : Array Oper} {C : World → Prop} {K : Act → Prop} {o : Oper} {ol : List Oper} {a : Act} {T T2 : TypeId} {x y : Operand} {s t : ByteArray} (hw : Region.wanted o (yielded ops a.tmps) = true) (ho : o.op = .binOp .add T x y T2) (hx : a.eval x = .string s) (hy : a.eval y = .string t)
    (hs : s.size + t.size ≤ 9223372036854775807) (h : wpVals P ops C K ol (a.put o.dst (.string (s ++ t)))) : wpVals P ops C K (o :: ol) a := by
  refine wv_run hw (fun w hC => ?_) h
  simp only [execOp, ho, hx, hy, eqGuard, binOp_string_add, Sem.run_bind, run_string_add_sum _ s t hs]
  rfl
def RDInv (L : List HP) (w0 : World) (blk : Int) (a b : List UInt8) (v : Value) (i : Nat) (wr : World) : Prop :=
  Own wr (owns 23 3 v (dP blk a b i).length (cellsP (dP blk a b i)) :: L) ∧ Same w0 wr
theorem take_one (bs : List UInt8) (k : Nat) (hlt : k < bs.length) : (bs.drop k).take 1 = [bs.getD k 0] := by
  rw [List.drop_eq_getElem_cons hlt, List.take_succ_cons, List.take_zero]
  simp [List.getD, List.getElem?_eq_getElem hlt]
theorem cut1 {L : List HP} {bs : List UInt8} {adb : Addr} {c k : Nat} (hr : ∀ w', Own w' L → RdB w' (.slice (some adb) bs.length c) bs) (hlt : k < bs.length) :
    ∀ w', Own w' L → Rd w' 1 (.slice (some (adb.add k)) 1 (c - k)) 1 (bcs [bs.getD k 0]) := fun w' h => by
  have h0 := (hr w' h)
  have hm := h0.max
  have h1 := h0.cut (lo := k) (k := 1) (c' := c - k) (by omega) (by omega) (by omega)
  rw [Nat.mul_one, Nat.mul_one, bcs_sub, take_one bs k hlt] at h1
  exact h1
def Opened (w : World) (L : List HP) (g : Nat) (ps : List Pat) (p : Pat) (rest : List Value) : Prop := Own w (pts g (.cells (cellsP (ps ++ [p]) ++ rest).toArray 23) :: L)
theorem opened {w : World} {L : List HP} {v : Value} {ps : List Pat} {p : Pat} (h : Own w (owns 23 3 v (ps ++ [p]).length (cellsP (ps ++ [p])) :: L)) :
    ∃ g cap, ∃ rest : List Value, v = .slice (some ⟨g, 0, none⟩) (ps.length + 1) cap ∧ ps.length + 1 ≤ cap ∧ cap ≤ maxLen ∧ (ps.length + 1) * 3 + rest.length = cap * 3 ∧ Opened w L g ps p rest := by
  obtain ⟨hl, hr⟩ := owns_row h
  have hv : v ≠ .slice none 0 0 := by
    rcases hr with ⟨_, e⟩ | ⟨g, cap, cur, rfl, _⟩
    · simp at e
    · simp
  obtain ⟨g, cap, rest, rfl, h1, h2, h3, h4, h5⟩ := owns_open h hv
  rw [List.length_append, cellsP_length] at h3
  rw [List.length_append] at h1 h3
  refine ⟨g, cap, rest, by rw [List.length_append]; rfl, h1, h2, h3, h5⟩
theorem opened_shut {w : World} {L : List HP} {g cap : Nat} {ps : List Pat} {p : Pat} {rest : List Value} {y : ByteArray} (h1 : ps.length + 1 ≤ cap) (h2 : cap ≤ maxLen) (h3 : (ps.length + 1) * 3 + rest.length = cap * 3)
    (h : Own w (pts g (.cells (cellsP (ps ++ [Pat.mk p.blk p.off y]) ++ rest).toArray 23) :: L)) :
    Own w (owns 23 3 (.slice (some ⟨g, 0, none⟩) (ps.length + 1) cap) (ps ++ [Pat.mk p.blk p.off y]).length (cellsP (ps ++ [Pat.mk p.blk p.off y])) :: L) := by
  rw [List.length_append]
  refine owns_of_pts h ?_ h1 h2 ?_
  · rw [List.size_toArray, List.length_append, cellsP_length, List.length_append]; exact h3
  · rw [List.toList_toArray, List.take_append_of_le_length (by rw [cellsP_length, List.length_append]; exact Nat.le_refl _), List.take_of_length_le (by rw [cellsP_length, List.length_append]; exact Nat.le_refl _)]
set_option maxHeartbeats 3200000 in
theorem rdiff_ok (w : World) (L : List HP) (va vb : Value) (blk : Int) (aa bs : List UInt8) (hO : Own w L) (ha : ∀ w', Own w' L → RdB w' va aa) (hb : ∀ w', Own w' L → RdB w' vb bs) (h0 : 0 ≤ blk) (h96 : blk < 96) (ha32 : aa.length = 32) (hb32 : bs.length = 32) :
    Calls Try.prog 31 #[.int .i64 blk, va, vb] w (RetX w (fun v => v) (fun v => owns 23 3 v (dP blk aa bs 32).length (cellsP (dP blk aa bs 32)) :: L)) := by
  obtain ⟨A, c, rfl⟩ := (ha w hO).slice
  obtain ⟨B, c', rfl⟩ := (hb w hO).slice
  obtain ⟨ada, rfl⟩ := (ha w hO).addr (by rw [bcs_length]; omega)
  obtain ⟨adb, rfl⟩ := (hb w hO).addr (by rw [bcs_length]; omega)
  have hm1 := (ha w hO).max
  have hm2 := (hb w hO).max
  have e1 : decide (blk < 0) = false := by simp; omega
  have e2 : decide (blk ≥ 96) = false := by simp; omega
  have e3 : ((aa.length : Int) != 32) = false := by simp; omega
  have e4 : ((bs.length : Int) != 32) = false := by simp; omega
  have HA := Lib.hid ha
  have HB := Lib.hid hb
  have HA32 : Hid (aa.length = 32) := ha32
  have HB32 : Hid (bs.length = 32) := hb32
  clear ha hb ha32 hb32
  go_enter Try.func31, Try.ntmps31
  go_wp2
  go_loopw [7, 8] (fun v i wr => ∃ k : Nat, k ≤ 32 ∧ i = .int .i64 k ∧ RDInv L w blk aa bs v k wr) (fun _ i _ => 32 - (intOf i).toNat)
  case atStart => exact ⟨0, Nat.zero_le _, rfl, by simp only [dP]; exact owns_nil hO, Same.refl _⟩
  case round =>
    clear hO
    obtain ⟨k, hk, rfl, hO, hS⟩ := hrel
    by_cases hlt : k < 32
    · have hlen1 := HA32.out
      have hlen2 := HB32.out
      have hca := rdB_cell (k := k) HA.out (by omega)
      have hcb := rdB_cell (k := k) HB.out (by omega)
      obtain ⟨xa, hxa⟩ : ∃ x, aa.getD k 0 = x := ⟨_, rfl⟩
      obtain ⟨xb, hxb⟩ : ∃ x, bs.getD k 0 = x := ⟨_, rfl⟩
      rw [hxa] at hca
      rw [hxb] at hcb
      have HCA := Lib.hid hca
      have HCB := Lib.hid hcb
      have HXB : Hid (bs.getD k 0 = xb) := hxb
      have m1 : (k : Int) < aa.length := by omega
      have m2 : (k : Int) < bs.length := by omega
      clear hlen1 hlen2
      cases hdif : dif aa bs k with
      | false =>
        have m3 : ((xa.toNat : Int) == (xb.toNat : Int)) = true := by
          simp only [dif, bne_eq_false_iff_eq, hxa, hxb] at hdif ⊢
          rw [hdif]; simp
        have HDK := Lib.hid hdif
        clear hdif hxa hxb hca hcb
        go_wp2
        refine wp_region_seq (Cls wr (owns 23 3 u7 (dP blk aa bs k).length (cellsP (dP blk aa bs k)) :: L)) 9 82 mixed (by kernel_rfl) rfl (cls_drew hO) ?_
        simp only [List.take_succ_cons, List.take_zero]
        repeat (first
          | (apply wv_skip rfl; simp only [Act.put, List.setIfInBounds_toArray, List.set_cons_zero, List.set_cons_succ])
          | (apply wv_load1 rfl rfl rfl; (first | exact row_int | exact row_str | exact row_bool | exact row_u8 | exact row_bys | exact row_pats | exact row_err); (intro w h; (first | exact own_get 0 h.1 rfl | exact own_get 1 h.1 rfl | exact own_get 2 h.1 rfl | exact own_get 3 h.1 rfl | exact own_get 4 h.1 rfl | exact own_get 5 h.1 rfl | exact own_get 6 h.1 rfl | exact own_get 7 h.1 rfl)); (first | (simp only [List.getElem?_toArray, List.getElem?_cons_succ, List.getElem?_cons_zero]; rfl) | rfl); simp only [Act.put, List.setIfInBounds_toArray, List.set_cons_zero, List.set_cons_succ])
          | (apply wv_loadrow rfl rfl rfl; (first | exact row_pat); exact sz_pat; (intro w h; (first | exact own_get 0 h.1 rfl | exact own_get 1 h.1 rfl | exact own_get 2 h.1 rfl | exact own_get 3 h.1 rfl | exact own_get 4 h.1 rfl | exact own_get 5 h.1 rfl | exact own_get 6 h.1 rfl | exact own_get 7 h.1 rfl)); (focus (simp; done)); (first | (simp only [List.drop_zero, List.drop_succ_cons, List.take_succ_cons, List.take_zero]; rfl) | rfl); simp only [Act.put, List.setIfInBounds_toArray, List.set_cons_zero, List.set_cons_succ])
          | (refine wv_load1_at (ad := ada.add k) rfl rfl rfl row_u8 (fun w h => HCA.out w (own_drop h.1)) ?_; simp only [Act.put, List.setIfInBounds_toArray, List.set_cons_zero, List.set_cons_succ])
          | (refine wv_load1_at (ad := adb.add k) rfl rfl rfl row_u8 (fun w h => HCB.out w (own_drop h.1)) ?_; simp only [Act.put, List.setIfInBounds_toArray, List.set_cons_zero, List.set_cons_succ])
          | (apply wv_run rfl; (focus (intro w h; go_simp; first | done | rfl)); simp only [Act.put, List.setIfInBounds_toArray, List.set_cons_zero, List.set_cons_succ])
          | (apply wv_call rfl; (focus (intro w; go_simp; first | done | exact ⟨rfl, rfl⟩)); (focus (intro w h; apply cls_call h; fail)); simp only [Act.put, List.setIfInBounds_toArray, List.set_cons_zero, List.set_cons_succ]))
        refine wv_nil ?_
        simp only [List.drop_succ_cons, List.drop_zero]
        intro w5 ⟨hO5, hS5⟩
        clear hO
        go_wp2
        go_roundw
        case rel => exact ⟨k + 1, by omega, by go_num, by rw [dP_same _ _ _ _ HDK.out]; exact hO5, hS.trans hS5⟩
        case measure => simp [intOf]; omega
      | true =>
        have m3 : ((xa.toNat : Int) == (xb.toNat : Int)) = false := by
          simp only [dif, bne_iff_ne, ne_eq, hxa, hxb] at hdif ⊢
          simp
          exact fun h => hdif (UInt8.toNat_inj.1 (by omega))
        have HDK := Lib.hid hdif
        clear hdif hxa hxb hca hcb
        go_wp2
        refine wp_region_seq (Cls wr (owns 23 3 u7 (dP blk aa bs k).length (cellsP (dP blk aa bs k)) :: L)) 9 82 mixed (by kernel_rfl) rfl (cls_drew hO) ?_
        simp only [List.take_succ_cons, List.take_zero]
        repeat (first
          | (apply wv_skip rfl; simp only [Act.put, List.setIfInBounds_toArray, List.set_cons_zero, List.set_cons_succ])
          | (apply wv_load1 rfl rfl rfl; (first | exact row_int | exact row_str | exact row_bool | exact row_u8 | exact row_bys | exact row_pats | exact row_err); (intro w h; (first | exact own_get 0 h.1 rfl | exact own_get 1 h.1 rfl | exact own_get 2 h.1 rfl | exact own_get 3 h.1 rfl | exact own_get 4 h.1 rfl | exact own_get 5 h.1 rfl | exact own_get 6 h.1 rfl | exact own_get 7 h.1 rfl)); (first | (simp only [List.getElem?_toArray, List.getElem?_cons_succ, List.getElem?_cons_zero]; rfl) | rfl); simp only [Act.put, List.setIfInBounds_toArray, List.set_cons_zero, List.set_cons_succ])
          | (apply wv_loadrow rfl rfl rfl; (first | exact row_pat); exact sz_pat; (intro w h; (first | exact own_get 0 h.1 rfl | exact own_get 1 h.1 rfl | exact own_get 2 h.1 rfl | exact own_get 3 h.1 rfl | exact own_get 4 h.1 rfl | exact own_get 5 h.1 rfl | exact own_get 6 h.1 rfl | exact own_get 7 h.1 rfl)); (focus (simp; done)); (first | (simp only [List.drop_zero, List.drop_succ_cons, List.take_succ_cons, List.take_zero]; rfl) | rfl); simp only [Act.put, List.setIfInBounds_toArray, List.set_cons_zero, List.set_cons_succ])
          | (refine wv_load1_at (ad := ada.add k) rfl rfl rfl row_u8 (fun w h => HCA.out w (own_drop h.1)) ?_; simp only [Act.put, List.setIfInBounds_toArray, List.set_cons_zero, List.set_cons_succ])
          | (refine wv_load1_at (ad := adb.add k) rfl rfl rfl row_u8 (fun w h => HCB.out w (own_drop h.1)) ?_; simp only [Act.put, List.setIfInBounds_toArray, List.set_cons_zero, List.set_cons_succ])
          | (apply wv_run rfl; (focus (intro w h; go_simp; first | done | rfl)); simp only [Act.put, List.setIfInBounds_toArray, List.set_cons_zero, List.set_cons_succ])
          | (apply wv_call rfl; (focus (intro w; go_simp; first | done | exact ⟨rfl, rfl⟩)); (focus (intro w h; apply cls_call h; fail)); simp only [Act.put, List.setIfInBounds_toArray, List.set_cons_zero, List.set_cons_succ]))
        refine wv_nil ?_
        simp only [List.drop_succ_cons, List.drop_zero]
        intro w5 ⟨hO5, hS5⟩
        clear hO m3
        have hO := hO5
        have hS' := hS.trans hS5
        clear hO5 hS hS5 HCA HCB
        by_cases hk0 : k = 0
        · subst hk0
          have m0 : decide ((0 : Int) > 0) = false := by decide
          go_wp2
          refine wp_region_seq (Cls w5 (owns 23 3 u7 (dP blk aa bs 0).length (cellsP (dP blk aa bs 0)) :: L)) 15 82 mixed (by kernel_rfl) rfl (cls_drew hO) ?_
          simp only [List.take_succ_cons, List.take_zero]
          repeat (first
            | (apply wv_skip rfl; simp only [Act.put, List.setIfInBounds_toArray, List.set_cons_zero, List.set_cons_succ])
            | (apply wv_load1 rfl rfl rfl; (first | exact row_int | exact row_str | exact row_bool | exact row_u8 | exact row_bys | exact row_pats | exact row_err); (intro w h; (first | exact own_get 0 h.1 rfl | exact own_get 1 h.1 rfl | exact own_get 2 h.1 rfl | exact own_get 3 h.1 rfl | exact own_get 4 h.1 rfl | exact own_get 5 h.1 rfl | exact own_get 6 h.1 rfl | exact own_get 7 h.1 rfl)); (first | (simp only [List.getElem?_toArray, List.getElem?_cons_succ, List.getElem?_cons_zero]; rfl) | rfl); simp only [Act.put, List.setIfInBounds_toArray, List.set_cons_zero, List.set_cons_succ])
            | (apply wv_loadrow rfl rfl rfl; (first | exact row_pat); exact sz_pat; (intro w h; (first | exact own_get 0 h.1 rfl | exact own_get 1 h.1 rfl | exact own_get 2 h.1 rfl | exact own_get 3 h.1 rfl | exact own_get 4 h.1 rfl | exact own_get 5 h.1 rfl | exact own_get 6 h.1 rfl | exact own_get 7 h.1 rfl)); (focus (simp; done)); (first | (simp only [List.drop_zero, List.drop_succ_cons, List.take_succ_cons, List.take_zero]; rfl) | rfl); simp only [Act.put, List.setIfInBounds_toArray, List.set_cons_zero, List.set_cons_succ])
            | (apply wv_run rfl; (focus (intro w h; go_simp; first | done | rfl)); simp only [Act.put, List.setIfInBounds_toArray, List.set_cons_zero, List.set_cons_succ])
            | (apply wv_call rfl; (focus (intro w; go_simp; first | done | exact ⟨rfl, rfl⟩)); (focus (intro w h; apply cls_call h; fail)); simp only [Act.put, List.setIfInBounds_toArray, List.set_cons_zero, List.set_cons_succ]))
          refine wv_nil ?_
          simp only [List.drop_succ_cons, List.drop_zero]
          intro w6 ⟨hO6, hS6⟩
          clear hO
          have hO := hO6
          clear hO6
          have HRD : Hid (∀ w', Own w' L → Rd w' 1 (.slice (some (adb.add 0)) 1 (c' - 0)) 1 (bcs [xb])) := by
            have h := cut1 (k := 0) HB.out (by have := HB32.out; omega)
            rw [HXB.out] at h
            exact h
          have HLN : Hid ((dP blk aa bs 0).length ≤ 32) := Nat.le_trans (dP_len blk aa bs 0) (by omega)
          have n1 : 0 + 1 ≤ c' := by have := HB32.out; omega
          go_wp2_with (first | (refine own_string (n := 1) (bs := [xb]) rfl rfl rfl Try.underlying28 Try.underlying5 Try.underlying9 rfl (HRD.out _ (own_drop hO)) ?_) | (refine own_append (m := 1) (n := (dP blk aa bs 0).length) (xs := cellsP (dP blk aa bs 0)) (news := [.int .i64 blk, .int .i64 0, .string (bstr [xb])]) rfl rfl rfl rfl Try.underlying37 info_pat3 rfl (by decide) (own_perm (own_alloc_new hO (.cells #[.int .i64 blk, .int .i64 0, .string (bstr [xb])] 23)) (List.Perm.swap _ _ _)) ?_ (pat_one _ _ _) ?_ ?_ ?_; (exact rd_block (own_get 1 (own_perm (own_alloc_new hO (.cells #[.int .i64 blk, .int .i64 0, .string (bstr [xb])] 23)) (List.Perm.swap _ _ _)) rfl) rfl (by simp) (by simp) (by simp)); (have := HLN.out; unfold maxLen; omega); (have := HLN.out; omega); clear hO; intro v' w9 hO hS9 hv'))
          go_roundw
          case rel => exact ⟨0 + 1, by omega, by go_num, by rw [dP_new blk aa bs 0 HDK.out (.inl rfl), HXB.out]; exact owns_snoc hO, hS'.trans (hS6.trans ((Same.alloc _ _).trans hS9))⟩
          case measure => simp [intOf]
        · obtain ⟨m, hkm⟩ : ∃ m, k = m + 1 := ⟨k - 1, by omega⟩
          have HKM : Hid (k = m + 1) := hkm
          have hlen1 := HA32.out
          have hlen2 := HB32.out
          have hca := rdB_cell (k := m) HA.out (by omega)
          have hcb := rdB_cell (k := m) HB.out (by omega)
          obtain ⟨ya, hya⟩ : ∃ x, aa.getD m 0 = x := ⟨_, rfl⟩
          obtain ⟨yb, hyb⟩ : ∃ x, bs.getD m 0 = x := ⟨_, rfl⟩
          rw [hya] at hca
          rw [hyb] at hcb
          have HCA := Lib.hid hca
          have HCB := Lib.hid hcb
          have m0 : decide (0 < k) = true := by simp; omega
          have m4 : IntKind.i64.wrap ((k : Int) - 1) = (m : Int) := by rw [IntKind.wrap_i64] <;> omega
          have m5 : (m : Int) < aa.length := by omega
          have m6 : (m : Int) < bs.length := by omega
          clear hlen1 hlen2 hk0 hkm
          cases hdif : dif aa bs m with
          | false =>
            have m3 : ((ya.toNat : Int) != (yb.toNat : Int)) = false := by
              simp only [dif, bne_eq_false_iff_eq, hya, hyb] at hdif ⊢
              rw [hdif]
            have HDM := Lib.hid hdif
            clear hdif hya hyb hca hcb
            go_wp2
            refine wp_region_seq (Cls w5 (owns 23 3 u7 (dP blk aa bs k).length (cellsP (dP blk aa bs k)) :: L)) 15 82 mixed (by kernel_rfl) rfl (cls_drew hO) ?_
            simp only [List.take_succ_cons, List.take_zero]
            repeat (first
              | (apply wv_skip rfl; simp only [Act.put, List.setIfInBounds_toArray, List.set_cons_zero, List.set_cons_succ])
              | (apply wv_load1 rfl rfl rfl; (first | exact row_int | exact row_str | exact row_bool | exact row_u8 | exact row_bys | exact row_pats | exact row_err); (intro w h; (first | exact own_get 0 h.1 rfl | exact own_get 1 h.1 rfl | exact own_get 2 h.1 rfl | exact own_get 3 h.1 rfl | exact own_get 4 h.1 rfl | exact own_get 5 h.1 rfl | exact own_get 6 h.1 rfl | exact own_get 7 h.1 rfl)); (first | (simp only [List.getElem?_toArray, List.getElem?_cons_succ, List.getElem?_cons_zero]; rfl) | rfl); simp only [Act.put, List.setIfInBounds_toArray, List.set_cons_zero, List.set_cons_succ])
              | (apply wv_loadrow rfl rfl rfl; (first | exact row_pat); exact sz_pat; (intro w h; (first | exact own_get 0 h.1 rfl | exact own_get 1 h.1 rfl | exact own_get 2 h.1 rfl | exact own_get 3 h.1 rfl | exact own_get 4 h.1 rfl | exact own_get 5 h.1 rfl | exact own_get 6 h.1 rfl | exact own_get 7 h.1 rfl)); (focus (simp; done)); (first | (simp only [List.drop_zero, List.drop_succ_cons, List.take_succ_cons, List.take_zero]; rfl) | rfl); simp only [Act.put, List.setIfInBounds_toArray, List.set_cons_zero, List.set_cons_succ])
              | (refine wv_load1_at (ad := ada.add m) rfl rfl rfl row_u8 (fun w h => HCA.out w (own_drop h.1)) ?_; simp only [Act.put, List.setIfInBounds_toArray, List.set_cons_zero, List.set_cons_succ])
              | (refine wv_load1_at (ad := adb.add m) rfl rfl rfl row_u8 (fun w h => HCB.out w (own_drop h.1)) ?_; simp only [Act.put, List.setIfInBounds_toArray, List.set_cons_zero, List.set_cons_succ])
              | (apply wv_run rfl; (focus (intro w h; go_simp; first | done | rfl)); simp only [Act.put, List.setIfInBounds_toArray, List.set_cons_zero, List.set_cons_succ])
              | (apply wv_call rfl; (focus (intro w; go_simp; first | done | exact ⟨rfl, rfl⟩)); (focus (intro w h; apply cls_call h; fail)); simp only [Act.put, List.setIfInBounds_toArray, List.set_cons_zero, List.set_cons_succ]))
            refine wv_nil ?_
            simp only [List.drop_succ_cons, List.drop_zero]
            intro w6 ⟨hO6, hS6⟩
            clear hO m0 m3 m4 m5 m6 HCA HCB
            have hO := hO6
            clear hO6
            have HRD : Hid (∀ w', Own w' L → Rd w' 1 (.slice (some (adb.add k)) 1 (c' - k)) 1 (bcs [xb])) := by
              have h := cut1 (k := k) HB.out (by have := HB32.out; omega)
              rw [HXB.out] at h
              exact h
            have HLN : Hid ((dP blk aa bs k).length ≤ 32) := Nat.le_trans (dP_len blk aa bs k) (by omega)
            have n1 : k + 1 ≤ c' := by have := HB32.out; omega
            go_wp2_with (first | (refine own_string (n := 1) (bs := [xb]) rfl rfl rfl Try.underlying28 Try.underlying5 Try.underlying9 rfl (HRD.out _ (own_drop hO)) ?_) | (refine own_append (m := 1) (n := (dP blk aa bs k).length) (xs := cellsP (dP blk aa bs k)) (news := [.int .i64 blk, .int .i64 k, .string (bstr [xb])]) rfl rfl rfl rfl Try.underlying37 info_pat3 rfl (by decide) (own_perm (own_alloc_new hO (.cells #[.int .i64 blk, .int .i64 k, .string (bstr [xb])] 23)) (List.Perm.swap _ _ _)) ?_ (pat_one _ _ _) ?_ ?_ ?_; (exact rd_block (own_get 1 (own_perm (own_alloc_new hO (.cells #[.int .i64 blk, .int .i64 k, .string (bstr [xb])] 23)) (List.Perm.swap _ _ _)) rfl) rfl (by simp) (by simp) (by simp)); (have := HLN.out; unfold maxLen; omega); (have := HLN.out; omega); clear hO; intro v' w9 hO hS9 hv'))
            go_roundw
            case rel => exact ⟨k + 1, by omega, by go_num, by rw [dP_new blk aa bs k HDK.out (.inr (by rw [HKM.out]; exact HDM.out)), HXB.out]; exact owns_snoc hO, hS'.trans (hS6.trans ((Same.alloc _ _).trans hS9))⟩
            case measure => simp [intOf]; omega
          | true =>
            have m3 : ((ya.toNat : Int) != (yb.toNat : Int)) = true := by
              simp only [dif, bne_iff_ne, ne_eq, hya, hyb] at hdif ⊢
              exact fun h => hdif (UInt8.toNat_inj.1 (by omega))
            have HDM := Lib.hid hdif
            clear hdif hya hyb hca hcb
            go_wp2
            refine wp_region_seq (Cls w5 (owns 23 3 u7 (dP blk aa bs k).length (cellsP (dP blk aa bs k)) :: L)) 15 82 mixed (by kernel_rfl) rfl (cls_drew hO) ?_
            simp only [List.take_succ_cons, List.take_zero]
            repeat (first
              | (apply wv_skip rfl; simp only [Act.put, List.setIfInBounds_toArray, List.set_cons_zero, List.set_cons_succ])
              | (apply wv_load1 rfl rfl rfl; (first | exact row_int | exact row_str | exact row_bool | exact row_u8 | exact row_bys | exact row_pats | exact row_err); (intro w h; (first | exact own_get 0 h.1 rfl | exact own_get 1 h.1 rfl | exact own_get 2 h.1 rfl | exact own_get 3 h.1 rfl | exact own_get 4 h.1 rfl | exact own_get 5 h.1 rfl | exact own_get 6 h.1 rfl | exact own_get 7 h.1 rfl)); (first | (simp only [List.getElem?_toArray, List.getElem?_cons_succ, List.getElem?_cons_zero]; rfl) | rfl); simp only [Act.put, List.setIfInBounds_toArray, List.set_cons_zero, List.set_cons_succ])
              | (apply wv_loadrow rfl rfl rfl; (first | exact row_pat); exact sz_pat; (intro w h; (first | exact own_get 0 h.1 rfl | exact own_get 1 h.1 rfl | exact own_get 2 h.1 rfl | exact own_get 3 h.1 rfl | exact own_get 4 h.1 rfl | exact own_get 5 h.1 rfl | exact own_get 6 h.1 rfl | exact own_get 7 h.1 rfl)); (focus (simp; done)); (first | (simp only [List.drop_zero, List.drop_succ_cons, List.take_succ_cons, List.take_zero]; rfl) | rfl); simp only [Act.put, List.setIfInBounds_toArray, List.set_cons_zero, List.set_cons_succ])
              | (refine wv_load1_at (ad := ada.add m) rfl rfl rfl row_u8 (fun w h => HCA.out w (own_drop h.1)) ?_; simp only [Act.put, List.setIfInBounds_toArray, List.set_cons_zero, List.set_cons_succ])
              | (refine wv_load1_at (ad := adb.add m) rfl rfl rfl row_u8 (fun w h => HCB.out w (own_drop h.1)) ?_; simp only [Act.put, List.setIfInBounds_toArray, List.set_cons_zero, List.set_cons_succ])
              | (apply wv_run rfl; (focus (intro w h; go_simp; first | done | rfl)); simp only [Act.put, List.setIfInBounds_toArray, List.set_cons_zero, List.set_cons_succ])
              | (apply wv_call rfl; (focus (intro w; go_simp; first | done | exact ⟨rfl, rfl⟩)); (focus (intro w h; apply cls_call h; fail)); simp only [Act.put, List.setIfInBounds_toArray, List.set_cons_zero, List.set_cons_succ]))
            refine wv_nil ?_
            simp only [List.drop_succ_cons, List.drop_zero]
            intro w6 ⟨hO6, hS6⟩
            clear hO m0 m3 m4 m5 m6 HCA HCB
            have hS'' := hS'.trans hS6
            obtain ⟨ps, p, hps⟩ := dP_last blk aa bs m HDM.out
            rw [HKM.out, hps] at hO6
            obtain ⟨g, cap, rest, rfl, h1, h2, h3, hO⟩ := opened hO6
            obtain ⟨n, hn⟩ : ∃ n, n = ps.length + 1 := ⟨_, rfl⟩
            rw [← hn] at h1 h3
            clear hO6 hS' hS6
            have HPS := Lib.hid hps
            clear hps
            obtain ⟨j, hj⟩ : ∃ j, j = k + 1 := ⟨_, rfl⟩
            have HJ1 : Hid (j - k = [xb].length) := by show _ = _; simp; omega
            have HRD : Hid (∀ w', Own w' L → Rd w' 1 (.slice (some (adb.add k)) (j - k) (c' - k)) (j - k) (bcs [xb])) := by
              have h := cut1 (k := k) HB.out (by have := HB32.out; omega)
              rw [HXB.out] at h
              have e : j - k = 1 := by omega
              rw [e]
              exact h
            have n1 : j ≤ c' := by have := HB32.out; omega
            have n5 : k ≤ j := by omega
            have HN6 : Hid (¬ c' = k) := by show ¬ _; have := HB32.out; omega
            have n2 : IntKind.i64.wrap ((k : Int) + 1) = (j : Int) := by rw [IntKind.wrap_i64] <;> omega
            have HJ : Hid (j = k + 1) := hj
            clear hj
            have n3 : IntKind.i64.wrap ((n : Int) - 1) = (ps.length : Int) := by unfold maxLen at h2; rw [IntKind.wrap_i64] <;> omega
            have n4 : (ps.length : Int) < (n : Int) := by omega
            rw [← hn]
            have HN : Hid (n = ps.length + 1) := hn
            clear hn
            have HSZ : Hid (p.dat.size + (bstr [xb]).size ≤ 9223372036854775807) := by
              have := dP_size blk aa bs (m + 1) p (by rw [HPS.out]; simp)
              have h2 := HKM.out
              show _ ≤ _
              rw [bstr_size]; simp; omega
            clear m1 m2
            have hO' : Own w6 (pts g (.cells (cellsP (ps ++ [p]) ++ rest).toArray 23) :: L) := hO
            clear hO
            have hO := hO'
            have HC : Hid ((cellsP (ps ++ [p]) ++ rest).toArray[ps.length * 3 + 2]? = some (.string p.dat)) := cellsP_dat ps p rest
            clear hO'
            go_wp2
            have n6 := HN6.out
            refine wp_region_seq (Cls w6 (pts g (.cells (cellsP (ps ++ [p]) ++ rest).toArray 23) :: L)) 16 82 mixed (by kernel_rfl) rfl (cls_drew hO) ?_
            simp only [List.take_succ_cons, List.take_zero]
            repeat (first
              | (apply wv_skip rfl; simp only [Act.put, List.setIfInBounds_toArray, List.set_cons_zero, List.set_cons_succ])
              | (apply wv_load1 rfl rfl rfl; (first | exact row_int | exact row_str | exact row_bool | exact row_u8 | exact row_bys | exact row_pats | exact row_err); (intro w h; (first | exact own_get 0 h.1 rfl | exact own_get 1 h.1 rfl | exact own_get 2 h.1 rfl | exact own_get 3 h.1 rfl | exact own_get 4 h.1 rfl | exact own_get 5 h.1 rfl | exact own_get 6 h.1 rfl | exact own_get 7 h.1 rfl)); (first | (simp only [List.getElem?_toArray, List.getElem?_cons_succ, List.getElem?_cons_zero]; rfl) | rfl); simp only [Act.put, List.setIfInBounds_toArray, List.set_cons_zero, List.set_cons_succ])
              | (apply wv_loadrow rfl rfl rfl; (first | exact row_pat); exact sz_pat; (intro w h; (first | exact own_get 0 h.1 rfl | exact own_get 1 h.1 rfl | exact own_get 2 h.1 rfl | exact own_get 3 h.1 rfl | exact own_get 4 h.1 rfl | exact own_get 5 h.1 rfl | exact own_get 6 h.1 rfl | exact own_get 7 h.1 rfl)); (focus (simp; done)); (first | (simp only [List.drop_zero, List.drop_succ_cons, List.take_succ_cons, List.take_zero]; rfl) | rfl); simp only [Act.put, List.setIfInBounds_toArray, List.set_cons_zero, List.set_cons_succ])
              | (refine wv_load1 (b := g) (cs := (cellsP (ps ++ [p]) ++ rest).toArray) (t := 23) (v := .string p.dat) rfl rfl rfl row_str (fun w h => own_get 0 h.1 rfl) ?_ ?_; (focus (first | exact HC.out | (rw [Nat.zero_add]; exact HC.out))); simp only [Act.put, List.setIfInBounds_toArray, List.set_cons_zero, List.set_cons_succ])
              | (refine wv_string (n := j - k) (bs := [xb]) rfl rfl rfl Try.underlying28 Try.underlying5 Try.underlying9 HJ1.out (fun w h => HRD.out w (own_drop h.1)) ?_; simp only [Act.put, List.setIfInBounds_toArray, List.set_cons_zero, List.set_cons_succ])
              | (refine wv_concat rfl rfl rfl rfl HSZ.out ?_; simp only [Act.put, List.setIfInBounds_toArray, List.set_cons_zero, List.set_cons_succ])
              | (apply wv_run rfl; (focus (intro w h; go_simp; first | done | rfl)); simp only [Act.put, List.setIfInBounds_toArray, List.set_cons_zero, List.set_cons_succ])
              | (apply wv_call rfl; (focus (intro w; go_simp; first | done | exact ⟨rfl, rfl⟩)); (focus (intro w h; apply cls_call h; fail)); simp only [Act.put, List.setIfInBounds_toArray, List.set_cons_zero, List.set_cons_succ]))
            refine wv_nil ?_
            simp only [List.drop_succ_cons, List.drop_zero]
            intro w7 ⟨hO7, hS7⟩
            clear hO n6
            have hO := hO7
            clear hO7
            have HP3 : Hid (ps.length * 3 + 2 < (cellsP (ps ++ [p]) ++ rest).toArray.size) := by
              show _ < _
              rw [List.size_toArray, List.length_append, cellsP_length, List.length_append]; have := HN.out; simp; omega
            go_wp2_with (refine own_store1 (k := 0) (off := ps.length * 3 + 2) (cs' := (cellsP (ps ++ [Pat.mk p.blk p.off (p.dat ++ bstr [xb])]) ++ rest).toArray) rfl rfl ?_ rfl sz_str hO rfl rfl HP3.out (cellsP_put _ _ _ _) ?_; (first | rfl | (show Value.pointer _ = _; simp [Addr.add]; done)); clear hO; intro w8 hO hS8; simp only [List.set_cons_zero] at hO)
            go_roundw
            case rel => exact ⟨k + 1, by omega, by (have := HJ.out; go_num), by
              rw [HKM.out, dP_grow blk aa bs m ps p HDM.out (by rw [← HKM.out]; exact HDK.out) HPS.out, ← HKM.out, HXB.out, HN.out]
              exact opened_shut (by have := HN.out; omega) h2 (by have := HN.out; omega) hO, hS''.trans (hS7.trans hS8)⟩
            case measure => (have := HJ.out; simp [intOf]; omega)
    · have hke : k = 32 := by omega
      subst hke
      go_wp2
      go_ret
      exact ⟨_, rfl, hO, hS⟩
end Go.Proofs.Ytefohmjllcnnkaa.H
