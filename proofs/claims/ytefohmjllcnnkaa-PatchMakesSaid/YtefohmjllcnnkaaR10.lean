/- Contract of patch.Diff. -/
import Derived.Test.YtefohmjllcnnkaaR9
import Derived.Test.YtefohmjllcnnkaaM6
import Derived.Test.YtefohmjllcnnkaaH5
set_option linter.unusedVariables false
set_option linter.unusedSimpArgs false
set_option maxRecDepth 100000
namespace Go.Proofs.Ytefohmjllcnnkaa.H
open Go.RowKit
theorem info_pat3 : (Try.prog.info? 23).map (fun i => (i.zero, i.size, i.bytes)) = some (some (.agg #[.int .i64 0, .int .i64 0, .string ⟨#[]⟩]), 3, 32) := by kernel_rfl
def DInv (L : List HP) (w0 : World) (blk : Int) (a b : List UInt8) (v : Value) (i : Nat) (wr : World) : Prop :=
  OkAt a b i ∧ Own wr (owns 23 3 v (dP blk a b (min i 32)).length (cellsP (dP blk a b (min i 32))) :: L) ∧ Same w0 wr
def EInv (L : List HP) (w0 : World) (blk : Int) (a b : List UInt8) (v : Value) (i k : Nat) (wr : World) : Prop :=
  (∀ j, i ≤ j → j < k → dif a b j = true) ∧ Own wr (owns 23 3 v (dP blk a b (min i 32)).length (cellsP (dP blk a b (min i 32))) :: L) ∧ Same w0 wr
theorem rdB_cell {L : List HP} {bs : List UInt8} {ad : Addr} {c k : Nat} (hr : ∀ w', Own w' L → RdB w' (.slice (some ad) bs.length c) bs) (hlt : k < bs.length) :
    ∀ w', Own w' L → w'.cell? (ad.add k) = some (.int .u8 ((bs.getD k 0).toNat : Int)) := fun w' h => by
  have h1 : w'.cell? ((ad.add (k * 1)).add 0) = some (.int .u8 ((bs.getD k 0).toNat : Int)) := (hr w' h).cell (by rw [Nat.mul_one, Nat.add_zero]; simp [bcs, List.getD, List.getElem?_eq_getElem hlt])
  rwa [addr_add, Nat.mul_one, Nat.add_zero] at h1
theorem pat_one (x y : Int) (z : ByteArray) : ∀ u ∈ [Value.int .i64 x, .int .i64 y, .string z], u.oneCell' = true := by
  intro u hu
  simp at hu
  rcases hu with rfl | rfl | rfl <;> rfl
theorem owns_snoc {w : World} {L : List HP} {B : HP} {v : Value} {ps : List Pat} {x y : Int} {z : ByteArray} (h : Own w (owns 23 3 v (ps.length + 1) (cellsP ps ++ [.int .i64 x, .int .i64 y, .string z]) :: B :: L)) :
    Own w (owns 23 3 v (ps ++ [Pat.mk x y z]).length (cellsP (ps ++ [Pat.mk x y z])) :: L) := by
  have e : cellsP (ps ++ [Pat.mk x y z]) = cellsP ps ++ [.int .i64 x, .int .i64 y, .string z] := by simp [cellsP, Pat.cells]
  rw [e, List.length_append]
  exact own_skip h
set_option maxHeartbeats 3200000 in
theorem diff_ok (w : World) (L : List HP) (va vb : Value) (blk : Int) (aa bs : List UInt8) (hO : Own w L) (ha : ∀ w', Own w' L → RdB w' va aa) (hb : ∀ w', Own w' L → RdB w' vb bs) (h0 : 0 ≤ blk) (h96 : blk < 96) (ha32 : aa.length = 32) (hb32 : bs.length = 32) :
    Calls Try.prog 30 #[.int .i64 blk, va, vb] w (RetX w (fun v => v) (fun v => owns 23 3 v (dP blk aa bs 32).length (cellsP (dP blk aa bs 32)) :: L)) := by
  obtain ⟨A, c, rfl⟩ := (ha w hO).slice
  obtain ⟨B, c', rfl⟩ := (hb w hO).slice
  obtain ⟨ada, rfl⟩ := (ha w hO).addr (by rw [bcs_length]; omega)
  obtain ⟨adb, rfl⟩ := (hb w hO).addr (by rw [bcs_length]; omega)
  have hm1 := (ha w hO).max
  have hm2 := (hb w hO).max
  have e1 : decide (blk < 0) = false := by simp; omega
  have e2 : decide (blk ≥ 96) = false := by simp; omega
  have e3 : ((aa.length : Int) != 32) = false := by simp; omega
  have e4 : ((bs.length : Int) != 32) = false := by simp; omega
  have HA := Lib.hid ha
  have HB := Lib.hid hb
  have HA32 : Hid (aa.length = 32) := ha32
  have HB32 : Hid (bs.length = 32) := hb32
  clear ha hb ha32 hb32
  go_enter Try.func30, Try.ntmps30
  go_wp2
  go_loopw [7, 8] (fun v i wr => ∃ k : Nat, k ≤ 33 ∧ i = .int .i64 k ∧ DInv L w blk aa bs v k wr) (fun _ i _ => 33 - (intOf i).toNat)
  case atStart => exact ⟨0, Nat.zero_le _, rfl, .inl rfl, by simp only [Nat.zero_min, dP]; exact owns_nil hO, Same.refl _⟩
  case round =>
    clear hO
    obtain ⟨i, hi, rfl, hok, hO, hS⟩ := hrel
    have HOK := Lib.hid hok
    clear hok
    by_cases hlt : i < 32
    · go_wp2
      go_loopw [9] (fun kk wi => ∃ k : Nat, i ≤ k ∧ k ≤ 32 ∧ kk = .int .i64 k ∧ EInv L w blk aa bs u7 i k wi) (fun kk _ => 32 - (intOf kk).toNat)
      case atStart => exact ⟨i, Nat.le_refl _, by omega, rfl, fun j h1 h2 => by omega, hO, hS⟩
      case round =>
        clear hO hS
        obtain ⟨k, hik, hk32, rfl, hd, hO, hS⟩ := hrel
        have HD := Lib.hid hd
        clear hd
        by_cases hlt2 : k < 32
        · have hlen1 := HA32.out
          have hlen2 := HB32.out
          have hca := rdB_cell (k := k) HA.out (by omega)
          have hcb := rdB_cell (k := k) HB.out (by omega)
          obtain ⟨xa, hxa⟩ : ∃ x, aa.getD k 0 = x := ⟨_, rfl⟩
          obtain ⟨xb, hxb⟩ : ∃ x, bs.getD k 0 = x := ⟨_, rfl⟩
          rw [hxa] at hca
          rw [hxb] at hcb
          have HCA := Lib.hid hca
          have HCB := Lib.hid hcb
          have m1 : (k : Int) < aa.length := by omega
          have m2 : (k : Int) < bs.length := by omega
          have m0 : decide ((k : Int) < 32) = true := by simp; omega
          clear hlen1 hlen2
          cases hdif : dif aa bs k with
          | true =>
            have m3 : ((xa.toNat : Int) != (xb.toNat : Int)) = true := by
              simp only [dif, bne_iff_ne, ne_eq, hxa, hxb] at hdif ⊢
              exact fun h => hdif (UInt8.toNat_inj.1 (by omega))
            have HDK := Lib.hid hdif
            clear hdif hxa hxb hca hcb
            go_wp2
            refine wp_region_seq (Cls wr (owns 23 3 u7 (dP blk aa bs (min i 32)).length (cellsP (dP blk aa bs (min i 32))) :: L)) 13 61 mixed (by kernel_rfl) rfl (cls_drew hO) ?_
            simp only [List.take_succ_cons, List.take_zero]
            repeat (first
              | (apply wv_skip rfl; simp only [Act.put, List.setIfInBounds_toArray, List.set_cons_zero, List.set_cons_succ])
              | (apply wv_load1 rfl rfl rfl; (first | exact row_int | exact row_str | exact row_bool | exact row_u8 | exact row_bys | exact row_pats | exact row_err); (intro w h; (first | exact own_get 0 h.1 rfl | exact own_get 1 h.1 rfl | exact own_get 2 h.1 rfl | exact own_get 3 h.1 rfl | exact own_get 4 h.1 rfl | exact own_get 5 h.1 rfl | exact own_get 6 h.1 rfl | exact own_get 7 h.1 rfl)); (first | (simp only [List.getElem?_toArray, List.getElem?_cons_succ, List.getElem?_cons_zero]; rfl) | rfl); simp only [Act.put, List.setIfInBounds_toArray, List.set_cons_zero, List.set_cons_succ])
              | (apply wv_loadrow rfl rfl rfl; (first | exact row_pat); exact sz_pat; (intro w h; (first | exact own_get 0 h.1 rfl | exact own_get 1 h.1 rfl | exact own_get 2 h.1 rfl | exact own_get 3 h.1 rfl | exact own_get 4 h.1 rfl | exact own_get 5 h.1 rfl | exact own_get 6 h.1 rfl | exact own_get 7 h.1 rfl)); (focus (simp; done)); (first | (simp only [List.drop_zero, List.drop_succ_cons, List.take_succ_cons, List.take_zero]; rfl) | rfl); simp only [Act.put, List.setIfInBounds_toArray, List.set_cons_zero, List.set_cons_succ])
              | (refine wv_load1_at (ad := ada.add k) rfl rfl rfl row_u8 (fun w h => HCA.out w (own_drop h.1)) ?_; simp only [Act.put, List.setIfInBounds_toArray, List.set_cons_zero, List.set_cons_succ])
              | (refine wv_load1_at (ad := adb.add k) rfl rfl rfl row_u8 (fun w h => HCB.out w (own_drop h.1)) ?_; simp only [Act.put, List.setIfInBounds_toArray, List.set_cons_zero, List.set_cons_succ])
              | (apply wv_run rfl; (focus (intro w h; go_simp; first | done | rfl)); simp only [Act.put, List.setIfInBounds_toArray, List.set_cons_zero, List.set_cons_succ])
              | (apply wv_call rfl; (focus (intro w; go_simp; first | done | exact ⟨rfl, rfl⟩)); (focus (intro w h; apply cls_call h; fail)); simp only [Act.put, List.setIfInBounds_toArray, List.set_cons_zero, List.set_cons_succ]))
            refine wv_nil ?_
            simp only [List.drop_succ_cons, List.drop_zero]
            intro w5 ⟨hO5, hS5⟩
            clear hO
            go_wp2
            go_roundw
            case rel => exact ⟨k + 1, by omega, by omega, by go_num, fun j h1 h2 => by
              rcases Nat.lt_or_ge j k with h3 | h3
              · exact HD.out j h1 h3
              · obtain rfl : j = k := by omega
                exact HDK.out, hO5, hS.trans hS5⟩
            case measure => simp [intOf]; omega
          | false =>
            have m3 : ((xa.toNat : Int) != (xb.toNat : Int)) = false := by
              simp only [dif, bne_eq_false_iff_eq, hxa, hxb] at hdif ⊢
              rw [hdif]
            have HDK := Lib.hid hdif
            clear hdif hxa hxb hca hcb
            go_wp2
            refine wp_region_seq (Cls wr (owns 23 3 u7 (dP blk aa bs (min i 32)).length (cellsP (dP blk aa bs (min i 32))) :: L)) 13 61 mixed (by kernel_rfl) rfl (cls_drew hO) ?_
            simp only [List.take_succ_cons, List.take_zero]
            repeat (first
              | (apply wv_skip rfl; simp only [Act.put, List.setIfInBounds_toArray, List.set_cons_zero, List.set_cons_succ])
              | (apply wv_load1 rfl rfl rfl; (first | exact row_int | exact row_str | exact row_bool | exact row_u8 | exact row_bys | exact row_pats | exact row_err); (intro w h; (first | exact own_get 0 h.1 rfl | exact own_get 1 h.1 rfl | exact own_get 2 h.1 rfl | exact own_get 3 h.1 rfl | exact own_get 4 h.1 rfl | exact own_get 5 h.1 rfl | exact own_get 6 h.1 rfl | exact own_get 7 h.1 rfl)); (first | (simp only [List.getElem?_toArray, List.getElem?_cons_succ, List.getElem?_cons_zero]; rfl) | rfl); simp only [Act.put, List.setIfInBounds_toArray, List.set_cons_zero, List.set_cons_succ])
              | (apply wv_loadrow rfl rfl rfl; (first | exact row_pat); exact sz_pat; (intro w h; (first | exact own_get 0 h.1 rfl | exact own_get 1 h.1 rfl | exact own_get 2 h.1 rfl | exact own_get 3 h.1 rfl | exact own_get 4 h.1 rfl | exact own_get 5 h.1 rfl | exact own_get 6 h.1 rfl | exact own_get 7 h.1 rfl)); (focus (simp; done)); (first | (simp only [List.drop_zero, List.drop_succ_cons, List.take_succ_cons, List.take_zero]; rfl) | rfl); simp only [Act.put, List.setIfInBounds_toArray, List.set_cons_zero, List.set_cons_succ])
              | (refine wv_load1_at (ad := ada.add k) rfl rfl rfl row_u8 (fun w h => HCA.out w (own_drop h.1)) ?_; simp only [Act.put, List.setIfInBounds_toArray, List.set_cons_zero, List.set_cons_succ])
              | (refine wv_load1_at (ad := adb.add k) rfl rfl rfl row_u8 (fun w h => HCB.out w (own_drop h.1)) ?_; simp only [Act.put, List.setIfInBounds_toArray, List.set_cons_zero, List.set_cons_succ])
              | (apply wv_run rfl; (focus (intro w h; go_simp; first | done | rfl)); simp only [Act.put, List.setIfInBounds_toArray, List.set_cons_zero, List.set_cons_succ])
              | (apply wv_call rfl; (focus (intro w; go_simp; first | done | exact ⟨rfl, rfl⟩)); (focus (intro w h; apply cls_call h; fail)); simp only [Act.put, List.setIfInBounds_toArray, List.set_cons_zero, List.set_cons_succ]))
            refine wv_nil ?_
            simp only [List.drop_succ_cons, List.drop_zero]
            intro w5 ⟨hO5, hS5⟩
            clear hO
            have hO := hO5
            clear hO5
            by_cases hki : i < k
            · clear m0 m1 m2 m3 HCA HCB
              have HRD : Hid (∀ w', Own w' L → Rd w' 1 (.slice (some (adb.add i)) (k - i) (c' - i)) (k - i) (bcs ((bs.drop i).take (k - i)))) := fun w' h => by
                have h1 := (HB.out w' h).cut (lo := i) (k := k - i) (c' := c' - i) (by have := HB32.out; omega) (by have := HB32.out; omega) (by omega)
                rw [Nat.mul_one, Nat.mul_one, bcs_sub] at h1
                exact h1
              have HN : Hid (k - i = ((bs.drop i).take (k - i)).length) := by
                show _ = _
                rw [List.length_take, List.length_drop, HB32.out]; omega
              have HLN : Hid ((dP blk aa bs (min i 32)).length ≤ 32) := Nat.le_trans (dP_len blk aa bs (min i 32)) (by omega)
              have n1 : i ≤ c' := by have := HB32.out; omega
              have n2 : k ≤ c' := by have := HB32.out; omega
              go_wp2_with (first | (refine own_string (n := k - i) (bs := (bs.drop i).take (k - i)) rfl rfl rfl Try.underlying28 Try.underlying5 Try.underlying9 HN.out (HRD.out _ (own_drop hO)) ?_) | (refine own_append (m := 1) (n := (dP blk aa bs (min i 32)).length) (xs := cellsP (dP blk aa bs (min i 32))) (news := [.int .i64 blk, .int .i64 i, .string (bstr ((bs.drop i).take (k - i)))]) rfl rfl rfl rfl Try.underlying37 info_pat3 rfl (by decide) (own_perm (own_alloc_new hO (.cells #[.int .i64 blk, .int .i64 i, .string (bstr ((bs.drop i).take (k - i)))] 23)) (List.Perm.swap _ _ _)) ?_ (pat_one _ _ _) ?_ ?_ ?_; (exact rd_block (own_get 1 (own_perm (own_alloc_new hO (.cells #[.int .i64 blk, .int .i64 i, .string (bstr ((bs.drop i).take (k - i)))] 23)) (List.Perm.swap _ _ _)) rfl) rfl (by simp) (by simp) (by simp)); (have := HLN.out; unfold maxLen; omega); (have := HLN.out; omega); clear hO; intro v' w9 hO hS9 hv'))
              go_roundw
              case rel => exact ⟨k + 1, by omega, by go_num, .inr (.inr HDK.out), by rw [dP_next blk aa bs i k HB32.out (by omega) HOK.out hki hk32 HD.out (.inr HDK.out)]; exact owns_snoc hO, hS.trans (hS5.trans ((Same.alloc _ _).trans hS9))⟩
              case measure => simp [intOf]; omega
            · have hke : k = i := by omega
              subst hke
              go_wp2
              go_roundw
              case rel => exact ⟨k + 1, by omega, by go_num, .inr (.inr HDK.out), by rw [dP_stay _ _ _ _ (by omega) HDK.out]; exact hO, hS.trans hS5⟩
              case measure => simp [intOf]; omega
        · have hk : k = 32 := by omega
          subst hk
          go_wp2
          refine wp_region_seq (Cls wr (owns 23 3 u7 (dP blk aa bs (min i 32)).length (cellsP (dP blk aa bs (min i 32))) :: L)) 13 61 mixed (by kernel_rfl) rfl (cls_drew hO) ?_
          simp only [List.take_succ_cons, List.take_zero]
          repeat (first
            | (apply wv_skip rfl; simp only [Act.put, List.setIfInBounds_toArray, List.set_cons_zero, List.set_cons_succ])
            | (apply wv_load1 rfl rfl rfl; (first | exact row_int | exact row_str | exact row_bool | exact row_u8 | exact row_bys | exact row_pats | exact row_err); (intro w h; (first | exact own_get 0 h.1 rfl | exact own_get 1 h.1 rfl | exact own_get 2 h.1 rfl | exact own_get 3 h.1 rfl | exact own_get 4 h.1 rfl | exact own_get 5 h.1 rfl | exact own_get 6 h.1 rfl | exact own_get 7 h.1 rfl)); (first | (simp only [List.getElem?_toArray, List.getElem?_cons_succ, List.getElem?_cons_zero]; rfl) | rfl); simp only [Act.put, List.setIfInBounds_toArray, List.set_cons_zero, List.set_cons_succ])
            | (apply wv_loadrow rfl rfl rfl; (first | exact row_pat); exact sz_pat; (intro w h; (first | exact own_get 0 h.1 rfl | exact own_get 1 h.1 rfl | exact own_get 2 h.1 rfl | exact own_get 3 h.1 rfl | exact own_get 4 h.1 rfl | exact own_get 5 h.1 rfl | exact own_get 6 h.1 rfl | exact own_get 7 h.1 rfl)); (focus (simp; done)); (first | (simp only [List.drop_zero, List.drop_succ_cons, List.take_succ_cons, List.take_zero]; rfl) | rfl); simp only [Act.put, List.setIfInBounds_toArray, List.set_cons_zero, List.set_cons_succ])
            | (apply wv_run rfl; (focus (intro w h; go_simp; first | done | rfl)); simp only [Act.put, List.setIfInBounds_toArray, List.set_cons_zero, List.set_cons_succ])
            | (apply wv_call rfl; (focus (intro w; go_simp; first | done | exact ⟨rfl, rfl⟩)); (focus (intro w h; apply cls_call h; fail)); simp only [Act.put, List.setIfInBounds_toArray, List.set_cons_zero, List.set_cons_succ]))
          refine wv_nil ?_
          simp only [List.drop_succ_cons, List.drop_zero]
          intro w5 ⟨hO5, hS5⟩
          clear hO
          have hO := hO5
          clear hO5
          have hki : i < 32 := hlt
          have HRD : Hid (∀ w', Own w' L → Rd w' 1 (.slice (some (adb.add i)) (32 - i) (c' - i)) (32 - i) (bcs ((bs.drop i).take (32 - i)))) := fun w' h => by
            have h1 := (HB.out w' h).cut (lo := i) (k := 32 - i) (c' := c' - i) (by have := HB32.out; omega) (by have := HB32.out; omega) (by omega)
            rw [Nat.mul_one, Nat.mul_one, bcs_sub] at h1
            exact h1
          have HN : Hid (32 - i = ((bs.drop i).take (32 - i)).length) := by
            show _ = _
            rw [List.length_take, List.length_drop, HB32.out]; omega
          have HLN : Hid ((dP blk aa bs (min i 32)).length ≤ 32) := Nat.le_trans (dP_len blk aa bs (min i 32)) (by omega)
          have n1 : i ≤ c' := by have := HB32.out; omega
          have n2 : 32 ≤ c' := by have := HB32.out; omega
          go_wp2_with (first | (refine own_string (n := 32 - i) (bs := (bs.drop i).take (32 - i)) rfl rfl rfl Try.underlying28 Try.underlying5 Try.underlying9 HN.out (HRD.out _ (own_drop hO)) ?_) | (refine own_append (m := 1) (n := (dP blk aa bs (min i 32)).length) (xs := cellsP (dP blk aa bs (min i 32))) (news := [.int .i64 blk, .int .i64 i, .string (bstr ((bs.drop i).take (32 - i)))]) rfl rfl rfl rfl Try.underlying37 info_pat3 rfl (by decide) (own_perm (own_alloc_new hO (.cells #[.int .i64 blk, .int .i64 i, .string (bstr ((bs.drop i).take (32 - i)))] 23)) (List.Perm.swap _ _ _)) ?_ (pat_one _ _ _) ?_ ?_ ?_; (exact rd_block (own_get 1 (own_perm (own_alloc_new hO (.cells #[.int .i64 blk, .int .i64 i, .string (bstr ((bs.drop i).take (32 - i)))] 23)) (List.Perm.swap _ _ _)) rfl) rfl (by simp) (by simp) (by simp)); (have := HLN.out; unfold maxLen; omega); (have := HLN.out; omega); clear hO; intro v' w9 hO hS9 hv'))
          go_roundw
          case rel => exact ⟨33, by omega, by go_num, .inr (.inl rfl), by rw [dP_next blk aa bs i 32 HB32.out (by omega) HOK.out hki hk32 HD.out (.inl rfl)]; exact owns_snoc hO, hS.trans (hS5.trans ((Same.alloc _ _).trans hS9))⟩
          case measure => simp [intOf]; omega
    · have hmin : min i 32 = 32 := by omega
      rw [hmin] at hO
      clear hmin
      go_wp2
      go_ret
      exact ⟨_, rfl, hO, hS⟩
end Go.Proofs.Ytefohmjllcnnkaa.H
