/- PatchOrder: the walk. -/
import Derived.Test.YtefohmjllcnnkaaR7
import Derived.Test.YtefohmjllcnnkaaM2
set_option linter.unusedVariables false
set_option linter.unusedSimpArgs false
set_option maxRecDepth 100000
namespace Go.Proofs.Ytefohmjllcnnkaa.H
open Go.RowKit
theorem info_pat : (Try.prog.info? 23).map (fun i => (i.zero, i.size)) = some (some (.agg #[.int .i64 0, .int .i64 0, .string ⟨#[]⟩]), 3) := by kernel_rfl
theorem sz_int : (Try.prog.info? 3).map (·.size) = some 1 := by kernel_rfl
theorem over_v (w : World) (L : List HP) (a0 a1 b0 b1 : Int) (s t : ByteArray) {r : Bool} (hr : overB ⟨a0, a1, s⟩ ⟨b0, b1, t⟩ = r) (hO : Own w L) :
    Calls Try.prog 14 #[.agg #[.int .i64 a0, .int .i64 a1, .string s], .agg #[.int .i64 b0, .int .i64 b1, .string t]] w (Ret w (.bool r) L) := by
  have h := over_c w L a0 a1 b0 b1 s t hO
  rw [hr] at h
  exact h
/-- Two patches in a block of one's own. -/
theorem rdP_two {w : World} {b : Nat} {a0 a1 b0 b1 : Int} {s t : ByteArray} {ty : TypeId} {fr : Nat × Nat} (hg : w.heap[b]? = some (.cells #[.int .i64 a0, .int .i64 a1, .string s, .int .i64 b0, .int .i64 b1, .string t] ty fr)) :
    RdP w (.slice (some ⟨b, 0, none⟩) 2 2) [⟨a0, a1, s⟩, ⟨b0, b1, t⟩] := rd_block hg rfl (by simp) (by simp) (by simp)
set_option maxHeartbeats 1000000 in
theorem order_c (w : World) (A : Option Addr) (n c : Nat) (l : List UInt8) (a0 a1 b0 b1 : Int) (s t : ByteArray) (hl : n = l.length) (hr : Rd w 1 (.slice A n c) n (bcs l)) :
    Calls Try.prog 9 #[.slice A n c, .agg #[.int .i64 a0, .int .i64 a1, .string s], .agg #[.int .i64 b0, .int .i64 b1, .string t]] w (fun e w' => e = .returned (.bool true) ∧ Below w.heap.size w w') := by
  subst hl
  have HRD := Lib.hid hr
  have hO : Own w [snap w] := own_snap
  clear hr
  by_cases hall : rightB ⟨a0, a1, s⟩ = true ∧ rightB ⟨a0, b1, t⟩ = true ∧ overB ⟨a0, a1, s⟩ ⟨a0, b1, t⟩ = false
  · have HA := Lib.hid hall
    clear hall
    go_enter Try.func9, Try.ntmps9
    go_upto_region 5 with (first | (refine own_box_agg (x := .tmp 1) rfl rfl rfl hO ?_; clear hO; intro b w1 hO hS1) | (refine own_box_agg (x := .tmp 2) rfl rfl rfl hO ?_; clear hO; intro b' w2 hO hS2) | (go_at_call 28; refine (full_c _ _ _ l hO (fun w' h => rd_snap HRD.out h (k := 2) rfl)).mono ?_; clear hO; rintro e w3 ⟨g, xs, hxs, rfl, hO, hS3⟩) | (apply own_loadrow rfl rfl rfl; (first | exact row_pat); exact sz_pat; (first | exact own_get 0 hO rfl | exact own_get 1 hO rfl | exact own_get 2 hO rfl | exact own_get 3 hO rfl | exact own_get 4 hO rfl | exact own_get 5 hO rfl | exact own_get 6 hO rfl | exact own_get 7 hO rfl); (focus (simp; done)); (first | (simp only [List.drop_zero, List.drop_succ_cons, List.take_succ_cons, List.take_zero]; rfl) | rfl)) | (apply own_load1 rfl rfl rfl; (first | exact row_int | exact row_str | exact row_bool | exact row_u8 | exact row_bys | exact row_pats | exact row_err); (first | exact own_get 0 hO rfl | exact own_get 1 hO rfl | exact own_get 2 hO rfl | exact own_get 3 hO rfl | exact own_get 4 hO rfl | exact own_get 5 hO rfl | exact own_get 6 hO rfl | exact own_get 7 hO rfl); (first | (simp only [List.getElem?_toArray, List.getElem?_cons_succ, List.getElem?_cons_zero]; rfl) | rfl)) | (refine own_store1 (k := 1) (cs' := #[.int .i64 a0, .int .i64 b1, .string t]) rfl rfl rfl rfl sz_int hO rfl rfl (by simp) rfl ?_; clear hO; intro w4 hO hS4; simp only [List.set_cons_zero, List.set_cons_succ] at hO) | (go_at_call 23; with_reducible refine (right_v _ _ a0 a1 s HA.out.1 hO).mono ?_; clear hO; rintro e w5 ⟨rfl, hO, hS5⟩) | (go_at_call 23; with_reducible refine (right_v _ _ a0 b1 t HA.out.2.1 hO).mono ?_; clear hO; rintro e w6 ⟨rfl, hO, hS6⟩) | (go_at_call 14; refine (over_v _ _ _ _ _ _ _ _ HA.out.2.2 hO).mono ?_; clear hO; rintro e w7 ⟨rfl, hO, hS7⟩))
    have HX : Hid (32 = xs.length) := hxs.symm
    have HALL : Hid (∀ p ∈ [Pat.mk a0 a1 s, Pat.mk a0 b1 t], rightB p = true) := by
      intro p hp
      simp at hp
      rcases hp with rfl | rfl
      · exact HA.out.1
      · exact HA.out.2.1
    have HALL2 : Hid (∀ p ∈ [Pat.mk a0 b1 t, Pat.mk a0 a1 s], rightB p = true) := fun p hp => HALL.out p (by simp at hp ⊢; exact hp.symm)
    have HE : Hid (appAll xs [Pat.mk a0 b1 t, Pat.mk a0 a1 s] = appAll xs [Pat.mk a0 a1 s, Pat.mk a0 b1 t]) := (app_comm xs ⟨a0, a1, s⟩ ⟨a0, b1, t⟩ hxs HA.out.1 HA.out.2.1 rfl HA.out.2.2).symm
    have HN : Hid (32 = (appAll xs [Pat.mk a0 a1 s, Pat.mk a0 b1 t]).length) := (appAll_length _ _ hxs HALL.out).symm
    clear hxs
    go_upto_region 6 with (first | (apply own_loadrow rfl rfl rfl; (first | exact row_pat); exact sz_pat; (first | exact own_get 0 hO rfl | exact own_get 1 hO rfl | exact own_get 2 hO rfl | exact own_get 3 hO rfl | exact own_get 4 hO rfl | exact own_get 5 hO rfl | exact own_get 6 hO rfl | exact own_get 7 hO rfl); (focus (simp; done)); (first | (simp only [List.drop_zero, List.drop_succ_cons, List.take_succ_cons, List.take_zero]; rfl) | rfl)) | (go_at_call 25; have hO8 := own_alloc_new hO (.cells #[.int .i64 a0, .int .i64 a1, .string s, .int .i64 a0, .int .i64 b1, .string t] 23); have hS8 : Same w7 (w7.alloc (.cells #[.int .i64 a0, .int .i64 a1, .string s, .int .i64 a0, .int .i64 b1, .string t] 23)) := Same.alloc _ _; clear hO; refine (all_yes _ _ _ _ xs [⟨a0, a1, s⟩, ⟨a0, b1, t⟩] hO8 (fun w' h => rdB_block HX.out (own_get 1 h rfl) (Nat.le_refl 32) (by decide)) (fun w' h => rdP_two (own_get 0 h rfl)) HX.out.symm HALL.out).mono ?_; clear hO8; rintro e w9 ⟨g1, rfl, hO, hS9⟩))
    go_upto_region 7 with (first | (apply own_loadrow rfl rfl rfl; (first | exact row_pat); exact sz_pat; (first | exact own_get 0 hO rfl | exact own_get 1 hO rfl | exact own_get 2 hO rfl | exact own_get 3 hO rfl | exact own_get 4 hO rfl | exact own_get 5 hO rfl | exact own_get 6 hO rfl | exact own_get 7 hO rfl); (focus (simp; done)); (first | (simp only [List.drop_zero, List.drop_succ_cons, List.take_succ_cons, List.take_zero]; rfl) | rfl)) | (go_at_call 25; have hO8 := own_alloc_new hO (.cells #[.int .i64 a0, .int .i64 b1, .string t, .int .i64 a0, .int .i64 a1, .string s] 23); have hS10 : Same w9 (w9.alloc (.cells #[.int .i64 a0, .int .i64 b1, .string t, .int .i64 a0, .int .i64 a1, .string s] 23)) := Same.alloc _ _; clear hO; refine (all_yes _ _ _ _ xs [⟨a0, b1, t⟩, ⟨a0, a1, s⟩] hO8 (fun w' h => rdB_block HX.out (own_get 3 h rfl) (Nat.le_refl 32) (by decide)) (fun w' h => rdP_two (own_get 0 h rfl)) HX.out.symm HALL2.out).mono ?_; rw [HE.out]; clear hO8; rintro e w11 ⟨g2, rfl, hO, hS11⟩))
    refine wp_plain_seq (Cls w11 (_)) 16 (cls_here hO) ?_
    simp only [List.take_succ_cons, List.take_zero]
    repeat (first
      | (apply wv_skip rfl; simp only [Act.put, List.setIfInBounds_toArray, List.set_cons_zero, List.set_cons_succ])
      | (apply wv_load1 rfl rfl rfl; (first | exact row_int | exact row_str | exact row_bool | exact row_u8 | exact row_bys | exact row_pats | exact row_err); (intro w h; (first | exact own_get 0 h.1 rfl | exact own_get 1 h.1 rfl | exact own_get 2 h.1 rfl | exact own_get 3 h.1 rfl | exact own_get 4 h.1 rfl | exact own_get 5 h.1 rfl | exact own_get 6 h.1 rfl | exact own_get 7 h.1 rfl)); (first | (simp only [List.getElem?_toArray, List.getElem?_cons_succ, List.getElem?_cons_zero]; rfl) | rfl); simp only [Act.put, List.setIfInBounds_toArray, List.set_cons_zero, List.set_cons_succ])
      | (apply wv_loadrow rfl rfl rfl; (first | exact row_pat); exact sz_pat; (intro w h; (first | exact own_get 0 h.1 rfl | exact own_get 1 h.1 rfl | exact own_get 2 h.1 rfl | exact own_get 3 h.1 rfl | exact own_get 4 h.1 rfl | exact own_get 5 h.1 rfl | exact own_get 6 h.1 rfl | exact own_get 7 h.1 rfl)); (focus (simp; done)); (first | (simp only [List.drop_zero, List.drop_succ_cons, List.take_succ_cons, List.take_zero]; rfl) | rfl); simp only [Act.put, List.setIfInBounds_toArray, List.set_cons_zero, List.set_cons_succ])
      | (refine wv_string (n := 32) (bs := appAll xs [⟨a0, a1, s⟩, ⟨a0, b1, t⟩]) rfl rfl rfl Try.underlying28 Try.underlying5 Try.underlying9 HN.out (fun w h => rdN_block HN.out (own_get 2 h.1 rfl) (by simp) (by simp)) ?_; simp only [Act.put, List.setIfInBounds_toArray, List.set_cons_zero, List.set_cons_succ])
      | (refine wv_string (n := 32) (bs := appAll xs [⟨a0, a1, s⟩, ⟨a0, b1, t⟩]) rfl rfl rfl Try.underlying28 Try.underlying5 Try.underlying9 HN.out (fun w h => rdN_block HN.out (own_get 0 h.1 rfl) (by simp) (by simp)) ?_; simp only [Act.put, List.setIfInBounds_toArray, List.set_cons_zero, List.set_cons_succ])
      | (apply wv_run rfl; (focus (intro w h; go_simp; first | done | rfl)); simp only [Act.put, List.setIfInBounds_toArray, List.set_cons_zero, List.set_cons_succ])
      | (apply wv_call rfl; (focus (intro w; go_simp; first | done | exact ⟨rfl, rfl⟩)); (focus (intro w h; apply cls_call h; first | exact live_c _ _ h.1)); simp only [Act.put, List.setIfInBounds_toArray, List.set_cons_zero, List.set_cons_succ]))
    refine wv_nil ?_
    simp only [List.drop_succ_cons, List.drop_zero]
    intro w12 ⟨hO12, hS12⟩
    clear hO
    go_wp2
    go_ret
    exact ⟨rfl, below_of (own_at hO12 (k := 7) rfl) (hS1.trans (hS2.trans (hS3.trans (hS4.trans (hS5.trans (hS6.trans (hS7.trans (hS8.trans (hS9.trans (hS10.trans (hS11.trans hS12)))))))))))⟩
  · have key : ∀ (r1 r2 ov : Bool), rightB ⟨a0, a1, s⟩ = r1 → rightB ⟨a0, b1, t⟩ = r2 → overB ⟨a0, a1, s⟩ ⟨a0, b1, t⟩ = ov → (r1 = false ∨ (r1 = true ∧ r2 = false) ∨ (r1 = true ∧ r2 = true ∧ ov = true)) →
        Calls Try.prog 9 #[.slice A l.length c, .agg #[.int .i64 a0, .int .i64 a1, .string s], .agg #[.int .i64 b0, .int .i64 b1, .string t]] w (fun e w' => e = .returned (.bool true) ∧ Below w.heap.size w w') := by
      intro r1 r2 ov hR hR2 hV hc
      have HR := Lib.hid hR
      have HR2 := Lib.hid hR2
      have HV := Lib.hid hV
      clear hR hR2 hV hall
      rcases hc with rfl | ⟨rfl, rfl⟩ | ⟨rfl, rfl, rfl⟩
      all_goals
        go_enter Try.func9, Try.ntmps9
        go_wp2_with (first | (refine own_box_agg (x := .tmp 1) rfl rfl rfl hO ?_; clear hO; intro b w1 hO hS1) | (refine own_box_agg (x := .tmp 2) rfl rfl rfl hO ?_; clear hO; intro b' w2 hO hS2) | (go_at_call 28; refine (full_c _ _ _ l hO (fun w' h => rd_snap HRD.out h (k := 2) rfl)).mono ?_; clear hO; rintro e w3 ⟨g, xs, hxs, rfl, hO, hS3⟩) | (apply own_loadrow rfl rfl rfl; (first | exact row_pat); exact sz_pat; (first | exact own_get 0 hO rfl | exact own_get 1 hO rfl | exact own_get 2 hO rfl | exact own_get 3 hO rfl | exact own_get 4 hO rfl | exact own_get 5 hO rfl | exact own_get 6 hO rfl | exact own_get 7 hO rfl); (focus (simp; done)); (first | (simp only [List.drop_zero, List.drop_succ_cons, List.take_succ_cons, List.take_zero]; rfl) | rfl)) | (apply own_load1 rfl rfl rfl; (first | exact row_int | exact row_str | exact row_bool | exact row_u8 | exact row_bys | exact row_pats | exact row_err); (first | exact own_get 0 hO rfl | exact own_get 1 hO rfl | exact own_get 2 hO rfl | exact own_get 3 hO rfl | exact own_get 4 hO rfl | exact own_get 5 hO rfl | exact own_get 6 hO rfl | exact own_get 7 hO rfl); (first | (simp only [List.getElem?_toArray, List.getElem?_cons_succ, List.getElem?_cons_zero]; rfl) | rfl)) | (refine own_store1 (k := 1) (cs' := #[.int .i64 a0, .int .i64 b1, .string t]) rfl rfl rfl rfl sz_int hO rfl rfl (by simp) rfl ?_; clear hO; intro w4 hO hS4; simp only [List.set_cons_zero, List.set_cons_succ] at hO) | (go_at_call 23; with_reducible refine (right_v _ _ a0 a1 s HR.out hO).mono ?_; clear hO; rintro e w5 ⟨rfl, hO, hS5⟩) | (go_at_call 23; with_reducible refine (right_v _ _ a0 b1 t HR2.out hO).mono ?_; clear hO; rintro e w6 ⟨rfl, hO, hS6⟩) | (go_at_call 14; refine (over_v _ _ _ _ _ _ _ _ HV.out hO).mono ?_; clear hO; rintro e w7 ⟨rfl, hO, hS7⟩) | (go_at_call 13; refine (live_c _ _ hO).mono ?_; clear hO; rintro e w8 ⟨rfl, hO, hS8⟩))
        go_ret
        first | exact ⟨rfl, below_of (own_at hO (k := 3) rfl) (hS1.trans (hS2.trans (hS3.trans (hS4.trans (hS5.trans (hS6.trans (hS7.trans hS8)))))))⟩ | exact ⟨rfl, below_of (own_at hO (k := 3) rfl) (hS1.trans (hS2.trans (hS3.trans (hS4.trans (hS5.trans (hS6.trans hS8))))))⟩ | exact ⟨rfl, below_of (own_at hO (k := 3) rfl) (hS1.trans (hS2.trans (hS3.trans (hS4.trans (hS5.trans hS8)))))⟩
    refine key _ _ _ rfl rfl rfl ?_
    cases h1 : rightB ⟨a0, a1, s⟩ with
    | false => exact .inl rfl
    | true =>
      cases h2 : rightB ⟨a0, b1, t⟩ with
      | false => exact .inr (.inl ⟨rfl, rfl⟩)
      | true =>
        cases h3 : overB ⟨a0, a1, s⟩ ⟨a0, b1, t⟩ with
        | false => exact absurd ⟨h1, h2, h3⟩ hall
        | true => exact .inr (.inr ⟨rfl, rfl, rfl⟩)
end Go.Proofs.Ytefohmjllcnnkaa.H
