/- Contract of the reference's Apply. -/
import Derived.Test.YtdcbfdepkbplbaaR1
import Derived.Test.YtdcbfdepkbplbaaH4
set_option linter.unusedVariables false
set_option linter.unusedSimpArgs false
set_option maxRecDepth 100000
namespace Go.Proofs.Ytdcbfdepkbplbaa.H
open Go.RowKit
/-- What holds at each round of the reference's Apply: so many bytes are laid over. -/
def RApplyInv (L : List HP) (w0 : World) (b g : Nat) (bs : List UInt8) (a0 a1 : Int) (s : ByteArray) (rst : List Value) (k : Nat) (wr : World) : Prop :=
  Own wr (pts g (.cells (bcs (over bs a1.toNat (s.data.toList.take k)) ++ rst).toArray 5) :: pts b (.cells #[.int .i64 a0, .int .i64 a1, .string s] 33) :: L) ∧ Same w0 wr
set_option maxHeartbeats 800000 in
theorem rapply_ok (w : World) (L : List HP) (v : Value) (bs : List UInt8) (a0 a1 : Int) (s : ByteArray) (hO : Own w L) (hr : ∀ w', Own w' L → RdB w' v bs) (h32 : bs.length = 32) (hR : rightB ⟨a0, a1, s⟩ = true) :
    Calls Try.prog 68 #[v, .agg #[.int .i64 a0, .int .i64 a1, .string s]] w (RetX w (fun v' => .tuple #[v', .int .i64 0]) (fun v' => owns 5 1 v' 32 (bcs (app bs ⟨a0, a1, s⟩)) :: L)) := by
  obtain ⟨A, c, rfl⟩ := (hr w hO).slice
  have hlen : ((bs.length : Int) != 32) = false := by simp; omega
  have H32 : Hid (bs.length = 32) := h32
  have HR := Lib.hid hr
  clear h32 hr
  obtain ⟨p1, p2, p3, p4, p5, p6⟩ := rightB_iff.1 hR
  simp only at p1 p2 p3 p4 p5 p6
  go_enter Try.func68, Try.ntmps68
  go_wp2_with (first | (refine own_box_agg (x := .tmp 1) rfl rfl rfl hO ?_; clear hO; intro b w1 hO hS1) | (apply own_loadrow rfl rfl rfl; (first | exact row_pat); exact sz_pat; (first | exact own_get 0 hO rfl | exact own_get 1 hO rfl | exact own_get 2 hO rfl | exact own_get 3 hO rfl | exact own_get 4 hO rfl | exact own_get 5 hO rfl | exact own_get 6 hO rfl | exact own_get 7 hO rfl); (focus (simp; done)); (first | (simp only [List.drop_zero, List.drop_succ_cons, List.take_succ_cons, List.take_zero]; rfl) | rfl)) | (go_at_call 69; refine (rright_v _ _ _ _ _ hR hO).mono ?_; clear hO; rintro e w2 ⟨rfl, hO, hS2⟩) | (refine own_lit0 rfl rfl Try.underlying22 sz_u8 hO ?_; clear hO; intro g0 w3 hO hS3) | (refine own_append (m := bs.length) (news := bcs bs) rfl rfl rfl rfl Try.underlying22 info_u8 rfl (by decide) hO ?_ (bcs_one bs) ?_ ?_ ?_; exact HR.out _ (own_drop (own_drop hO)); (rw [H32.out]; decide); (rw [H32.out]; decide); clear hO; intro v' w4 hO hS4 hv'))
  have hvn : v' ≠ .slice none 0 0 := fun h => by have := (hv'.1 h).1; cases this
  clear hv'
  rw [Nat.zero_add, List.nil_append] at hO
  obtain ⟨g, cap, rst, rfl, hcap, hcm, hlr, hlx, hO⟩ := owns_open hO hvn
  clear hvn
  rw [Nat.mul_one] at hlr hlx
  have HX := Lib.hid hlx
  have HLR := Lib.hid hlr
  have hcap32 : 32 ≤ cap := by have := H32.out; omega
  clear hlx hlr hcap
  go_wp2
  go_loopw [7] (fun i wr => ∃ k : Nat, k ≤ s.size ∧ i = .int .i64 k ∧ RApplyInv L w b g bs a0 a1 s rst k wr) (fun i _ => s.size - (intOf i).toNat)
  case atStart => exact ⟨0, Nat.zero_le _, rfl, by simpa [over] using hO, hS1.trans (hS2.trans (hS3.trans hS4))⟩
  case round =>
    obtain ⟨k, hk, rfl, hO, hS⟩ := hrel
    by_cases hlt : k < s.size
    · have m1 : IntKind.i64.wrap (a1 + k) = a1 + k := by rw [IntKind.wrap_i64]; omega
      have m2 : 0 ≤ a1 + k := by omega
      have m3 : a1 + k < bs.length := by have := H32.out; omega
      have m4 : (a1 + (k : Int)).toNat = a1.toNat + k := by omega
      have M4 := Lib.hid m4
      clear m4
      go_wp2_with (apply own_load1 rfl rfl rfl; (first | exact row_int | exact row_str | exact row_bool | exact row_u8 | exact row_bys | exact row_pats | exact row_err); (first | exact own_get 0 hO rfl | exact own_get 1 hO rfl | exact own_get 2 hO rfl | exact own_get 3 hO rfl | exact own_get 4 hO rfl | exact own_get 5 hO rfl | exact own_get 6 hO rfl | exact own_get 7 hO rfl); (first | (simp only [List.getElem?_toArray, List.getElem?_cons_succ, List.getElem?_cons_zero]; rfl) | rfl))
      refine wp_region_seq (Cls wr (pts g (.cells (bcs (over bs a1.toNat (s.data.toList.take k)) ++ rst).toArray 5) :: pts b (.cells #[.int .i64 a0, .int .i64 a1, .string s] 33) :: L)) 10 37 mixed (by kernel_rfl) rfl (cls_drew hO) ?_
      simp only [List.take_succ_cons, List.take_zero]
      repeat (first
        | (apply wv_skip rfl; simp only [Act.put, List.setIfInBounds_toArray, List.set_cons_zero, List.set_cons_succ])
        | (apply wv_load1 rfl rfl rfl; (first | exact row_int | exact row_str | exact row_bool | exact row_u8 | exact row_bys | exact row_pats | exact row_err); (intro w h; (first | exact own_get 0 h.1 rfl | exact own_get 1 h.1 rfl | exact own_get 2 h.1 rfl | exact own_get 3 h.1 rfl | exact own_get 4 h.1 rfl | exact own_get 5 h.1 rfl | exact own_get 6 h.1 rfl | exact own_get 7 h.1 rfl)); (first | (simp only [List.getElem?_toArray, List.getElem?_cons_succ, List.getElem?_cons_zero]; rfl) | rfl); simp only [Act.put, List.setIfInBounds_toArray, List.set_cons_zero, List.set_cons_succ])
        | (apply wv_loadrow rfl rfl rfl; (first | exact row_pat); exact sz_pat; (intro w h; (first | exact own_get 0 h.1 rfl | exact own_get 1 h.1 rfl | exact own_get 2 h.1 rfl | exact own_get 3 h.1 rfl | exact own_get 4 h.1 rfl | exact own_get 5 h.1 rfl | exact own_get 6 h.1 rfl | exact own_get 7 h.1 rfl)); (focus (simp; done)); (first | (simp only [List.drop_zero, List.drop_succ_cons, List.take_succ_cons, List.take_zero]; rfl) | rfl); simp only [Act.put, List.setIfInBounds_toArray, List.set_cons_zero, List.set_cons_succ])
        | (apply wv_run rfl; (focus (intro w h; go_simp; first | done | rfl)); simp only [Act.put, List.setIfInBounds_toArray, List.set_cons_zero, List.set_cons_succ])
        | (apply wv_call rfl; (focus (intro w; go_simp; first | done | exact ⟨rfl, rfl⟩)); (focus (intro w h; apply cls_call h; fail)); simp only [Act.put, List.setIfInBounds_toArray, List.set_cons_zero, List.set_cons_succ]))
      refine wv_nil ?_
      simp only [List.drop_succ_cons, List.drop_zero]
      intro w5 ⟨hO5, hS5⟩
      clear hO
      have hsl : s.size = s.data.toList.length := by rw [Array.length_toList]; rfl
      refine own_store1 (k := 0) (cs' := (bcs (over bs a1.toNat (s.data.toList.take (k + 1))) ++ rst).toArray) rfl rfl rfl rfl sz_u8 hO5 rfl rfl ?_ ?_ ?_
      · rw [M4.out, List.size_toArray, List.length_append, bcs_length]
        have := over_length bs a1.toNat (s.data.toList.take k) (by rw [List.length_take]; have := H32.out; omega)
        rw [this]
        have := H32.out
        omega
      · rw [M4.out]
        apply Array.ext'
        rw [Array.toList_setIfInBounds]
        have h2 := over_length bs a1.toNat (s.data.toList.take k) (by rw [List.length_take]; have := H32.out; omega)
        rw [List.set_append_left _ _ (by rw [bcs_length, h2]; have := H32.out; omega)]
        have hst := over_step bs s.data.toList a1.toNat k (by omega) (by have := H32.out; omega)
        rw [← hst, ← bcs_set]
        rfl
      intro w6 hO6 hS6
      simp only [List.set_cons_zero] at hO6
      clear hO5
      simp only [Act.put]
      go_wp2
      go_roundw
      case rel => exact ⟨k + 1, by omega, by go_num, hO6, hS.trans (hS5.trans hS6)⟩
      case measure => simp [intOf]; omega
    · have hkk : k = s.size := by omega
      have HK := Lib.hid hkk
      clear hkk
      go_wp2_with (apply own_load1 rfl rfl rfl; (first | exact row_int | exact row_str | exact row_bool | exact row_u8 | exact row_bys | exact row_pats | exact row_err); (first | exact own_get 0 hO rfl | exact own_get 1 hO rfl | exact own_get 2 hO rfl | exact own_get 3 hO rfl | exact own_get 4 hO rfl | exact own_get 5 hO rfl | exact own_get 6 hO rfl | exact own_get 7 hO rfl); (first | (simp only [List.getElem?_toArray, List.getElem?_cons_succ, List.getElem?_cons_zero]; rfl) | rfl))
      go_ret2
      have hkk := HK.out
      subst hkk
      have hsl : s.size = s.data.toList.length := by rw [Array.length_toList]; rfl
      rw [hsl, List.take_length] at hO
      have hd := own_drop (own_perm hO (List.Perm.swap _ _ _))
      have hal : (bcs (app bs ⟨a0, a1, s⟩)).length = 32 := by rw [bcs_length, app_length bs ⟨a0, a1, s⟩ H32.out hR]
      refine ⟨.slice (some ⟨g, 0, none⟩) bs.length cap, rfl, ?_, hS⟩
      rw [H32.out]
      refine owns_of_pts (cur := (bcs (app bs ⟨a0, a1, s⟩) ++ rst).toArray) hd ?_ hcap32 hcm ?_
      · have h1 := HLR.out
        rw [List.length_append, bcs_length, H32.out] at h1
        rw [List.size_toArray, List.length_append, hal, Nat.mul_one]
        exact h1
      · rw [Nat.mul_one, ← hal]
        exact List.take_left
end Go.Proofs.Ytdcbfdepkbplbaa.H
