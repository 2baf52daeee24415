/- Contract of the reference's Apply. Contracts of the reference's Apply and Undo at what may not be, of its Undo and Idle. Contract of the reference's Idle; few, of the statements. PatchApplies: the walk. PatchUndoes: the walk. A slice literal: a block of one's own. Loads from what is only read, in a region. -/
import Derived.Test.YtdcbfdepkbplbaaZ03
import Derived.Test.YtdcbfdepkbplbaaZ02
import Derived.Great.BuildSlice
set_option linter.unusedVariables false
set_option linter.unusedSimpArgs false
set_option maxRecDepth 100000
namespace Go.Proofs.Ytdcbfdepkbplbaa.H
open Go.RowKit
/-- What holds at each round of the reference's Apply: so many bytes are laid over. -/
def RApplyInv (L : List HP) (w0 : World) (b g : Nat) (bs : List UInt8) (a0 a1 : Int) (s : ByteArray) (rst : List Value) (k : Nat) (wr : World) : Prop :=
  Own wr (pts g (.cells (bcs (over bs a1.toNat (s.data.toList.take k)) ++ rst).toArray 5) :: pts b (.cells #[.int .i64 a0, .int .i64 a1, .string s] 33) :: L) ∧ Same w0 wr
set_option maxHeartbeats 800000 in
theorem rapply_ok (w : World) (L : List HP) (v : Value) (bs : List UInt8) (a0 a1 : Int) (s : ByteArray) (hO : Own w L) (hr : ∀ w', Own w' L → RdB w' v bs) (h32 : bs.length = 32) (hR : rightB ⟨a0, a1, s⟩ = true) :
    Calls Try.prog 68 #[v, .agg #[.int .i64 a0, .int .i64 a1, .string s]] w (RetX w (fun v' => .tuple #[v', .int .i64 0]) (fun v' => owns 5 1 v' 32 (bcs (app bs ⟨a0, a1, s⟩)) :: L)) := by
  obtain ⟨A, c, rfl⟩ := (hr w hO).slice
  have hlen : ((bs.length : Int) != 32) = false := by simp; omega
  have H32 : Hid (bs.length = 32) := h32
  have HR := Lib.hid hr
  clear h32 hr
  obtain ⟨p1, p2, p3, p4, p5, p6⟩ := rightB_iff.1 hR
  simp only at p1 p2 p3 p4 p5 p6
  go_enter Try.func68, Try.ntmps68
  go_wp2_with (first | (refine own_box_agg (x := .tmp 1) rfl rfl rfl hO ?_; clear hO; intro b w1 hO hS1) | (apply own_loadrow rfl rfl rfl; (first | exact row_pat); exact sz_pat; (first | exact own_get 0 hO rfl | exact own_get 1 hO rfl | exact own_get 2 hO rfl | exact own_get 3 hO rfl | exact own_get 4 hO rfl | exact own_get 5 hO rfl | exact own_get 6 hO rfl | exact own_get 7 hO rfl); (focus (simp; done)); (first | (simp only [List.drop_zero, List.drop_succ_cons, List.take_succ_cons, List.take_zero]; rfl) | rfl)) | (go_at_call 69; refine (rright_v _ _ _ _ _ hR hO).mono ?_; clear hO; rintro e w2 ⟨rfl, hO, hS2⟩) | (refine own_lit0 rfl rfl Try.underlying22 sz_u8 hO ?_; clear hO; intro g0 w3 hO hS3) | (refine own_append (m := bs.length) (news := bcs bs) rfl rfl rfl rfl Try.underlying22 info_u8 rfl (by decide) hO ?_ (bcs_one bs) ?_ ?_ ?_; exact HR.out _ (own_drop (own_drop hO)); (rw [H32.out]; decide); (rw [H32.out]; decide); clear hO; intro v' w4 hO hS4 hv'))
  have hvn : v' ≠ .slice none 0 0 := fun h => by have := (hv'.1 h).1; cases this
  clear hv'
  rw [Nat.zero_add, List.nil_append] at hO
  obtain ⟨g, cap, rst, rfl, hcap, hcm, hlr, hlx, hO⟩ := owns_open hO hvn
  clear hvn
  rw [Nat.mul_one] at hlr hlx
  have HX := Lib.hid hlx
  have HLR := Lib.hid hlr
  have hcap32 : 32 ≤ cap := by have := H32.out; omega
  clear hlx hlr hcap
  go_wp2
  go_loopw [7] (fun i wr => ∃ k : Nat, k ≤ s.size ∧ i = .int .i64 k ∧ RApplyInv L w b g bs a0 a1 s rst k wr) (fun i _ => s.size - (intOf i).toNat)
  case atStart => exact ⟨0, Nat.zero_le _, rfl, by simpa [over] using hO, hS1.trans (hS2.trans (hS3.trans hS4))⟩
  case round =>
    obtain ⟨k, hk, rfl, hO, hS⟩ := hrel
    by_cases hlt : k < s.size
    · have m1 : IntKind.i64.wrap (a1 + k) = a1 + k := by rw [IntKind.wrap_i64]; omega
      have m2 : 0 ≤ a1 + k := by omega
      have m3 : a1 + k < bs.length := by have := H32.out; omega
      have m4 : (a1 + (k : Int)).toNat = a1.toNat + k := by omega
      have M4 := Lib.hid m4
      clear m4
      go_wp2_with (apply own_load1 rfl rfl rfl; (first | exact row_int | exact row_str | exact row_bool | exact row_u8 | exact row_bys | exact row_pats | exact row_err); (first | exact own_get 0 hO rfl | exact own_get 1 hO rfl | exact own_get 2 hO rfl | exact own_get 3 hO rfl | exact own_get 4 hO rfl | exact own_get 5 hO rfl | exact own_get 6 hO rfl | exact own_get 7 hO rfl); (first | (simp only [List.getElem?_toArray, List.getElem?_cons_succ, List.getElem?_cons_zero]; rfl) | rfl))
      refine wp_region_seq (Cls wr (pts g (.cells (bcs (over bs a1.toNat (s.data.toList.take k)) ++ rst).toArray 5) :: pts b (.cells #[.int .i64 a0, .int .i64 a1, .string s] 33) :: L)) 10 37 mixed (by kernel_rfl) rfl (cls_drew hO) ?_
      simp only [List.append_eq, List.cons_append, List.nil_append, List.take_succ_cons, List.take_zero]
      repeat (first
        | (apply wv_skip rfl; simp only [Act.put, List.setIfInBounds_toArray, List.set_cons_zero, List.set_cons_succ])
        | (apply wv_load1 rfl rfl rfl; (first | exact row_int | exact row_str | exact row_bool | exact row_u8 | exact row_bys | exact row_pats | exact row_err); (intro w h; (first | exact own_get 0 h.1 rfl | exact own_get 1 h.1 rfl | exact own_get 2 h.1 rfl | exact own_get 3 h.1 rfl | exact own_get 4 h.1 rfl | exact own_get 5 h.1 rfl | exact own_get 6 h.1 rfl | exact own_get 7 h.1 rfl)); (first | (simp only [List.getElem?_toArray, List.getElem?_cons_succ, List.getElem?_cons_zero]; rfl) | rfl); simp only [Act.put, List.setIfInBounds_toArray, List.set_cons_zero, List.set_cons_succ])
        | (apply wv_loadrow rfl rfl rfl; (first | exact row_pat); exact sz_pat; (intro w h; (first | exact own_get 0 h.1 rfl | exact own_get 1 h.1 rfl | exact own_get 2 h.1 rfl | exact own_get 3 h.1 rfl | exact own_get 4 h.1 rfl | exact own_get 5 h.1 rfl | exact own_get 6 h.1 rfl | exact own_get 7 h.1 rfl)); (focus (simp; done)); (first | (simp only [List.drop_zero, List.drop_succ_cons, List.take_succ_cons, List.take_zero]; rfl) | rfl); simp only [Act.put, List.setIfInBounds_toArray, List.set_cons_zero, List.set_cons_succ])
        | (apply wv_run rfl; (focus (intro w h; go_simp; first | done | rfl)); simp only [Act.put, List.setIfInBounds_toArray, List.set_cons_zero, List.set_cons_succ])
        | (apply wv_call rfl; (focus (intro w; go_simp; first | done | exact ⟨rfl, rfl⟩)); (focus (intro w h; apply cls_call h; fail)); simp only [Act.put, List.setIfInBounds_toArray, List.set_cons_zero, List.set_cons_succ]))
      refine wv_nil ?_
      simp only [List.drop_succ_cons, List.drop_zero]
      intro w5 ⟨hO5, hS5⟩
      clear hO
      have hsl : s.size = s.data.toList.length := by rw [Array.length_toList]; rfl
      refine own_store1 (k := 0) (cs' := (bcs (over bs a1.toNat (s.data.toList.take (k + 1))) ++ rst).toArray) rfl rfl rfl rfl sz_u8 hO5 rfl rfl ?_ ?_ ?_
      · rw [M4.out, List.size_toArray, List.length_append, bcs_length]
        have := over_length bs a1.toNat (s.data.toList.take k) (by rw [List.length_take]; have := H32.out; omega)
        rw [this]
        have := H32.out
        omega
      · rw [M4.out]
        apply Array.ext'
        rw [Array.toList_setIfInBounds]
        have h2 := over_length bs a1.toNat (s.data.toList.take k) (by rw [List.length_take]; have := H32.out; omega)
        rw [List.set_append_left _ _ (by rw [bcs_length, h2]; have := H32.out; omega)]
        have hst := over_step bs s.data.toList a1.toNat k (by omega) (by have := H32.out; omega)
        rw [← hst, ← bcs_set]
        rfl
      intro w6 hO6 hS6
      simp only [List.set_cons_zero] at hO6
      clear hO5
      simp only [Act.put]
      go_wp2
      go_roundw
      case rel => exact ⟨k + 1, by omega, by go_num, hO6, hS.trans (hS5.trans hS6)⟩
      case measure => simp [intOf]; omega
    · have hkk : k = s.size := by omega
      have HK := Lib.hid hkk
      clear hkk
      go_wp2_with (apply own_load1 rfl rfl rfl; (first | exact row_int | exact row_str | exact row_bool | exact row_u8 | exact row_bys | exact row_pats | exact row_err); (first | exact own_get 0 hO rfl | exact own_get 1 hO rfl | exact own_get 2 hO rfl | exact own_get 3 hO rfl | exact own_get 4 hO rfl | exact own_get 5 hO rfl | exact own_get 6 hO rfl | exact own_get 7 hO rfl); (first | (simp only [List.getElem?_toArray, List.getElem?_cons_succ, List.getElem?_cons_zero]; rfl) | rfl))
      go_ret2
      have hkk := HK.out
      subst hkk
      have hsl : s.size = s.data.toList.length := by rw [Array.length_toList]; rfl
      rw [hsl, List.take_length] at hO
      have hd := own_drop (own_perm hO (List.Perm.swap _ _ _))
      have hal : (bcs (app bs ⟨a0, a1, s⟩)).length = 32 := by rw [bcs_length, app_length bs ⟨a0, a1, s⟩ H32.out hR]
      refine ⟨.slice (some ⟨g, 0, none⟩) bs.length cap, rfl, ?_, hS⟩
      rw [H32.out]
      refine owns_of_pts (cur := (bcs (app bs ⟨a0, a1, s⟩) ++ rst).toArray) hd ?_ hcap32 hcm ?_
      · have h1 := HLR.out
        rw [List.length_append, bcs_length, H32.out] at h1
        rw [List.size_toArray, List.length_append, hal, Nat.mul_one]
        exact h1
      · rw [Nat.mul_one, ← hal]
        exact List.take_left
end Go.Proofs.Ytdcbfdepkbplbaa.H
set_option linter.unusedVariables false
set_option linter.unusedSimpArgs false
set_option maxRecDepth 100000
namespace Go.Proofs.Ytdcbfdepkbplbaa.H
open Go.RowKit
theorem rapply_no (w : World) (L : List HP) (v : Value) (bs : List UInt8) (a0 a1 : Int) (s : ByteArray) (hO : Own w L) (hr : ∀ w', Own w' L → RdB w' v bs) (hno : bs.length = 32 → rightB ⟨a0, a1, s⟩ = false) :
    Calls Try.prog 68 #[v, .agg #[.int .i64 a0, .int .i64 a1, .string s]] w (Ret w (.tuple #[.slice none 0 0, .int .i64 3]) L) := by
  obtain ⟨A, c, rfl⟩ := (hr w hO).slice
  have HN := Lib.hid hno
  clear hno
  by_cases h32 : bs.length = 32
  · have hlen : ((bs.length : Int) != 32) = false := by simp; omega
    have hR := HN.out h32
    have H32 : Hid (bs.length = 32) := h32
    clear h32
    go_enter Try.func68, Try.ntmps68
    go_wp2_with (first | (refine own_box_agg (x := .tmp 1) rfl rfl rfl hO ?_; clear hO; intro b w1 hO hS1) | (apply own_loadrow rfl rfl rfl; (first | exact row_pat); exact sz_pat; (first | exact own_get 0 hO rfl | exact own_get 1 hO rfl | exact own_get 2 hO rfl | exact own_get 3 hO rfl | exact own_get 4 hO rfl | exact own_get 5 hO rfl | exact own_get 6 hO rfl | exact own_get 7 hO rfl); (focus (simp; done)); (first | (simp only [List.drop_zero, List.drop_succ_cons, List.take_succ_cons, List.take_zero]; rfl) | rfl)) | (go_at_call 69; refine (rright_v _ _ _ _ _ hR hO).mono ?_; clear hO; rintro e w3 ⟨rfl, hO, hS3⟩))
    go_ret2
    exact ⟨rfl, own_drop hO, hS1.trans hS3⟩
  · have hlen : ((bs.length : Int) != 32) = true := by simp; omega
    have H32 := Lib.hid h32
    clear h32
    go_enter Try.func68, Try.ntmps68
    go_wp2_with (first | (refine own_box_agg (x := .tmp 1) rfl rfl rfl hO ?_; clear hO; intro b w1 hO hS1))
    go_ret2
    exact ⟨rfl, own_drop hO, hS1⟩
theorem rundo_no (w : World) (L : List HP) (v : Value) (bs : List UInt8) (a0 a1 : Int) (s : ByteArray) (hO : Own w L) (hr : ∀ w', Own w' L → RdB w' v bs) (hno : bs.length = 32 → rightB ⟨a0, a1, s⟩ = false) :
    Calls Try.prog 65 #[v, .agg #[.int .i64 a0, .int .i64 a1, .string s]] w (Ret w (.tuple #[.agg #[.int .i64 0, .int .i64 0, .string ⟨#[]⟩], .int .i64 3]) L) := by
  obtain ⟨A, c, rfl⟩ := (hr w hO).slice
  have HN := Lib.hid hno
  clear hno
  by_cases h32 : bs.length = 32
  · have hlen : ((bs.length : Int) != 32) = false := by simp; omega
    have hR := HN.out h32
    have H32 : Hid (bs.length = 32) := h32
    clear h32
    go_enter Try.func65, Try.ntmps65
    go_wp2_with (first | (refine own_box_agg (x := .tmp 1) rfl rfl rfl hO ?_; clear hO; intro b w1 hO hS1) | (refine own_alloc rfl rfl zero_pat rfl hO ?_; clear hO; intro g w2 hO hS2) | (apply own_loadrow rfl rfl rfl; (first | exact row_pat); exact sz_pat; (first | exact own_get 0 hO rfl | exact own_get 1 hO rfl | exact own_get 2 hO rfl | exact own_get 3 hO rfl | exact own_get 4 hO rfl | exact own_get 5 hO rfl | exact own_get 6 hO rfl | exact own_get 7 hO rfl); (focus (simp; done)); (first | (simp only [List.drop_zero, List.drop_succ_cons, List.take_succ_cons, List.take_zero]; rfl) | rfl)) | (go_at_call 69; refine (rright_v _ _ _ _ _ hR hO).mono ?_; clear hO; rintro e w3 ⟨rfl, hO, hS3⟩) | (refine own_store_all (k := 0) rfl rfl rfl rfl sz_pat hO rfl rfl rfl rfl ?_; clear hO; intro w6 hO hS6; simp only [List.set_cons_zero] at hO))
    exact bodyPost_ret (results_cell_tmp rfl rfl (own_get 0 hO rfl) row_pat sz_pat) rfl ⟨rfl, own_drop (own_drop hO), hS1.trans (hS2.trans (hS3.trans hS6))⟩
  · have hlen : ((bs.length : Int) != 32) = true := by simp; omega
    have H32 := Lib.hid h32
    clear h32
    go_enter Try.func65, Try.ntmps65
    go_wp2_with (first | (refine own_box_agg (x := .tmp 1) rfl rfl rfl hO ?_; clear hO; intro b w1 hO hS1) | (refine own_alloc rfl rfl zero_pat rfl hO ?_; clear hO; intro g w2 hO hS2) | (apply own_loadrow rfl rfl rfl; (first | exact row_pat); exact sz_pat; (first | exact own_get 0 hO rfl | exact own_get 1 hO rfl | exact own_get 2 hO rfl | exact own_get 3 hO rfl | exact own_get 4 hO rfl | exact own_get 5 hO rfl | exact own_get 6 hO rfl | exact own_get 7 hO rfl); (focus (simp; done)); (first | (simp only [List.drop_zero, List.drop_succ_cons, List.take_succ_cons, List.take_zero]; rfl) | rfl)) | (refine own_store_all (k := 0) rfl rfl rfl rfl sz_pat hO rfl rfl rfl rfl ?_; clear hO; intro w6 hO hS6; simp only [List.set_cons_zero] at hO))
    exact bodyPost_ret (results_cell_tmp rfl rfl (own_get 0 hO rfl) row_pat sz_pat) rfl ⟨rfl, own_drop (own_drop hO), hS1.trans (hS2.trans hS6)⟩
theorem rundo_ok (w : World) (L : List HP) (v : Value) (bs : List UInt8) (a0 a1 : Int) (s : ByteArray) (hO : Own w L) (hr : ∀ w', Own w' L → RdB w' v bs) (h32 : bs.length = 32) (hR : rightB ⟨a0, a1, s⟩ = true) :
    Calls Try.prog 65 #[v, .agg #[.int .i64 a0, .int .i64 a1, .string s]] w (Ret w (.tuple #[.agg #[.int .i64 a0, .int .i64 a1, .string (bstr ((bs.drop a1.toNat).take s.size))], .int .i64 0]) L) := by
  obtain ⟨A, c, rfl⟩ := (hr w hO).slice
  have hlen : ((bs.length : Int) != 32) = false := by simp; omega
  have hnc := (hr w hO).max
  have H32 : Hid (bs.length = 32) := h32
  have HR := Lib.hid hr
  clear h32 hr
  obtain ⟨p1, p2, p3, p4, p5, p6⟩ := rightB_iff.1 hR
  simp only at p1 p2 p3 p4 p5 p6
  have f1 : IntKind.i64.wrap (a1 + s.size) = a1 + s.size := by rw [IntKind.wrap_i64]; omega
  have f2 : a1 ≤ a1 + s.size := by omega
  have f3 : a1 + s.size ≤ c := by have := H32.out; omega
  have f4 : 0 ≤ a1 + s.size := by omega
  have f5 : ¬ (c = a1.toNat) := by have := H32.out; omega
  have F5 := Lib.hid f5
  clear f5
  have N : Hid ((a1 + (s.size : Int)).toNat - a1.toNat = s.size) := (by omega : (a1 + (s.size : Int)).toNat - a1.toNat = s.size)
  go_enter Try.func65, Try.ntmps65
  go_wp2_with (first | (refine own_box_agg (x := .tmp 1) rfl rfl rfl hO ?_; clear hO; intro b w1 hO hS1) | (refine own_alloc rfl rfl zero_pat rfl hO ?_; clear hO; intro g w2 hO hS2) | (apply own_loadrow rfl rfl rfl; (first | exact row_pat); exact sz_pat; (first | exact own_get 0 hO rfl | exact own_get 1 hO rfl | exact own_get 2 hO rfl | exact own_get 3 hO rfl | exact own_get 4 hO rfl | exact own_get 5 hO rfl | exact own_get 6 hO rfl | exact own_get 7 hO rfl); (focus (simp; done)); (first | (simp only [List.drop_zero, List.drop_succ_cons, List.take_succ_cons, List.take_zero]; rfl) | rfl)) | (go_at_call 69; refine (rright_v _ _ _ _ _ hR hO).mono ?_; clear hO; rintro e w3 ⟨rfl, hO, hS3⟩))
  have f5 := F5.out
  have HRD : Hid (∀ w', Own w' L → Rd w' 1 (.slice (A.map (·.add a1.toNat)) ((a1 + (s.size : Int)).toNat - a1.toNat) (c - a1.toNat)) ((a1 + (s.size : Int)).toNat - a1.toNat) (bcs ((bs.drop a1.toNat).take ((a1 + (s.size : Int)).toNat - a1.toNat)))) := fun w' h => by
    have h1 := (HR.out w' h).cut (lo := a1.toNat) (k := (a1 + (s.size : Int)).toNat - a1.toNat) (c' := c - a1.toNat) (by have := H32.out; omega) (by omega) (by omega)
    rwa [Nat.mul_one, Nat.mul_one, bcs_sub] at h1
  have HN : Hid ((a1 + (s.size : Int)).toNat - a1.toNat = ((bs.drop a1.toNat).take ((a1 + (s.size : Int)).toNat - a1.toNat)).length) := by
    show _ = _
    rw [List.length_take, List.length_drop, H32.out]; omega
  refine wp_region_seq (Cls w3 (pts g (.cells #[.int .i64 0, .int .i64 0, .string ⟨#[]⟩] 33) :: pts b (.cells #[.int .i64 a0, .int .i64 a1, .string s] 33) :: L)) 16 31 mixed (by kernel_rfl) rfl (cls_drew hO) ?_
  simp only [List.append_eq, List.cons_append, List.nil_append, List.take_succ_cons, List.take_zero]
  repeat (first
    | (apply wv_skip rfl; simp only [Act.put, List.setIfInBounds_toArray, List.set_cons_zero, List.set_cons_succ])
    | (refine wv_string (n := (a1 + (s.size : Int)).toNat - a1.toNat) (bs := (bs.drop a1.toNat).take ((a1 + (s.size : Int)).toNat - a1.toNat)) rfl rfl rfl Try.underlying22 Try.underlying5 Try.underlying9 HN.out (fun w h => HRD.out _ (own_drop (own_drop h.1))) ?_; simp only [Act.put, List.setIfInBounds_toArray, List.set_cons_zero, List.set_cons_succ])
    | (apply wv_load1 rfl rfl rfl; (first | exact row_int | exact row_str | exact row_bool | exact row_u8 | exact row_bys | exact row_pats | exact row_err); (intro w h; (first | exact own_get 0 h.1 rfl | exact own_get 1 h.1 rfl | exact own_get 2 h.1 rfl | exact own_get 3 h.1 rfl | exact own_get 4 h.1 rfl | exact own_get 5 h.1 rfl | exact own_get 6 h.1 rfl | exact own_get 7 h.1 rfl)); (first | (simp only [List.getElem?_toArray, List.getElem?_cons_succ, List.getElem?_cons_zero]; rfl) | rfl); simp only [Act.put, List.setIfInBounds_toArray, List.set_cons_zero, List.set_cons_succ])
    | (apply wv_loadrow rfl rfl rfl; (first | exact row_pat); exact sz_pat; (intro w h; (first | exact own_get 0 h.1 rfl | exact own_get 1 h.1 rfl | exact own_get 2 h.1 rfl | exact own_get 3 h.1 rfl | exact own_get 4 h.1 rfl | exact own_get 5 h.1 rfl | exact own_get 6 h.1 rfl | exact own_get 7 h.1 rfl)); (focus (simp; done)); (first | (simp only [List.drop_zero, List.drop_succ_cons, List.take_succ_cons, List.take_zero]; rfl) | rfl); simp only [Act.put, List.setIfInBounds_toArray, List.set_cons_zero, List.set_cons_succ])
    | (apply wv_run rfl; (focus (intro w h; go_simp; first | done | rfl)); simp only [Act.put, List.setIfInBounds_toArray, List.set_cons_zero, List.set_cons_succ])
    | (apply wv_call rfl; (focus (intro w; go_simp; first | done | exact ⟨rfl, rfl⟩)); (focus (intro w h; apply cls_call h; fail)); simp only [Act.put, List.setIfInBounds_toArray, List.set_cons_zero, List.set_cons_succ]))
  refine wv_nil ?_
  simp only [List.drop_succ_cons, List.drop_zero]
  intro w5 ⟨hO5, hS5⟩
  clear hO
  have hO := hO5
  clear hO5 f5
  go_wp2_with (first | (refine own_store_all (k := 0) rfl rfl rfl rfl sz_pat hO rfl rfl rfl rfl ?_; clear hO; intro w6 hO hS6; simp only [List.set_cons_zero] at hO))
  refine bodyPost_ret (results_cell_tmp rfl rfl (own_get 0 hO rfl) row_pat sz_pat) rfl ⟨?_, own_drop (own_drop hO), hS1.trans (hS2.trans (hS3.trans (hS5.trans hS6)))⟩
  rw [N.out]
  rfl
end Go.Proofs.Ytdcbfdepkbplbaa.H
set_option linter.unusedVariables false
set_option linter.unusedSimpArgs false
set_option maxRecDepth 100000
namespace Go.Proofs.Ytdcbfdepkbplbaa.H
open Go.RowKit
end Go.Proofs.Ytdcbfdepkbplbaa.H
set_option linter.unusedVariables false
set_option linter.unusedSimpArgs false
set_option maxRecDepth 100000
namespace Go.Proofs.Ytdcbfdepkbplbaa.H
open Go.RowKit
theorem own_app_mid {w : World} {A : HP} {L : List HP} : True := trivial
end Go.Proofs.Ytdcbfdepkbplbaa.H
set_option linter.unusedVariables false
set_option linter.unusedSimpArgs false
set_option maxRecDepth 100000
namespace Go.Proofs.Ytdcbfdepkbplbaa.H
open Go.RowKit
theorem bstr_size' (l : List UInt8) : (bstr l).size = l.length := bstr_size l
theorem over_undo {α : Type} (b d : List α) (i : Nat) (hi : i + d.length ≤ b.length) : over (over b i d) i ((b.drop i).take d.length) = b := by
  have hl : ((b.drop i).take d.length).length = d.length := by simp; omega
  have h1 : (over b i d).take i = b.take i := by
    unfold over
    rw [List.append_assoc, List.take_append_of_le_length (by rw [List.length_take]; omega), List.take_take, Nat.min_self]
  have h2 : (over b i d).drop (i + d.length) = b.drop (i + d.length) := by
    unfold over
    rw [List.drop_append_of_le_length (by simp; omega)]
    rw [List.drop_eq_nil_of_le (by simp; omega)]
    simp
  have h0 : over (over b i d) i ((b.drop i).take d.length) = (over b i d).take i ++ (b.drop i).take d.length ++ (over b i d).drop (i + ((b.drop i).take d.length).length) := rfl
  rw [h0, hl, h1, h2, ← List.drop_drop, List.append_assoc, List.take_append_drop, List.take_append_drop]
theorem over_mid {α : Type} (b d : List α) (i : Nat) (hi : i + d.length ≤ b.length) : ((over b i d).drop i).take d.length = d := by
  unfold over
  rw [List.append_assoc, List.drop_append_of_le_length (by simp; omega), List.drop_eq_nil_of_le (by simp; omega), List.nil_append]
  simp
/-- A block of bytes, whose length is known by another name. -/
theorem rdB_block {w : World} {b m c : Nat} {bs : List UInt8} {t : TypeId} {fr : Nat × Nat} (hm : m = bs.length) (hg : w.heap[b]? = some (.cells (bcs bs).toArray t fr)) (hc : m ≤ c) (hx : c ≤ 9223372036854775807) : RdB w (.slice (some ⟨b, 0, none⟩) m c) bs := by
  subst hm
  exact rd_block hg (List.take_of_length_le (by simp [bcs_length])) (by simp [bcs_length]) hc hx
def undoP (b : List UInt8) (p : Pat) : Pat := ⟨p.blk, p.off, bstr ((b.drop p.off.toNat).take p.dat.size)⟩
theorem undo_app (b : List UInt8) (p : Pat) (hb : b.length = 32) (hp : rightB p = true) : app (app b p) (undoP b p) = b := by
  obtain ⟨p1, p2, p3, p4, p5, p6⟩ := rightB_iff.1 hp
  have hs : p.dat.size = p.dat.data.toList.length := by rw [Array.length_toList]; rfl
  unfold app undoP
  simp only [bstr_toList, hs]
  exact over_undo _ _ _ (by omega)
theorem undo_right (b : List UInt8) (p : Pat) (hb : b.length = 32) (hp : rightB p = true) : rightB (undoP b p) = true := by
  obtain ⟨p1, p2, p3, p4, p5, p6⟩ := rightB_iff.1 hp
  refine rightB_iff.2 ?_
  simp only [undoP, bstr_size, List.length_take, List.length_drop]
  omega
theorem app_then_idle (b : List UInt8) (p : Pat) (hb : b.length = 32) (hp : rightB p = true) : idleB (app b p) p = true := by
  obtain ⟨p1, p2, p3, p4, p5, p6⟩ := rightB_iff.1 hp
  have hs : p.dat.size = p.dat.data.toList.length := by rw [Array.length_toList]; rfl
  simp only [idleB, Bool.and_eq_true, decide_eq_true_eq]
  refine ⟨⟨app_length b p hb hp, hp⟩, ?_⟩
  unfold app
  rw [hs]
  exact over_mid _ _ _ (by omega)
end Go.Proofs.Ytdcbfdepkbplbaa.H
set_option linter.unusedVariables false
set_option linter.unusedSimpArgs false
namespace Go.Proofs.Ytdcbfdepkbplbaa.H
open Go.RowKit
section
variable {P : Program} {ops : Array Oper} {rest : List Oper} {o : Oper} {a : Act} {Q : Exit → Act → World → Prop} {w : World} {L : List HP}
/-- 'T{x, ..}' of n elements of 'size' cells. -/
theorem own_lit {T e : TypeId} {n size : Nat} {z : Value} {parts : Array (Nat × Operand)} {cs : Array Value} (hw : Region.wanted o (yielded ops a.tmps) = true) (ho : o.op = .buildSlice T n parts)
    (ht : P.underlying T = some (.slice e)) (hinfo : (P.info? e).map (fun i => (i.zero, i.size)) = some (some z, size)) (hs : n * size ≤ 2 ^ 24) (hp : 0 < n * size)
    (hf : Instr.fill (fun i => some (i * size, size)) ((Array.range (n * size)).map (z.cells[· % z.cells.size]!)) (parts.map fun (i, x) => (i, a.eval x)).toList = some cs) (hO : Own w L)
    (h : ∀ b w', Own w' (pts b (.cells cs e) :: L) → Same w w' → wpList P ops Q rest (a.put o.dst (.slice (some ⟨b, 0, none⟩) n n)) w') : wpList P ops Q (o :: rest) a w := by
  obtain ⟨i, hi, hzz⟩ := Option.map_eq_some_iff.1 hinfo
  simp only [Prod.mk.injEq] at hzz
  obtain ⟨hz, hsz⟩ := hzz
  subst hsz
  have hrun : (execOp a.eval o).run P w = .ok (.value (.slice (some ⟨w.heap.size, 0, none⟩) n n)) (w.alloc (.cells cs e)) := by
    simp only [execOp, ho]
    have := run_buildSlice (P := P) w T e n (parts.map fun (i, x) => (i, a.eval x)) cs i z ht hi hz (by omega) (by omega) hf
    simp [this]
  exact ev hw hrun (h _ _ (own_alloc_new hO _) (Same.alloc _ _))
end
end Go.Proofs.Ytdcbfdepkbplbaa.H
set_option linter.unusedVariables false
set_option linter.unusedSimpArgs false
namespace Go.Proofs.Ytdcbfdepkbplbaa.H
open Go.RowKit
section
variable {P : Program} {ops : Array Oper} {C : World → Prop} {w : World}
theorem run_load1_at {T : TypeId} {ad : Addr} {v : Value} (hT : isRowB P T = some false) (hc : w.cell? ad = some v) :
    (Instr.loadAt T (.pointer (some ad))).run P w = .ok v w := by
  obtain ⟨d, hd, hr⟩ := underlying_row hT
  have hagg : (isAgg T).run P w = .ok false w := by
    unfold isAgg
    rw [Sem.run_bind, run_underlying hd w]
    cases d <;> simp_all
  simp [Instr.loadAt, Instr.sureAddr, loadVar, Sem.run_bind, hagg, load]
  simp only [Sem.run, hc]
theorem wv_load1_at {K : Act → Prop} {o : Oper} {ol : List Oper} {a : Act} {T : TypeId} {x : Operand} {ad : Addr} {v : Value} (hw : Region.wanted o (yielded ops a.tmps) = true) (ho : o.op = .load T x) (hx : a.eval x = .pointer (some ad))
    (hT : isRowB P T = some false) (hc : ∀ w, C w → w.cell? ad = some v) (h : wpVals P ops C K ol (a.put o.dst v)) : wpVals P ops C K (o :: ol) a := by
  refine wv_run hw (fun w hC => ?_) h
  simp only [execOp, ho, hx, Sem.run_bind, run_load1_at hT (hc w hC)]
  rfl
theorem wv_loadrow_at {K : Act → Prop} {o : Oper} {ol : List Oper} {a : Act} {T : TypeId} {x : Operand} {ad : Addr} {n : Nat} {vs : List Value} (hw : Region.wanted o (yielded ops a.tmps) = true) (ho : o.op = .load T x) (hx : a.eval x = .pointer (some ad))
    (hT : isRowB P T = some true) (hsz : (P.info? T).map (·.size) = some n) (hn : vs.length = n) (hc : ∀ w, C w → ∀ (j : Nat) (u : Value), vs[j]? = some u → w.cell? (ad.add j) = some u) (h : wpVals P ops C K ol (a.put o.dst (.agg vs.toArray))) : wpVals P ops C K (o :: ol) a := by
  refine wv_run hw (fun w hC => ?_) h
  simp only [execOp, ho, hx, Sem.run_bind, run_loadrow_at hT hsz hn (hc w hC)]
  rfl
end
end Go.Proofs.Ytdcbfdepkbplbaa.H
