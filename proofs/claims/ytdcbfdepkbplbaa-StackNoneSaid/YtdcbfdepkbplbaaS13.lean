/- Contracts of Base, New, Push. -/
import Derived.Test.YtdcbfdepkbplbaaS12
set_option linter.unusedVariables false
set_option linter.unusedSimpArgs false
set_option maxRecDepth 100000
namespace Go.Proofs.Ytdcbfdepkbplbaa.H
open Go.RowKit
theorem out_nil (l : List On) : ¬ OutL l [] := fun ⟨x, hx, _⟩ => by cases hx
theorem busy_nil (l : List On) : ¬ BusyL l [] := fun ⟨i, k, _, c, d, _, _, h, _⟩ => by simp at h
theorem sel_nil (l : List On) : selL l [] = [] := by simp [selL]
theorem base_c (w : World) (L : List HP) (p : Nat) (m : Stk) (hO : Own w (stk p m :: L)) (hk : m.Ok) :
    Calls Try.prog 20 #[.pointer (some ⟨p, 0, none⟩)] w (RetX w (fun g => .slice (some ⟨g, 0, none⟩) 32 32) (fun g => stk p m :: pts g (.cells (bcs m.base).toArray 69) :: L)) := by
  have HK := Lib.hid hk
  have HE : Hid (appAll m.base (selL m.l []) = m.base) := by show _ = _; rw [sel_nil]; rfl
  clear hk
  go_enter Try.func20, Try.ntmps20
  go_wp2_with (go_at_call 17; refine (roll_ok _ L p m _ [] hO HK.out (fun w' h => rd_nil _ _) (fun x hx => by cases hx) (out_nil _) (busy_nil _)).mono ?_; clear hO; rintro e w5 ⟨g, rfl, hO, hS5⟩; rw [HE.out] at hO)
  go_ret
  exact ⟨g, rfl, hO, hS5⟩
theorem new_no (w : World) (L : List HP) (A : Option Addr) (n c : Nat) (hO : Own w L) (h : n ≠ 32) :
    Calls Try.prog 31 #[.slice A n c] w (Ret w (.pointer none) L) := by
  have e : ((n : Int) != 32) = true := by simp; omega
  clear h
  go_enter Try.func31, Try.ntmps31
  go_wp2
  go_ret
  exact ⟨rfl, hO, Same.refl _⟩
set_option maxHeartbeats 800000 in
theorem new_c (w : World) (L : List HP) (v : Value) (bs : List UInt8) (hO : Own w L) (hr : ∀ w', Own w' L → RdB w' v bs) (h32 : bs.length = 32) :
    Calls Try.prog 31 #[v] w (RetX w (fun p => .pointer (some ⟨p, 0, none⟩)) (fun p => stk p ⟨bs, [], 0⟩ :: L)) := by
  obtain ⟨A, c, rfl⟩ := (hr w hO).slice
  have e : ((bs.length : Int) != 32) = false := by simp; omega
  have HR := Lib.hid hr
  have HB : Hid (bs.length = 32) := h32
  clear hr h32
  go_enter Try.func31, Try.ntmps31
  go_wp2_with (first | (refine own_box_agg (cs := srow (List.replicate 32 0) (.slice none 0 0) 0) rfl rfl rfl hO ?_; clear hO; intro p w2 hO hS2) | (refine own_copy (n := bs.length) (m := bs.length) (xs := bcs bs) (new := (srow (over (List.replicate 32 0) 0 bs) (.slice none 0 0) 0).toList) (k := 0) (g := p) (off := 0) (cur := srow (List.replicate 32 0) (.slice none 0 0) 0) (t := 72) rfl rfl rfl rfl Try.underlying22 sz_u8 (HR.out _ (own_drop hO)) (bcs_one _) hO rfl ?_ ?_ ?_ ?_; (rw [HB.out]; rfl); (rw [srow_size _ _ _ (by simp), HB.out]; omega); (exact srow_put (by simp) (by rw [HB.out]; omega)); clear hO; intro w3 hO hS3; simp only [List.set_cons_zero, Array.toArray_toList] at hO))
  go_ret
  refine ⟨p, rfl, stk_open.2 ⟨.slice none 0 0, [], ⟨rfl, rfl⟩, ?_⟩, hS2.trans hS3⟩
  have e2 : over (List.replicate 32 (0 : UInt8)) 0 bs = bs := by
    unfold over
    rw [List.take_zero, List.nil_append, List.drop_of_length_le (by simp [HB.out]), List.append_nil]
  rw [e2] at hO
  show Own w3 (pts p _ :: owns _ 1 (.slice none 0 0) 0 [] :: L)
  exact own_perm (owns_nil hO) (List.Perm.swap _ _ _)
end Go.Proofs.Ytdcbfdepkbplbaa.H
