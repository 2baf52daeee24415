/- Flush, Crash of the program's disk. -/
import Derived.Test.YtjilkbkafigloaaK11
set_option linter.unusedVariables false
set_option linter.unusedSimpArgs false
set_option maxRecDepth 100000
namespace Go.Proofs.Ytjilkbkafigloaa.H
open Go.RowKit
section
variable (w : World) (L : List HP) (d : Nat) (m : List Blk)
theorem flush1_c (k n : Nat) (hO : Own w L) : Calls Try.prog 35 #[.int .i64 k, .int .i64 n] w (Ret w (.int .i64 n) L) := by
  go_enter Try.func35, Try.ntmps35
  go_wp2
  go_ret
  exact ⟨rfl, hO, Same.refl _⟩
theorem flush_nil (hO : Own w L) : Calls Try.prog 17 #[.pointer none] w (Ret w (.int .i64 1) L) := by
  have hS := Same.refl w
  go_enter Try.func17, Try.ntmps17
  go_wp2_with (first | (go_at_call 34; (with_reducible refine Calls.mono (settle_nil _ _ _ hO) ?_); clear hO; rintro e u ⟨rfl, hO, hSn⟩; replace hS := hS.trans hSn; clear hSn))
  go_ret
  exact ⟨rfl, hO, hS⟩
/-- Flush's pick. -/
abbrev allV : Nat → Nat → Int := fun _ n => (n : Int)
theorem flush_c (hO : Own w (diskP d m :: L)) (h0 : 0 < m.length) (hv : ∀ b ∈ m, b.vs.length ≤ 1000000) : Calls Try.prog 17 #[.pointer (some ⟨d, 0, none⟩)] w (Ret w (.int .i64 0) (diskP d (crashL allV 0 m) :: L)) := by
  have hS := Same.refl w
  have H0 := Lib.hid h0
  have HV := Lib.hid hv
  clear h0 hv
  go_enter Try.func17, Try.ntmps17
  go_wp2_with (first | (go_at_call 34; (with_reducible refine Calls.mono (settle_flush _ _ d m allV hO H0.out HV.out (fun k n w' L' _ _ _ h => flush1_c w' L' k n h)) ?_); clear hO; rintro e u ⟨rfl, hO, hSn⟩; replace hS := hS.trans hSn; clear hSn))
  go_ret
  exact ⟨rfl, hO, hS⟩
/-- Crash's pick. -/
abbrev pickV (l : List Int) : Nat → Nat → Int := fun k _ => (l[k]?).getD 0
theorem crash1_c (bp : Nat) (v : Value) (l : List Int) (k n : Nat) (hO : Own w L) (hb : ∀ w', Own w' L → w'.heap[bp]? = some (.cells #[v] 41)) (hr : ∀ w', Own w' L → Rd w' 1 v l.length (l.map encZ)) : Calls Try.prog 38 #[.int .i64 k, .int .i64 n, .pointer (some ⟨bp, 0, none⟩)] w (Ret w (.int .i64 (pickV l k n)) L) := by
  have hB := Lib.hid (hb w hO)
  obtain ⟨_, A, c, rfl, _, _, hcl⟩ := (hr w hO).out
  clear hb hr
  by_cases hk : k < l.length
  · obtain ⟨ad, rfl, hcell⟩ := hcl k (.int .i64 l[k]) (by simp [hk])
    have hk1 : (k : Int) < l.length := by omega
    have hpk : Hid (pickV l k n = l[k]) := by show _ = _; simp [pickV, List.getElem?_eq_getElem hk]
    have HC := Lib.hid hcell
    clear hcl hcell
    go_enter Try.func38, Try.ntmps38
    go_wp2_with (first | (refine own_load1 (b := bp) (off := 0) (cs := #[.slice (some ad) l.length c]) (t := 41) (v := .slice (some ad) l.length c) rfl rfl rfl row_intsD hB.out rfl ?_) | (refine own_load1_at (ad := ad.add k) (v := .int .i64 l[k]) rfl rfl rfl row_int HC.out ?_))
    go_ret
    exact ⟨congrArg (fun x => Ending.returned (Value.int .i64 x)) hpk.out.symm, hO, Same.refl _⟩
  · have hk1 : ¬ ((k : Int) < l.length) := by omega
    have hpk : Hid (pickV l k n = 0) := by show _ = _; simp [pickV, List.getElem?_eq_none (by omega : l.length ≤ k)]
    have hd : decide ((k : Int) < l.length) = false := decide_eq_false hk1
    clear hcl
    go_enter Try.func38, Try.ntmps38
    go_wp2_with (first | (refine own_load1 (b := bp) (off := 0) (cs := #[.slice A l.length c]) (t := 41) (v := .slice A l.length c) rfl rfl rfl row_intsD hB.out rfl ?_))
    go_ret
    exact ⟨congrArg (fun x => Ending.returned (Value.int .i64 x)) hpk.out.symm, hO, Same.refl _⟩
theorem crash_nil (v : Value) (hv : v.cells = #[v]) (hO : Own w L) : Calls Try.prog 20 #[.pointer none, v] w (Ret w (.int .i64 1) L) := by
  have hS := Same.refl w
  have HV := Lib.hid hv
  clear hv
  go_enter Try.func20, Try.ntmps20
  go_wp2_with (first | (refine own_box (x := .tmp 1) (cs := #[v]) rfl rfl rfl HV.out hO ?_; clear hO; intro bx u hO hSn; replace hS := hS.trans hSn; clear hSn) | (go_at_call 34; (with_reducible refine Calls.mono (settle_nil _ _ _ hO) ?_); clear hO; rintro e u ⟨rfl, hO, hSn⟩; replace hS := hS.trans hSn; clear hSn))
  go_ret
  exact ⟨rfl, own_drop hO, hS⟩
theorem crash_c (v : Value) (l : List Int) (hO : Own w (diskP d m :: L)) (h0 : 0 < m.length) (hv : ∀ b ∈ m, b.vs.length ≤ 1000000) (hr : ∀ w', Own w' L → Rd w' 1 v l.length (l.map encZ)) : Calls Try.prog 20 #[.pointer (some ⟨d, 0, none⟩), v] w (Ret w (.int .i64 0) (diskP d (crashL (pickV l) 0 m) :: L)) := by
  have hS := Same.refl w
  have H0 := Lib.hid h0
  have HV := Lib.hid hv
  have HR := Lib.hid hr
  obtain ⟨A, c, rfl⟩ := (hr w (own_drop hO)).slice
  clear h0 hv hr
  go_enter Try.func20, Try.ntmps20
  go_wp2_with (first | (refine own_box (x := .tmp 1) (cs := #[.slice A l.length c]) rfl rfl rfl rfl hO ?_; clear hO; intro bp u hO hSn; replace hS := hS.trans hSn; clear hSn; replace hO := own_perm hO (List.Perm.swap _ _ _)) | (go_at_call 34; (with_reducible refine Calls.mono (settle_crash _ _ d m bp (pickV l) hO H0.out HV.out (fun k n w' L' _ _ hs h => crash1_c w' L' bp (.slice A l.length c) l k n h (fun w2 h2 => own_pts (hs w2 h2)) (fun w2 h2 => HR.out w2 (own_drop (hs w2 h2))))) ?_); clear hO; rintro e u ⟨rfl, hO, hSn⟩; replace hS := hS.trans hSn; clear hSn))
  go_ret
  exact ⟨rfl, own_drop (own_perm hO (List.Perm.swap _ _ _)), hS⟩
end
end Go.Proofs.Ytjilkbkafigloaa.H
