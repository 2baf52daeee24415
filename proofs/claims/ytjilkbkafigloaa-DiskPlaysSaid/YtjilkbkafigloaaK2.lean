/- may, Size, Versions, Lasting, Read of the program's disk. -/
import Derived.Test.YtjilkbkafigloaaK1
import Derived.WalkLawsBesides
import Derived.WalkSpells
set_option linter.unusedVariables false
set_option linter.unusedSimpArgs false
set_option maxRecDepth 100000
namespace Go.Proofs.Ytjilkbkafigloaa.H
open Go.RowKit
theorem row_secs : isRowB Try.prog 23 = some false := by kernel_rfl
theorem row_mv : isRowB Try.prog 63 = some false := by kernel_rfl
theorem row_mb : isRowB Try.prog 64 = some false := by kernel_rfl
theorem row_sec : isRowB Try.prog 26 = some true := by kernel_rfl
theorem sz_sec : (Try.prog.info? 26).map (·.size) = some 32 := by kernel_rfl
theorem und_mv : Try.prog.underlying 63 = some (.map 3 23) := by kernel_rfl
theorem und_mb : Try.prog.underlying 64 = some (.map 3 4) := by kernel_rfl
theorem und_i : Try.prog.underlying 3 = some (.int .i64) := by kernel_rfl
theorem zero_secs : (Try.prog.info? 23).map (·.zero) = some (some (.slice none 0 0)) := by kernel_rfl
theorem zero_b : (Try.prog.info? 4).map (·.zero) = some (some (.bool false)) := by kernel_rfl
theorem zero_sec : (Try.prog.info? 26).map (·.zero) = some (some (.agg (Array.replicate 32 (.int .u8 0)))) := by kernel_rfl
section
variable (w : World) (L : List HP) (d : Nat) (m : List Blk)
theorem may_nil (i : Int) (hO : Own w L) : Calls Try.prog 36 #[.pointer none, .int .i64 i] w (Ret w (.int .i64 1) L) := by
  go_enter Try.func36, Try.ntmps36
  go_wp2
  go_ret
  exact ⟨rfl, hO, Same.refl _⟩
theorem may_ok (i : Nat) (b : Blk) (hO : Own w (diskP d m :: L)) (hi : m[i]? = some b) : Calls Try.prog 36 #[.pointer (some ⟨d, 0, none⟩), .int .i64 i] w (Ret w (.int .i64 0) (diskP d m :: L)) := by
  have hO0 := hO
  obtain ⟨lv, bv, bb, fv, fb, l, hk, hO⟩ := disk_open.1 hO
  have hK := Lib.hid hO0
  have hl : i < m.length := (List.getElem?_eq_some_iff.1 hi).1
  obtain ⟨A, c, rfl⟩ := (owns_rd (own_at hO (k := 1) rfl)).slice
  have h1 : ¬ ((i : Int) < 0) := by omega
  have h2 : ¬ ((m.length : Int) ≤ i) := by omega
  clear hO0 hk hi
  go_enter Try.func36, Try.ntmps36
  go_wp2_with (first | (apply own_load1 rfl rfl rfl; (first | exact row_secs | exact row_mv | exact row_mb); (first | exact own_get 0 hO rfl | exact own_get 1 hO rfl | exact own_get 2 hO rfl | exact own_get 3 hO rfl | exact own_get 4 hO rfl | exact own_get 5 hO rfl | exact own_get 6 hO rfl | exact own_get 7 hO rfl); (first | (simp only [List.getElem?_toArray, List.getElem?_cons_succ, List.getElem?_cons_zero]; rfl) | rfl)))
  go_ret
  exact ⟨rfl, hK.out, Same.refl _⟩
theorem may_no (i : Int) (hO : Own w (diskP d m :: L)) (hi : i < 0 ∨ (m.length : Int) ≤ i) : Calls Try.prog 36 #[.pointer (some ⟨d, 0, none⟩), .int .i64 i] w (Ret w (.int .i64 2) (diskP d m :: L)) := by
  have hO0 := hO
  obtain ⟨lv, bv, bb, fv, fb, l, hk, hO⟩ := disk_open.1 hO
  have hK := Lib.hid hO0
  obtain ⟨A, c, rfl⟩ := (owns_rd (own_at hO (k := 1) rfl)).slice
  clear hO0 hk
  rcases hi with h1 | h2
  · go_enter Try.func36, Try.ntmps36
    go_wp2_with (first | (apply own_load1 rfl rfl rfl; (first | exact row_secs | exact row_mv | exact row_mb); (first | exact own_get 0 hO rfl | exact own_get 1 hO rfl | exact own_get 2 hO rfl | exact own_get 3 hO rfl | exact own_get 4 hO rfl | exact own_get 5 hO rfl | exact own_get 6 hO rfl | exact own_get 7 hO rfl); (first | (simp only [List.getElem?_toArray, List.getElem?_cons_succ, List.getElem?_cons_zero]; rfl) | rfl)))
    go_ret
    exact ⟨rfl, hK.out, Same.refl _⟩
  · have h1 : ¬ (i < 0) := by omega
    go_enter Try.func36, Try.ntmps36
    go_wp2_with (first | (apply own_load1 rfl rfl rfl; (first | exact row_secs | exact row_mv | exact row_mb); (first | exact own_get 0 hO rfl | exact own_get 1 hO rfl | exact own_get 2 hO rfl | exact own_get 3 hO rfl | exact own_get 4 hO rfl | exact own_get 5 hO rfl | exact own_get 6 hO rfl | exact own_get 7 hO rfl); (first | (simp only [List.getElem?_toArray, List.getElem?_cons_succ, List.getElem?_cons_zero]; rfl) | rfl)))
    go_ret
    exact ⟨rfl, hK.out, Same.refl _⟩
theorem size_nil (hO : Own w L) : Calls Try.prog 27 #[.pointer none] w (Ret w (.int .i64 0) L) := by
  go_enter Try.func27, Try.ntmps27
  go_wp2
  go_ret
  exact ⟨rfl, hO, Same.refl _⟩
theorem size_c (hO : Own w (diskP d m :: L)) : Calls Try.prog 27 #[.pointer (some ⟨d, 0, none⟩)] w (Ret w (.int .i64 m.length) (diskP d m :: L)) := by
  have hO0 := hO
  obtain ⟨lv, bv, bb, fv, fb, l, hk, hO⟩ := disk_open.1 hO
  have hK := Lib.hid hO0
  obtain ⟨A, c, rfl⟩ := (owns_rd (own_at hO (k := 1) rfl)).slice
  clear hO0 hk
  go_enter Try.func27, Try.ntmps27
  go_wp2_with (first | (apply own_load1 rfl rfl rfl; (first | exact row_secs | exact row_mv | exact row_mb); (first | exact own_get 0 hO rfl | exact own_get 1 hO rfl | exact own_get 2 hO rfl | exact own_get 3 hO rfl | exact own_get 4 hO rfl | exact own_get 5 hO rfl | exact own_get 6 hO rfl | exact own_get 7 hO rfl); (first | (simp only [List.getElem?_toArray, List.getElem?_cons_succ, List.getElem?_cons_zero]; rfl) | rfl)))
  go_ret
  exact ⟨rfl, hK.out, Same.refl _⟩
/-- The versions of the i-th. -/
def vsAt (m : List Blk) (i : Int) : Nat := if 0 ≤ i then ((m[i.toNat]?).map (·.vs.length)).getD 0 else 0
theorem mget_vs {m : List Blk} {fv fb : List (Int × Value)} {l : List (Value × List Sec)} (hk : DiskOk m fv fb l) (i : Int) : ∃ A c, (mget fv i).getD (.slice none 0 0) = .slice A (vsAt m i) c := by
  unfold vsAt
  by_cases h0 : 0 ≤ i
  · rw [if_pos h0]
    cases hm : m[i.toNat]? with
    | none =>
      refine ⟨none, 0, ?_⟩
      rw [mget_none (fun q hq e => ?_)]
      · rfl
      · obtain ⟨j, b, h1, h2, _⟩ := hk.keyv q hq
        have : i.toNat = j := by omega
        rw [this, h1] at hm
        cases hm
    | some b =>
      obtain ⟨A, c, h1, _⟩ := hk.vers _ b hm
      rw [Int.toNat_of_nonneg h0] at h1
      exact ⟨A, c, h1⟩
  · rw [if_neg h0]
    refine ⟨none, 0, ?_⟩
    rw [mget_none (fun q hq e => ?_)]
    · rfl
    · obtain ⟨j, b, h1, h2, _⟩ := hk.keyv q hq
      omega
theorem versions_nil (i : Int) (hO : Own w L) : Calls Try.prog 22 #[.pointer none, .int .i64 i] w (Ret w (.int .i64 0) L) := by
  go_enter Try.func22, Try.ntmps22
  go_wp2
  go_ret
  exact ⟨rfl, hO, Same.refl _⟩
theorem versions_c (i : Int) (hO : Own w (diskP d m :: L)) : Calls Try.prog 22 #[.pointer (some ⟨d, 0, none⟩), .int .i64 i] w (Ret w (.int .i64 (vsAt m i)) (diskP d m :: L)) := by
  have hO0 := hO
  obtain ⟨lv, bv, bb, fv, fb, l, hk, hO⟩ := disk_open.1 hO
  have hK := Lib.hid hO0
  obtain ⟨A, c, hv⟩ := mget_vs hk i
  have HV := Lib.hid hv
  clear hO0 hk hv
  go_enter Try.func22, Try.ntmps22
  go_wp2_with (first | (apply own_load1 rfl rfl rfl; (first | exact row_secs | exact row_mv | exact row_mb); (first | exact own_get 0 hO rfl | exact own_get 1 hO rfl | exact own_get 2 hO rfl | exact own_get 3 hO rfl | exact own_get 4 hO rfl | exact own_get 5 hO rfl | exact own_get 6 hO rfl | exact own_get 7 hO rfl); (first | (simp only [List.getElem?_toArray, List.getElem?_cons_succ, List.getElem?_cons_zero]; rfl) | rfl)) | (refine own_mlookup (i := 2) (b := bv) (k := i) (f := fv) rfl rfl rfl rfl und_mv und_i zero_secs hO rfl HV.out ?_))
  go_ret
  exact ⟨rfl, hK.out, Same.refl _⟩
end
end Go.Proofs.Ytjilkbkafigloaa.H
