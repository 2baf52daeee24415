/- full, of the statements: a block of 32 bytes. -/
import Derived.Test.YtefohmjllcnnkaaL4
import Derived.Test.YtefohmjllcnnkaaH5
set_option linter.unusedVariables false
set_option linter.unusedSimpArgs false
set_option maxRecDepth 100000
namespace Go.Proofs.Ytefohmjllcnnkaa.H
open Go.RowKit
/-- What full hands back: a new block of 32 bytes. -/
def FullPost (L : List HP) (w0 : World) (e : Ending) (w' : World) : Prop := ∃ g xs, xs.length = 32 ∧ e = .returned (.slice (some ⟨g, 0, none⟩) 32 32) ∧ Own w' (pts g (.cells (bcs xs).toArray 5) :: L) ∧ Same w0 w'
def FullInv (L : List HP) (w0 : World) (g : Nat) (wr : World) : Prop := ∃ xs, xs.length = 32 ∧ Own wr (pts g (.cells (bcs xs).toArray 5) :: L) ∧ Same w0 wr
set_option maxHeartbeats 800000 in
theorem full_c (w : World) (L : List HP) (v : Value) (bs : List UInt8) (hO : Own w L) (hr : ∀ w', Own w' L → RdB w' v bs) :
    Calls Try.prog 28 #[v] w (FullPost L w) := by
  obtain ⟨A, c, rfl⟩ := (hr w hO).slice
  have hmax := (hr w hO).max
  have HR := Lib.hid hr
  clear hr
  go_enter Try.func28, Try.ntmps28
  go_wp2_with (at_make; refine own_make (n := 32) rfl rfl rfl rfl Try.underlying28 info_u8 (by decide) (by decide) (made_bytes 32) hO ?_; clear hO; intro g w3 hO hS3)
  go_loopw [4] (fun i wr => ∃ k : Nat, k ≤ 32 ∧ k ≤ bs.length ∧ i = .int .i64 k ∧ FullInv L w g wr) (fun i _ => 32 - (intOf i).toNat)
  case atStart => exact ⟨0, Nat.zero_le _, Nat.zero_le _, rfl, _, by simp, hO, hS3⟩
  case round =>
    obtain ⟨k, hk, hk2, rfl, xs, hxs, hO, hS⟩ := hrel
    have HX := Lib.hid hxs
    clear hxs
    by_cases hlt : k < 32
    · by_cases hlt2 : k < bs.length
      · have hrd := HR.out _ (own_drop hO)
        obtain ⟨ad, rfl⟩ := hrd.addr (by rw [bcs_length]; omega)
        have hcell : wr.cell? (ad.add k) = some (.int .u8 ((bs[k]).toNat : Int)) := by
          have h : wr.cell? ((ad.add (k * 1)).add 0) = some (.int .u8 ((bs[k]).toNat : Int)) := hrd.cell (by rw [Nat.mul_one, Nat.add_zero]; simp [bcs, List.getElem?_eq_getElem hlt2])
          rwa [addr_add, Nat.mul_one, Nat.add_zero] at h
        clear hrd
        have hm1 := hmax.1
        have hm2 := hmax.2
        go_wp2_with (refine own_store1 (k := 0) (cs' := (bcs (xs.set k bs[k])).toArray) rfl rfl rfl rfl sz_u8 hO rfl rfl ?_ ?_ ?_; (simp only [List.size_toArray, bcs_length, HX.out]; exact hlt); (apply Array.ext'; rw [Array.toList_setIfInBounds]; exact bcs_set xs k bs[k]); clear hO hcell; intro w6 hO6 hS6; simp only [List.set_cons_zero] at hO6)
        go_roundw
        case rel => exact ⟨k + 1, by omega, by omega, by go_num, _, by rw [List.length_set]; exact HX.out, hO6, hS.trans hS6⟩
        case measure => simp [intOf]; omega
      · have hkk : ¬ ((k : Int) < bs.length) := by omega
        go_wp2
        go_ret
        exact ⟨g, xs, HX.out, rfl, hO, hS⟩
    · have hkk : k = 32 := by omega
      subst hkk
      by_cases hlt2 : 32 < bs.length
      · go_wp2
        go_ret
        exact ⟨g, xs, HX.out, rfl, hO, hS⟩
      · go_wp2
        go_ret
        exact ⟨g, xs, HX.out, rfl, hO, hS⟩
end Go.Proofs.Ytefohmjllcnnkaa.H
