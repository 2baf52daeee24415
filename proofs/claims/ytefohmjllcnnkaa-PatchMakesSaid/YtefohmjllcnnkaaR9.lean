/- Contract of the reference's Same, at two that are the same. -/
import Derived.Test.YtefohmjllcnnkaaR5
import Derived.Test.YtefohmjllcnnkaaH6
set_option linter.unusedVariables false
set_option linter.unusedSimpArgs false
set_option maxRecDepth 100000
namespace Go.Proofs.Ytefohmjllcnnkaa.H
open Go.RowKit
theorem rdP_cells {L : List HP} {ps : List Pat} {ad : Addr} {c k : Nat} {b0 o0 : Int} {d0 : ByteArray} (hr : ∀ w', Own w' L → RdP w' (.slice (some ad) ps.length c) ps) (hlt : k < ps.length) (hp : ps[k] = ⟨b0, o0, d0⟩) :
    ∀ w', Own w' L → ∀ (j : Nat) (u : Value), [Value.int .i64 b0, .int .i64 o0, .string d0][j]? = some u → w'.cell? ((ad.add (k * 3)).add j) = some u :=
  fun w' h j u hu => (hr w' h).cell (cellsP_at ps k hlt j u (by rw [hp]; exact hu))
set_option maxHeartbeats 800000 in
theorem same_c (w : World) (L : List HP) (va vb : Value) (ps : List Pat) (hO : Own w L) (ha : ∀ w', Own w' L → RdP w' va ps) (hb : ∀ w', Own w' L → RdP w' vb ps) :
    Calls Try.prog 29 #[va, vb] w (Ret w (.bool true) L) := by
  obtain ⟨A, c, rfl⟩ := (ha w hO).slice
  obtain ⟨B, c', rfl⟩ := (hb w hO).slice
  have hm1 := (ha w hO).max
  have hm2 := (hb w hO).max
  have HA := Lib.hid ha
  have HB := Lib.hid hb
  clear ha hb
  go_enter Try.func29, Try.ntmps29
  go_wp2
  go_loopw [5] (fun i wr => ∃ k : Nat, k ≤ ps.length ∧ i = .int .i64 k ∧ Own wr L ∧ Same w wr) (fun i _ => ps.length - (intOf i).toNat)
  case atStart => exact ⟨0, Nat.zero_le _, rfl, hO, Same.refl _⟩
  case round =>
    clear hO
    obtain ⟨k, hk, rfl, hO, hS⟩ := hrel
    by_cases hlt : k < ps.length
    · have hp : ∃ b o d, ps[k] = Pat.mk b o d := ⟨_, _, _, rfl⟩
      obtain ⟨b0, o0, d0, hp⟩ := hp
      obtain ⟨ada, rfl⟩ := (HA.out _ hO).addr (by rw [cellsP_length]; omega)
      obtain ⟨adb, rfl⟩ := (HB.out _ hO).addr (by rw [cellsP_length]; omega)
      have HCA := Lib.hid (rdP_cells HA.out hlt hp)
      have HCB := Lib.hid (rdP_cells HB.out hlt hp)
      clear hp
      have hm3 := hm1.1
      have hm4 := hm1.2
      have hm5 := hm2.1
      have hm6 := hm2.2
      have m3 : (k : Int) < ps.length := by omega
      go_wp2
      refine wp_region_seq (Cls wr (L)) 9 26 mixed (by kernel_rfl) rfl (cls_drew hO) ?_
      simp only [List.take_succ_cons, List.take_zero]
      repeat (first
        | (apply wv_skip rfl; simp only [Act.put, List.setIfInBounds_toArray, List.set_cons_zero, List.set_cons_succ])
        | (apply wv_load1 rfl rfl rfl; (first | exact row_int | exact row_str | exact row_bool | exact row_u8 | exact row_bys | exact row_pats | exact row_err); (intro w h; (first | exact own_get 0 h.1 rfl | exact own_get 1 h.1 rfl | exact own_get 2 h.1 rfl | exact own_get 3 h.1 rfl | exact own_get 4 h.1 rfl | exact own_get 5 h.1 rfl | exact own_get 6 h.1 rfl | exact own_get 7 h.1 rfl)); (first | (simp only [List.getElem?_toArray, List.getElem?_cons_succ, List.getElem?_cons_zero]; rfl) | rfl); simp only [Act.put, List.setIfInBounds_toArray, List.set_cons_zero, List.set_cons_succ])
        | (apply wv_loadrow rfl rfl rfl; (first | exact row_pat); exact sz_pat; (intro w h; (first | exact own_get 0 h.1 rfl | exact own_get 1 h.1 rfl | exact own_get 2 h.1 rfl | exact own_get 3 h.1 rfl | exact own_get 4 h.1 rfl | exact own_get 5 h.1 rfl | exact own_get 6 h.1 rfl | exact own_get 7 h.1 rfl)); (focus (simp; done)); (first | (simp only [List.drop_zero, List.drop_succ_cons, List.take_succ_cons, List.take_zero]; rfl) | rfl); simp only [Act.put, List.setIfInBounds_toArray, List.set_cons_zero, List.set_cons_succ])
        | (refine wv_loadrow_at (vs := [.int .i64 b0, .int .i64 o0, .string d0]) (ad := ada.add (k * 3)) rfl rfl rfl row_pat sz_pat rfl (fun w h => HCA.out w h.1) ?_; simp only [Act.put, List.setIfInBounds_toArray, List.set_cons_zero, List.set_cons_succ])
        | (refine wv_loadrow_at (vs := [.int .i64 b0, .int .i64 o0, .string d0]) (ad := adb.add (k * 3)) rfl rfl rfl row_pat sz_pat rfl (fun w h => HCB.out w h.1) ?_; simp only [Act.put, List.setIfInBounds_toArray, List.set_cons_zero, List.set_cons_succ])
        | (apply wv_run rfl; (focus (intro w h; go_simp; first | done | rfl)); simp only [Act.put, List.setIfInBounds_toArray, List.set_cons_zero, List.set_cons_succ])
        | (apply wv_call rfl; (focus (intro w; go_simp; first | done | exact ⟨rfl, rfl⟩)); (focus (intro w h; apply cls_call h; fail)); simp only [Act.put, List.setIfInBounds_toArray, List.set_cons_zero, List.set_cons_succ]))
      refine wv_nil ?_
      simp only [List.drop_succ_cons, List.drop_zero]
      intro w5 ⟨hO5, hS5⟩
      clear hO
      go_wp2
      go_roundw
      case rel => exact ⟨k + 1, by omega, by go_num, hO5, hS.trans hS5⟩
      case measure => simp [intOf]; omega
    · go_wp2
      go_ret
      exact ⟨rfl, hO, hS⟩
end Go.Proofs.Ytefohmjllcnnkaa.H
