/- PatchAlls: the walk. -/
import Derived.Test.YtefohmjllcnnkaaL3
import Derived.Test.YtefohmjllcnnkaaR5
set_option linter.unusedVariables false
set_option linter.unusedSimpArgs false
set_option maxRecDepth 100000
namespace Go.Proofs.Ytefohmjllcnnkaa.H
open Go.RowKit
theorem rdN_block {w : World} {b m c : Nat} {bs : List UInt8} {t : TypeId} {fr : Nat × Nat} (hm : m = bs.length) (hg : w.heap[b]? = some (.cells (bcs bs).toArray t fr)) (hc : m ≤ c) (hx : c ≤ 9223372036854775807) : Rd w 1 (.slice (some ⟨b, 0, none⟩) m c) m (bcs bs) := by
  subst hm
  exact rdB_block rfl hg hc hx
theorem cellsP_take (ps : List Pat) : ∀ (k : Nat), (cellsP ps).take (k * 3) = cellsP (ps.take k) := by
  induction ps with
  | nil => intro k; simp [cellsP]
  | cons p ps ih =>
    intro k
    cases k with
    | zero => simp [cellsP]
    | succ k =>
      have h3 : p.cells.length = 3 := rfl
      have e : cellsP (p :: ps) = p.cells ++ cellsP ps := rfl
      have e2 : cellsP ((p :: ps).take (k + 1)) = p.cells ++ cellsP (ps.take k) := rfl
      rw [e, e2, List.take_append, List.take_of_length_le (by rw [h3]; omega), h3, show (k + 1) * 3 - 3 = k * 3 by omega, ih k]
section
variable (w : World) (L : List HP) (v vp : Value) (bs : List UInt8) (ps : List Pat)
theorem all_yes (hO : Own w L) (hr : ∀ w', Own w' L → RdB w' v bs) (hrp : ∀ w', Own w' L → RdP w' vp ps) (h32 : bs.length = 32) (ha : ∀ p ∈ ps, rightB p = true) :
    Calls Try.prog 25 #[v, vp] w (RetX w (fun g => .tuple #[.slice (some ⟨g, 0, none⟩) 32 32, .int .i64 0]) (fun g => pts g (.cells (bcs (appAll bs ps)).toArray 5) :: L)) := by
  refine (all_ok w L v vp bs ps hO hr hrp h32).mono fun e w' h => ?_
  rw [AllPost, if_pos ha] at h
  exact h
theorem all_no (hO : Own w L) (hr : ∀ w', Own w' L → RdB w' v bs) (hrp : ∀ w', Own w' L → RdP w' vp ps) (ha : bs.length = 32 → ¬ ∀ p ∈ ps, rightB p = true) :
    Calls Try.prog 25 #[v, vp] w (Ret w (.tuple #[.slice none 0 0, .int .i64 3]) L) := by
  by_cases h32 : bs.length = 32
  · refine (all_ok w L v vp bs ps hO hr hrp h32).mono fun e w' h => ?_
    rw [AllPost, if_neg (ha h32)] at h
    exact h
  · exact all_len w L v vp bs hO hr h32
theorem rall_yes (hO : Own w L) (hr : ∀ w', Own w' L → RdB w' v bs) (hrp : ∀ w', Own w' L → RdP w' vp ps) (h32 : bs.length = 32) (ha : ∀ p ∈ ps, rightB p = true) :
    Calls Try.prog 27 #[v, vp] w (RetX w (fun v => .tuple #[v, .int .i64 0]) (fun v => owns 5 1 v 32 (bcs (appAll bs ps)) :: L)) := by
  refine (rall_ok w L v vp bs ps hO hr hrp h32).mono fun e w' h => ?_
  rw [RAllPost, if_pos ha] at h
  exact h
theorem rall_no (hO : Own w L) (hr : ∀ w', Own w' L → RdB w' v bs) (hrp : ∀ w', Own w' L → RdP w' vp ps) (ha : bs.length = 32 → ¬ ∀ p ∈ ps, rightB p = true) :
    Calls Try.prog 27 #[v, vp] w (Ret w (.tuple #[.slice none 0 0, .int .i64 3]) L) := by
  by_cases h32 : bs.length = 32
  · refine (rall_ok w L v vp bs ps hO hr hrp h32).mono fun e w' h => ?_
    rw [RAllPost, if_neg (ha h32)] at h
    exact h
  · exact rall_len w L v vp bs hO hr h32
end
set_option maxHeartbeats 1000000 in
theorem alls_c (w : World) (A AP : Option Addr) (n c m cp : Nat) (l : List UInt8) (ps0 : List Pat) (hl : n = l.length) (hr : Rd w 1 (.slice A n c) n (bcs l)) (hm : m = ps0.length) (hrp : Rd w 3 (.slice AP m cp) m (cellsP ps0)) :
    Calls Try.prog 6 #[.slice A n c, .slice AP m cp] w (fun e w' => e = .returned (.bool true) ∧ Below w.heap.size w w') := by
  have hmx := hr.max
  have hmp := hrp.max
  have hrd : Rd w 1 (.slice A (min n 40) c) (min n 40) (bcs (l.take 40)) := by
    have h := hr.low (k := min n 40) (c' := c) (by omega) (by omega) hmx.2
    rw [Nat.mul_one] at h
    have e : (bcs l).take (min n 40) = bcs (l.take 40) := by
      rw [hl, bcs, ← List.map_take, Nat.min_comm, ← List.take_eq_take_min]; rfl
    rwa [e] at h
  have hrdp : Rd w 3 (.slice AP (min m 40) cp) (min m 40) (cellsP (ps0.take 40)) := by
    have h := hrp.low (k := min m 40) (c' := cp) (by omega) (by omega) hmp.2
    rw [cellsP_take, hm, Nat.min_comm, ← List.take_eq_take_min] at h
    rw [hm, Nat.min_comm]
    exact h
  obtain ⟨bs, hbs⟩ : ∃ bs, bs = l.take 40 := ⟨_, rfl⟩
  obtain ⟨ps, hps⟩ : ∃ ps, ps = ps0.take 40 := ⟨_, rfl⟩
  have hbl : min n 40 = bs.length := by rw [hbs, List.length_take, hl]; omega
  have hpl : min m 40 = ps.length := by rw [hps, List.length_take, hm]; omega
  rw [← hbs, hbl] at hrd
  rw [← hps, hpl] at hrdp
  have HRD := Lib.hid hrd
  have HBL := Lib.hid hbl
  have HRP := Lib.hid hrdp
  have HPL := Lib.hid hpl
  have hO : Own w [snap w] := own_snap
  clear hr hrd hbs hl hbl hrp hrdp hps hm hpl
  by_cases hc : bs.length = 32 ∧ ∀ p ∈ ps, rightB p = true
  · have HC := Lib.hid hc
    have HN : Hid (32 = (appAll bs ps).length) := (appAll_length ps bs hc.1 hc.2).symm
    clear hc
    go_enter Try.func6, Try.ntmps6
    go_upto_region 3 with (first | (go_at_call 16; refine (few_c _ _ _ _ (by omega) (by omega)).mono ?_; rintro e w2 ⟨rfl, rfl⟩; rw [HBL.out]) | (go_at_call 26; refine (some_c _ _ _ _ (by omega) (by omega)).mono ?_; rintro e w2 ⟨rfl, rfl⟩; rw [HPL.out]) | (go_at_call 25; refine (all_yes _ _ _ _ bs ps hO (fun w' h => rd_snap HRD.out h (k := 0) rfl) (fun w' h => rd_snap HRP.out h (k := 0) rfl) HC.out.1 HC.out.2).mono ?_; clear hO; rintro e w5 ⟨g1, rfl, hO, hS5⟩) | (go_at_call 27; refine (rall_yes _ _ _ _ bs ps hO (fun w' h => rd_snap HRD.out h (k := 1) rfl) (fun w' h => rd_snap HRP.out h (k := 1) rfl) HC.out.1 HC.out.2).mono ?_; clear hO; rintro e w6 ⟨v2, rfl, hO, hS6⟩))
    refine wp_plain_seq (Cls w6 (_)) 13 (cls_here hO) ?_
    simp only [List.take_succ_cons, List.take_zero]
    repeat (first
      | (apply wv_skip rfl; simp only [Act.put, List.setIfInBounds_toArray, List.set_cons_zero, List.set_cons_succ])
      | (apply wv_load1 rfl rfl rfl; (first | exact row_int | exact row_str | exact row_bool | exact row_u8 | exact row_bys | exact row_pats | exact row_err); (intro w h; (first | exact own_get 0 h.1 rfl | exact own_get 1 h.1 rfl | exact own_get 2 h.1 rfl | exact own_get 3 h.1 rfl | exact own_get 4 h.1 rfl | exact own_get 5 h.1 rfl | exact own_get 6 h.1 rfl | exact own_get 7 h.1 rfl)); (first | (simp only [List.getElem?_toArray, List.getElem?_cons_succ, List.getElem?_cons_zero]; rfl) | rfl); simp only [Act.put, List.setIfInBounds_toArray, List.set_cons_zero, List.set_cons_succ])
      | (apply wv_loadrow rfl rfl rfl; (first | exact row_pat); exact sz_pat; (intro w h; (first | exact own_get 0 h.1 rfl | exact own_get 1 h.1 rfl | exact own_get 2 h.1 rfl | exact own_get 3 h.1 rfl | exact own_get 4 h.1 rfl | exact own_get 5 h.1 rfl | exact own_get 6 h.1 rfl | exact own_get 7 h.1 rfl)); (focus (simp; done)); (first | (simp only [List.drop_zero, List.drop_succ_cons, List.take_succ_cons, List.take_zero]; rfl) | rfl); simp only [Act.put, List.setIfInBounds_toArray, List.set_cons_zero, List.set_cons_succ])
      | (refine wv_string (n := 32) (bs := appAll bs ps) rfl rfl rfl Try.underlying28 Try.underlying5 Try.underlying9 HN.out (fun w h => rdN_block HN.out (own_get 1 h.1 rfl) (by simp) (by simp)) ?_; simp only [Act.put, List.setIfInBounds_toArray, List.set_cons_zero, List.set_cons_succ])
      | (refine wv_string (n := 32) (bs := appAll bs ps) rfl rfl rfl Try.underlying28 Try.underlying5 Try.underlying9 HN.out (fun w h => owns_rd h.1) ?_; simp only [Act.put, List.setIfInBounds_toArray, List.set_cons_zero, List.set_cons_succ])
      | (apply wv_run rfl; (focus (intro w h; go_simp; first | done | rfl)); simp only [Act.put, List.setIfInBounds_toArray, List.set_cons_zero, List.set_cons_succ])
      | (apply wv_call rfl; (focus (intro w; go_simp; first | done | exact ⟨rfl, rfl⟩)); (focus (intro w h; apply cls_call h; first | exact live_c _ _ h.1)); simp only [Act.put, List.setIfInBounds_toArray, List.set_cons_zero, List.set_cons_succ]))
    refine wv_nil ?_
    simp only [List.drop_succ_cons, List.drop_zero]
    intro w11 ⟨hO11, hS11⟩
    clear hO
    go_wp2
    go_ret
    exact ⟨rfl, below_of (own_at hO11 (k := 2) rfl) (hS5.trans (hS6.trans hS11))⟩
  · have hno : bs.length = 32 → ¬ ∀ p ∈ ps, rightB p = true := fun h h2 => hc ⟨h, h2⟩
    have HC := Lib.hid hno
    clear hc hno
    go_enter Try.func6, Try.ntmps6
    go_upto_region 3 with (first | (go_at_call 16; refine (few_c _ _ _ _ (by omega) (by omega)).mono ?_; rintro e w2 ⟨rfl, rfl⟩; rw [HBL.out]) | (go_at_call 26; refine (some_c _ _ _ _ (by omega) (by omega)).mono ?_; rintro e w2 ⟨rfl, rfl⟩; rw [HPL.out]) | (go_at_call 25; refine (all_no _ _ _ _ bs ps hO (fun w' h => rd_snap HRD.out h (k := 0) rfl) (fun w' h => rd_snap HRP.out h (k := 0) rfl) HC.out).mono ?_; clear hO; rintro e w5 ⟨rfl, hO, hS5⟩) | (go_at_call 27; refine (rall_no _ _ _ _ bs ps hO (fun w' h => rd_snap HRD.out h (k := 0) rfl) (fun w' h => rd_snap HRP.out h (k := 0) rfl) HC.out).mono ?_; clear hO; rintro e w6 ⟨rfl, hO, hS6⟩))
    refine wp_plain_seq (Cls w6 (_)) 13 (cls_here hO) ?_
    simp only [List.take_succ_cons, List.take_zero]
    repeat (first
      | (apply wv_skip rfl; simp only [Act.put, List.setIfInBounds_toArray, List.set_cons_zero, List.set_cons_succ])
      | (apply wv_load1 rfl rfl rfl; (first | exact row_int | exact row_str | exact row_bool | exact row_u8 | exact row_bys | exact row_pats | exact row_err); (intro w h; (first | exact own_get 0 h.1 rfl | exact own_get 1 h.1 rfl | exact own_get 2 h.1 rfl | exact own_get 3 h.1 rfl | exact own_get 4 h.1 rfl | exact own_get 5 h.1 rfl | exact own_get 6 h.1 rfl | exact own_get 7 h.1 rfl)); (first | (simp only [List.getElem?_toArray, List.getElem?_cons_succ, List.getElem?_cons_zero]; rfl) | rfl); simp only [Act.put, List.setIfInBounds_toArray, List.set_cons_zero, List.set_cons_succ])
      | (apply wv_loadrow rfl rfl rfl; (first | exact row_pat); exact sz_pat; (intro w h; (first | exact own_get 0 h.1 rfl | exact own_get 1 h.1 rfl | exact own_get 2 h.1 rfl | exact own_get 3 h.1 rfl | exact own_get 4 h.1 rfl | exact own_get 5 h.1 rfl | exact own_get 6 h.1 rfl | exact own_get 7 h.1 rfl)); (focus (simp; done)); (first | (simp only [List.drop_zero, List.drop_succ_cons, List.take_succ_cons, List.take_zero]; rfl) | rfl); simp only [Act.put, List.setIfInBounds_toArray, List.set_cons_zero, List.set_cons_succ])
      | (refine wv_string (n := 0) (bs := []) rfl rfl rfl Try.underlying28 Try.underlying5 Try.underlying9 rfl (fun w h => rd_nil _ _) ?_; simp only [Act.put, List.setIfInBounds_toArray, List.set_cons_zero, List.set_cons_succ])
      | (apply wv_run rfl; (focus (intro w h; go_simp; first | done | rfl)); simp only [Act.put, List.setIfInBounds_toArray, List.set_cons_zero, List.set_cons_succ])
      | (apply wv_call rfl; (focus (intro w; go_simp; first | done | exact ⟨rfl, rfl⟩)); (focus (intro w h; apply cls_call h; first | exact live_c _ _ h.1)); simp only [Act.put, List.setIfInBounds_toArray, List.set_cons_zero, List.set_cons_succ]))
    refine wv_nil ?_
    simp only [List.drop_succ_cons, List.drop_zero]
    intro w11 ⟨hO11, hS11⟩
    clear hO
    go_wp2
    go_ret
    exact ⟨rfl, below_of hO11 (hS5.trans (hS6.trans hS11))⟩
end Go.Proofs.Ytefohmjllcnnkaa.H
