/- Contract of bare: whatever is done with the cells from a place on taken back. -/
import Derived.Test.YtdcbfdepkbplbaaS6
set_option linter.unusedVariables false
set_option linter.unusedSimpArgs false
set_option maxRecDepth 100000
namespace Go.Proofs.Ytdcbfdepkbplbaa.H
open Go.RowKit
theorem own_two_end {w : World} {A B : HP} {S L : List HP} : Own w (A :: B :: (S ++ L)) ↔ Own w (S ++ (L ++ [A, B])) := by
  have h : (A :: B :: (S ++ L)).Perm (S ++ (L ++ [A, B])) := by
    have := List.perm_append_comm (l₁ := [A, B]) (l₂ := S ++ L)
    rw [List.append_assoc] at this
    exact this
  exact ⟨fun x => own_perm x h, fun x => own_perm x h.symm⟩
theorem own_drops {w : World} {L : List HP} : ∀ {S : List HP}, Own w (S ++ L) → Own w L
  | [], h => h
  | _ :: S, h => own_drops (S := S) (own_drop h)
theorem own_third {w : World} {A B X : HP} {R : List HP} : Own w (A :: B :: X :: R) ↔ Own w (X :: A :: B :: R) := by
  have h : (A :: B :: X :: R).Perm (X :: A :: B :: R) := ((List.Perm.swap _ _ _).cons _).trans (List.Perm.swap _ _ _)
  exact ⟨fun x => own_perm x h, fun x => own_perm x h.symm⟩
theorem cell_in_rest {w : World} {A B : HP} {L : List HP} {v : Value} {n : Nat} {ps : List Value} {cs : List Cl} {i : Nat} {c : Cl} (hc : cs[i]? = some c) (h : Own w (A :: B :: owns 68 1 v n ps :: ((cellL cs ++ undL cs) ++ L))) :
    w.heap[c.a]? = some (.cells c.row 67) ∧ RdB w c.u c.und := by
  constructor
  · obtain ⟨L', h'⟩ := own_mem h (A := pts c.a (.cells c.row 67)) (by
      simp only [List.mem_cons, List.mem_append]
      exact .inr (.inr (.inr (.inl (.inl (List.mem_map.2 ⟨c, List.mem_of_getElem? hc, rfl⟩))))))
    exact own_pts h'
  · obtain ⟨L', h'⟩ := own_mem h (A := owns 5 1 c.u c.und.length (bcs c.und)) (by
      simp only [List.mem_cons, List.mem_append]
      exact .inr (.inr (.inr (.inl (.inr (List.mem_map.2 ⟨c, List.mem_of_getElem? hc, rfl⟩))))))
    exact owns_rd h'
/-- The cells stand one above the other. -/
structure Piled (b : List UInt8) (cs : List Cl) : Prop where
  base : b.length = 32
  und : cs.map Cl.und = unders b (cs.map Cl.p)
  right : ∀ c ∈ cs, rightB c.p = true
  len : cs.length ≤ 200
theorem Piled.low {b : List UInt8} {cs : List Cl} (h : Piled b cs) (k : Nat) : (appAll b ((cs.take k).map Cl.p)).length = 32 :=
  appAll_length' h.base (fun c hc => h.right c (List.mem_of_mem_take hc))
theorem Piled.step {b : List UInt8} {cs : List Cl} (h : Piled b cs) {k : Nat} {c : Cl} (hc : cs[k]? = some c) :
    c.und.length = c.p.dat.size ∧ over (appAll b ((cs.take (k + 1)).map Cl.p)) c.p.off.toNat c.und = appAll b ((cs.take k).map Cl.p) := by
  have hR := h.right c (List.mem_of_getElem? hc)
  have hl := h.low k
  have h1 : (cs.map Cl.und)[k]? = some c.und := by rw [List.getElem?_map, hc]; rfl
  rw [h.und, unders_get _ _ _ c.p (by rw [List.getElem?_map, hc]; rfl), ← List.map_take] at h1
  have hu : c.und = cutP (appAll b ((cs.take k).map Cl.p)) c.p := (Option.some.inj h1).symm
  obtain ⟨g1, g2⟩ := List.getElem?_eq_some_iff.1 hc
  refine ⟨by rw [hu]; exact cutP_length hl hR, ?_⟩
  rw [List.take_succ_eq_append_getElem g1, List.map_append, g2]
  show over (appAll b ((cs.take k).map Cl.p ++ [c.p])) _ _ = _
  rw [appAll_snoc, hu]
  exact lift_lay hl hR
set_option maxHeartbeats 1600000 in
theorem bare_c {α : Type} (V : α → Value) (CS : α → List Cl) (BY : α → List UInt8) (LL : α → List HP) (w : World) (L : List HP) (p i : Nat) (v : Value) (cs : List Cl) (b : List UInt8) (next : Nat) (f : FuncId) (caps : Array Value)
    (hO : Own w (stkL p v cs (appAll b (cs.map Cl.p)) next ++ L)) (hi : i ≤ cs.length) (hP : Piled b cs)
    (hdo : ∀ w' F, Own w' (stkL p v cs (appAll b ((cs.take i).map Cl.p)) next ++ (L ++ F)) → Calls Try.prog f caps w' (RetX w' (fun _ => .tuple #[]) (fun x => stkL p (V x) (CS x) (BY x) next ++ (LL x ++ F))))
    (hcf : ∀ w, (callFunc f caps).run Try.prog w = .ok (.enter f caps) w)
    (hok : ∀ x w' F, Own w' (LL x ++ F) → (BY x).length = 32 ∧ (∀ c ∈ CS x, rightB c.p = true) ∧ (CS x).length ≤ 200) :
    Calls Try.prog 37 #[.pointer (some ⟨p, 0, none⟩), .int .i64 i, .func (.func f) #[] caps] w
      (RetX w (fun _ => .tuple #[]) (fun y : α × List Cl => pur (Relaid (BY y.1) (min i (CS y.1).length) ((CS y.1).length - min i (CS y.1).length) (CS y.1) y.2) :: (stkL p (V y.1) y.2 (appAll (BY y.1) (((CS y.1).drop (min i (CS y.1).length)).map Cl.p)) next ++ LL y.1))) := by
  obtain ⟨A, cap, rfl⟩ := (stkAt_of hO).rd.slice
  have hmx := (stkAt_of hO).rd.max
  have hmf : ∀ (fn : Fn) (first cap : Array Value) (w : World), (Instr.makeFunc fn first cap).run Try.prog w = .ok (.func fn first cap) w := fun _ _ _ _ => rfl
  have HMF := Lib.hid hmf
  have HP := Lib.hid hP
  have HDO := Lib.hid hdo
  have HOK := Lib.hid hok
  have HCF := Lib.hid hcf
  have HB : Hid ((appAll b (cs.map Cl.p)).length = 32) := appAll_length' hP.base hP.right
  have hlen := hP.len
  clear hmf hP hdo hok hcf
  go_enter_defers Try.func37, Try.ntmps37
  go_wp2_with (first | (refine own_box (x := .tmp 0) (cs := #[.pointer (some ⟨p, 0, none⟩)]) rfl rfl rfl rfl hO ?_; clear hO; intro bs w1 hO hS1) | (refine own_box (x := .tmp 1) (cs := #[.int .i64 i]) rfl rfl rfl rfl hO ?_; clear hO; intro bi w2 hO hS2) | (refine own_load1 (b := bs) (off := 0) (cs := #[.pointer (some ⟨p, 0, none⟩)]) (t := 25) (v := .pointer (some ⟨p, 0, none⟩)) rfl rfl rfl row_sptr (own_get 1 hO rfl) rfl ?_) | (refine own_load1 (b := p) (off := 32) (cs := srow _ (.slice A cs.length cap) next) (t := 72) (v := .slice A cs.length cap) rfl rfl rfl row_cells (own_get 2 hO rfl) (srow_v _ _ _ HB.out) ?_))
  go_loopw [6] (fun k' wr => ∃ j : Nat, i ≤ j ∧ j ≤ cs.length ∧ k' = .int .i64 ((j : Int) - 1) ∧ Own wr (pts bi (.cells #[.int .i64 i] 3) :: pts bs (.cells #[.pointer (some ⟨p, 0, none⟩)] 25) :: (stkL p (.slice A cs.length cap) cs (appAll b ((cs.take j).map Cl.p)) next ++ L)) ∧ Same w wr) (fun k' _ => (intOf k' + 1).toNat)
  case atStart => exact ⟨cs.length, hi, Nat.le_refl _, by go_num, by rw [List.take_length]; exact hO, hS1.trans hS2⟩
  case round =>
    clear hO hS1 hS2
    obtain ⟨j, hij, hjl, hk', hO, hS⟩ := hrel
    by_cases hlt : i < j
    · obtain ⟨h, rfl⟩ : ∃ h, j = h + 1 := ⟨j - 1, by omega⟩
      rw [show (((h + 1 : Nat) : Int) - 1) = (h : Int) by omega] at hk'
      subst hk'
      obtain ⟨c, hc⟩ : ∃ c, cs[h]? = some c := ⟨_, List.getElem?_eq_getElem (by omega)⟩
      have HC := Lib.hid hc
      have hcond : (i : Int) ≤ (h : Int) := by omega
      have hcond2 : decide ((h : Int) ≥ (i : Int)) = true := by simp; omega
      have hst := stkAt_of (own_drop (own_drop hO))
      obtain ⟨ad, rfl⟩ := hst.rd.addr (by rw [List.length_map]; omega)
      have HCELL : Hid (∀ w' F, Own w' (stkL p (.slice (some ad) cs.length cap) cs (appAll b ((cs.take (h + 1)).map Cl.p)) next ++ F) → w'.cell? (ad.add h) = some (.pointer (some ⟨c.a, 0, none⟩))) := fun w' F h' => ptr_cell (stkAt_of h').rd HC.out
      have HBH : Hid ((appAll b ((cs.take (h + 1)).map Cl.p)).length = 32) := HP.out.low (h + 1)
      have hm1 : (h : Int) < cs.length := by omega
      have HRT := rightB_iff.1 (HP.out.right c (List.mem_of_getElem? hc))
      have HST := HP.out.step hc
      have HRT' := Lib.hid HRT
      have HST' := Lib.hid HST
      clear hc hst HRT HST
      go_wp2_with (first | (refine own_load1 (b := bs) (off := 0) (cs := #[.pointer (some ⟨p, 0, none⟩)]) (t := 25) (v := .pointer (some ⟨p, 0, none⟩)) rfl rfl rfl row_sptr (own_get 1 hO rfl) rfl ?_) | (refine own_load1 (b := bi) (off := 0) (cs := #[.int .i64 i]) (t := 3) (v := .int .i64 i) rfl rfl rfl row_int (own_get 0 hO rfl) rfl ?_))
      refine wp_region_seq (Cls wr (pts bi (.cells #[.int .i64 i] 3) :: pts bs (.cells #[.pointer (some ⟨p, 0, none⟩)] 25) :: (stkL p (.slice (some ad) cs.length cap) cs (appAll b ((cs.take (h + 1)).map Cl.p)) next ++ L))) 8 30 mixed (by kernel_rfl) rfl (cls_drew hO) ?_
      simp only [List.take_succ_cons, List.take_zero]
      repeat (first
        | (apply wv_skip rfl; simp only [Act.put, List.setIfInBounds_toArray, List.set_cons_zero, List.set_cons_succ])
        | (refine wv_load1 (b := bs) (cs := #[.pointer (some ⟨p, 0, none⟩)]) (t := 25) (v := .pointer (some ⟨p, 0, none⟩)) rfl rfl rfl row_sptr (fun w h => own_get 1 h.1 rfl) rfl ?_; simp only [Act.put, List.setIfInBounds_toArray, List.set_cons_zero, List.set_cons_succ])
        | (refine wv_load1 (b := p) (cs := srow _ (.slice (some ad) cs.length cap) next) (t := 72) (off := 32) (v := .slice (some ad) cs.length cap) rfl rfl rfl row_cells (fun w h => own_get 2 h.1 rfl) (srow_v _ _ _ HBH.out) ?_; simp only [Act.put, List.setIfInBounds_toArray, List.set_cons_zero, List.set_cons_succ])
        | (refine wv_load1_at (ad := ad.add h) rfl rfl rfl row_ptr (fun w h => HCELL.out _ _ (own_drop (own_drop h.1))) ?_; simp only [Act.put, List.setIfInBounds_toArray, List.set_cons_zero, List.set_cons_succ])
        | (apply wv_load1 rfl rfl rfl; (first | exact row_int | exact row_str | exact row_bool | exact row_u8 | exact row_bys | exact row_pats | exact row_err); (intro w h; (first | exact own_get 0 h.1 rfl | exact own_get 1 h.1 rfl | exact own_get 2 h.1 rfl | exact own_get 3 h.1 rfl | exact own_get 4 h.1 rfl | exact own_get 5 h.1 rfl | exact own_get 6 h.1 rfl | exact own_get 7 h.1 rfl)); (first | (simp only [List.getElem?_toArray, List.getElem?_cons_succ, List.getElem?_cons_zero]; rfl) | rfl); simp only [Act.put, List.setIfInBounds_toArray, List.set_cons_zero, List.set_cons_succ])
        | (apply wv_loadrow rfl rfl rfl; (first | exact row_pat); exact sz_pat; (intro w h; (first | exact own_get 0 h.1 rfl | exact own_get 1 h.1 rfl | exact own_get 2 h.1 rfl | exact own_get 3 h.1 rfl | exact own_get 4 h.1 rfl | exact own_get 5 h.1 rfl | exact own_get 6 h.1 rfl | exact own_get 7 h.1 rfl)); (focus (simp; done)); (first | (simp only [List.drop_zero, List.drop_succ_cons, List.take_succ_cons, List.take_zero]; rfl) | rfl); simp only [Act.put, List.setIfInBounds_toArray, List.set_cons_zero, List.set_cons_succ])
        | (apply wv_run rfl; (focus (intro w h; go_simp; first | done | rfl)); simp only [Act.put, List.setIfInBounds_toArray, List.set_cons_zero, List.set_cons_succ])
        | (apply wv_call rfl; (focus (intro w; go_simp; first | done | exact ⟨rfl, rfl⟩)); (focus (intro w h; apply cls_call h; fail)); simp only [Act.put, List.setIfInBounds_toArray, List.set_cons_zero, List.set_cons_succ]))
      refine wv_nil ?_
      simp only [List.drop_succ_cons, List.drop_zero]
      intro w5 ⟨hO5, hS5⟩
      clear hO
      go_wp2_with (go_at_call 55; refine (lift_c _ _ p _ _ next c (own_third.1 hO5) (fun w' h' => (cell_in_rest HC.out h').1) (fun w' h' => (cell_in_rest HC.out h').2) HBH.out HRT'.out.2.2.1 (by rw [HST'.out.1]; exact HRT'.out.2.2.2.2.1) (by rw [HST'.out.1]; have := HRT'.out; omega)).mono ?_; clear hO5; rintro e w6 ⟨rfl, hO, hS6⟩; rw [HST'.out.2] at hO; have hO := own_third.2 hO)
      go_roundw
      case rel => exact ⟨h, by omega, by omega, by go_num, hO, hS.trans (hS5.trans hS6)⟩
      case measure => simp [intOf]
    · have hje : i = j := by omega
      subst hje
      subst hk'
      have hcond2 : decide (((i : Int) - 1) ≥ (i : Int)) = false := by simp; omega
      have hcfw := HCF.out wr
      go_wp2_with (first | (refine own_load1 (b := bs) (off := 0) (cs := #[.pointer (some ⟨p, 0, none⟩)]) (t := 25) (v := .pointer (some ⟨p, 0, none⟩)) rfl rfl rfl row_sptr (own_get 1 hO rfl) rfl ?_) | (refine own_load1 (b := bi) (off := 0) (cs := #[.int .i64 i]) (t := 3) (v := .int .i64 i) rfl rfl rfl row_int (own_get 0 hO rfl) rfl ?_) | ((refine (HDO.out wr [pts bi (.cells #[.int .i64 i] 3), pts bs (.cells #[.pointer (some ⟨p, 0, none⟩)] 25)] (own_two_end.1 hO)).mono ?_); clear hO hcfw; rintro e w6 ⟨x, rfl, hO, hS6⟩))
      have hO := own_two_end.2 hO
      have hx := HOK.out x w6 _ (own_drops (own_two_end.1 hO))
      refine leaves_cons (f := 63) (args := #[.pointer (some ⟨bs, 0, none⟩), .pointer (some ⟨bi, 0, none⟩)]) (by simp) (by simp [go_sem]) ?_
      refine (relay_w w6 (LL x) p bs bi i (min i (CS x).length) (V x) (CS x) (BY x) next (own_perm hO (List.Perm.swap _ _ _)) (Nat.min_le_right _ _) hx.2.2 ?_ hx.1 hx.2.1).mono ?_
      · rw [Nat.min_def]; split <;> split <;> omega
      rintro e u' w7 ⟨rfl, cs', rfl, hO7, hS7⟩
      rw [own_pur] at hO7
      exact ⟨_, results_none rfl _ _ _, ⟨(x, cs'), rfl, own_pur.2 ⟨hO7.1, own_drop (own_drop hO7.2)⟩, hS.trans (hS6.trans hS7)⟩⟩
end Go.Proofs.Ytdcbfdepkbplbaa.H
