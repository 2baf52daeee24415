/- Ready of the program's engine. -/
import Derived.Test.YtonohjhmnlfakaaZ16
import Derived.Test.YtonohjhmnlfakaaZ17
import Derived.Deep.LoopGhost
set_option linter.unusedVariables false
set_option linter.unusedSimpArgs false
set_option maxRecDepth 100000
namespace Go.Proofs.Ytonohjhmnlfakaa.H
open Go.RowKit
theorem zero_mb : (Try.prog.info? 99).map (·.zero) = some (some (.map none)) := by kernel_rfl
theorem sz_mb : (Try.prog.info? 99).map (·.size) = some 1 := by kernel_rfl
/-- The engine laid open. -/
abbrev eL (e d bs : Nat) (wv : Value) (fs : List (Int × Value)) (g : List RdI) (m : List Blk) (next : Nat) (L : List HP) : List HP := pts e (.cells #[.pointer (some ⟨d, 0, none⟩), wv, .map (some bs), .int .i64 next] 67) :: diskP d m :: mapP bs fs :: rdG g :: L
def onB (i : Nat) (x : We) : Bool := decide (x.1.p.blk = (i : Int))
theorem wnums_next {l : List We} {k : Nat} {x : We} (hx : l[k]? = some x) : wnums ((l.take (k + 1)).map (·.1)) = wnums ((l.take k).map (·.1)) ++ [(x.1.n : Int)] := by
  rw [List.take_add_one, hx]
  simp [wnums]
theorem filt_next (p : We → Bool) {l : List We} {k : Nat} {x : We} (hx : l[k]? = some x) : (l.take (k + 1)).filter p = (l.take k).filter p ++ (if p x then [x] else []) := by
  rw [List.take_add_one, hx]
  simp only [Option.toList_some, List.filter_append]
  cases h : p x <;> simp [h]
theorem own_swap {w : World} {A B : HP} {L : List HP} (h : Own w (A :: B :: L)) : Own w (B :: A :: L) := own_perm h (List.Perm.swap _ _ _)
theorem own_sub {w : World} {L L' : List HP} (h : Own w L) (hs : L'.Sublist L) : Own w L' := by
  obtain ⟨M, hM⟩ : ∃ M, L.Perm (M ++ L') := by
    clear h
    induction hs with
    | slnil => exact ⟨[], List.Perm.refl _⟩
    | cons a _ ih => obtain ⟨M, h⟩ := ih; exact ⟨a :: M, h.cons a⟩
    | cons_cons a _ ih => obtain ⟨M, h⟩ := ih; exact ⟨M, (h.cons a).trans (List.perm_middle.symm)⟩
  have h2 := own_perm h hM
  clear h hM hs
  induction M with
  | nil => exact h2
  | cons a M ih => exact ih (own_drop h2)
theorem delete_ex (w : World) (L : List HP) (v : Value) (we : List We) (i k n : Nat) (x : Int) (hn : n = k + 1) (hO : Own w (owns 79 5 v n (cellsW we) :: L)) (hx : x = (i : Int) + 1) (hl : we.length = k + 1) (hi : i ≤ k) (h200 : k ≤ 200) (hone : ∀ x ∈ we, x.2.oneCell' = true) :
    Calls Try.prog 82 #[v, .int .i64 i, .int .i64 x] w (RetX w (fun v' : Value => v') (fun v' => owns 79 5 v' k (cellsW (we.eraseIdx i)) :: L)) := by
  subst hx
  subst hn
  exact delete_e w L v we i k hO hl hi h200 hone
theorem own_ready {w : World} {A B C D X Y : HP} {L : List HP} (h : Own w (A :: B :: C :: D :: X :: Y :: L)) : Own w (X :: Y :: B :: C :: A :: D :: L) := own_perm h (by
  refine List.Perm.trans (perm_at (k := 4) rfl) (List.Perm.cons _ ?_)
  refine List.Perm.trans (perm_at (k := 4) rfl) (List.Perm.cons _ ?_)
  refine List.Perm.trans (perm_at (k := 1) rfl) (List.Perm.cons _ ?_)
  exact perm_at (k := 1) rfl)
theorem own_unready {w : World} {A B C D X Y : HP} {L : List HP} (h : Own w (X :: Y :: B :: C :: A :: D :: L)) : Own w (B :: C :: D :: X :: Y :: L) := own_perm (own_drop (own_at h (k := 4) rfl)) (by
  show List.Perm (X :: Y :: B :: C :: D :: L) _
  refine List.Perm.trans (perm_at (k := 2) rfl) (List.Perm.cons _ ?_)
  refine List.Perm.trans (perm_at (k := 2) rfl) (List.Perm.cons _ ?_)
  exact perm_at (k := 2) rfl)
theorem map_filt {we : List We} {l : List Wt} (h : we.map (·.1) = l) (i : Nat) : (we.filter (onB i)).map (·.1) = l.filter fun x => decide (x.p.blk = (i : Int)) := by
  rw [← h, List.filter_map]
  rfl
theorem pick_sub {l : List Wt} (hA : Asc l) (i : Nat) : (pickW l (readyL l i)).Sublist (l.filter fun x => decide (x.p.blk = (i : Int))) := by
  have e : pickW l (readyL l i) = (l.filter fun x => decide (x.p.blk = (i : Int))).filter fun x => (readyL l i).contains (x.n : Int) := by
    unfold pickW
    rw [List.filter_filter]
    refine List.filter_congr (fun x hx => ?_)
    cases hc : (readyL l i).contains (x.n : Int) with
    | false => simp
    | true =>
      have := ((ready_iff hA hx).1 (by simpa using hc)).1
      simp [this]
  rw [e]
  exact List.filter_sublist
theorem map_erase {α β : Type} (f : α → β) (l : List α) (k : Nat) : (l.eraseIdx k).map f = (l.map f).eraseIdx k := by
  rw [List.eraseIdx_eq_take_drop_succ, List.eraseIdx_eq_take_drop_succ, List.map_append, List.map_take, List.map_drop]
theorem notIn_false {W C : List Int} {l : List Int} (h : l.any (notIn W C) = false) : ∀ d ∈ l, d ∈ W → d ∈ C := fun d hd hw => by
  have := List.any_eq_false.1 h d hd
  unfold notIn at this
  simp only [Bool.not_eq_true, Bool.and_eq_false_iff, Bool.not_eq_false', List.contains_eq_mem, decide_eq_false_iff_not, decide_eq_true_eq] at this
  rcases this with h | h
  · exact absurd hw h
  · exact h
theorem notIn_true {W C : List Int} {l : List Int} (h : l.any (notIn W C) = true) : ∃ d ∈ l, d ∈ W ∧ d ∉ C := by
  obtain ⟨d, hd, h2⟩ := List.any_eq_true.1 h
  unfold notIn at h2
  simp only [Bool.and_eq_true, Bool.not_eq_true', List.contains_eq_mem, decide_eq_false_iff_not, decide_eq_true_eq] at h2
  exact ⟨d, hd, h2.1, h2.2⟩
section
variable (w : World) (L : List HP) (e : Nat) (E : Eng)
theorem eready_no (i : Int) (hO : Own w (engP e E :: L)) (hi : i < 0 ∨ (E.m.length : Int) ≤ i) : Calls Try.prog 51 #[.pointer (some ⟨e, 0, none⟩), .int .i64 i] w (Ret w (.slice none 0 0) (engP e E :: L)) := by
  have HI := Lib.hid hi
  have hS := Same.refl w
  clear hi
  go_enter Try.func51, Try.ntmps51
  go_wp2
  go_step3
  go_wp2_with (first | (go_at_call 50; (with_reducible refine Calls.mono (emay_no _ _ e E i hO HI.out) ?_); clear hO; rintro e u ⟨rfl, hO, hSn⟩; replace hS := hS.trans hSn; clear hSn))
  try rw [Exit.noGoto_ret]
  go_ret
  exact ⟨rfl, hO, hS⟩
set_option maxHeartbeats 6400000 in
theorem eready_ok (i : Nat) (hO : Own w (engP e E :: L)) (hk : E.Ok) (hi : i < E.m.length) : Calls Try.prog 51 #[.pointer (some ⟨e, 0, none⟩), .int .i64 i] w (RetX w (fun v : Value => v) (fun v => owns 3 1 v (readyL E.l i).length (zs (readyL E.l i)) :: engP e E :: L)) := by
  have HI := Lib.hid hi
  have HOK := Lib.hid hk
  have hS := Same.refl w
  clear hi hk
  go_enter Try.func51, Try.ntmps51
  go_wp2
  go_step3
  go_upto_region 4 with (first | (go_at_call 50; (with_reducible refine Calls.mono (emay_ok _ _ e E i hO HI.out) ?_); clear hO; rintro e u ⟨rfl, hO, hSn⟩; replace hS := hS.trans hSn; clear hSn))
  obtain ⟨d, wv, bs, fs, we, g, ⟨h1, h2, h3⟩, hO⟩ := eng_open.1 hO
  have HK := Lib.hid (And.intro h1 (And.intro h2 h3))
  obtain ⟨WA, wc, rfl, hm⟩ := h2.rd
  have hmx := (rdG_rd (own_at hO (k := 3) rfl) hm).max
  have HW := Lib.hid h2
  have HL2 : Hid (we.length ≤ 200) := by have := HOK.out.len; show _ ≤ _; rw [← h1, List.length_map] at this; exact this
  have hwl2 := HL2.out
  have HBEH : Hid (∀ x ∈ we, ∃ A2 c2, x.2 = .slice A2 x.1.beh.length c2) := Lib.hid fun x hx => by obtain ⟨A2, c2, e2, _⟩ := h2.beh x hx; exact ⟨A2, c2, e2⟩
  clear h1 h2 h3 hm
  have hO : Own u (eL e d bs (.slice WA we.length wc) fs g E.m E.next L) := hO
  go_upto_region 5 with (first | (refine own_mkmap rfl rfl hO ?_; clear hO; intro mw u hO hSn; replace hS := hS.trans hSn; clear hSn) | (refine own_alloc (T := 99) (cs := #[.map none]) rfl rfl zero_mb rfl hO ?_; clear hO; intro b6 u hO hSn; replace hS := hS.trans hSn; clear hSn) | (refine own_store1 (k := 0) (off := 0) (cs' := #[.map (some mw)]) rfl rfl rfl rfl sz_mb hO rfl rfl (by simp) rfl ?_; clear hO; intro u hO hSn; replace hS := hS.trans hSn; clear hSn; simp only [List.set_cons_zero] at hO))
  go_wp2_with (first | (apply own_load1 rfl rfl rfl; (first | exact row_dptr | exact row_ents | exact row_mint | exact row_mb); (first | exact own_get 0 hO rfl | exact own_get 1 hO rfl | exact own_get 2 hO rfl | exact own_get 3 hO rfl | exact own_get 4 hO rfl | exact own_get 5 hO rfl | exact own_get 6 hO rfl | exact own_get 7 hO rfl); (first | (simp only [List.getElem?_toArray, List.getElem?_cons_succ, List.getElem?_cons_zero]; rfl) | rfl)))
  go_loopw [5, 27] (fun sv iv wr => ∃ (k : Nat) (fw : List (Int × Value)), k ≤ we.length ∧ iv = .int .i64 k ∧ BSet fw (wnums ((we.take k).map (·.1))) ∧ Own wr (owns 79 5 sv ((we.take k).filter (onB i)).length (cellsW ((we.take k).filter (onB i))) :: pts b6 (.cells #[.map (some mw)] 99) :: mapP mw fw :: eL e d bs (.slice WA we.length wc) fs g E.m E.next L) ∧ Same w wr) (fun _ iv _ => we.length - (intOf iv).toNat)
  case atStart => exact ⟨0, [], Nat.zero_le _, rfl, bset_nil, owns_nil hO, hS⟩
  case round =>
    clear hO hS
    obtain ⟨k, fw, hk, rfl, hbs, hO, hS⟩ := hrel
    have HBS := Lib.hid hbs
    clear hbs
    by_cases hlt : k < we.length
    · obtain ⟨⟨x, xv⟩, hx⟩ : ∃ x, we[k]? = some x := ⟨_, List.getElem?_eq_getElem hlt⟩
      obtain ⟨A2, c2, e2⟩ := HBEH.out _ (List.mem_of_getElem? hx)
      have e2 : xv = .slice A2 x.beh.length c2 := e2
      subst e2
      obtain ⟨ad, c', e1, hc⟩ := wat HW.out hx (own_at hO (k := 6) rfl)
      obtain ⟨rfl, rfl⟩ : WA = some ad ∧ wc = c' := by injection e1 with a1 _ a3; exact ⟨a1, a3⟩
      have HC := Lib.hid (hc _ wr (own_at hO (k := 6) rfl))
      have hm1 : (k : Int) < we.length := by omega
      have HNX : Hid (BSet (mset fw (x.n : Int) (.bool true)) (wnums ((we.take (k + 1)).map (·.1)))) := by
        show BSet _ _
        rw [wnums_next hx]
        exact HBS.out.add _
      have HFX := Lib.hid (filt_next (onB i) hx)
      have HFL : Hid (((we.take k).filter (onB i)).length ≤ 200) := by
        have h1 := List.length_filter_le (onB i) (we.take k)
        rw [List.length_take] at h1
        have := HL2.out
        show _ ≤ _
        omega
      clear hx hc e1
      go_upto_region 8 with (first | (refine own_loadrow_at (ad := ad.add (k * 5)) (vs := (We.cells (x, .slice A2 x.beh.length c2))) rfl rfl rfl row_ent sz_ent rfl HC.out ?_) | (refine own_alloc (T := 79) rfl rfl zero_ent rfl hO ?_; clear hO; intro gx u hO hSn; replace hS := hS.trans hSn; clear hSn) | (apply own_store_all (k := 0) rfl rfl rfl rfl sz_ent hO rfl; (focus rfl); (focus rfl); (focus rfl); clear hO; intro u hO hSn; replace hS := hS.trans hSn; clear hSn; simp only [List.set_cons_zero, List.set_cons_succ] at hO))
      go_upto_region 9 with (first | (apply own_load1 rfl rfl rfl; (first | exact row_dptr | exact row_ents | exact row_mint | exact row_mb); (first | exact own_get 0 hO rfl | exact own_get 1 hO rfl | exact own_get 2 hO rfl | exact own_get 3 hO rfl | exact own_get 4 hO rfl | exact own_get 5 hO rfl | exact own_get 6 hO rfl | exact own_get 7 hO rfl); (first | (simp only [List.getElem?_toArray, List.getElem?_cons_succ, List.getElem?_cons_zero]; rfl) | rfl)) | (refine own_load1 (b := gx) (off := 0) (cs := (We.cells (x, .slice A2 x.beh.length c2)).toArray) (t := 79) (v := .int .i64 x.n) rfl rfl rfl row_int (own_get 0 hO rfl) rfl ?_) | (refine own_mset (i := 3) (b := mw) (f := fw) (k := (x.n : Int)) (v := .bool true) rfl rfl rfl rfl rfl und_mb und_i hO rfl ?_; clear hO; intro u hO hSn; replace hS := hS.trans hSn; clear hSn; simp only [List.set_cons_zero, List.set_cons_succ] at hO))
      have hO := own_swap hO
      by_cases hb : x.p.blk = (i : Int)
      · have hbe : (x.p.blk == (i : Int)) = true := by simp [hb]
        have HX : Hid ((we.take (k + 1)).filter (onB i) = (we.take k).filter (onB i) ++ [(x, .slice A2 x.beh.length c2)]) := by
          show _ = _
          rw [HFX.out, if_pos (by simp [onB, hb])]
        have HBI := Lib.hid hb
        clear hb
        go_wp2_with (first | (refine own_load1 (b := gx) (off := 1) (cs := (We.cells (x, .slice A2 x.beh.length c2)).toArray) (t := 79) (v := .int .i64 x.p.blk) rfl rfl rfl row_int (own_get 1 hO rfl) rfl ?_) | (refine own_loadrow (b := gx) (off := 0) (cs := (We.cells (x, .slice A2 x.beh.length c2)).toArray) (t := 79) (vs := [.int .i64 x.n, .int .i64 x.p.blk, .int .i64 x.p.off, .string x.p.dat, .slice A2 x.beh.length c2]) rfl rfl rfl row_ent sz_ent (own_get 1 hO rfl) (by show 5 ≤ 5; decide) rfl ?_) | (refine own_append (m := 1) (n := ((we.take k).filter (onB i)).length) (xs := (cellsW ((we.take k).filter (onB i)))) (news := [.int .i64 x.n, .int .i64 x.p.blk, .int .i64 x.p.off, .string x.p.dat, .slice A2 x.beh.length c2]) rfl rfl rfl rfl Try.underlying65 info_ent3 rfl (by decide) (own_perm (own_alloc_new hO (.cells #[.int .i64 x.n, .int .i64 x.p.blk, .int .i64 x.p.off, .string x.p.dat, .slice A2 x.beh.length c2] 79)) (List.Perm.swap _ _ _)) ?_ (by intro u hu; simp at hu; rcases hu with rfl | rfl | rfl | rfl | rfl <;> rfl) ?_ ?_ ?_; (exact rd_block (own_get 1 (own_perm (own_alloc_new hO (.cells #[.int .i64 x.n, .int .i64 x.p.blk, .int .i64 x.p.off, .string x.p.dat, .slice A2 x.beh.length c2] 79)) (List.Perm.swap _ _ _)) rfl) rfl (by simp) (by simp) (by simp)); (have := HFL.out; unfold maxLen; omega); (have := HFL.out; omega); clear hO; intro v' w9 hO hS9 hv'))
        go_roundw
        case rel =>
          refine ⟨k + 1, _, by omega, by go_num, HNX.out, ?_, hS.trans ((Same.alloc _ _).trans hS9)⟩
          rw [HX.out, List.length_append, cellsW_app]
          exact own_skip (own_skip hO)
        case measure => simp [intOf]; omega
      · have hbe : (x.p.blk == (i : Int)) = false := by simp [hb]
        have HX : Hid ((we.take (k + 1)).filter (onB i) = (we.take k).filter (onB i)) := by
          show _ = _
          rw [HFX.out, if_neg (by simp [onB, hb]), List.append_nil]
        clear hb
        go_wp2_with (first | (refine own_load1 (b := gx) (off := 1) (cs := (We.cells (x, .slice A2 x.beh.length c2)).toArray) (t := 79) (v := .int .i64 x.p.blk) rfl rfl rfl row_int (own_get 1 hO rfl) rfl ?_))
        go_roundw
        case rel =>
          refine ⟨k + 1, _, by omega, by go_num, HNX.out, ?_, hS⟩
          rw [HX.out]
          exact own_skip hO
        case measure => simp [intOf]; omega
    · have hke : k = we.length := by omega
      subst hke
      rw [List.take_length] at hO HBS
      have HWN : Hid (BSet fw (wnums E.l)) := by show BSet _ _; rw [← HK.out.1]; exact HBS.out
      obtain ⟨cur0, hcur0⟩ : ∃ cur0, cur0 = we.filter (onB i) := ⟨_, rfl⟩
      rw [← hcur0] at hO
      have HC0 : Hid ((cur0.map (·.1)).Sublist (E.l.filter fun x => decide (x.p.blk = (i : Int))) ∧ (pickW E.l (readyL E.l i)).Sublist (cur0.map (·.1)) ∧ ∀ x ∈ cur0, x ∈ we) := by
        show _ ∧ _
        rw [hcur0, map_filt HK.out.1]
        exact ⟨List.Sublist.refl _, pick_sub HOK.out.asc i, fun x hx => List.filter_sublist.subset hx⟩
      clear hcur0 HBS
      go_wp2
      go_step3
      go_wp2
      go_loopg [5] cur0.length (fun gk sv wr => ∃ cur : List We, Hid (cur.length = gk) ∧ Hid ((cur.map (·.1)).Sublist (E.l.filter fun x => decide (x.p.blk = (i : Int))) ∧ (pickW E.l (readyL E.l i)).Sublist (cur.map (·.1)) ∧ ∀ x ∈ cur, x ∈ we) ∧ Own wr (owns 79 5 sv cur.length (cellsW cur) :: pts b6 (.cells #[.map (some mw)] 99) :: mapP mw fw :: eL e d bs (.slice WA we.length wc) fs g E.m E.next L) ∧ Same w wr)
      case atStart => exact ⟨cur0, Lib.hid rfl, HC0, hO, hS⟩
      case round =>
        clear hO hS HC0
        obtain ⟨cur, HGK, HCU, hO, hS⟩ := hrel
        obtain ⟨SA, sc, rfl⟩ := (owns_rd hO).slice
        have hmx2 := (owns_rd hO).max
        have HCL : Hid (cur.length ≤ 200) := by
          have h1 := HCU.out.1.length_le
          rw [List.length_map] at h1
          have h2 := List.length_filter_le (fun x : Wt => decide (x.p.blk = (i : Int))) E.l
          have h3 := HOK.out.len
          show _ ≤ _
          omega
        have hcl200 := HCL.out
        go_upto_region 13 with (first | (refine own_mkmap rfl rfl hO ?_; clear hO; intro mi u hO hSn; replace hS := hS.trans hSn; clear hSn) | (refine own_alloc (T := 99) (cs := #[.map none]) rfl rfl zero_mb rfl hO ?_; clear hO; intro b9 u hO hSn; replace hS := hS.trans hSn; clear hSn) | (refine own_store1 (k := 0) (off := 0) (cs' := #[.map (some mi)]) rfl rfl rfl rfl sz_mb hO rfl rfl (by simp) rfl ?_; clear hO; intro u hO hSn; replace hS := hS.trans hSn; clear hSn; simp only [List.set_cons_zero] at hO))
        go_wp2
        have HAT : Hid (∀ (k : Nat) (x : We), cur[k]? = some x → ∃ (xw : Wt) (A2 : Option Addr) (c2 : Nat), x = (xw, .slice A2 xw.beh.length c2) ∧ (⟨1, .slice A2 xw.beh.length c2, xw.beh.length, zs xw.beh⟩ : RdI) ∈ g) := Lib.hid fun k x hx => by
          obtain ⟨A2, c2, e2, h2⟩ := HW.out.beh x (HCU.out.2.2 x (List.mem_of_getElem? hx))
          exact ⟨x.1, A2, c2, by rw [← e2], h2⟩
        have HCELL : Hid (∀ (L : List HP) w' (k : Nat) (x : We), Own w' (owns 79 5 (.slice SA cur.length sc) cur.length (cellsW cur) :: L) → cur[k]? = some x → ∃ ad, SA = some ad ∧ ∀ (j : Nat) (u : Value), (We.cells x)[j]? = some u → w'.cell? ((ad.add (k * 5)).add j) = some u) := Lib.hid fun L w' k x h hx => by
          have hr := owns_rd h
          obtain ⟨ad, rfl⟩ := hr.addr (by rw [cellsW_length]; have := (List.getElem?_eq_some_iff.1 hx).1; omega)
          exact ⟨ad, rfl, ent_cells hr hx⟩
        go_loopw [47] (fun iv wr => ∃ (k : Nat) (fi : List (Int × Value)), k ≤ cur.length ∧ iv = .int .i64 k ∧ BSet fi (wnums ((cur.take k).map (·.1))) ∧ Own wr (pts b9 (.cells #[.map (some mi)] 99) :: mapP mi fi :: owns 79 5 (.slice SA cur.length sc) cur.length (cellsW cur) :: pts b6 (.cells #[.map (some mw)] 99) :: mapP mw fw :: eL e d bs (.slice WA we.length wc) fs g E.m E.next L) ∧ Same w wr) (fun iv _ => cur.length - (intOf iv).toNat)
        case atStart => exact ⟨0, [], Nat.zero_le _, rfl, bset_nil, hO, hS⟩
        case round =>
          clear hO hS
          obtain ⟨k, fi, hk, rfl, hbs, hO, hS⟩ := hrel
          have HBS := Lib.hid hbs
          clear hbs
          by_cases hlt : k < cur.length
          · obtain ⟨x0, hx⟩ : ∃ x, cur[k]? = some x := ⟨_, List.getElem?_eq_getElem hlt⟩
            obtain ⟨x, A2, c2, rfl, _⟩ := HAT.out k x0 hx
            obtain ⟨ad, rfl, hc⟩ := HCELL.out _ wr k _ (own_at hO (k := 2) rfl) hx
            have HC := Lib.hid hc
            have hm1 : (k : Int) < cur.length := by omega
            have HNX : Hid (BSet (mset fi (x.n : Int) (.bool true)) (wnums ((cur.take (k + 1)).map (·.1)))) := by
              show BSet _ _
              rw [wnums_next hx]
              exact HBS.out.add _
            clear hx hc
            go_wp2_with (first | (refine own_loadrow_at (ad := ad.add (k * 5)) (vs := (We.cells (x, .slice A2 x.beh.length c2))) rfl rfl rfl row_ent sz_ent rfl HC.out ?_) | (refine own_alloc (T := 79) rfl rfl zero_ent rfl hO ?_; clear hO; intro gx u hO hSn; replace hS := hS.trans hSn; clear hSn) | (apply own_store_all (k := 0) rfl rfl rfl rfl sz_ent hO rfl; (focus rfl); (focus rfl); (focus rfl); clear hO; intro u hO hSn; replace hS := hS.trans hSn; clear hSn; simp only [List.set_cons_zero, List.set_cons_succ] at hO) | (apply own_load1 rfl rfl rfl; (first | exact row_dptr | exact row_ents | exact row_mint | exact row_mb); (first | exact own_get 0 hO rfl | exact own_get 1 hO rfl | exact own_get 2 hO rfl | exact own_get 3 hO rfl | exact own_get 4 hO rfl | exact own_get 5 hO rfl | exact own_get 6 hO rfl | exact own_get 7 hO rfl); (first | (simp only [List.getElem?_toArray, List.getElem?_cons_succ, List.getElem?_cons_zero]; rfl) | rfl)) | (refine own_load1 (b := gx) (off := 0) (cs := (We.cells (x, .slice A2 x.beh.length c2)).toArray) (t := 79) (v := .int .i64 x.n) rfl rfl rfl row_int (own_get 0 hO rfl) rfl ?_) | (refine own_mset (i := 2) (b := mi) (f := fi) (k := (x.n : Int)) (v := .bool true) rfl rfl rfl rfl rfl und_mb und_i hO rfl ?_; clear hO; intro u hO hSn; replace hS := hS.trans hSn; clear hSn; simp only [List.set_cons_zero, List.set_cons_succ] at hO))
            go_roundw
            case rel => exact ⟨k + 1, _, by omega, by go_num, HNX.out, own_drop hO, hS⟩
            case measure => simp [intOf]; omega
          · have hke : k = cur.length := by omega
            subst hke
            rw [List.take_length] at HBS
            go_wp2
            go_loopg [5, 57] cur.length (fun g4 sv iv wr => ∃ k : Nat, Hid (k + g4 = cur.length) ∧ k ≤ cur.length ∧ sv = .slice SA cur.length sc ∧ iv = .int .i64 k ∧ Hid (∀ x ∈ cur.take k, x.1.beh.any (notIn (wnums E.l) (wnums (cur.map (·.1)))) = false) ∧ Own wr (pts b9 (.cells #[.map (some mi)] 99) :: mapP mi fi :: owns 79 5 (.slice SA cur.length sc) cur.length (cellsW cur) :: pts b6 (.cells #[.map (some mw)] 99) :: mapP mw fw :: eL e d bs (.slice WA we.length wc) fs g E.m E.next L) ∧ Same w wr)
            case atStart => exact ⟨0, Lib.hid (Nat.zero_add _), Nat.zero_le _, rfl, rfl, Lib.hid (fun x hx => by simp at hx), hO, hS⟩
            case round =>
              clear hO hS
              obtain ⟨k, HG4, hk, rfl, rfl, HNO, hO, hS⟩ := hrel
              by_cases hlt : k < cur.length
              · obtain ⟨x0, hx⟩ : ∃ x, cur[k]? = some x := ⟨_, List.getElem?_eq_getElem hlt⟩
                obtain ⟨x, A2, c2, rfl, hmem⟩ := HAT.out k x0 hx
                obtain ⟨ad, rfl, hc⟩ := HCELL.out _ wr k _ (own_at hO (k := 2) rfl) hx
                have HC := Lib.hid hc
                have HX := Lib.hid hx
                have HMEM := Lib.hid hmem
                have hm1 : (k : Int) < cur.length := by omega
                clear hx hc hmem
                go_upto_region 21 with (first | (refine own_loadrow_at (ad := ad.add (k * 5)) (vs := (We.cells (x, .slice A2 x.beh.length c2))) rfl rfl rfl row_ent sz_ent rfl HC.out ?_) | (refine own_alloc (T := 79) rfl rfl zero_ent rfl hO ?_; clear hO; intro gx u hO hSn; replace hS := hS.trans hSn; clear hSn) | (apply own_store_all (k := 0) rfl rfl rfl rfl sz_ent hO rfl; (focus rfl); (focus rfl); (focus rfl); clear hO; intro u hO hSn; replace hS := hS.trans hSn; clear hSn; simp only [List.set_cons_zero, List.set_cons_succ] at hO))
                have hO := own_ready hO
                obtain ⟨r, hr⟩ : ∃ r, x.beh.any (notIn (wnums E.l) (wnums (cur.map (·.1)))) = r := ⟨_, rfl⟩
                have HR := Lib.hid hr
                clear hr
                cases r with
                | true =>
                  obtain ⟨N, hN⟩ : ∃ N, cur.length = N + 1 := ⟨cur.length - 1, by omega⟩
                  have HN := Lib.hid hN
                  have HDR : Hid ((pickW E.l (readyL E.l i)).Sublist ((cur.eraseIdx k).map (·.1))) := by
                    obtain ⟨d', hd1, hd2, hd3⟩ := notIn_true HR.out
                    have h := ready_drop HOK.out.asc HCU.out.1 HCU.out.2.1 (k := k) (x := x) (by rw [List.getElem?_map, HX.out]; rfl) hd1 hd2 hd3
                    show List.Sublist _ _
                    rw [map_erase]
                    exact h
                  have HONE : Hid (∀ x ∈ cur, x.2.oneCell' = true) := Lib.hid fun x hx => by
                    obtain ⟨A3, c3, e3⟩ := HBEH.out x (HCU.out.2.2 x hx)
                    rw [e3]; rfl
                  have hkN : k ≤ N := by omega
                  have HKN := Lib.hid hkN
                  clear hN
                  go_wp2_with (first | (refine own_load1 (b := gx) (off := 4) (cs := (We.cells (x, .slice A2 x.beh.length c2)).toArray) (t := 79) (v := .slice A2 x.beh.length c2) rfl rfl rfl row_zs (own_get 4 hO rfl) rfl ?_) | (go_at_call 38; (with_reducible refine Calls.mono (cf_ready _ _ b6 mw b9 mi fw fi (wnums E.l) (wnums (cur.map (·.1))) (.slice A2 x.beh.length c2) x.beh.length x.beh rfl HR.out hO (fun w' h => rdG_rd (own_at h (k := 9) rfl) HMEM.out) HWN.out HBS.out) ?_); clear hO; rintro e u ⟨rfl, hO, hSn⟩; replace hS := hS.trans hSn; clear hSn) | (go_at_call 82; (with_reducible refine Calls.mono (delete_ex _ _ (.slice (some ad) cur.length sc) cur k N cur.length _ HN.out (own_at hO (k := 5) rfl) rfl HN.out HKN.out (by have := HCL.out; have := HN.out; omega) HONE.out) ?_); clear hO; rintro e1 u ⟨v1, rfl, hO, hSn⟩; replace hS := hS.trans hSn; clear hSn))
                  go_roundg N
                  case measure => have := HN.out; have := HGK.out; omega
                  case rel =>
                    have hle : (cur.eraseIdx k).length = N := by rw [List.length_eraseIdx]; have := HN.out; rw [if_pos (by omega)]; omega
                    refine ⟨cur.eraseIdx k, Lib.hid hle, Lib.hid ⟨?_, HDR.out, fun x hx => HCU.out.2.2 x ((List.eraseIdx_sublist _ _).subset hx)⟩, ?_, hS⟩
                    · exact ((List.eraseIdx_sublist cur k).map (·.1)).trans HCU.out.1
                    · rw [hle]
                      refine own_sub hO ?_
                      exact .cons_cons _ (.cons_cons _ (.cons_cons _ (.cons _ (.cons _ (.cons _ (List.Sublist.refl _))))))
                | false =>
                  go_wp2_with (first | (refine own_load1 (b := gx) (off := 4) (cs := (We.cells (x, .slice A2 x.beh.length c2)).toArray) (t := 79) (v := .slice A2 x.beh.length c2) rfl rfl rfl row_zs (own_get 4 hO rfl) rfl ?_) | (go_at_call 38; (with_reducible refine Calls.mono (cf_ready _ _ b6 mw b9 mi fw fi (wnums E.l) (wnums (cur.map (·.1))) (.slice A2 x.beh.length c2) x.beh.length x.beh rfl HR.out hO (fun w' h => rdG_rd (own_at h (k := 9) rfl) HMEM.out) HWN.out HBS.out) ?_); clear hO; rintro e u ⟨rfl, hO, hSn⟩; replace hS := hS.trans hSn; clear hSn))
                  go_roundg (cur.length - (k + 1))
                  case measure => have := HG4.out; omega
                  case rel =>
                    refine ⟨k + 1, Lib.hid (by omega), by omega, rfl, by go_num, Lib.hid fun y hy => ?_, own_unready hO, hS⟩
                    rw [List.take_add_one, HX.out] at hy
                    rcases List.mem_append.1 hy with hy | hy
                    · exact HNO.out y hy
                    · have hy : y = (x, .slice A2 x.beh.length c2) := by simpa using hy
                      rw [hy]; exact HR.out
              · have hke : k = cur.length := by omega
                subst hke
                rw [List.take_length] at HNO
                have HEND : Hid (cur.map (·.1) = pickW E.l (readyL E.l i)) := by
                  refine ready_last HOK.out.asc HCU.out.1 HCU.out.2.1 (fun y hy d' hd hw => ?_)
                  obtain ⟨z, hz, rfl⟩ := List.mem_map.1 hy
                  exact notIn_false (HNO.out z hz) d' hd hw
                have HEL : Hid (cur.length = (readyL E.l i).length ∧ zs (wnums (cur.map (·.1))) = zs (readyL E.l i)) := by
                  have h := ready_nums HOK.out.asc (i : Int)
                  refine ⟨?_, by rw [HEND.out, h]⟩
                  have h2 := congrArg List.length h
                  rw [← HEND.out] at h2
                  unfold wnums at h2
                  rw [List.length_map, List.length_map] at h2
                  exact h2
                go_wp2
                go_loopw [14, 74] (fun o iv wr => ∃ k : Nat, k ≤ cur.length ∧ iv = .int .i64 k ∧ Own wr (owns 3 1 o k (zs (wnums ((cur.take k).map (·.1)))) :: pts b9 (.cells #[.map (some mi)] 99) :: mapP mi fi :: owns 79 5 (.slice SA cur.length sc) cur.length (cellsW cur) :: pts b6 (.cells #[.map (some mw)] 99) :: mapP mw fw :: eL e d bs (.slice WA we.length wc) fs g E.m E.next L) ∧ Same w wr) (fun _ iv _ => cur.length - (intOf iv).toNat)
                case atStart => exact ⟨0, Nat.zero_le _, rfl, owns_nil hO, hS⟩
                case round =>
                  clear hO hS
                  obtain ⟨k, hk, rfl, hO, hS⟩ := hrel
                  by_cases hlt : k < cur.length
                  · obtain ⟨x0, hx⟩ : ∃ x, cur[k]? = some x := ⟨_, List.getElem?_eq_getElem hlt⟩
                    obtain ⟨x, A2, c2, rfl, _⟩ := HAT.out k x0 hx
                    obtain ⟨ad, rfl, hc⟩ := HCELL.out _ wr k _ (own_at hO (k := 3) rfl) hx
                    have HC := Lib.hid hc
                    have hm1 : (k : Int) < cur.length := by omega
                    have HNX : Hid (zs (wnums ((cur.take (k + 1)).map (·.1))) = zs (wnums ((cur.take k).map (·.1))) ++ [.int .i64 x.n]) := by
                      show _ = _
                      rw [wnums_next hx]
                      simp [zs, encZ]
                    clear hx hc
                    go_upto_region 28 with (first | (refine own_loadrow_at (ad := ad.add (k * 5)) (vs := (We.cells (x, .slice A2 x.beh.length c2))) rfl rfl rfl row_ent sz_ent rfl HC.out ?_) | (refine own_alloc (T := 79) rfl rfl zero_ent rfl hO ?_; clear hO; intro gx u hO hSn; replace hS := hS.trans hSn; clear hSn) | (apply own_store_all (k := 0) rfl rfl rfl rfl sz_ent hO rfl; (focus rfl); (focus rfl); (focus rfl); clear hO; intro u hO hSn; replace hS := hS.trans hSn; clear hSn; simp only [List.set_cons_zero, List.set_cons_succ] at hO))
                    have hO := own_swap hO
                    go_wp2_with (first | (refine own_load1 (b := gx) (off := 0) (cs := (We.cells (x, .slice A2 x.beh.length c2)).toArray) (t := 79) (v := .int .i64 x.n) rfl rfl rfl row_int (own_get 1 hO rfl) rfl ?_) | (refine own_append (m := 1) (n := k) (xs := (zs (wnums ((cur.take k).map (·.1))))) (news := [.int .i64 x.n]) rfl rfl rfl rfl Try.underlying34 info_z3 rfl (by decide) (own_perm (own_alloc_new hO (.cells #[.int .i64 x.n] 3)) (List.Perm.swap _ _ _)) ?_ (by intro u hu; rw [List.mem_singleton.1 hu]; rfl) ?_ ?_ ?_; (exact rd_block (own_get 1 (own_perm (own_alloc_new hO (.cells #[.int .i64 x.n] 3)) (List.Perm.swap _ _ _)) rfl) rfl (by simp) (by simp) (by simp)); (have := HCL.out; unfold maxLen; omega); (have := HCL.out; omega); clear hO; intro v' w9 hO hS9 hv'))
                    go_roundw
                    case rel => exact ⟨k + 1, by omega, by go_num, by rw [HNX.out]; exact own_skip (own_skip hO), hS.trans ((Same.alloc _ _).trans hS9)⟩
                    case measure => simp [intOf]; omega
                  · have hke : k = cur.length := by omega
                    subst hke
                    rw [List.take_length, HEL.out.2, HEL.out.1] at hO
                    go_wp2
                    try rw [Exit.noGoto_ret]
                    go_ret
                    refine ⟨_, rfl, ?_, hS⟩
                    refine own_perm (eng_open.2 ⟨d, .slice WA we.length wc, bs, fs, we, g, HK.out, own_under (own_sub hO ?_)⟩) (List.Perm.swap _ _ _)
                    exact .cons_cons _ (.cons _ (.cons _ (.cons _ (.cons _ (.cons _ (List.Sublist.refl _))))))
end
end Go.Proofs.Ytonohjhmnlfakaa.H
