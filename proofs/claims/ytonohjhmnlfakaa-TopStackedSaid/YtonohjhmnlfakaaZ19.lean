/- bytes of the program's engine, by the closures of Block and of Write. -/
import Derived.Test.YtonohjhmnlfakaaZ18
set_option linter.unusedVariables false
set_option linter.unusedSimpArgs false
set_option maxRecDepth 100000
namespace Go.Proofs.Ytonohjhmnlfakaa.H
open Go.RowKit
/-- What is applied to a block by bytes, of some that wait. -/
abbrev bsel (i : Nat) (f : Wt → Bool) (we : List We) : List Pat := ((we.map (·.1)).filter fun x => decide (x.p.blk = (i : Int)) && f x).map (·.p)
theorem bsel_next (i : Nat) (f : Wt → Bool) {we : List We} {k : Nat} {x : We} (hx : we[k]? = some x) : bsel i f (we.take (k + 1)) = bsel i f (we.take k) ++ (if decide (x.1.p.blk = (i : Int)) && f x.1 then [x.1.p] else []) := by
  unfold bsel
  rw [List.take_add_one, hx, List.map_append, List.filter_append, List.map_append]
  congr 1
  cases h : (decide (x.1.p.blk = (i : Int)) && f x.1) <;> simp [h]
theorem bsel_right {E : Eng} (hk : E.Ok) {we : List We} (h : we.map (·.1) = E.l) (i k : Nat) (f : Wt → Bool) : ∀ p ∈ bsel i f (we.take k), rightB p = true := fun p hp => by
  obtain ⟨x, hx, rfl⟩ := List.mem_map.1 hp
  have h1 := List.filter_sublist.subset hx
  rw [List.map_take] at h1
  exact (hk.right x (by rw [← h]; exact List.mem_of_mem_take h1)).1
/-- All sectors of a disk have 32 bytes. -/
theorem disk_s32 {w : World} {L : List HP} {d : Nat} {m : List Blk} (hO : Own w (diskP d m :: L)) : ∀ b ∈ m, b.s.length = 32 ∧ ∀ s ∈ b.vs, s.length = 32 := by
  obtain ⟨lv, bv, bb, fv, fb, l, hk, _⟩ := disk_open.1 hO
  exact fun b hb => ⟨hk.s32 b hb, hk.v32 b hb⟩
theorem own_pull2 {w : World} {A B : HP} {M L : List HP} : Own w (M ++ (A :: B :: L)) ↔ Own w (A :: B :: (M ++ L)) :=
  ⟨fun h => own_perm h (List.perm_append_comm_assoc M [A, B] L), fun h => own_perm h (List.perm_append_comm_assoc M [A, B] L).symm⟩
theorem block1_c (w : World) (L : List HP) (x : Wt) (A2 : Option Addr) (c2 : Nat) (hO : Own w L) : Calls Try.prog 63 #[.agg #[.int .i64 x.n, .int .i64 x.p.blk, .int .i64 x.p.off, .string x.p.dat, .slice A2 x.beh.length c2]] w (Ret w (.bool true) L) := by
  have hS := Same.refl w
  go_enter Try.func63, Try.ntmps63
  go_wp2_with (first | (refine own_box_agg (x := .tmp 0) rfl rfl rfl hO ?_; clear hO; intro b u hO hSn; replace hS := hS.trans hSn; clear hSn))
  go_ret
  exact ⟨rfl, own_drop hO, hS⟩
theorem write1_c (w : World) (L : List HP) (b : Nat) (sv : Value) (n : Nat) (l : List Int) (x : Wt) (A2 : Option Addr) (c2 : Nat) {r : Bool} (hr : l.contains (x.n : Int) = r) (hn : n = l.length) (hO : Own w (pts b (.cells #[sv] 34) :: owns 3 1 sv n (zs l) :: L)) :
    Calls Try.prog 54 #[.agg #[.int .i64 x.n, .int .i64 x.p.blk, .int .i64 x.p.off, .string x.p.dat, .slice A2 x.beh.length c2], .pointer (some ⟨b, 0, none⟩)] w (Ret w (.bool r) (pts b (.cells #[sv] 34) :: owns 3 1 sv n (zs l) :: L)) := by
  have HR := Lib.hid hr
  have HN := Lib.hid hn
  have hS := Same.refl w
  clear hr hn
  go_enter Try.func54, Try.ntmps54
  go_upto_region 1 with (first | (refine own_box_agg (x := .tmp 0) (cs := (We.cells (x, .slice A2 x.beh.length c2)).toArray) rfl rfl rfl hO ?_; clear hO; intro gx u hO hSn; replace hS := hS.trans hSn; clear hSn))
  go_wp2_with (first | (refine own_load1 (b := b) (off := 0) (cs := #[sv]) (t := 34) (v := sv) rfl rfl rfl row_zs (own_get 1 hO rfl) rfl ?_) | (refine own_load1 (b := gx) (off := 0) (cs := (We.cells (x, .slice A2 x.beh.length c2)).toArray) (t := 79) (v := .int .i64 x.n) rfl rfl rfl row_int (own_get 0 hO rfl) rfl ?_) | (go_at_call 55; (with_reducible refine Calls.mono (contains_i _ _ sv n l (x.n : Int) HN.out HR.out hO (fun w' h => owns_rd (own_at h (k := 2) rfl))) ?_); clear hO; rintro e u ⟨rfl, hO, hSn⟩; replace hS := hS.trans hSn; clear hSn))
  go_ret
  exact ⟨rfl, own_drop hO, hS⟩
theorem write1_m (w : World) (B1 B2 B3 B4 B5 B6 B7 : HP) (L : List HP) (b : Nat) (sv : Value) (n : Nat) (l : List Int) (x : Wt) (A2 : Option Addr) (c2 : Nat) {r : Bool} (hr : l.contains (x.n : Int) = r) (hn : n = l.length) (hO : Own w (B1 :: B2 :: B3 :: B4 :: B5 :: B6 :: B7 :: pts b (.cells #[sv] 34) :: owns 3 1 sv n (zs l) :: L)) :
    Calls Try.prog 54 #[.agg #[.int .i64 x.n, .int .i64 x.p.blk, .int .i64 x.p.off, .string x.p.dat, .slice A2 x.beh.length c2], .pointer (some ⟨b, 0, none⟩)] w (Ret w (.bool r) (B1 :: B2 :: B3 :: B4 :: B5 :: B6 :: B7 :: pts b (.cells #[sv] 34) :: owns 3 1 sv n (zs l) :: L)) :=
  (write1_c w _ b sv n l x A2 c2 hr hn ((own_pull2 (M := [B1, B2, B3, B4, B5, B6, B7])).1 hO)).mono fun e u ⟨h1, h2, h3⟩ => ⟨h1, (own_pull2 (M := [B1, B2, B3, B4, B5, B6, B7])).2 h2, h3⟩
set_option maxHeartbeats 3200000 in
theorem ebytes_all (w : World) (L : List HP) (e : Nat) (E : Eng) (i : Nat) (b : Blk)  (hk : E.Ok) (hb : E.m[i]? = some b)  (hO : Own w (engP e E :: L)) :
    Calls Try.prog 53 #[.pointer (some ⟨e, 0, none⟩), .int .i64 i, .func (.func 63) #[] #[]] w (Ret w (secV (E.bytes i b (fun _ => true))) (engP e E :: L)) := by
  have HB := Lib.hid hb
  have HOK := Lib.hid hk
  have hS := Same.refl w
  obtain ⟨d, wv, bs, fs, we, g, ⟨h1, h2, h3⟩, hO⟩ := eng_open.1 hO
  have HK := Lib.hid (And.intro h1 (And.intro h2 h3))
  obtain ⟨WA, wc, rfl, hm⟩ := h2.rd
  have hmx := (rdG_rd (own_at hO (k := 3) rfl) hm).max
  have HW := Lib.hid h2
  have h32 : Hid (b.s.length = 32) := (disk_s32 (own_at hO (k := 1) rfl) b (List.mem_of_getElem? hb)).1
  have HRI : Hid (∀ k, ∀ p ∈ bsel i (fun _ => true) (we.take k), rightB p = true) := Lib.hid fun k => bsel_right hk h1 i k _
  have HBEH : Hid (∀ x ∈ we, ∃ A2 c2, x.2 = .slice A2 x.1.beh.length c2) := Lib.hid fun x hx => by obtain ⟨A2, c2, e2, _⟩ := h2.beh x hx; exact ⟨A2, c2, e2⟩
  have HRX : Hid (∀ x ∈ we, rightB x.1.p = true) := Lib.hid fun x hx => (hk.right x.1 (by rw [← h1]; exact List.mem_map_of_mem hx)).1
  clear h1 h2 h3 hm hk hb
  have hO : Own w (eL e d bs (.slice WA we.length wc) fs g E.m E.next (L)) := hO
  go_enter Try.func53, Try.ntmps53
  go_upto_region 1 with (first | (refine own_alloc (T := 47) (cs := (bcs sec0).toArray) rfl rfl zero_sec rfl hO ?_; clear hO; intro g6 u hO hSn; replace hS := hS.trans hSn; clear hSn))
  go_upto_region 2 with (first | (apply own_load1 rfl rfl rfl; (first | exact row_dptr | exact row_ents | exact row_mint | exact row_mb); (first | exact own_get 0 hO rfl | exact own_get 1 hO rfl | exact own_get 2 hO rfl | exact own_get 3 hO rfl | exact own_get 4 hO rfl | exact own_get 5 hO rfl | exact own_get 6 hO rfl | exact own_get 7 hO rfl); (first | (simp only [List.getElem?_toArray, List.getElem?_cons_succ, List.getElem?_cons_zero]; rfl) | rfl)) | (go_at_call 20; (with_reducible refine Calls.mono (call_at 2 (fun L' h => lasting_ok _ L' d E.m i b h HB.out) rfl hO) ?_); clear hO; rintro e u ⟨rfl, hO, hSn⟩; replace hS := hS.trans hSn; clear hSn; simp only [List.set_cons_zero, List.set_cons_succ] at hO) | (refine own_alloc (T := 47) (cs := (bcs sec0).toArray) rfl rfl zero_sec rfl hO ?_; clear hO; intro gs u hO hSn; replace hS := hS.trans hSn; clear hSn) | (refine own_store_all (k := 0) rfl rfl rfl rfl sz_sec hO rfl (secA_size h32.out) (by rfl) (bcs_all _) ?_; clear hO; intro u hO hSn; replace hS := hS.trans hSn; clear hSn; simp only [List.set_cons_zero, List.set_cons_succ] at hO))
  go_wp2_with (first | (apply own_load1 rfl rfl rfl; (first | exact row_dptr | exact row_ents | exact row_mint | exact row_mb); (first | exact own_get 0 hO rfl | exact own_get 1 hO rfl | exact own_get 2 hO rfl | exact own_get 3 hO rfl | exact own_get 4 hO rfl | exact own_get 5 hO rfl | exact own_get 6 hO rfl | exact own_get 7 hO rfl); (first | (simp only [List.getElem?_toArray, List.getElem?_cons_succ, List.getElem?_cons_zero]; rfl) | rfl)))
  go_loopw [26] (fun iv wr => ∃ k : Nat, k ≤ we.length ∧ iv = .int .i64 k ∧ Own wr (pts gs (.cells (bcs (appAll b.s (bsel i (fun _ => true) (we.take k)))).toArray 47) :: pts g6 (.cells (bcs sec0).toArray 47) :: eL e d bs (.slice WA we.length wc) fs g E.m E.next (L)) ∧ Same w wr) (fun iv _ => we.length - (intOf iv).toNat)
  case atStart => exact ⟨0, Nat.zero_le _, rfl, hO, hS⟩
  case round =>
    clear hO hS
    obtain ⟨k, hk, rfl, hO, hS⟩ := hrel
    by_cases hlt : k < we.length
    · obtain ⟨⟨x, xv⟩, hx⟩ : ∃ x, we[k]? = some x := ⟨_, List.getElem?_eq_getElem hlt⟩
      obtain ⟨A2, c2, e2⟩ := HBEH.out _ (List.mem_of_getElem? hx)
      have e2 : xv = .slice A2 x.beh.length c2 := e2
      subst e2
      obtain ⟨ad, c', e1, hc⟩ := wat HW.out hx (own_at hO (k := 5) rfl)
      obtain ⟨rfl, rfl⟩ : WA = some ad ∧ wc = c' := by injection e1 with a1 _ a3; exact ⟨a1, a3⟩
      have HC := Lib.hid (hc _ wr (own_at hO (k := 5) rfl))
      have hm1 : (k : Int) < we.length := by omega
      have HFX := Lib.hid (bsel_next i (fun _ => true) hx)
      have hrx : rightB x.p = true := HRX.out _ (List.mem_of_getElem? hx)
      have HRR := Lib.hid hrx
      have HLN : Hid ((appAll b.s (bsel i (fun _ => true) (we.take k))).length = 32) := appAll_length _ _ h32.out (HRI.out k)
      obtain ⟨cur, hcur⟩ : ∃ cur, cur = appAll b.s (bsel i (fun _ => true) (we.take k)) := ⟨_, rfl⟩
      rw [← hcur] at hO HLN
      have HCUR := Lib.hid hcur
      clear hx hc e1 hrx hcur
      go_upto_region 5 with (first | (refine own_loadrow_at (ad := ad.add (k * 5)) (vs := (We.cells (x, .slice A2 x.beh.length c2))) rfl rfl rfl row_ent sz_ent rfl HC.out ?_) | (refine own_alloc (T := 79) rfl rfl zero_ent rfl hO ?_; clear hO; intro gx u hO hSn; replace hS := hS.trans hSn; clear hSn) | (apply own_store_all (k := 0) rfl rfl rfl rfl sz_ent hO rfl; (focus rfl); (focus rfl); (focus rfl); clear hO; intro u hO hSn; replace hS := hS.trans hSn; clear hSn; simp only [List.set_cons_zero, List.set_cons_succ] at hO))
      by_cases hb2 : x.p.blk = (i : Int)
      · have hbe : (x.p.blk == (i : Int)) = true := by simp [hb2]
        have HYB : Hid ((decide (x.p.blk = (i : Int)) && true) = true) := Lib.hid (by simp [hb2])
        clear hb2
        obtain ⟨p1, p2, p3, p4, p5, p6⟩ := rightB_iff.1 HRR.out
        obtain ⟨o, ho⟩ : ∃ o, o = x.p.off := ⟨_, rfl⟩
        have l0 : 0 ≤ o := by omega
        have l1 : o ≤ 32 := by omega
        have l3 : Hid (¬ (32 = o.toNat)) := by show ¬ _; omega
        have HO : Hid (x.p.off.toNat = o.toNat ∧ o.toNat + x.p.dat.size ≤ 32 ∧ x.p.dat.size ≤ 32 - o.toNat) := by show _ ∧ _; rw [← ho]; omega
        have HXO : Hid ((We.cells (x, .slice A2 x.beh.length c2)).toArray[2]? = some (.int .i64 o)) := by show _ = _; rw [ho]; rfl
        clear p1 p2 p3 p4 p5 p6 ho
        go_upto_region 6 with (first | (refine own_load1 (b := gx) (off := 1) (cs := (We.cells (x, .slice A2 x.beh.length c2)).toArray) (t := 79) (v := .int .i64 x.p.blk) rfl rfl rfl row_int (own_get 0 hO rfl) rfl ?_) | (refine own_loadrow (b := gx) (off := 0) (cs := (We.cells (x, .slice A2 x.beh.length c2)).toArray) (t := 79) (vs := [.int .i64 x.n, .int .i64 x.p.blk, .int .i64 x.p.off, .string x.p.dat, .slice A2 x.beh.length c2]) rfl rfl rfl row_ent sz_ent (own_get 0 hO rfl) (by show 5 ≤ 5; decide) rfl ?_) | (go_at_call 63; (with_reducible refine Calls.mono (block1_c _ _ x A2 c2 hO) ?_); clear hO; rintro e u ⟨rfl, hO, hSn⟩; replace hS := hS.trans hSn; clear hSn))
        have l4 := l3.out
        refine wp_region_seq (Cls _ (pts gx (.cells (We.cells (x, .slice A2 x.beh.length c2)).toArray 79) :: pts gs (.cells (bcs cur).toArray 47) :: pts g6 (.cells (bcs sec0).toArray 47) :: eL e d bs (.slice (some ad) we.length wc) fs g E.m E.next (L))) 7 50 mixed (by kernel_rfl) rfl (cls_drew hO) ?_
        simp only [List.append_eq, List.cons_append, List.nil_append, List.take_succ_cons, List.take_zero]
        repeat (first
          | (apply wv_skip rfl; simp only [Act.put, List.setIfInBounds_toArray, List.set_cons_zero, List.set_cons_succ])
          | (refine wv_load1 (b := gx) (off := 2) (cs := (We.cells (x, .slice A2 x.beh.length c2)).toArray) (t := 79) (v := .int .i64 o) rfl rfl rfl row_int (fun w h => own_get 0 h.1 rfl) HXO.out ?_; simp only [Act.put, List.setIfInBounds_toArray, List.set_cons_zero, List.set_cons_succ])
          | (refine wv_load1 (b := gx) (off := 3) (cs := (We.cells (x, .slice A2 x.beh.length c2)).toArray) (t := 79) (v := .string x.p.dat) rfl rfl rfl row_str (fun w h => own_get 0 h.1 rfl) rfl ?_; simp only [Act.put, List.setIfInBounds_toArray, List.set_cons_zero, List.set_cons_succ])
          | (apply wv_load1 rfl rfl rfl; (first | exact row_int | exact row_str | exact row_bool | exact row_u8 | exact row_bys | exact row_pats | exact row_err); (intro w h; (first | exact own_get 0 h.1 rfl | exact own_get 1 h.1 rfl | exact own_get 2 h.1 rfl | exact own_get 3 h.1 rfl | exact own_get 4 h.1 rfl | exact own_get 5 h.1 rfl | exact own_get 6 h.1 rfl | exact own_get 7 h.1 rfl)); (first | (simp only [List.getElem?_toArray, List.getElem?_cons_succ, List.getElem?_cons_zero]; rfl) | rfl); simp only [Act.put, List.setIfInBounds_toArray, List.set_cons_zero, List.set_cons_succ])
          | (apply wv_loadrow rfl rfl rfl; (first | exact row_pat); exact sz_pat; (intro w h; (first | exact own_get 0 h.1 rfl | exact own_get 1 h.1 rfl | exact own_get 2 h.1 rfl | exact own_get 3 h.1 rfl | exact own_get 4 h.1 rfl | exact own_get 5 h.1 rfl | exact own_get 6 h.1 rfl | exact own_get 7 h.1 rfl)); (focus (simp; done)); (first | (simp only [List.drop_zero, List.drop_succ_cons, List.take_succ_cons, List.take_zero]; rfl) | rfl); simp only [Act.put, List.setIfInBounds_toArray, List.set_cons_zero, List.set_cons_succ])
          | (apply wv_run rfl; (focus (intro w h; go_simp; first | done | rfl)); simp only [Act.put, List.setIfInBounds_toArray, List.set_cons_zero, List.set_cons_succ])
          | (apply wv_call rfl; (focus (intro w; go_simp; first | done | exact ⟨rfl, rfl⟩)); (focus (intro w h; apply cls_call h; fail)); simp only [Act.put, List.setIfInBounds_toArray, List.set_cons_zero, List.set_cons_succ]))
        refine wv_nil ?_
        simp only [List.drop_succ_cons, List.drop_zero]
        intro w5 ⟨hO5, hS5⟩
        clear hO l4
        refine own_copy_str (new := bcs (over cur o.toNat x.p.dat.data.toList)) (k := 1) (g := gs) (off := o.toNat) (cur := (bcs cur).toArray) (t := 47) rfl rfl rfl rfl Try.underlying22 sz_u8 hO5 rfl HO.out.2.2 ?_ (bcs_over _ _ _ (by rw [Array.length_toList]; rfl)) ?_
        · rw [List.size_toArray, bcs_length, HLN.out]; have := HO.out; omega
        intro w6 hO hS6
        clear hO5
        simp only [List.set_cons_zero, List.set_cons_succ] at hO
        go_wp2
        go_roundw
        case rel =>
          refine ⟨k + 1, by omega, by go_num, ?_, hS.trans (hS5.trans hS6)⟩
          rw [HFX.out, if_pos HYB.out, appAll_snoc, ← HCUR.out]
          have e : app cur x.p = over cur o.toNat x.p.dat.data.toList := by rw [← HO.out.1]; rfl
          rw [e]
          exact own_drop hO
        case measure => simp [intOf]; omega
      · have hbe : (x.p.blk == (i : Int)) = false := by simp [hb2]
        have HNB : Hid ((decide (x.p.blk = (i : Int)) && true) = false) := Lib.hid (by simp [hb2])
        clear hb2
        go_wp2_with (first | (refine own_load1 (b := gx) (off := 1) (cs := (We.cells (x, .slice A2 x.beh.length c2)).toArray) (t := 79) (v := .int .i64 x.p.blk) rfl rfl rfl row_int (own_get 0 hO rfl) rfl ?_) | (refine own_loadrow (b := gx) (off := 0) (cs := (We.cells (x, .slice A2 x.beh.length c2)).toArray) (t := 79) (vs := [.int .i64 x.n, .int .i64 x.p.blk, .int .i64 x.p.off, .string x.p.dat, .slice A2 x.beh.length c2]) rfl rfl rfl row_ent sz_ent (own_get 0 hO rfl) (by show 5 ≤ 5; decide) rfl ?_) | fail)
        go_roundw
        case rel =>
          refine ⟨k + 1, by omega, by go_num, ?_, hS⟩
          rw [HFX.out, if_neg (ne_true_of_eq_false HNB.out), List.append_nil, ← HCUR.out]
          exact own_drop hO
        case measure => simp [intOf]; omega
    · have hke : k = we.length := by omega
      subst hke
      rw [List.take_length] at hO
      obtain ⟨R, hR⟩ : ∃ R, R = E.bytes i b (fun _ => true) := ⟨_, rfl⟩
      have HR := Lib.hid hR
      have HEQ : Hid (appAll b.s (bsel i (fun _ => true) we) = R) := by show _ = _; rw [hR]; unfold Eng.bytes; rw [← HK.out.1]
      clear hR
      have HL2 : Hid (R.length = 32) := by
        have := appAll_length (bsel i (fun _ => true) we) b.s h32.out (by have := HRI.out we.length; rwa [List.take_length] at this)
        rw [HEQ.out] at this
        exact this
      rw [HEQ.out] at hO
      go_wp2_with (first | (refine own_loadrow (b := gs) (off := 0) (cs := (bcs R).toArray) (t := 47) (vs := bcs R) rfl rfl rfl row_sec sz_sec (own_get 0 hO rfl) (by simp [bcs_length, HL2.out]) (by rw [List.drop_zero]; exact List.take_of_length_le (by simp [bcs_length, HL2.out])) ?_) | (refine own_store_all (k := 1) rfl rfl rfl rfl sz_sec hO rfl (secA_size HL2.out) (by rfl) (bcs_all _) ?_; clear hO; intro u hO hSn; replace hS := hS.trans hSn; clear hSn; simp only [List.set_cons_zero, List.set_cons_succ] at hO))
      refine bodyPost_ret (results_cell rfl rfl (own_get 1 hO rfl) row_sec (info_sec HL2.out)) rfl ⟨by rw [← HR.out], ?_, hS⟩
      exact eng_open.2 ⟨_, _, _, _, _, _, HK.out, own_drop (own_drop hO)⟩
set_option maxHeartbeats 3200000 in
theorem ebytes_in (w : World) (L : List HP) (e : Nat) (E : Eng) (i : Nat) (b : Blk) (bset : Nat) (sv : Value) (n : Nat) (l : List Int) (hk : E.Ok) (hb : E.m[i]? = some b) (hn : n = l.length) (hO : Own w (engP e E :: pts bset (.cells #[sv] 34) :: owns 3 1 sv n (zs l) :: L)) :
    Calls Try.prog 53 #[.pointer (some ⟨e, 0, none⟩), .int .i64 i, .func (.func 54) #[] #[.pointer (some ⟨bset, 0, none⟩)]] w (Ret w (secV (E.bytes i b (fun x => l.contains (x.n : Int)))) (engP e E :: pts bset (.cells #[sv] 34) :: owns 3 1 sv n (zs l) :: L)) := by
  have HB := Lib.hid hb
  have HOK := Lib.hid hk
  have hS := Same.refl w
  obtain ⟨d, wv, bs, fs, we, g, ⟨h1, h2, h3⟩, hO⟩ := eng_open.1 hO
  have HK := Lib.hid (And.intro h1 (And.intro h2 h3))
  obtain ⟨WA, wc, rfl, hm⟩ := h2.rd
  have hmx := (rdG_rd (own_at hO (k := 3) rfl) hm).max
  have HW := Lib.hid h2
  have h32 : Hid (b.s.length = 32) := (disk_s32 (own_at hO (k := 1) rfl) b (List.mem_of_getElem? hb)).1
  have HRI : Hid (∀ k, ∀ p ∈ bsel i (fun x => l.contains (x.n : Int)) (we.take k), rightB p = true) := Lib.hid fun k => bsel_right hk h1 i k _
  have HBEH : Hid (∀ x ∈ we, ∃ A2 c2, x.2 = .slice A2 x.1.beh.length c2) := Lib.hid fun x hx => by obtain ⟨A2, c2, e2, _⟩ := h2.beh x hx; exact ⟨A2, c2, e2⟩
  have HRX : Hid (∀ x ∈ we, rightB x.1.p = true) := Lib.hid fun x hx => (hk.right x.1 (by rw [← h1]; exact List.mem_map_of_mem hx)).1
  clear h1 h2 h3 hm hk hb
  have hO : Own w (eL e d bs (.slice WA we.length wc) fs g E.m E.next (pts bset (.cells #[sv] 34) :: owns 3 1 sv n (zs l) :: L)) := hO
  go_enter Try.func53, Try.ntmps53
  go_upto_region 1 with (first | (refine own_alloc (T := 47) (cs := (bcs sec0).toArray) rfl rfl zero_sec rfl hO ?_; clear hO; intro g6 u hO hSn; replace hS := hS.trans hSn; clear hSn))
  go_upto_region 2 with (first | (apply own_load1 rfl rfl rfl; (first | exact row_dptr | exact row_ents | exact row_mint | exact row_mb); (first | exact own_get 0 hO rfl | exact own_get 1 hO rfl | exact own_get 2 hO rfl | exact own_get 3 hO rfl | exact own_get 4 hO rfl | exact own_get 5 hO rfl | exact own_get 6 hO rfl | exact own_get 7 hO rfl); (first | (simp only [List.getElem?_toArray, List.getElem?_cons_succ, List.getElem?_cons_zero]; rfl) | rfl)) | (go_at_call 20; (with_reducible refine Calls.mono (call_at 2 (fun L' h => lasting_ok _ L' d E.m i b h HB.out) rfl hO) ?_); clear hO; rintro e u ⟨rfl, hO, hSn⟩; replace hS := hS.trans hSn; clear hSn; simp only [List.set_cons_zero, List.set_cons_succ] at hO) | (refine own_alloc (T := 47) (cs := (bcs sec0).toArray) rfl rfl zero_sec rfl hO ?_; clear hO; intro gs u hO hSn; replace hS := hS.trans hSn; clear hSn) | (refine own_store_all (k := 0) rfl rfl rfl rfl sz_sec hO rfl (secA_size h32.out) (by rfl) (bcs_all _) ?_; clear hO; intro u hO hSn; replace hS := hS.trans hSn; clear hSn; simp only [List.set_cons_zero, List.set_cons_succ] at hO))
  go_wp2_with (first | (apply own_load1 rfl rfl rfl; (first | exact row_dptr | exact row_ents | exact row_mint | exact row_mb); (first | exact own_get 0 hO rfl | exact own_get 1 hO rfl | exact own_get 2 hO rfl | exact own_get 3 hO rfl | exact own_get 4 hO rfl | exact own_get 5 hO rfl | exact own_get 6 hO rfl | exact own_get 7 hO rfl); (first | (simp only [List.getElem?_toArray, List.getElem?_cons_succ, List.getElem?_cons_zero]; rfl) | rfl)))
  go_loopw [26] (fun iv wr => ∃ k : Nat, k ≤ we.length ∧ iv = .int .i64 k ∧ Own wr (pts gs (.cells (bcs (appAll b.s (bsel i (fun x => l.contains (x.n : Int)) (we.take k)))).toArray 47) :: pts g6 (.cells (bcs sec0).toArray 47) :: eL e d bs (.slice WA we.length wc) fs g E.m E.next (pts bset (.cells #[sv] 34) :: owns 3 1 sv n (zs l) :: L)) ∧ Same w wr) (fun iv _ => we.length - (intOf iv).toNat)
  case atStart => exact ⟨0, Nat.zero_le _, rfl, hO, hS⟩
  case round =>
    clear hO hS
    obtain ⟨k, hk, rfl, hO, hS⟩ := hrel
    by_cases hlt : k < we.length
    · obtain ⟨⟨x, xv⟩, hx⟩ : ∃ x, we[k]? = some x := ⟨_, List.getElem?_eq_getElem hlt⟩
      obtain ⟨A2, c2, e2⟩ := HBEH.out _ (List.mem_of_getElem? hx)
      have e2 : xv = .slice A2 x.beh.length c2 := e2
      subst e2
      obtain ⟨ad, c', e1, hc⟩ := wat HW.out hx (own_at hO (k := 5) rfl)
      obtain ⟨rfl, rfl⟩ : WA = some ad ∧ wc = c' := by injection e1 with a1 _ a3; exact ⟨a1, a3⟩
      have HC := Lib.hid (hc _ wr (own_at hO (k := 5) rfl))
      have hm1 : (k : Int) < we.length := by omega
      have HFX := Lib.hid (bsel_next i (fun x => l.contains (x.n : Int)) hx)
      have hrx : rightB x.p = true := HRX.out _ (List.mem_of_getElem? hx)
      have HRR := Lib.hid hrx
      have HLN : Hid ((appAll b.s (bsel i (fun x => l.contains (x.n : Int)) (we.take k))).length = 32) := appAll_length _ _ h32.out (HRI.out k)
      obtain ⟨cur, hcur⟩ : ∃ cur, cur = appAll b.s (bsel i (fun x => l.contains (x.n : Int)) (we.take k)) := ⟨_, rfl⟩
      rw [← hcur] at hO HLN
      have HCUR := Lib.hid hcur
      clear hx hc e1 hrx hcur
      go_upto_region 5 with (first | (refine own_loadrow_at (ad := ad.add (k * 5)) (vs := (We.cells (x, .slice A2 x.beh.length c2))) rfl rfl rfl row_ent sz_ent rfl HC.out ?_) | (refine own_alloc (T := 79) rfl rfl zero_ent rfl hO ?_; clear hO; intro gx u hO hSn; replace hS := hS.trans hSn; clear hSn) | (apply own_store_all (k := 0) rfl rfl rfl rfl sz_ent hO rfl; (focus rfl); (focus rfl); (focus rfl); clear hO; intro u hO hSn; replace hS := hS.trans hSn; clear hSn; simp only [List.set_cons_zero, List.set_cons_succ] at hO))
      have HN := Lib.hid hn
      clear hn
      by_cases hb2 : x.p.blk = (i : Int)
      · have hbe : (x.p.blk == (i : Int)) = true := by simp [hb2]
        obtain ⟨r, hr⟩ : ∃ r, l.contains (x.n : Int) = r := ⟨_, rfl⟩
        have HCO := Lib.hid hr
        cases r with
        | true =>
          have HYB : Hid ((decide (x.p.blk = (i : Int)) && l.contains (x.n : Int)) = true) := Lib.hid (by rw [hr]; simp [hb2])
          clear hb2 hr
          obtain ⟨p1, p2, p3, p4, p5, p6⟩ := rightB_iff.1 HRR.out
          obtain ⟨o, ho⟩ : ∃ o, o = x.p.off := ⟨_, rfl⟩
          have l0 : 0 ≤ o := by omega
          have l1 : o ≤ 32 := by omega
          have l3 : Hid (¬ (32 = o.toNat)) := by show ¬ _; omega
          have HO : Hid (x.p.off.toNat = o.toNat ∧ o.toNat + x.p.dat.size ≤ 32 ∧ x.p.dat.size ≤ 32 - o.toNat) := by show _ ∧ _; rw [← ho]; omega
          have HXO : Hid ((We.cells (x, .slice A2 x.beh.length c2)).toArray[2]? = some (.int .i64 o)) := by show _ = _; rw [ho]; rfl
          clear p1 p2 p3 p4 p5 p6 ho
          go_upto_region 6 with (first | (refine own_load1 (b := gx) (off := 1) (cs := (We.cells (x, .slice A2 x.beh.length c2)).toArray) (t := 79) (v := .int .i64 x.p.blk) rfl rfl rfl row_int (own_get 0 hO rfl) rfl ?_) | (refine own_loadrow (b := gx) (off := 0) (cs := (We.cells (x, .slice A2 x.beh.length c2)).toArray) (t := 79) (vs := [.int .i64 x.n, .int .i64 x.p.blk, .int .i64 x.p.off, .string x.p.dat, .slice A2 x.beh.length c2]) rfl rfl rfl row_ent sz_ent (own_get 0 hO rfl) (by show 5 ≤ 5; decide) rfl ?_) | (go_at_call 54; (with_reducible refine Calls.mono (write1_m _ _ _ _ _ _ _ _ _ bset sv n l x A2 c2 (r := true) HCO.out HN.out hO) ?_); clear hO; rintro e u ⟨rfl, hO, hSn⟩; replace hS := hS.trans hSn; clear hSn))
          have l4 := l3.out
          refine wp_region_seq (Cls _ (pts gx (.cells (We.cells (x, .slice A2 x.beh.length c2)).toArray 79) :: pts gs (.cells (bcs cur).toArray 47) :: pts g6 (.cells (bcs sec0).toArray 47) :: eL e d bs (.slice (some ad) we.length wc) fs g E.m E.next (pts bset (.cells #[sv] 34) :: owns 3 1 sv n (zs l) :: L))) 7 50 mixed (by kernel_rfl) rfl (cls_drew hO) ?_
          simp only [List.append_eq, List.cons_append, List.nil_append, List.take_succ_cons, List.take_zero]
          repeat (first
            | (apply wv_skip rfl; simp only [Act.put, List.setIfInBounds_toArray, List.set_cons_zero, List.set_cons_succ])
            | (refine wv_load1 (b := gx) (off := 2) (cs := (We.cells (x, .slice A2 x.beh.length c2)).toArray) (t := 79) (v := .int .i64 o) rfl rfl rfl row_int (fun w h => own_get 0 h.1 rfl) HXO.out ?_; simp only [Act.put, List.setIfInBounds_toArray, List.set_cons_zero, List.set_cons_succ])
            | (refine wv_load1 (b := gx) (off := 3) (cs := (We.cells (x, .slice A2 x.beh.length c2)).toArray) (t := 79) (v := .string x.p.dat) rfl rfl rfl row_str (fun w h => own_get 0 h.1 rfl) rfl ?_; simp only [Act.put, List.setIfInBounds_toArray, List.set_cons_zero, List.set_cons_succ])
            | (apply wv_load1 rfl rfl rfl; (first | exact row_int | exact row_str | exact row_bool | exact row_u8 | exact row_bys | exact row_pats | exact row_err); (intro w h; (first | exact own_get 0 h.1 rfl | exact own_get 1 h.1 rfl | exact own_get 2 h.1 rfl | exact own_get 3 h.1 rfl | exact own_get 4 h.1 rfl | exact own_get 5 h.1 rfl | exact own_get 6 h.1 rfl | exact own_get 7 h.1 rfl)); (first | (simp only [List.getElem?_toArray, List.getElem?_cons_succ, List.getElem?_cons_zero]; rfl) | rfl); simp only [Act.put, List.setIfInBounds_toArray, List.set_cons_zero, List.set_cons_succ])
            | (apply wv_loadrow rfl rfl rfl; (first | exact row_pat); exact sz_pat; (intro w h; (first | exact own_get 0 h.1 rfl | exact own_get 1 h.1 rfl | exact own_get 2 h.1 rfl | exact own_get 3 h.1 rfl | exact own_get 4 h.1 rfl | exact own_get 5 h.1 rfl | exact own_get 6 h.1 rfl | exact own_get 7 h.1 rfl)); (focus (simp; done)); (first | (simp only [List.drop_zero, List.drop_succ_cons, List.take_succ_cons, List.take_zero]; rfl) | rfl); simp only [Act.put, List.setIfInBounds_toArray, List.set_cons_zero, List.set_cons_succ])
            | (apply wv_run rfl; (focus (intro w h; go_simp; first | done | rfl)); simp only [Act.put, List.setIfInBounds_toArray, List.set_cons_zero, List.set_cons_succ])
            | (apply wv_call rfl; (focus (intro w; go_simp; first | done | exact ⟨rfl, rfl⟩)); (focus (intro w h; apply cls_call h; fail)); simp only [Act.put, List.setIfInBounds_toArray, List.set_cons_zero, List.set_cons_succ]))
          refine wv_nil ?_
          simp only [List.drop_succ_cons, List.drop_zero]
          intro w5 ⟨hO5, hS5⟩
          clear hO l4
          refine own_copy_str (new := bcs (over cur o.toNat x.p.dat.data.toList)) (k := 1) (g := gs) (off := o.toNat) (cur := (bcs cur).toArray) (t := 47) rfl rfl rfl rfl Try.underlying22 sz_u8 hO5 rfl HO.out.2.2 ?_ (bcs_over _ _ _ (by rw [Array.length_toList]; rfl)) ?_
          · rw [List.size_toArray, bcs_length, HLN.out]; have := HO.out; omega
          intro w6 hO hS6
          clear hO5
          simp only [List.set_cons_zero, List.set_cons_succ] at hO
          go_wp2
          go_roundw
          case rel =>
            refine ⟨k + 1, by omega, by go_num, ?_, hS.trans (hS5.trans hS6)⟩
            rw [HFX.out, if_pos HYB.out, appAll_snoc, ← HCUR.out]
            have e : app cur x.p = over cur o.toNat x.p.dat.data.toList := by rw [← HO.out.1]; rfl
            rw [e]
            exact own_drop hO
          case measure => simp [intOf]; omega
        | false =>
          have HNB : Hid ((decide (x.p.blk = (i : Int)) && l.contains (x.n : Int)) = false) := Lib.hid (by rw [hr]; simp)
          clear hb2 hr
          go_wp2_with (first | (refine own_load1 (b := gx) (off := 1) (cs := (We.cells (x, .slice A2 x.beh.length c2)).toArray) (t := 79) (v := .int .i64 x.p.blk) rfl rfl rfl row_int (own_get 0 hO rfl) rfl ?_) | (refine own_loadrow (b := gx) (off := 0) (cs := (We.cells (x, .slice A2 x.beh.length c2)).toArray) (t := 79) (vs := [.int .i64 x.n, .int .i64 x.p.blk, .int .i64 x.p.off, .string x.p.dat, .slice A2 x.beh.length c2]) rfl rfl rfl row_ent sz_ent (own_get 0 hO rfl) (by show 5 ≤ 5; decide) rfl ?_) | (go_at_call 54; (with_reducible refine Calls.mono (write1_m _ _ _ _ _ _ _ _ _ bset sv n l x A2 c2 (r := false) HCO.out HN.out hO) ?_); clear hO; rintro e u ⟨rfl, hO, hSn⟩; replace hS := hS.trans hSn; clear hSn))
          go_roundw
          case rel =>
            refine ⟨k + 1, by omega, by go_num, ?_, hS⟩
            rw [HFX.out, if_neg (ne_true_of_eq_false HNB.out), List.append_nil, ← HCUR.out]
            exact own_drop hO
          case measure => simp [intOf]; omega
      · have hbe : (x.p.blk == (i : Int)) = false := by simp [hb2]
        have HNB : Hid ((decide (x.p.blk = (i : Int)) && l.contains (x.n : Int)) = false) := Lib.hid (by simp [hb2])
        clear hb2
        go_wp2_with (first | (refine own_load1 (b := gx) (off := 1) (cs := (We.cells (x, .slice A2 x.beh.length c2)).toArray) (t := 79) (v := .int .i64 x.p.blk) rfl rfl rfl row_int (own_get 0 hO rfl) rfl ?_) | (refine own_loadrow (b := gx) (off := 0) (cs := (We.cells (x, .slice A2 x.beh.length c2)).toArray) (t := 79) (vs := [.int .i64 x.n, .int .i64 x.p.blk, .int .i64 x.p.off, .string x.p.dat, .slice A2 x.beh.length c2]) rfl rfl rfl row_ent sz_ent (own_get 0 hO rfl) (by show 5 ≤ 5; decide) rfl ?_) | fail)
        go_roundw
        case rel =>
          refine ⟨k + 1, by omega, by go_num, ?_, hS⟩
          rw [HFX.out, if_neg (ne_true_of_eq_false HNB.out), List.append_nil, ← HCUR.out]
          exact own_drop hO
        case measure => simp [intOf]; omega
    · have hke : k = we.length := by omega
      subst hke
      rw [List.take_length] at hO
      obtain ⟨R, hR⟩ : ∃ R, R = E.bytes i b (fun x => l.contains (x.n : Int)) := ⟨_, rfl⟩
      have HR := Lib.hid hR
      have HEQ : Hid (appAll b.s (bsel i (fun x => l.contains (x.n : Int)) we) = R) := by show _ = _; rw [hR]; unfold Eng.bytes; rw [← HK.out.1]
      clear hR
      have HL2 : Hid (R.length = 32) := by
        have := appAll_length (bsel i (fun x => l.contains (x.n : Int)) we) b.s h32.out (by have := HRI.out we.length; rwa [List.take_length] at this)
        rw [HEQ.out] at this
        exact this
      rw [HEQ.out] at hO
      go_wp2_with (first | (refine own_loadrow (b := gs) (off := 0) (cs := (bcs R).toArray) (t := 47) (vs := bcs R) rfl rfl rfl row_sec sz_sec (own_get 0 hO rfl) (by simp [bcs_length, HL2.out]) (by rw [List.drop_zero]; exact List.take_of_length_le (by simp [bcs_length, HL2.out])) ?_) | (refine own_store_all (k := 1) rfl rfl rfl rfl sz_sec hO rfl (secA_size HL2.out) (by rfl) (bcs_all _) ?_; clear hO; intro u hO hSn; replace hS := hS.trans hSn; clear hSn; simp only [List.set_cons_zero, List.set_cons_succ] at hO))
      refine bodyPost_ret (results_cell rfl rfl (own_get 1 hO rfl) row_sec (info_sec HL2.out)) rfl ⟨by rw [← HR.out], ?_, hS⟩
      exact eng_open.2 ⟨_, _, _, _, _, _, HK.out, own_drop (own_drop hO)⟩
end Go.Proofs.Ytonohjhmnlfakaa.H
