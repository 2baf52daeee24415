/- The reference's engine: Write. The plain law behind EngineBehind: what lasts has all that it comes behind. -/
import Derived.Test.YtlmkcnkidkoilaaGreatZ29
import Derived.Test.YtlmkcnkidkoilaaGreatZ25
import Derived.Test.YtlmkcnkidkoilaaGreatZ30
import Derived.Test.YtlmkcnkidkoilaaGreatZ26
import Derived.Test.YtlmkcnkidkoilaaGreatZ22
set_option linter.unusedVariables false
set_option linter.unusedSimpArgs false
set_option maxRecDepth 100000
namespace Go.Proofs.YtlmkcnkidkoilaaGreat.H
open Go.RowKit
theorem row_wr : isRowB Tryz.prog 134 = some true := by kernel_rfl
theorem sz_wr : (Tryz.prog.info? 134).map (·.size) = some 2 := by kernel_rfl
theorem zero_wr : (Tryz.prog.info? 134).map (fun i => (i.zero, i.size)) = some (some (.agg #[.int .i64 0, .slice none 0 0]), 2) := by kernel_rfl
theorem info_wr3 : (Tryz.prog.info? 134).map (fun i => (i.zero, i.size, i.bytes)) = some (some (.agg #[.int .i64 0, .slice none 0 0]), 2, 32) := by kernel_rfl
theorem sz_u87 : (Tryz.prog.info? 5).map (·.size) = some 1 := by kernel_rfl
theorem half2_next {T z : Sec} {k : Nat} (hk : k < z.length) (hl : T.length = z.length) : (T.take k ++ z.drop k).set k (T.getD k 0) = T.take (k + 1) ++ z.drop (k + 1) := by
  have hlen : (T.take k).length = k := by rw [List.length_take]; omega
  rw [List.set_append_right _ _ (by omega), hlen, Nat.sub_self, List.drop_eq_getElem_cons hk, List.set_cons_zero, List.take_add_one, List.getElem?_eq_getElem (by omega : k < T.length)]
  rw [List.append_assoc]
  simp [List.getD, List.getElem?_eq_getElem (by omega : k < T.length)]
theorem half2_set {T z : Sec} {k : Nat} (hk : k < z.length) (hl : T.length = z.length) : (bcs (T.take k ++ z.drop k)).toArray.setIfInBounds k (.int .u8 ((T.getD k 0).toNat : Int)) = (bcs (T.take (k + 1) ++ z.drop (k + 1))).toArray := by
  rw [← half2_next hk hl]
  apply Array.ext'
  simp [bcs, List.map_set]
theorem bcs_cellz {w : World} {ad : Addr} {n c k : Nat} {l : List UInt8} (h : Rd w 1 (.slice (some ad) n c) n (bcs l)) (hk : k < l.length) : w.cell? (ad.add k) = some (.int .u8 ((l.getD k 0).toNat : Int)) := by
  obtain ⟨_, A, c', e, _, _, h4⟩ := h.out
  cases e
  obtain ⟨ad', e2, h5⟩ := h4 k (.int .u8 ((l.getD k 0).toNat : Int)) (by unfold bcs; rw [List.getElem?_map, List.getElem?_eq_getElem hk]; simp [List.getD, List.getElem?_eq_getElem hk])
  cases e2
  exact h5
abbrev wr1 (i : Nat) (R : List Int) (v : Value) : Ws := ⟨i, R, v⟩
abbrev othF (i : Nat) (l : List Ws) : List Ws := l.filter fun x => !decide (x.blk = i)
theorem othF_next (i : Nat) {l : List Ws} {k : Nat} {x : Ws} (hx : l[k]? = some x) {b : Bool} (hb : decide (x.blk = i) = b) : othF i (l.take (k + 1)) = othF i (l.take k) ++ (if b then [] else [x]) := by
  unfold othF
  rw [List.take_add_one, hx, List.filter_append]
  congr 1
  show List.filter _ [x] = _
  rw [List.filter_cons, hb]
  cases b <;> rfl
theorem cellsS_snoc (l : List Ws) (x : Ws) : cellsS (l ++ [x]) = cellsS l ++ [.int .i64 x.blk, x.v] := by
  rw [cellsS_app]
  simp [cellsS, Ws.cells]
theorem look_oth (l : List Ws) (i j : Nat) (h : j ≠ i) : lookS (othF i l) j = lookS l j := by
  unfold lookS othF
  congr 2
  induction l with
  | nil => rfl
  | cons a l ih =>
    rw [List.filter_cons]
    by_cases e : a.blk = i
    · simp only [e, decide_true, Bool.not_true, Bool.false_eq_true, if_false]
      rw [ih, List.find?_cons]
      have : ¬ (i = j) := fun h2 => h h2.symm
      simp [e, this]
    · simp only [e, decide_false, Bool.not_false, if_true]
      rw [List.find?_cons, List.find?_cons, ih]
theorem rsok_set {n : Nat} {s : Nat → List Int} {ws : List Ws} {wv : Value} {g : List RdI} (h : RSOk n s ws wv g) {i : Nat} (hi : i < n) (R : List Int) {A B : Option Addr} {c cb : Nat} :
    RSOk n (fun j => if j = i then R else s j) (⟨i, R, .slice B R.length cb⟩ :: othF i ws) (.slice A (Ws.mk i R (.slice B R.length cb) :: othF i ws).length c) (⟨2, .slice A (Ws.mk i R (.slice B R.length cb) :: othF i ws).length c, (Ws.mk i R (.slice B R.length cb) :: othF i ws).length, cellsS (Ws.mk i R (.slice B R.length cb) :: othF i ws)⟩ :: ⟨1, .slice B R.length cb, R.length, zs R⟩ :: g) where
  rd := ⟨A, c, rfl, List.mem_cons_self ..⟩
  sets := fun x hx => by
    rcases List.mem_cons.1 hx with rfl | hx
    · exact ⟨B, cb, rfl, List.mem_cons_of_mem _ (List.mem_cons_self ..)⟩
    · obtain ⟨A', c', e, h1⟩ := h.sets x (List.filter_sublist.subset hx)
      exact ⟨A', c', e, List.mem_cons_of_mem _ (List.mem_cons_of_mem _ h1)⟩
  key := fun x hx => by
    rcases List.mem_cons.1 hx with rfl | hx
    · exact hi
    · exact h.key x (List.filter_sublist.subset hx)
  nod := by
    rw [List.map_cons, List.nodup_cons]
    refine ⟨fun hm => ?_, h.nod.sublist (List.filter_sublist.map _)⟩
    obtain ⟨x, hx, e⟩ := List.mem_map.1 hm
    have h2 := (List.mem_filter.1 hx).2
    simp only [Bool.not_eq_true', decide_eq_false_iff_not] at h2
    exact h2 e
  look := fun j => by
    by_cases e : j = i
    · subst e
      rw [if_pos rfl]
      unfold lookS
      simp
    · rw [if_neg e, h.look j, ← look_oth ws i j e]
      unfold lookS
      rw [List.find?_cons]
      have : ¬ (i = j) := fun h2 => e h2.symm
      simp [this]
theorem rlookV_rd {n : Nat} {s : Nat → List Int} {ws : List Ws} {wv : Value} {g : List RdI} (h : RSOk n s ws wv g) (i : Nat) {w : World} {L : List HP} (hO : Own w (rdG g :: L)) : Rd w 1 (lookV ws i) (s i).length (zs (s i)) := by
  obtain ⟨A, c, e, h1 | ⟨rfl, rfl, h2⟩⟩ := lookV_rd h i
  · rw [e]; exact rdG_rd hO h1
  · rw [e, h2]; exact rd_nil _ _
section
variable (w : World) (L : List HP) (r : Nat) (E : Eng)
theorem rwrite_eno (i : Int) (hO : Own w (rengP r E :: L)) (hi : i < 0 ∨ (E.m.length : Int) ≤ i) : Calls Tryz.prog 68 #[.pointer (some ⟨r, 0, none⟩), .int .i64 i] w (Ret w (.tuple #[.int .i64 0, .int .i64 2]) (rengP r E :: L)) := by
  have HI := Lib.hid hi
  have hS := Same.refl w
  clear hi
  go_enter Tryz.func68, Tryz.ntmps68
  go_wp2_with (first | (go_at_call 87; (with_reducible refine Calls.mono (rmay_e_no _ _ r E i hO HI.out) ?_); clear hO; rintro e u ⟨rfl, hO, hSn⟩; replace hS := hS.trans hSn; clear hSn))
  go_ret2
  exact ⟨rfl, hO, hS⟩
set_option maxHeartbeats 3200000 in
theorem rwrite_enone (i : Nat) (b : Blk) (hO : Own w (rengP r E :: L)) (hk : E.Ok) (hb : E.m[i]? = some b) (hz : readyL E.l i = []) : Calls Tryz.prog 68 #[.pointer (some ⟨r, 0, none⟩), .int .i64 i] w (Ret w (.tuple #[.int .i64 0, .int .i64 0]) (rengP r E :: L)) := by
  have HB := Lib.hid hb
  have HOK := Lib.hid hk
  have HI : Hid (i < E.m.length) := (List.getElem?_eq_some_iff.1 hb).1
  have hS := Same.refl w
  obtain ⟨R, hR⟩ : ∃ R, R = readyL E.l i := ⟨_, rfl⟩
  have HR := Lib.hid hR
  have HRL : Hid (R.length ≤ 200) := by show _ ≤ _; rw [hR]; exact Nat.le_trans (ready_len _) hk.len
  have hz0 : ((R.length : Int) == 0) = true := by rw [hR, hz]; rfl
  clear hz
  clear hk hb hR
  go_enter Tryz.func68, Tryz.ntmps68
  go_upto_region 5 with (first | (go_at_call 87; (with_reducible refine Calls.mono (rmay_e_ok _ _ r E i hO HI.out) ?_); clear hO; rintro e u ⟨rfl, hO, hSn⟩; replace hS := hS.trans hSn; clear hSn) | (go_at_call 53; (with_reducible refine Calls.mono (rready_ok _ _ r E i hO HOK.out HI.out) ?_); clear hO; rintro e u ⟨sv, rfl, hO, hSn⟩; replace hS := hS.trans hSn; clear hSn; (rw [← HR.out] at hO); obtain ⟨SA, sc, rfl⟩ := (owns_rd hO).slice))
  obtain ⟨q, lv, wv, we, ws, g, hkk, hO⟩ := reng_open.1 (own_swap hO)
  have HK := Lib.hid hkk
  clear hkk
  go_wp2
  go_ret2
  exact ⟨rfl, own_sub (reng_open.2 ⟨_, _, _, _, _, _, HK.out, hO⟩) (.cons_cons _ (.cons _ (List.Sublist.refl _))), hS⟩
set_option maxHeartbeats 3200000 in
theorem rwrite_esame (i : Nat) (b : Blk) (hO : Own w (rengP r E :: L)) (hk : E.Ok) (hb : E.m[i]? = some b) (hz : readyL E.l i ≠ []) (hq : readyL E.l i = E.s i) : Calls Tryz.prog 68 #[.pointer (some ⟨r, 0, none⟩), .int .i64 i] w (Ret w (.tuple #[.int .i64 0, .int .i64 0]) (rengP r E :: L)) := by
  have HB := Lib.hid hb
  have HOK := Lib.hid hk
  have HI : Hid (i < E.m.length) := (List.getElem?_eq_some_iff.1 hb).1
  have hS := Same.refl w
  obtain ⟨R, hR⟩ : ∃ R, R = readyL E.l i := ⟨_, rfl⟩
  have HR := Lib.hid hR
  have HRL : Hid (R.length ≤ 200) := by show _ ≤ _; rw [hR]; exact Nat.le_trans (ready_len _) hk.len
  have hz0 : ((R.length : Int) == 0) = false := by
    rw [beq_eq_false_iff_ne]
    intro h
    exact hz (by rw [← hR]; exact List.eq_nil_of_length_eq_zero (by omega))
  have HQ : Hid (decide (R = E.s i) = true) := by show _ = _; rw [hR, decide_eq_true_eq]; exact hq
  clear hz hq
  clear hk hb hR
  go_enter Tryz.func68, Tryz.ntmps68
  go_upto_region 5 with (first | (go_at_call 87; (with_reducible refine Calls.mono (rmay_e_ok _ _ r E i hO HI.out) ?_); clear hO; rintro e u ⟨rfl, hO, hSn⟩; replace hS := hS.trans hSn; clear hSn) | (go_at_call 53; (with_reducible refine Calls.mono (rready_ok _ _ r E i hO HOK.out HI.out) ?_); clear hO; rintro e u ⟨sv, rfl, hO, hSn⟩; replace hS := hS.trans hSn; clear hSn; (rw [← HR.out] at hO); obtain ⟨SA, sc, rfl⟩ := (owns_rd hO).slice))
  obtain ⟨q, lv, wv, we, ws, g, hkk, hO⟩ := reng_open.1 (own_swap hO)
  have HK := Lib.hid hkk
  clear hkk
  have HSAME : Hid (∀ w', Own w' (rO r q lv wv E.next E.m g (owns 3 1 (.slice SA R.length sc) R.length (zs R) :: L)) → Calls Tryz.prog 52 #[.slice SA R.length sc, lookV ws i] w' (Ret w' (.bool true) (rO r q lv wv E.next E.m g (owns 3 1 (.slice SA R.length sc) R.length (zs R) :: L)))) := Lib.hid fun w' h => by
    rw [← HQ.out]
    exact grsame_c w' _ _ _ R.length (E.s i).length R (E.s i) rfl rfl h (fun w2 h2 => owns_rd (own_order [3] h2 rfl)) (fun w2 h2 => rlookV_rd HK.out.2.2 i (own_at h2 (k := 2) rfl))
  go_wp2_with (first | (go_at_call 98; (with_reducible refine Calls.mono (rlast_o _ _ r q lv wv E.m.length E.s ws g E.next E.m HK.out.2.2 i hO) ?_); clear hO; rintro e u ⟨rfl, hO, hSn⟩; replace hS := hS.trans hSn; clear hSn) | (go_at_call 52; (with_reducible refine Calls.mono (HSAME.out _ hO) ?_); clear hO; rintro e u ⟨rfl, hO, hSn⟩; replace hS := hS.trans hSn; clear hSn))
  go_ret2
  exact ⟨rfl, own_sub (reng_open.2 ⟨_, _, _, _, _, _, HK.out, hO⟩) (.cons_cons _ (.cons _ (List.Sublist.refl _))), hS⟩
set_option maxHeartbeats 3200000 in
theorem rwrite_ebad (i : Nat) (b : Blk) (hO : Own w (rengP r E :: L)) (hk : E.Ok) (hb : E.m[i]? = some b) (hz : readyL E.l i ≠ []) (hq : readyL E.l i ≠ E.s i) (hbad : b.bad = true) : Calls Tryz.prog 68 #[.pointer (some ⟨r, 0, none⟩), .int .i64 i] w (Ret w (.tuple #[.int .i64 0, .int .i64 10]) (rengP r E :: L)) := by
  have HB := Lib.hid hb
  have HOK := Lib.hid hk
  have HI : Hid (i < E.m.length) := (List.getElem?_eq_some_iff.1 hb).1
  have hS := Same.refl w
  obtain ⟨R, hR⟩ : ∃ R, R = readyL E.l i := ⟨_, rfl⟩
  have HR := Lib.hid hR
  have HRL : Hid (R.length ≤ 200) := by show _ ≤ _; rw [hR]; exact Nat.le_trans (ready_len _) hk.len
  have hz0 : ((R.length : Int) == 0) = false := by
    rw [beq_eq_false_iff_ne]
    intro h
    exact hz (by rw [← hR]; exact List.eq_nil_of_length_eq_zero (by omega))
  have HQ : Hid (decide (R = E.s i) = false) := by show _ = _; rw [hR, decide_eq_false_iff_not]; exact hq
  have HBAD := Lib.hid hbad
  clear hz hq hbad
  clear hk hb hR
  go_enter Tryz.func68, Tryz.ntmps68
  go_upto_region 5 with (first | (go_at_call 87; (with_reducible refine Calls.mono (rmay_e_ok _ _ r E i hO HI.out) ?_); clear hO; rintro e u ⟨rfl, hO, hSn⟩; replace hS := hS.trans hSn; clear hSn) | (go_at_call 53; (with_reducible refine Calls.mono (rready_ok _ _ r E i hO HOK.out HI.out) ?_); clear hO; rintro e u ⟨sv, rfl, hO, hSn⟩; replace hS := hS.trans hSn; clear hSn; (rw [← HR.out] at hO); obtain ⟨SA, sc, rfl⟩ := (owns_rd hO).slice))
  obtain ⟨q, lv, wv, we, ws, g, hkk, hO⟩ := reng_open.1 (own_swap hO)
  have HK := Lib.hid hkk
  clear hkk
  have HSAME : Hid (∀ w', Own w' (rO r q lv wv E.next E.m g (owns 3 1 (.slice SA R.length sc) R.length (zs R) :: L)) → Calls Tryz.prog 52 #[.slice SA R.length sc, lookV ws i] w' (Ret w' (.bool false) (rO r q lv wv E.next E.m g (owns 3 1 (.slice SA R.length sc) R.length (zs R) :: L)))) := Lib.hid fun w' h => by
    rw [← HQ.out]
    exact grsame_c w' _ _ _ R.length (E.s i).length R (E.s i) rfl rfl h (fun w2 h2 => owns_rd (own_order [3] h2 rfl)) (fun w2 h2 => rlookV_rd HK.out.2.2 i (own_at h2 (k := 2) rfl))
  go_upto_region 8 with (first | (go_at_call 98; (with_reducible refine Calls.mono (rlast_o _ _ r q lv wv E.m.length E.s ws g E.next E.m HK.out.2.2 i hO) ?_); clear hO; rintro e u ⟨rfl, hO, hSn⟩; replace hS := hS.trans hSn; clear hSn) | (go_at_call 52; (with_reducible refine Calls.mono (HSAME.out _ hO) ?_); clear hO; rintro e u ⟨rfl, hO, hSn⟩; replace hS := hS.trans hSn; clear hSn) | (refine own_alloc (T := 94) (cs := (bcs sec0).toArray) rfl rfl zero_rsec rfl hO ?_; clear hO; intro g8 u hO hSn; replace hS := hS.trans hSn; clear hSn))
  obtain ⟨T, hT⟩ : ∃ T, T = E.bytes i b (fun x => R.contains (x.n : Int)) := ⟨_, rfl⟩
  have HT := Lib.hid hT
  have h32 := rdisk_s32 (own_order [2] hO rfl) b (List.mem_of_getElem? HB.out)
  have HBY : Hid (∀ w', Own w' (pts g8 (.cells (bcs sec0).toArray 94) :: rO r q lv wv E.next E.m g (owns 3 1 (.slice SA R.length sc) R.length (zs R) :: L)) → Calls Tryz.prog 88 #[.pointer (some ⟨r, 0, none⟩), .int .i64 i, .bool false, .slice SA R.length sc] w' (RetX w' (fun v : Value => v) (fun v => owns 5 1 v 32 (bcs T) :: rO r q lv wv E.next E.m g (pts g8 (.cells (bcs sec0).toArray 94) :: owns 3 1 (.slice SA R.length sc) R.length (zs R) :: L)))) := Lib.hid fun w' h => by
    have h2 := rbytes_o w' (pts g8 (.cells (bcs sec0).toArray 94) :: owns 3 1 (.slice SA R.length sc) R.length (zs R) :: L) r q lv wv we g E.next E.m HK.out.2.1 (fun x hx => (HOK.out.right x.1 (by rw [← HK.out.1]; exact List.mem_map_of_mem hx)).1) (by have := congrArg List.length HK.out.1; rw [List.length_map] at this; have := HOK.out.len; omega) i b HB.out h32 false (.slice SA R.length sc) R (fun w2 h2 => owns_rd (own_order [4] h2 rfl)) (own_order [1, 1, 1] h rfl)
    rw [HK.out.1] at h2
    rw [hT]
    exact h2
  have HT2 : Hid (T.length = 32) := by
    show _ = _
    rw [hT]
    refine appAll_length _ _ h32 (fun p hp => ?_)
    obtain ⟨x, hx, rfl⟩ := List.mem_map.1 hp
    exact (HOK.out.right x (List.filter_sublist.subset hx)).1
  clear hT h32
  go_wp2_with (first | (go_at_call 88; (with_reducible refine Calls.mono (HBY.out _ hO) ?_); clear hO; rintro e u ⟨bv, rfl, hO, hSn⟩; replace hS := hS.trans hSn; clear hSn; obtain ⟨BA, bc, rfl⟩ := (owns_rd hO).slice))
  have hO := own_order [4] hO rfl
  simp only [List.eraseIdx_cons_succ, List.eraseIdx_zero, List.tail_cons] at hO
  have hbc := (owns_rd (own_drop hO)).max
  clear HBY
  go_loopw [10] (fun iv wr => ∃ k : Nat, k ≤ 32 ∧ iv = .int .i64 k ∧ Own wr (pts g8 (.cells (bcs (T.take k ++ sec0.drop k)).toArray 94) :: owns 5 1 (.slice BA 32 bc) 32 (bcs T) :: rO r q lv wv E.next E.m g (owns 3 1 (.slice SA R.length sc) R.length (zs R) :: L)) ∧ Same w wr) (fun iv _ => 32 - (intOf iv).toNat)
  case atStart => exact ⟨0, Nat.zero_le _, rfl, hO, hS⟩
  case round =>
    clear hO hS
    obtain ⟨k, hk, rfl, hO, hS⟩ := hrel
    by_cases hlt : k < 32
    · have hr := owns_rd (own_drop hO)
      have HNOW := Lib.hid hO
      obtain ⟨bad, e1⟩ := hr.addr (by rw [bcs_length, HT2.out]; omega)
      subst e1
      have hO := HNOW.out
      have HC2 := Lib.hid (bcs_cellz hr (k := k) (by rw [HT2.out]; exact hlt))
      have HST := Lib.hid (half2_set (T := T) (z := sec0) (k := k) (by simpa using hlt) (by rw [HT2.out]; rfl))
      have HSZ : Hid (k < (bcs (T.take k ++ sec0.drop k)).toArray.size) := by
        show _ < _
        have := HT2.out
        simp [bcs_length]
        omega
      have hm1 : (k : Int) < 32 := by omega
      clear hr HNOW
      go_wp2_with (first | (refine own_load1_at (ad := bad.add k) (v := .int .u8 ((T.getD k 0).toNat : Int)) rfl rfl rfl row_u8 HC2.out ?_) | (refine own_store1 (k := 0) (b := g8) (off := k) (cs' := (bcs (T.take (k + 1) ++ sec0.drop (k + 1))).toArray) rfl rfl rfl rfl sz_u87 hO rfl rfl HSZ.out HST.out ?_; clear hO; intro u hO hSn; replace hS := hS.trans hSn; clear hSn; simp only [List.set_cons_zero] at hO))
      go_roundw
      case rel => exact ⟨k + 1, by omega, by go_num, hO, hS⟩
      case measure => simp [intOf]; omega
    have hke : k = 32 := by omega
    subst hke
    rw [List.take_of_length_le (by rw [HT2.out]; exact Nat.le_refl _), List.drop_of_length_le (by simp), List.append_nil] at hO
    go_upto_region 13 with fail
    refine wp_region_seq (Cls _ (pts g8 (.cells (bcs T).toArray 94) :: owns 5 1 (.slice BA 32 bc) 32 (bcs T) :: rO r q lv wv E.next E.m g (owns 3 1 (.slice SA R.length sc) R.length (zs R) :: L))) 6 98 mixed (by kernel_rfl) rfl (cls_drew hO) ?_
    simp only [List.append_eq, List.cons_append, List.nil_append, List.take_succ_cons, List.take_zero]
    repeat (first
      | (apply wv_skip rfl; simp only [Act.put, List.setIfInBounds_toArray, List.set_cons_zero, List.set_cons_succ])
      | (refine wv_load1 (b := r) (off := 0) (cs := #[.pointer (some ⟨q, 0, none⟩), lv, wv, .int .i64 E.next]) (t := 106) (v := .pointer (some ⟨q, 0, none⟩)) rfl rfl rfl row_rdptr (fun w h => own_get 2 h.1 rfl) rfl ?_; simp only [Act.put, List.setIfInBounds_toArray, List.set_cons_zero, List.set_cons_succ])
      | (refine wv_loadrow (b := g8) (off := 0) (cs := (bcs T).toArray) (t := 94) (vs := bcs T) rfl rfl rfl row_rsec sz_rsec (fun w h => own_get 0 h.1 rfl) (by simp [bcs_length, HT2.out]) (by rw [List.drop_zero]; exact List.take_of_length_le (by simp [bcs_length, HT2.out])) ?_; simp only [Act.put, List.setIfInBounds_toArray, List.set_cons_zero, List.set_cons_succ])
      | (apply wv_load1 rfl rfl rfl; (first | exact row_int | exact row_str | exact row_bool | exact row_u8 | exact row_bys | exact row_pats | exact row_err); (intro w h; (first | exact own_get 0 h.1 rfl | exact own_get 1 h.1 rfl | exact own_get 2 h.1 rfl | exact own_get 3 h.1 rfl | exact own_get 4 h.1 rfl | exact own_get 5 h.1 rfl | exact own_get 6 h.1 rfl | exact own_get 7 h.1 rfl)); (first | (simp only [List.getElem?_toArray, List.getElem?_cons_succ, List.getElem?_cons_zero]; rfl) | rfl); simp only [Act.put, List.setIfInBounds_toArray, List.set_cons_zero, List.set_cons_succ])
      | (apply wv_loadrow rfl rfl rfl; (first | exact row_pat); exact sz_pat; (intro w h; (first | exact own_get 0 h.1 rfl | exact own_get 1 h.1 rfl | exact own_get 2 h.1 rfl | exact own_get 3 h.1 rfl | exact own_get 4 h.1 rfl | exact own_get 5 h.1 rfl | exact own_get 6 h.1 rfl | exact own_get 7 h.1 rfl)); (focus (simp; done)); (first | (simp only [List.drop_zero, List.drop_succ_cons, List.take_succ_cons, List.take_zero]; rfl) | rfl); simp only [Act.put, List.setIfInBounds_toArray, List.set_cons_zero, List.set_cons_succ])
      | (apply wv_run rfl; (focus (intro w h; go_simp; first | done | rfl)); simp only [Act.put, List.setIfInBounds_toArray, List.set_cons_zero, List.set_cons_succ])
      | (apply wv_call rfl; (focus (intro w; go_simp; first | done | exact ⟨rfl, rfl⟩)); (focus (intro w h; apply cls_call h; fail)); simp only [Act.put, List.setIfInBounds_toArray, List.set_cons_zero, List.set_cons_succ]))
    refine wv_nil ?_
    simp only [List.drop_succ_cons, List.drop_zero]
    intro w5 ⟨hO5, hS5⟩
    clear hO
    have hO := hO5
    replace hS := hS.trans hS5
    clear hO5 hS5
    go_wp2_with (first | (go_at_call 99; (with_reducible refine Calls.mono (call_at 3 (fun L' h => rwrite_bad _ L' q E.m i b T h HB.out HBAD.out) rfl hO) ?_); clear hO; rintro e u ⟨rfl, hO, hSn⟩; replace hS := hS.trans hSn; clear hSn; simp only [List.set_cons_zero, List.set_cons_succ] at hO))
    go_ret2
    refine ⟨rfl, ?_, hS⟩
    exact own_sub (reng_open.2 ⟨_, _, _, _, _, _, HK.out, own_drop (own_drop hO)⟩) (.cons_cons _ (.cons _ (List.Sublist.refl _)))
set_option maxHeartbeats 3200000 in
theorem rwrite_edid (i : Nat) (b : Blk) (hO : Own w (rengP r E :: L)) (hk : E.Ok) (hb : E.m[i]? = some b) (hz : readyL E.l i ≠ []) (hq : readyL E.l i ≠ E.s i) (hbad : b.bad = false) (hlim : b.vs.length ≤ 1000000) : Calls Tryz.prog 68 #[.pointer (some ⟨r, 0, none⟩), .int .i64 i] w (Ret w (.tuple #[.int .i64 (readyL E.l i).length, .int .i64 0]) (rengP r ⟨E.m.set i (b.wr (E.bytes i b fun x => (readyL E.l i).contains (x.n : Int))), E.l, fun j => if j = i then readyL E.l i else E.s j, E.next⟩ :: L)) := by
  have HB := Lib.hid hb
  have HOK := Lib.hid hk
  have HI : Hid (i < E.m.length) := (List.getElem?_eq_some_iff.1 hb).1
  have hS := Same.refl w
  obtain ⟨R, hR⟩ : ∃ R, R = readyL E.l i := ⟨_, rfl⟩
  have HR := Lib.hid hR
  have HRL : Hid (R.length ≤ 200) := by show _ ≤ _; rw [hR]; exact Nat.le_trans (ready_len _) hk.len
  have hz0 : ((R.length : Int) == 0) = false := by
    rw [beq_eq_false_iff_ne]
    intro h
    exact hz (by rw [← hR]; exact List.eq_nil_of_length_eq_zero (by omega))
  have HQ : Hid (decide (R = E.s i) = false) := by show _ = _; rw [hR, decide_eq_false_iff_not]; exact hq
  have HBAD := Lib.hid hbad
  have HLIM := Lib.hid hlim
  rw [← hR]
  clear hz hq hbad hlim
  clear hk hb hR
  go_enter Tryz.func68, Tryz.ntmps68
  go_upto_region 5 with (first | (go_at_call 87; (with_reducible refine Calls.mono (rmay_e_ok _ _ r E i hO HI.out) ?_); clear hO; rintro e u ⟨rfl, hO, hSn⟩; replace hS := hS.trans hSn; clear hSn) | (go_at_call 53; (with_reducible refine Calls.mono (rready_ok _ _ r E i hO HOK.out HI.out) ?_); clear hO; rintro e u ⟨sv, rfl, hO, hSn⟩; replace hS := hS.trans hSn; clear hSn; (rw [← HR.out] at hO); obtain ⟨SA, sc, rfl⟩ := (owns_rd hO).slice))
  obtain ⟨q, lv, wv, we, ws, g, hkk, hO⟩ := reng_open.1 (own_swap hO)
  have HK := Lib.hid hkk
  clear hkk
  have HWL : Hid (ws.length ≤ 96) := by
    have h1 := HK.out.2.2.nod
    have h2 := HK.out.2.2.key
    have hm96 : E.m.length ≤ 96 := by
      obtain ⟨_, _, _, _, _, ⟨hk, _⟩, _⟩ := rdisk_open.1 (own_order [1] hO rfl)
      exact hk.len
    have h3 : (ws.map (·.blk)).length ≤ E.m.length := by
      have hsub : ∀ a ∈ ws.map (·.blk), a ∈ List.range E.m.length := fun a ha => by
        obtain ⟨x, hx, rfl⟩ := List.mem_map.1 ha
        exact List.mem_range.2 (h2 x hx)
      have := (List.nodup_iff_pairwise_ne.1 h1 |> fun _ => h1).length_le_of_subset hsub
      rwa [List.length_range] at this
    rw [List.length_map] at h3
    show _ ≤ _
    omega
  have HSAME : Hid (∀ w', Own w' (rO r q lv wv E.next E.m g (owns 3 1 (.slice SA R.length sc) R.length (zs R) :: L)) → Calls Tryz.prog 52 #[.slice SA R.length sc, lookV ws i] w' (Ret w' (.bool false) (rO r q lv wv E.next E.m g (owns 3 1 (.slice SA R.length sc) R.length (zs R) :: L)))) := Lib.hid fun w' h => by
    rw [← HQ.out]
    exact grsame_c w' _ _ _ R.length (E.s i).length R (E.s i) rfl rfl h (fun w2 h2 => owns_rd (own_order [3] h2 rfl)) (fun w2 h2 => rlookV_rd HK.out.2.2 i (own_at h2 (k := 2) rfl))
  go_upto_region 8 with (first | (go_at_call 98; (with_reducible refine Calls.mono (rlast_o _ _ r q lv wv E.m.length E.s ws g E.next E.m HK.out.2.2 i hO) ?_); clear hO; rintro e u ⟨rfl, hO, hSn⟩; replace hS := hS.trans hSn; clear hSn) | (go_at_call 52; (with_reducible refine Calls.mono (HSAME.out _ hO) ?_); clear hO; rintro e u ⟨rfl, hO, hSn⟩; replace hS := hS.trans hSn; clear hSn) | (refine own_alloc (T := 94) (cs := (bcs sec0).toArray) rfl rfl zero_rsec rfl hO ?_; clear hO; intro g8 u hO hSn; replace hS := hS.trans hSn; clear hSn))
  obtain ⟨T, hT⟩ : ∃ T, T = E.bytes i b (fun x => R.contains (x.n : Int)) := ⟨_, rfl⟩
  have HT := Lib.hid hT
  have h32 := rdisk_s32 (own_order [2] hO rfl) b (List.mem_of_getElem? HB.out)
  have HBY : Hid (∀ w', Own w' (pts g8 (.cells (bcs sec0).toArray 94) :: rO r q lv wv E.next E.m g (owns 3 1 (.slice SA R.length sc) R.length (zs R) :: L)) → Calls Tryz.prog 88 #[.pointer (some ⟨r, 0, none⟩), .int .i64 i, .bool false, .slice SA R.length sc] w' (RetX w' (fun v : Value => v) (fun v => owns 5 1 v 32 (bcs T) :: rO r q lv wv E.next E.m g (pts g8 (.cells (bcs sec0).toArray 94) :: owns 3 1 (.slice SA R.length sc) R.length (zs R) :: L)))) := Lib.hid fun w' h => by
    have h2 := rbytes_o w' (pts g8 (.cells (bcs sec0).toArray 94) :: owns 3 1 (.slice SA R.length sc) R.length (zs R) :: L) r q lv wv we g E.next E.m HK.out.2.1 (fun x hx => (HOK.out.right x.1 (by rw [← HK.out.1]; exact List.mem_map_of_mem hx)).1) (by have := congrArg List.length HK.out.1; rw [List.length_map] at this; have := HOK.out.len; omega) i b HB.out h32 false (.slice SA R.length sc) R (fun w2 h2 => owns_rd (own_order [4] h2 rfl)) (own_order [1, 1, 1] h rfl)
    rw [HK.out.1] at h2
    rw [hT]
    exact h2
  have HT2 : Hid (T.length = 32) := by
    show _ = _
    rw [hT]
    refine appAll_length _ _ h32 (fun p hp => ?_)
    obtain ⟨x, hx, rfl⟩ := List.mem_map.1 hp
    exact (HOK.out.right x (List.filter_sublist.subset hx)).1
  clear hT h32
  go_wp2_with (first | (go_at_call 88; (with_reducible refine Calls.mono (HBY.out _ hO) ?_); clear hO; rintro e u ⟨bv, rfl, hO, hSn⟩; replace hS := hS.trans hSn; clear hSn; obtain ⟨BA, bc, rfl⟩ := (owns_rd hO).slice))
  have hO := own_order [4] hO rfl
  simp only [List.eraseIdx_cons_succ, List.eraseIdx_zero, List.tail_cons] at hO
  have hbc := (owns_rd (own_drop hO)).max
  clear HBY
  go_loopw [10] (fun iv wr => ∃ k : Nat, k ≤ 32 ∧ iv = .int .i64 k ∧ Own wr (pts g8 (.cells (bcs (T.take k ++ sec0.drop k)).toArray 94) :: owns 5 1 (.slice BA 32 bc) 32 (bcs T) :: rO r q lv wv E.next E.m g (owns 3 1 (.slice SA R.length sc) R.length (zs R) :: L)) ∧ Same w wr) (fun iv _ => 32 - (intOf iv).toNat)
  case atStart => exact ⟨0, Nat.zero_le _, rfl, hO, hS⟩
  case round =>
    clear hO hS
    obtain ⟨k, hk, rfl, hO, hS⟩ := hrel
    by_cases hlt : k < 32
    · have hr := owns_rd (own_drop hO)
      have HNOW := Lib.hid hO
      obtain ⟨bad, e1⟩ := hr.addr (by rw [bcs_length, HT2.out]; omega)
      subst e1
      have hO := HNOW.out
      have HC2 := Lib.hid (bcs_cellz hr (k := k) (by rw [HT2.out]; exact hlt))
      have HST := Lib.hid (half2_set (T := T) (z := sec0) (k := k) (by simpa using hlt) (by rw [HT2.out]; rfl))
      have HSZ : Hid (k < (bcs (T.take k ++ sec0.drop k)).toArray.size) := by
        show _ < _
        have := HT2.out
        simp [bcs_length]
        omega
      have hm1 : (k : Int) < 32 := by omega
      clear hr HNOW
      go_wp2_with (first | (refine own_load1_at (ad := bad.add k) (v := .int .u8 ((T.getD k 0).toNat : Int)) rfl rfl rfl row_u8 HC2.out ?_) | (refine own_store1 (k := 0) (b := g8) (off := k) (cs' := (bcs (T.take (k + 1) ++ sec0.drop (k + 1))).toArray) rfl rfl rfl rfl sz_u87 hO rfl rfl HSZ.out HST.out ?_; clear hO; intro u hO hSn; replace hS := hS.trans hSn; clear hSn; simp only [List.set_cons_zero] at hO))
      go_roundw
      case rel => exact ⟨k + 1, by omega, by go_num, hO, hS⟩
      case measure => simp [intOf]; omega
    have hke : k = 32 := by omega
    subst hke
    rw [List.take_of_length_le (by rw [HT2.out]; exact Nat.le_refl _), List.drop_of_length_le (by simp), List.append_nil] at hO
    go_upto_region 13 with fail
    refine wp_region_seq (Cls _ (pts g8 (.cells (bcs T).toArray 94) :: owns 5 1 (.slice BA 32 bc) 32 (bcs T) :: rO r q lv wv E.next E.m g (owns 3 1 (.slice SA R.length sc) R.length (zs R) :: L))) 6 98 mixed (by kernel_rfl) rfl (cls_drew hO) ?_
    simp only [List.append_eq, List.cons_append, List.nil_append, List.take_succ_cons, List.take_zero]
    repeat (first
      | (apply wv_skip rfl; simp only [Act.put, List.setIfInBounds_toArray, List.set_cons_zero, List.set_cons_succ])
      | (refine wv_load1 (b := r) (off := 0) (cs := #[.pointer (some ⟨q, 0, none⟩), lv, wv, .int .i64 E.next]) (t := 106) (v := .pointer (some ⟨q, 0, none⟩)) rfl rfl rfl row_rdptr (fun w h => own_get 2 h.1 rfl) rfl ?_; simp only [Act.put, List.setIfInBounds_toArray, List.set_cons_zero, List.set_cons_succ])
      | (refine wv_loadrow (b := g8) (off := 0) (cs := (bcs T).toArray) (t := 94) (vs := bcs T) rfl rfl rfl row_rsec sz_rsec (fun w h => own_get 0 h.1 rfl) (by simp [bcs_length, HT2.out]) (by rw [List.drop_zero]; exact List.take_of_length_le (by simp [bcs_length, HT2.out])) ?_; simp only [Act.put, List.setIfInBounds_toArray, List.set_cons_zero, List.set_cons_succ])
      | (apply wv_load1 rfl rfl rfl; (first | exact row_int | exact row_str | exact row_bool | exact row_u8 | exact row_bys | exact row_pats | exact row_err); (intro w h; (first | exact own_get 0 h.1 rfl | exact own_get 1 h.1 rfl | exact own_get 2 h.1 rfl | exact own_get 3 h.1 rfl | exact own_get 4 h.1 rfl | exact own_get 5 h.1 rfl | exact own_get 6 h.1 rfl | exact own_get 7 h.1 rfl)); (first | (simp only [List.getElem?_toArray, List.getElem?_cons_succ, List.getElem?_cons_zero]; rfl) | rfl); simp only [Act.put, List.setIfInBounds_toArray, List.set_cons_zero, List.set_cons_succ])
      | (apply wv_loadrow rfl rfl rfl; (first | exact row_pat); exact sz_pat; (intro w h; (first | exact own_get 0 h.1 rfl | exact own_get 1 h.1 rfl | exact own_get 2 h.1 rfl | exact own_get 3 h.1 rfl | exact own_get 4 h.1 rfl | exact own_get 5 h.1 rfl | exact own_get 6 h.1 rfl | exact own_get 7 h.1 rfl)); (focus (simp; done)); (first | (simp only [List.drop_zero, List.drop_succ_cons, List.take_succ_cons, List.take_zero]; rfl) | rfl); simp only [Act.put, List.setIfInBounds_toArray, List.set_cons_zero, List.set_cons_succ])
      | (apply wv_run rfl; (focus (intro w h; go_simp; first | done | rfl)); simp only [Act.put, List.setIfInBounds_toArray, List.set_cons_zero, List.set_cons_succ])
      | (apply wv_call rfl; (focus (intro w; go_simp; first | done | exact ⟨rfl, rfl⟩)); (focus (intro w h; apply cls_call h; fail)); simp only [Act.put, List.setIfInBounds_toArray, List.set_cons_zero, List.set_cons_succ]))
    refine wv_nil ?_
    simp only [List.drop_succ_cons, List.drop_zero]
    intro w5 ⟨hO5, hS5⟩
    clear hO
    have hO := hO5
    replace hS := hS.trans hS5
    clear hO5 hS5
    go_upto_region 17 with (first | (go_at_call 99; (with_reducible refine Calls.mono (call_at 3 (fun L' h => rwrite_ok _ L' q E.m i b T h HB.out HBAD.out HT2.out HLIM.out) rfl hO) ?_); clear hO; rintro e u ⟨rfl, hO, hSn⟩; replace hS := hS.trans hSn; clear hSn; simp only [List.set_cons_zero, List.set_cons_succ] at hO))
    have hO := own_drop (own_drop (own_order [1, 1] (owns_of_pts (size := 2) (n := 1) (xs := cellsS (Ws.mk i R (.slice SA R.length sc) :: othF i (ws.take 0))) (own_alloc_new hO (.cells #[.int .i64 i, .slice SA R.length sc] 134)) rfl (Nat.le_refl _) (by decide) rfl) rfl))
    replace hS := hS.trans (Same.alloc _ (.cells #[.int .i64 i, .slice SA R.length sc] 134))
    obtain ⟨WB, wcb, e9, hmb⟩ := HK.out.2.2.rd
    have HNOW := Lib.hid hO
    subst e9
    have hO := HNOW.out
    have HRB : Hid (∀ (w' : World) (L' : List HP), Own w' (rdG g :: L') → Rd w' 2 (.slice WB ws.length wcb) ws.length (cellsS ws)) := Lib.hid fun w' L' h => rdG_rd h hmb
    have hmw2 := (HRB.out _ _ (own_order [3] hO rfl)).max
    clear HNOW hmb HSAME hbc
    go_wp2
    go_loopw [12, 13] (fun pv iv wr => ∃ (k : Nat) (ov : Value), k ≤ ws.length ∧ ov = pv ∧ iv = .int .i64 k ∧ Own wr (owns 134 2 ov (Ws.mk i R (.slice SA R.length sc) :: othF i (ws.take k)).length (cellsS (Ws.mk i R (.slice SA R.length sc) :: othF i (ws.take k))) :: rO r q lv (.slice WB ws.length wcb) E.next (E.m.set i (b.wr T)) g (owns 3 1 (.slice SA R.length sc) R.length (zs R) :: L)) ∧ Same w wr) (fun _ iv _ => ws.length - (intOf iv).toNat)
    case atStart => exact ⟨0, _, Nat.zero_le _, rfl, rfl, hO, hS⟩
    case round =>
      clear hO hS
      obtain ⟨k, ov, hk, hov, rfl, hO, hS⟩ := hrel
      subst hov
      by_cases hlt : k < ws.length
      · obtain ⟨x, hx⟩ : ∃ x, ws[k]? = some x := ⟨_, List.getElem?_eq_getElem hlt⟩
        obtain ⟨B2, cb2, hyv, hyg⟩ := HK.out.2.2.sets x (List.mem_of_getElem? hx)
        have hrb := HRB.out _ _ (own_order [3] hO rfl)
        have HNOW := Lib.hid hO
        obtain ⟨ad, e5⟩ := hrb.addr (by rw [cellsS_length]; omega)
        subst e5
        have hO := HNOW.out
        have HC : Hid (∀ (w' : World) (L' : List HP), Own w' (rdG g :: L') → ∀ (j : Nat) (u : Value), [Value.int .i64 x.blk, .slice B2 x.set.length cb2][j]? = some u → w'.cell? ((ad.add (k * 2)).add j) = some u) := Lib.hid fun w' L' h j u hu => by
          refine (HRB.out w' L' h).cell (cellsS_at ws k x hx j u ?_)
          unfold Ws.cells
          rw [hyv]
          exact hu
        have HC0 : Hid (∀ (w' : World) (L' : List HP), Own w' (rdG g :: L') → w'.cell? (ad.add (k * 2)) = some (.int .i64 x.blk)) := Lib.hid fun w' L' h => (wrs_cells (HRB.out w' L' h) hx).1
        have hm2 : (k : Int) < ws.length := by omega
        have HNXT := Lib.hid (fun b0 hb0 => othF_next i hx (b := b0) hb0)
        have HNL : Hid ((Ws.mk i R (.slice SA R.length sc) :: othF i (ws.take k)).length ≤ 200) := by
          show _ ≤ _
          have h1 : (othF i (ws.take k)).length ≤ (ws.take k).length := List.length_filter_le _ _
          rw [List.length_take] at h1
          have := HWL.out
          rw [List.length_cons]
          omega
        have HYV := Lib.hid hyv
        clear hx hrb hyv hyg HNOW
        by_cases he : x.blk = i
        · have he2 : ((x.blk : Int) != (i : Int)) = false := by simp [he]
          have HN : Hid ((Ws.mk i R (.slice SA R.length sc) :: othF i (ws.take (k + 1))) = (Ws.mk i R (.slice SA R.length sc) :: othF i (ws.take k))) := by
            show _ = _
            rw [HNXT.out true (decide_eq_true he), if_pos rfl, List.append_nil]
          clear he
          go_wp2_with (first | (apply own_load1 rfl rfl rfl; (first | exact row_rdptr | exact row_wts | exact row_wrs | exact row_int); (first | exact own_get 0 hO rfl | exact own_get 1 hO rfl | exact own_get 2 hO rfl | exact own_get 3 hO rfl | exact own_get 4 hO rfl | exact own_get 5 hO rfl | exact own_get 6 hO rfl | exact own_get 7 hO rfl); (first | (simp only [List.getElem?_toArray, List.getElem?_cons_succ, List.getElem?_cons_zero]; rfl) | rfl)) | (refine own_load1_at (ad := ad.add (k * 2)) (v := .int .i64 x.blk) rfl rfl rfl row_int (HC0.out _ _ (own_order [3] hO rfl)) ?_))
          go_roundw
          case rel => exact ⟨k + 1, ov, by omega, rfl, by go_num, by rw [HN.out]; exact hO, hS⟩
          case measure => simp [intOf]; omega
        · have he2 : ((x.blk : Int) != (i : Int)) = true := by simp; omega
          have HN : Hid ((Ws.mk i R (.slice SA R.length sc) :: othF i (ws.take (k + 1))) = (Ws.mk i R (.slice SA R.length sc) :: othF i (ws.take k)) ++ [x]) := by
            show _ = _
            rw [HNXT.out false (decide_eq_false he), if_neg (by simp)]
            rfl
          clear he
          go_wp2_with (first | (apply own_load1 rfl rfl rfl; (first | exact row_rdptr | exact row_wts | exact row_wrs | exact row_int); (first | exact own_get 0 hO rfl | exact own_get 1 hO rfl | exact own_get 2 hO rfl | exact own_get 3 hO rfl | exact own_get 4 hO rfl | exact own_get 5 hO rfl | exact own_get 6 hO rfl | exact own_get 7 hO rfl); (first | (simp only [List.getElem?_toArray, List.getElem?_cons_succ, List.getElem?_cons_zero]; rfl) | rfl)) | (refine own_load1_at (ad := ad.add (k * 2)) (v := .int .i64 x.blk) rfl rfl rfl row_int (HC0.out _ _ (own_order [3] hO rfl)) ?_) | (refine own_loadrow_at (ad := ad.add (k * 2)) (vs := [.int .i64 x.blk, .slice B2 x.set.length cb2]) rfl rfl rfl row_wr sz_wr rfl (HC.out _ _ (own_order [3] hO rfl)) ?_) | (refine own_append (m := 1) (n := (Ws.mk i R (.slice SA R.length sc) :: othF i (ws.take k)).length) (xs := (cellsS (Ws.mk i R (.slice SA R.length sc) :: othF i (ws.take k)))) (news := [.int .i64 x.blk, .slice B2 x.set.length cb2]) rfl rfl rfl rfl Tryz.underlying104 info_wr3 rfl (by decide) (own_perm (own_alloc_new hO (.cells #[.int .i64 x.blk, .slice B2 x.set.length cb2] 134)) (List.Perm.swap _ _ _)) ?_ (by intro u hu; simp only [List.mem_cons, List.not_mem_nil, or_false] at hu; rcases hu with rfl | rfl <;> rfl) ?_ ?_ ?_; (exact rd_block (own_get 1 (own_perm (own_alloc_new hO (.cells #[.int .i64 x.blk, .slice B2 x.set.length cb2] 134)) (List.Perm.swap _ _ _)) rfl) rfl (by simp) (by simp) (by simp)); (have := HNL.out; unfold maxLen; omega); (have := HNL.out; omega); clear hO; intro v' w9 hO hS9 hv'))
          go_roundw
          case rel => exact ⟨k + 1, v', by omega, rfl, by go_num, by rw [HN.out, List.length_append, List.length_singleton, cellsS_snoc, HYV.out]; exact own_drop (own_swap hO), hS.trans ((Same.alloc _ _).trans hS9)⟩
          case measure => simp [intOf]; omega
      have hke : k = ws.length := by omega
      subst hke
      rw [List.take_length] at hO
      have hov1 := owns_cell1 hO
      go_wp2_with (first | (apply own_load1 rfl rfl rfl; (first | exact row_rdptr | exact row_wts | exact row_wrs | exact row_int); (first | exact own_get 0 hO rfl | exact own_get 1 hO rfl | exact own_get 2 hO rfl | exact own_get 3 hO rfl | exact own_get 4 hO rfl | exact own_get 5 hO rfl | exact own_get 6 hO rfl | exact own_get 7 hO rfl); (first | (simp only [List.getElem?_toArray, List.getElem?_cons_succ, List.getElem?_cons_zero]; rfl) | rfl)) | (refine own_store1 (k := 1) (b := r) (off := 2) (cs' := #[.pointer (some ⟨q, 0, none⟩), lv, ov, .int .i64 E.next]) rfl rfl rfl rfl sz_wrs hO rfl hov1 (by show 2 < 4; decide) rfl ?_; clear hO; intro u hO hSn; replace hS := hS.trans hSn; clear hSn; simp only [List.set_cons_zero, List.set_cons_succ] at hO))
      go_ret2
      refine ⟨rfl, ?_, hS⟩
      obtain ⟨NA, nc, hov⟩ := (owns_rd hO).slice
      subst hov
      have h1 := rdG_owns (own_order [4, 3] hO rfl)
      have h2 := rdG_owns (own_order [1, 0] h1 rfl)
      refine reng_open.2 ⟨q, lv, _, we, Ws.mk i R (.slice SA R.length sc) :: othF i ws, _, ⟨HK.out.1, HK.out.2.1.mono (fun x hx => List.mem_cons_of_mem _ (List.mem_cons_of_mem _ hx)), ?_⟩, own_order [1, 1, 0] (by rw [HT.out] at h2; exact h2) rfl⟩
      have h4 := rsok_set HK.out.2.2 HI.out R (A := NA) (c := nc) (B := SA) (cb := sc)
      rwa [show (Eng.m ⟨E.m.set i (b.wr (E.bytes i b fun x => R.contains (x.n : Int))), E.l, fun j => if j = i then R else E.s j, E.next⟩).length = E.m.length from List.length_set]
theorem rwrite_e (i : Nat) (hO : Own w (rengP r E :: L)) (hk : E.Ok) (hi : i < E.m.length) (hlim : ∀ b ∈ E.m, b.vs.length ≤ 1000000) : Calls Tryz.prog 68 #[.pointer (some ⟨r, 0, none⟩), .int .i64 i] w (Ret w (.tuple #[.int .i64 (E.writeM i).1.1, .int .i64 (E.writeM i).1.2]) (rengP r (E.writeM i).2 :: L)) := by
  obtain ⟨b, hb⟩ : ∃ b, E.m[i]? = some b := ⟨_, List.getElem?_eq_getElem hi⟩
  unfold Eng.writeM
  rw [hb]
  simp only
  by_cases h1 : readyL E.l i = []
  · rw [if_pos (.inl h1)]
    exact rwrite_enone w L r E i b hO hk hb h1
  · by_cases h2 : readyL E.l i = E.s i
    · rw [if_pos (.inr h2)]
      exact rwrite_esame w L r E i b hO hk hb h1 h2
    · rw [if_neg (fun h => h.elim h1 h2)]
      by_cases h3 : b.bad = true
      · rw [if_pos h3]
        exact rwrite_ebad w L r E i b hO hk hb h1 h2 h3
      · rw [if_neg h3]
        exact rwrite_edid w L r E i b hO hk hb h1 h2 (by simpa using h3) (hlim b (List.mem_of_getElem? hb))
end
end Go.Proofs.YtlmkcnkidkoilaaGreat.H
set_option linter.unusedVariables false
set_option linter.unusedSimpArgs false
namespace Go.Proofs.YtlmkcnkidkoilaaGreat.H
open Go.RowKit
/-- What is said of each number: what it must come behind. -/
structure Beh (ds : List (List Int)) (E : Eng) : Prop where
  next : E.next = ds.length
  right : ∀ (n : Nat) (l : List Int), ds[n]? = some l → ∀ d ∈ l, 0 ≤ d ∧ d < (n : Int)
  up : ∀ (n : Nat) (l : List Int), ds[n]? = some l → (n : Int) ∉ wnums E.l → ∀ d ∈ l, d ∉ wnums E.l
  link : ∀ x ∈ E.l, ∀ l, ds[x.n]? = some l → ∀ d ∈ l, d ∈ x.beh
theorem Beh.fresh (m : List Blk) : Beh [] ⟨m, [], fun _ => [], 0⟩ :=
  ⟨rfl, fun n l h => by simp at h, fun n l h => by simp at h, fun x hx => (by cases hx)⟩
theorem write_l (E : Eng) (i : Nat) : (E.writeM i).2.l = E.l := by
  rcases write_cases E i with h | ⟨b, _, _, _, _, h⟩ <;> rw [h]
theorem write_next (E : Eng) (i : Nat) : (E.writeM i).2.next = E.next := by
  rcases write_cases E i with h | ⟨b, _, _, _, _, h⟩ <;> rw [h]
theorem write_len (E : Eng) (i : Nat) : (E.writeM i).2.m.length = E.m.length := by
  rcases write_cases E i with h | ⟨b, _, _, _, _, h⟩ <;> rw [h]
  exact List.length_set
theorem flushed_len (E : Eng) : E.flushed.m.length = E.m.length := by
  show (crashL allV 0 E.m).length = _
  rw [crashL_len]
theorem Beh.write {ds : List (List Int)} {E : Eng} (h : Beh ds E) (i : Nat) : Beh ds (E.writeM i).2 :=
  ⟨by rw [write_next]; exact h.next, h.right, by rw [write_l]; exact h.up, by rw [write_l]; exact h.link⟩
theorem wnums_filter_sub {l : List Wt} {f : Wt → Bool} {d : Int} (h : d ∈ wnums (l.filter f)) : d ∈ wnums l := by
  obtain ⟨x, hx, e⟩ := List.mem_map.1 h
  exact List.mem_map.2 ⟨x, List.filter_sublist.subset hx, e⟩
theorem Beh.flushed {ds : List (List Int)} {E : Eng} (h : Beh ds E) (hI : E.Inv) (hA : E.Ok) : Beh ds E.flushed := by
  refine ⟨h.next, h.right, fun n l hl hn d hd hw => ?_, fun x hx l hl => h.link x (List.filter_sublist.subset hx) l hl⟩
  have hn : (n : Int) ∉ wnums (E.l.filter fun x => !inAny E.m.length E.s x.n) := hn
  have hw : d ∈ wnums (E.l.filter fun x => !inAny E.m.length E.s x.n) := hw
  have hwl := wnums_filter_sub hw
  by_cases h1 : (n : Int) ∈ wnums E.l
  · obtain ⟨x, hx, e⟩ := List.mem_map.1 h1
    have e : (x.n : Int) = n := e
    have e2 : x.n = n := by omega
    subst e2
    have h2 : inAny E.m.length E.s x.n = true := by
      cases h3 : inAny E.m.length E.s x.n with
      | true => rfl
      | false => exact absurd (List.mem_map.2 ⟨x, List.mem_filter.2 ⟨hx, by rw [h3]; rfl⟩, rfl⟩) hn
    unfold inAny at h2
    obtain ⟨i, hi, h4⟩ := List.any_eq_true.1 h2
    have h5 := hI.closed i x hx (by simpa using h4) d (h.link x hx l hl d hd) hwl
    obtain ⟨y, hy, e3⟩ := List.mem_map.1 hw
    have e3 : (y.n : Int) = d := e3
    have h6 := (List.mem_filter.1 hy).2
    have h7 : inAny E.m.length E.s y.n = true := by
      unfold inAny
      exact List.any_eq_true.2 ⟨i, hi, by rw [e3]; simpa using h5⟩
    have h6 : (!inAny E.m.length E.s (y.n : Int)) = true := h6
    rw [h7] at h6
    cases h6
  · exact h.up n l hl h1 d hd hwl
theorem Beh.add1 {ds : List (List Int)} {E : Eng} (h : Beh ds E) (hA : E.Ok) (first : Nat) (x : It) (hx : ∀ d ∈ x.deps, 0 ≤ d ∧ d < (E.next : Int)) : Beh (ds ++ [x.deps]) (E.add1 first x) := by
  have hw : wnums (E.add1 first x).l = wnums E.l ++ [(E.next : Int)] := by
    show wnums (E.l ++ [_]) = _
    unfold wnums
    rw [List.map_append]
    rfl
  have hold : ∀ (n : Nat) (l : List Int), (ds ++ [x.deps])[n]? = some l → (n < ds.length ∧ ds[n]? = some l) ∨ (n = E.next ∧ l = x.deps) := fun n l hl => by
    by_cases hn : n < ds.length
    · rw [List.getElem?_append_left hn] at hl
      exact .inl ⟨hn, hl⟩
    · rw [List.getElem?_append_right (by omega)] at hl
      have h1 := (List.getElem?_eq_some_iff.1 hl).1
      rw [List.length_singleton] at h1
      have e : n - ds.length = 0 := by omega
      rw [e] at hl
      have e2 : x.deps = l := by simpa using hl
      exact .inr ⟨by rw [h.next]; omega, e2.symm⟩
  refine ⟨?_, fun n l hl => ?_, fun n l hl hn d hd hd2 => ?_, fun y hy l hl d hd => ?_⟩
  · show E.next + 1 = _
    rw [List.length_append, List.length_singleton, h.next]
  · rcases hold n l hl with ⟨_, h1⟩ | ⟨rfl, rfl⟩
    · exact h.right n l h1
    · exact hx
  · rw [hw] at hn hd2
    rcases hold n l hl with ⟨h0, h1⟩ | ⟨rfl, rfl⟩
    · rcases List.mem_append.1 hd2 with hd2 | hd2
      · exact h.up n l h1 (fun hh => hn (List.mem_append_left _ hh)) d hd hd2
      · have h2 := (h.right n l h1 d hd).2
        have h3 := List.mem_singleton.1 hd2
        rw [h.next] at h3
        omega
    · exact hn (List.mem_append_right _ (List.mem_singleton.2 rfl))
  · have hy : y ∈ E.l ++ [_] := hy
    rcases List.mem_append.1 hy with hy | hy
    · rcases hold y.n l hl with ⟨h0, h1⟩ | ⟨h0, _⟩
      · exact h.link y hy l h1 d hd
      · have := hA.lt y hy
        omega
    · rw [List.mem_singleton.1 hy] at hl ⊢
      rcases hold E.next l hl with ⟨h0, _⟩ | ⟨_, rfl⟩
      · rw [h.next] at h0; omega
      · refine List.mem_append_left _ (List.mem_map.2 ⟨d, hd, ?_⟩)
        unfold Eng.depOf
        rw [if_neg (by have := (hx d hd).1; omega)]
/-- Those that last. -/
def doneL (ds : List (List Int)) (E : Eng) : List Nat := (List.range ds.length).filter fun n : Nat => !(wnums E.l).contains (n : Int)
theorem Beh.closed {ds : List (List Int)} {E : Eng} (h : Beh ds E) {n : Nat} {l : List Int} (hl : ds[n]? = some l) (hn : n ∈ doneL ds E) {d : Int} (hd : d ∈ l) : d.toNat ∈ doneL ds E ∧ 0 ≤ d ∧ d < (n : Int) := by
  have h1 := (List.mem_filter.1 hn).2
  have h2 := h.right n l hl d hd
  have h3 := (List.getElem?_eq_some_iff.1 hl).1
  have h4 := h.up n l hl (by simpa using h1) d hd
  refine ⟨List.mem_filter.2 ⟨List.mem_range.2 (by omega), ?_⟩, h2⟩
  have e : ((d.toNat : Nat) : Int) = d := Int.toNat_of_nonneg h2.1
  rw [e]
  simpa using h4
end Go.Proofs.YtlmkcnkidkoilaaGreat.H
