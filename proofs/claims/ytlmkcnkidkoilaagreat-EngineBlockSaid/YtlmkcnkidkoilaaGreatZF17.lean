/- EngineRefuses, EngineBlock, EngineSyncs: the walks. -/
import Derived.Test.YtlmkcnkidkoilaaGreatZ38
set_option linter.unusedVariables false
set_option linter.unusedSimpArgs false
set_option maxRecDepth 100000
namespace Go.Proofs.YtlmkcnkidkoilaaGreat.H
open Go.RowKit
theorem bcs_cellF {w : World} {ad : Addr} {n c k : Nat} {l : List UInt8} {x : UInt8} (h : Rd w 1 (.slice (some ad) n c) n (bcs l)) (hx : l[k]? = some x) : w.cell? (ad.add k) = some (.int .u8 (x.toNat : Int)) := by
  have h1 : w.cell? ((ad.add (k * 1)).add 0) = some (.int .u8 (x.toNat : Int)) := h.cell (by rw [Nat.mul_one, Nat.add_zero]; unfold bcs; rw [List.getElem?_map, hx]; rfl)
  rwa [addr_add, Nat.mul_one, Nat.add_zero] at h1
/-- Those of the first numbers that do not wait. -/
theorem none_in : ∀ x ∈ ([] : List Int), inI x := fun x hx => by cases hx
theorem addM_two (E : Eng) (l : List It) (hl : E.l.length ≤ 200) : (∃ x : Int, x ≠ 0 ∧ E.addM l = ((0, x), E)) ∨ (∃ E2 : Eng, E.addM l = (((E.next : Int), 0), E2) ∧ E2.l.length = E.l.length + l.length ∧ E2.next = E.next + l.length ∧ E2.l.length ≤ 200) := by
  unfold Eng.addM
  split
  · exact .inl ⟨3, by decide, rfl⟩
  · split
    · exact .inl ⟨2, by decide, rfl⟩
    · split
      · exact .inl ⟨11, by decide, rfl⟩
      · have h1 := Eng.addK_len E E.next l
        have h2 := Eng.addK_next E E.next l
        exact .inr ⟨_, rfl, h1, h2, by omega⟩
set_option maxHeartbeats 3200000 in
/-- EngineRefuses: the walk. -/
theorem erefuses_law (w : World) (A0 : Option Addr) (n0 c0 : Nat) (ds : List EDeed) (h : ArgY w A0 n0 c0 ds) (A1 : Option Addr) (n1 c1 : Nat) (il : List Iv) (hn1 : n1 = il.length) (hr : Rd w 4 (.slice A1 n1 c1) n1 (cellsI il)) (hi : ∀ x ∈ il, Iv.At w x) :
    Calls Tryz.prog 6 #[.slice A0 n0 c0, .slice A1 n1 c1] w (fun e w' => e = .returned (.bool true) ∧ Below w.heap.size w w') := by
  subst hn1
  have HA := Lib.hid h
  obtain ⟨N, hN⟩ : ∃ N, N = (fewI il).length := ⟨_, rfl⟩
  have hN12 := few_len il
  rw [← hN] at hN12
  have hat : ∀ w2, Own w2 [snap w] → ∀ x ∈ il, Iv.At w2 x := fun w2 h2 x hx => ivk (hi x hx) (fun i o ho => own_kept h2 i o ho)
  have hO : Own w [snap w] := own_snap
  have HF : Hid (∀ (w' : World) (L' : List HP), (∀ w2, Own w2 L' → Own w2 [snap w]) → Own w' L' → Calls Tryz.prog 23 #[.slice A1 il.length c1] w' (RetX w' (fun v : Value => v) (fun v => owns 66 4 v N (cellsI (fewI il)) :: L'))) := Lib.hid fun w' L' hs h' => by
    rw [hN]
    exact few_c w' L' A1 il.length c1 il h' rfl (fun w2 h2 => rd_snapE hr (hs w2 h2)) (fun x hx => by
      obtain ⟨A1, c1, e1, h1⟩ := iv_dep (C := fun w2 => Own w2 [snap w]) hO (fun w2 h2 => hat w2 h2 x hx)
      exact ⟨A1, c1, e1, fun w2 h2 => h1 w2 (hs w2 h2)⟩)
  have HADD : Hid (∀ (E : Eng) (p : Nat) (w' : World) (v : Value) (L' : List HP), E.Ok → (∀ w2, Own w2 L' → Own w2 [snap w]) → Own w' (engP p E :: owns 66 4 v N (cellsI (fewI il)) :: L') → Calls Tryz.prog 22 #[.pointer (some ⟨p, 0, none⟩), v] w' (Ret w' (.tuple #[.int .i64 (E.addM (fewT (il.map (·.1)))).1.1, .int .i64 (E.addM (fewT (il.map (·.1)))).1.2]) (engP p (E.addM (fewT (il.map (·.1)))).2 :: owns 66 4 v N (cellsI (fewI il)) :: L'))) := Lib.hid fun E p w' v L' hk hs h' => by
    rw [← few_map]
    refine eadd_c w' _ p E v N (fewI il) h' hk hN (by omega) (fun w2 h2 => owns_rd h2) (fun x hx => ?_) (few_lo (hat w hO)) (fun x hx => by have := few_dl il x hx; omega)
    obtain ⟨A1, c1, e1, h1⟩ := few_dep (C := fun w2 => Own w2 [snap w]) hO hat x hx
    exact ⟨A1, c1, e1, fun w2 h2 => h1 w2 (hs w2 (own_drop h2))⟩
  have HTL : Hid ((fewT (il.map (·.1))).length = N) := by show _ = _; rw [← few_map, List.length_map, hN]
  have HPA : Hid (∀ E : Eng, Pk 24 E → Pk 25 (E.addM (fewT (il.map (·.1)))).2) := Lib.hid fun E hE => by
    rw [← few_map]
    exact hE.add (by decide) _ (by rw [List.length_map]; omega) (fun x hx => by
      obtain ⟨y, hy, rfl⟩ := List.mem_map.1 hx
      exact few_dl il y hy)
  have hS := Same.refl w
  clear h hr hi hat hN
  go_enter Tryz.func6, Tryz.ntmps6
  go_upto_region 4 with (first | (go_at_call 8; (with_reducible refine Calls.mono (play_es _ _ _ _ _ ds HA.out _ hO) ?_); clear hO; rintro e u ⟨p, q, E, hpk, rfl, hO, hSn⟩; replace hS := hS.trans hSn; clear hSn; have HPK := Lib.hid hpk; clear hpk) | (go_at_call 9; (with_reducible refine Calls.mono (elive_c _ _ hO) ?_); clear hO; rintro e u ⟨rfl, hO, hSn⟩; replace hS := hS.trans hSn; clear hSn))
  obtain ⟨wl, hwl⟩ : ∃ wl, wl = E.l.length := ⟨_, rfl⟩
  have hwl200 : wl ≤ 200 := by rw [hwl]; exact HPK.out.ok.len
  have HW : Hid (∀ (w' : World) (L' : List HP), Own w' (engP p E :: L') → Calls Tryz.prog 19 #[.pointer (some ⟨p, 0, none⟩)] w' (RetX w' (fun v : Value => v) (fun v => owns 3 1 v wl (zs E.waiting) :: engP p E :: L'))) := Lib.hid fun w' L' h => by rw [hwl]; exact ewaiting_c w' L' p E h HPK.out.ok
  rcases addM_two E (fewT (il.map (·.1))) HPK.out.ok.len with ⟨x, hx, hP⟩ | ⟨E2, hP, h1, h2, h3⟩
  · have HAD : Hid (∀ (w' : World) (v : Value) (L' : List HP), (∀ w2, Own w2 L' → Own w2 [snap w]) → Own w' (engP p E :: owns 66 4 v N (cellsI (fewI il)) :: L') → Calls Tryz.prog 22 #[.pointer (some ⟨p, 0, none⟩), v] w' (Ret w' (.tuple #[.int .i64 0, .int .i64 x]) (engP p E :: owns 66 4 v N (cellsI (fewI il)) :: L'))) := Lib.hid fun w' v L' hs h' => by
      have h := HADD.out E p w' v L' HPK.out.ok hs h'
      rw [hP] at h
      exact h
    have hx2 : (x != 0) = true := by simpa using hx
    clear hP hwl hx
    go_upto_region 6 with (first | (go_at_call 23; (with_reducible refine Calls.mono (HF.out _ _ (fun w2 h => own_drop (own_drop h)) hO) ?_); clear hO; rintro e u ⟨v, rfl, hO, hSn⟩; replace hS := hS.trans hSn; clear hSn) | (go_at_call 19; (with_reducible refine Calls.mono (HW.out _ _ hO) ?_); clear hO; rintro e u ⟨v, rfl, hO, hSn⟩; replace hS := hS.trans hSn; clear hSn; obtain ⟨VA, vc, rfl⟩ := (owns_rd hO).slice; replace hO := own_drop hO) | (go_at_call 22; (with_reducible refine Calls.mono (HAD.out _ _ _ (fun w2 h => own_drop h) (own_order [1, 0] hO rfl)) ?_); clear hO; rintro e u ⟨rfl, hO, hSn⟩; replace hS := hS.trans hSn; clear hSn; replace hO := own_skip hO; try simp only [List.eraseIdx_cons_succ, List.eraseIdx_zero, List.tail_cons] at hO))
    go_wp2_with (first | (go_at_call 21; (with_reducible refine Calls.mono (same_e _ _ p q 24 E (.slice none 0 0) [] hO HPK.out (by decide) (fun w2 h => rd_nil _ _) none_in) ?_); clear hO; rintro e u ⟨rfl, hO, hSn⟩; replace hS := hS.trans hSn; clear hSn))
    go_ret
    exact ⟨rfl, below_of (own_at hO (k := 2) rfl) hS⟩
  · rw [HTL.out] at h1 h2
    obtain ⟨w2, hw2⟩ : ∃ w2, w2 = E2.l.length := ⟨_, rfl⟩
    obtain ⟨nx, hnx⟩ : ∃ nx, nx = E.next := ⟨_, rfl⟩
    obtain ⟨n2, hn2⟩ : ∃ n2, n2 = E2.next := ⟨_, rfl⟩
    have hlim := HPK.out.next
    have HAD : Hid (∀ (w' : World) (v : Value) (L' : List HP), (∀ w2, Own w2 L' → Own w2 [snap w]) → Own w' (engP p E :: owns 66 4 v N (cellsI (fewI il)) :: L') → Calls Tryz.prog 22 #[.pointer (some ⟨p, 0, none⟩), v] w' (Ret w' (.tuple #[.int .i64 nx, .int .i64 0]) (engP p E2 :: owns 66 4 v N (cellsI (fewI il)) :: L'))) := Lib.hid fun w' v L' hs h' => by
      have h := HADD.out E p w' v L' HPK.out.ok hs h'
      rw [hP] at h
      rw [hnx]
      exact h
    have HPK2 : Hid (Pk 25 E2) := by
      have h := HPA.out E HPK.out
      rw [hP] at h
      exact h
    have HW2 : Hid (∀ (w' : World) (L' : List HP), Own w' (engP p E2 :: L') → Calls Tryz.prog 19 #[.pointer (some ⟨p, 0, none⟩)] w' (RetX w' (fun v : Value => v) (fun v => owns 3 1 v w2 (zs E2.waiting) :: engP p E2 :: L'))) := Lib.hid fun w' L' h => by rw [hw2]; exact ewaiting_c w' L' p E2 h HPK2.out.ok
    have HNX : Hid (∀ (w' : World) (L' : List HP), Own w' (engP p E2 :: L') → Calls Tryz.prog 14 #[.pointer (some ⟨p, 0, none⟩)] w' (Ret w' (.int .i64 n2) (engP p E2 :: L'))) := Lib.hid fun w' L' h => by rw [hn2]; exact enext_c w' L' p E2 h
    have HRX : Hid (∀ (w' : World) (L' : List HP), Own w' (rengP q E :: L') → Calls Tryz.prog 24 #[.pointer (some ⟨q, 0, none⟩)] w' (Ret w' (.int .i64 nx) (rengP q E :: L'))) := Lib.hid fun w' L' h => by rw [hnx]; exact rnext_e w' L' q E h
    have hsum1 : IntKind.i64.wrap ((wl : Int) + (N : Int)) = (w2 : Int) := by rw [IntKind.wrap_i64] <;> omega
    have hsum2 : IntKind.i64.wrap ((nx : Int) + (N : Int)) = (n2 : Int) := by rw [IntKind.wrap_i64] <;> omega
    have hw3 : (w2 : Int) ≤ 200 := by omega
    clear hP hwl h1 h2 h3 hw2 hnx hn2 hlim
    go_upto_region 6 with (first | (go_at_call 23; (with_reducible refine Calls.mono (HF.out _ _ (fun w2 h => own_drop (own_drop h)) hO) ?_); clear hO; rintro e u ⟨v, rfl, hO, hSn⟩; replace hS := hS.trans hSn; clear hSn) | (go_at_call 19; (with_reducible refine Calls.mono (HW.out _ _ hO) ?_); clear hO; rintro e u ⟨v, rfl, hO, hSn⟩; replace hS := hS.trans hSn; clear hSn; obtain ⟨VA, vc, rfl⟩ := (owns_rd hO).slice; replace hO := own_drop hO) | (go_at_call 22; (with_reducible refine Calls.mono (HAD.out _ _ _ (fun w2 h => own_drop h) (own_order [1, 0] hO rfl)) ?_); clear hO; rintro e u ⟨rfl, hO, hSn⟩; replace hS := hS.trans hSn; clear hSn; replace hO := own_skip hO; try simp only [List.eraseIdx_cons_succ, List.eraseIdx_zero, List.tail_cons] at hO))
    go_wp2_with (first | (go_at_call 23; (with_reducible refine Calls.mono (HF.out _ _ (fun w2 h => own_drop (own_drop h)) hO) ?_); clear hO; rintro e u ⟨v, rfl, hO, hSn⟩; replace hS := hS.trans hSn; clear hSn; obtain ⟨VA, vc, rfl⟩ := (owns_rd hO).slice; replace hO := own_drop hO) | (go_at_call 19; (with_reducible refine Calls.mono (HW2.out _ _ hO) ?_); clear hO; rintro e u ⟨v, rfl, hO, hSn⟩; replace hS := hS.trans hSn; clear hSn; obtain ⟨VA, vc, rfl⟩ := (owns_rd hO).slice; replace hO := own_drop hO) | (go_at_call 14; (with_reducible refine Calls.mono (call_at 0 (fun L' h => HNX.out _ L' h) rfl hO) ?_); clear hO; rintro e u ⟨rfl, hO, hSn⟩; replace hS := hS.trans hSn; clear hSn; simp only [List.set_cons_zero, List.set_cons_succ] at hO) | (go_at_call 24; (with_reducible refine Calls.mono (call_at 1 (fun L' h => HRX.out _ L' h) rfl hO) ?_); clear hO; rintro e u ⟨rfl, hO, hSn⟩; replace hS := hS.trans hSn; clear hSn; simp only [List.set_cons_zero, List.set_cons_succ] at hO))
    go_ret
    exact ⟨rfl, below_of (own_at hO (k := 2) rfl) hS⟩
/-- Behind some Writes and Flushes. -/
structure Bw (E F : Eng) (k : Nat) : Prop where
  ok : F.Ok
  inv : F.Inv
  vl : Vl k F
  m5 : F.m.length = 5
  next : F.next = E.next
  blk : ∀ (i : Nat) (b : Blk), E.m[i]? = some b → ∃ b', F.m[i]? = some b' ∧ F.blockM i b' = E.blockM i b
theorem Bw.start {E : Eng} {k : Nat} (h : Pk k E) : Bw E E k := ⟨h.ok, h.inv, h.vl, h.m5, rfl, fun i b hb => ⟨b, hb, rfl⟩⟩
theorem Bw.write {E F : Eng} {k : Nat} (h : Bw E F k) (j : Nat) : Bw E (F.writeM j).2 (k + 1) :=
  ⟨h.ok.write j, h.inv.write h.ok j, h.vl.write j, by rw [write_len]; exact h.m5, by rw [write_next]; exact h.next, fun i b hb => by
    obtain ⟨b', h1, h2⟩ := h.blk i b hb
    obtain ⟨b2, h3, h4⟩ := write_block (i := j) h1
    exact ⟨b2, h3, h4.trans h2⟩⟩
theorem Bw.mono {E F : Eng} {k k' : Nat} (h : Bw E F k) (hk : k ≤ k') : Bw E F k' := ⟨h.ok, h.inv, h.vl.mono hk, h.m5, h.next, h.blk⟩
theorem Bw.flushed {E F : Eng} {k : Nat} (h : Bw E F k) : Bw E F.flushed k :=
  ⟨h.ok.flushed, h.inv.flushed h.ok, Vl.flushed k, by rw [flushed_len]; exact h.m5, h.next, fun i b hb => by
    obtain ⟨b', h1, h2⟩ := h.blk i b hb
    obtain ⟨b2, h3, h4⟩ := flush_block h.inv h.ok h1
    exact ⟨b2, h3, h4.trans h2⟩⟩
set_option maxHeartbeats 6400000 in
/-- EngineBlock: the walk. -/
theorem eblock_law (w : World) (A0 : Option Addr) (n0 c0 : Nat) (ds : List EDeed) (h : ArgY w A0 n0 c0 ds) (A1 : Option Addr) (n1 c1 : Nat) (ws : List UInt8) (hn1 : n1 = ws.length) (hr : Rd w 1 (.slice A1 n1 c1) n1 (bcs ws)) :
    Calls Tryz.prog 3 #[.slice A0 n0 c0, .slice A1 n1 c1] w (fun e w' => e = .returned (.bool true) ∧ Below w.heap.size w w') := by
  subst hn1
  have HA := Lib.hid h
  have hmx := hr.max
  have HR : Hid (∀ (w' : World) (L' : List HP), Own w' (snap w :: L') → Rd w' 1 (.slice A1 ws.length c1) ws.length (bcs ws)) := Lib.hid fun w' L' h' => rd_snapE hr h'
  have hO : Own w [snap w] := own_snap
  have hS := Same.refl w
  clear h hr
  go_enter Tryz.func3, Tryz.ntmps3
  go_wp2_with (first | (go_at_call 8; (with_reducible refine Calls.mono (play_es _ _ _ _ _ ds HA.out _ hO) ?_); clear hO; rintro e u ⟨p, q, E, hpk, rfl, hO, hSn⟩; replace hS := hS.trans hSn; clear hSn; have HPK := Lib.hid hpk; clear hpk) | (go_at_call 9; (with_reducible refine Calls.mono (elive_c _ _ hO) ?_); clear hO; rintro e u ⟨rfl, hO, hSn⟩; replace hS := hS.trans hSn; clear hSn) | (go_at_call 10; (with_reducible refine Calls.mono (efork_c _ _ p E hO HPK.out.ok (HPK.out.lim (by decide))) ?_); clear hO; rintro e u ⟨f, rfl, hO, hSn⟩; replace hS := hS.trans hSn; clear hSn))
  have hO : Own u (engP p E :: engP f E :: [snap w]) := own_sub (own_swap hO) (.cons_cons _ (.cons_cons _ (.cons _ (List.Sublist.refl _))))
  go_loopw [9] (fun iv wr => ∃ (i : Nat) (F : Eng), i ≤ ws.length ∧ i ≤ 20 ∧ iv = .int .i64 i ∧ Hid (Bw E F (24 + i)) ∧ Own wr (engP p F :: engP f E :: [snap w]) ∧ Same w wr) (fun iv _ => ws.length - (intOf iv).toNat)
  case atStart => exact ⟨0, E, Nat.zero_le _, Nat.zero_le _, rfl, Bw.start HPK.out, hO, hS⟩
  case round =>
    clear hO hS
    obtain ⟨i, F, hi, hi20, rfl, HB, hO, hS⟩ := hrel
    by_cases hgo : i < ws.length ∧ i < 20
    · obtain ⟨hlt3, h20⟩ := hgo
      have f1 : decide (i < 20) = true := by simpa using h20
      have f2 : (i : Int) < 20 := by omega
      have hn1 : (i : Int) < ws.length := by omega
      obtain ⟨y, hy⟩ : ∃ y, ws[i]? = some y := ⟨_, List.getElem?_eq_getElem hlt3⟩
      obtain ⟨ad3, e3⟩ := (HR.out _ _ (own_at hO (k := 2) rfl)).addr (by rw [bcs_length]; omega)
      subst e3
      have HCB : Hid (∀ w' L', Own w' (snap w :: L') → w'.cell? (ad3.add i) = some (.int .u8 (y.toNat : Int))) := Lib.hid fun w' L' h => bcs_cellF (HR.out w' L' h) hy
      have hyb : (y.toNat : Int) ≤ 255 := by have := y.toNat_lt; omega
      obtain ⟨j, hq⟩ : ∃ j, j = y.toNat % 6 := ⟨_, rfl⟩
      have hq5 : j < 6 := by omega
      have hK : (y.toNat : Int).tmod 6 = (j : Int) := by rw [Int.tmod_eq_emod_of_nonneg (by omega), hq]; rfl
      have hwr : ∃ (a x : Int) (F2 : Eng), Bw E F2 (24 + (i + 1)) ∧ ∀ (w' : World) (L' : List HP), Own w' (engP p F :: L') → Calls Tryz.prog 11 #[.pointer (some ⟨p, 0, none⟩), .int .i64 j] w' (Ret w' (.tuple #[.int .i64 a, .int .i64 x]) (engP p F2 :: L')) := by
        by_cases h5 : j < 5
        · exact ⟨_, _, _, HB.out.write j, fun w' L' h => ewrite_c w' L' p F j h HB.out.ok (by rw [HB.out.m5]; exact h5) (fun b hb => by have := HB.out.vl b hb; omega)⟩
        · exact ⟨0, 2, F, HB.out.mono (by omega), fun w' L' h => ewrite_no w' L' p F j h (.inr (by have := HB.out.m5; omega))⟩
      obtain ⟨a, x, F2, hB2, hW2⟩ := hwr
      have HB2 := Lib.hid hB2
      have HWR := Lib.hid hW2
      have HFL : Hid (∀ (w' : World) (L' : List HP), Own w' (engP p F2 :: L') → Calls Tryz.prog 12 #[.pointer (some ⟨p, 0, none⟩)] w' (Ret w' (.int .i64 0) (engP p F2.flushed :: L'))) := Lib.hid fun w' L' h => eflush_c w' L' p F2 h hB2.ok (fun b hb => by have := hB2.vl b hb; omega)
      clear hy hq hB2 hW2
      go_upto_region 9 with (first | (refine own_load1_at (ad := ad3.add i) (v := .int .u8 (y.toNat : Int)) rfl rfl rfl row_u8 (HCB.out _ _ (own_at hO (k := 2) rfl)) ?_) | (go_at_call 11; (with_reducible refine Calls.mono (call_at 0 (fun L' h => HWR.out _ L' h) rfl hO) ?_); clear hO; rintro e u ⟨rfl, hO, hSn⟩; replace hS := hS.trans hSn; clear hSn; simp only [List.set_cons_zero, List.set_cons_succ] at hO))
      obtain ⟨r3, hr3⟩ : ∃ r3, (y.toNat : Int).tmod 5 = r3 := ⟨_, rfl⟩
      by_cases h30 : r3 = 0
      · subst h30
        have HB3 : Hid (Bw E F2.flushed (24 + (i + 1))) := HB2.out.flushed
        go_wp2_with (first | (refine own_load1_at (ad := ad3.add i) (v := .int .u8 (y.toNat : Int)) rfl rfl rfl row_u8 (HCB.out _ _ (own_at hO (k := 2) rfl)) ?_) | (go_at_call 12; (with_reducible refine Calls.mono (call_at 0 (fun L' h => HFL.out _ L' h) rfl hO) ?_); clear hO; rintro e u ⟨rfl, hO, hSn⟩; replace hS := hS.trans hSn; clear hSn; simp only [List.set_cons_zero, List.set_cons_succ] at hO))
        go_roundw
        case rel => exact ⟨i + 1, _, by omega, by omega, by go_num, HB3, hO, hS⟩
        case measure => simp [intOf]; omega
      · have h31 : (r3 == 0) = false := by simpa using h30
        have HB3 : Hid (Bw E F2 (24 + (i + 1))) := HB2
        go_wp2_with (first | (refine own_load1_at (ad := ad3.add i) (v := .int .u8 (y.toNat : Int)) rfl rfl rfl row_u8 (HCB.out _ _ (own_at hO (k := 2) rfl)) ?_))
        go_roundw
        case rel => exact ⟨i + 1, _, by omega, by omega, by go_num, HB3, hO, hS⟩
        case measure => simp [intOf]; omega
    · have HB44 : Hid (Bw E F 44) := HB.out.mono (by omega)
      by_cases hlt : i < ws.length
      · have f3 : (i : Int) < ws.length := by omega
        have f4 : ¬ ((i : Int) < 20) := by omega
        have f5 : decide (i < 20) = false := decide_eq_false (by omega)
        clear hgo hlt
        go_wp2
        go_loopw [10] (fun iv wr => ∃ i : Nat, i ≤ 5 ∧ iv = .int .i64 i ∧ Own wr (engP p F :: engP f E :: [snap w]) ∧ Same w wr) (fun iv _ => 5 - (intOf iv).toNat)
        case atStart => exact ⟨0, Nat.zero_le _, rfl, hO, hS⟩
        case round =>
          clear hO hS
          obtain ⟨j, hj, rfl, hO, hS⟩ := hrel
          by_cases hlt : j < 5
          · have hm1 : (j : Int) < 5 := by omega
            obtain ⟨b, hb⟩ : ∃ b, E.m[j]? = some b := ⟨_, List.getElem?_eq_getElem (by have := HPK.out.m5; omega)⟩
            obtain ⟨b', hb', heq⟩ := HB44.out.blk j b hb
            obtain ⟨T, hT⟩ : ∃ T, T = E.blockM j b := ⟨_, rfl⟩
            have h32 : T.length = 32 := by
              rw [hT]
              unfold Eng.blockM Eng.bytes
              refine appAll_32 (HPK.out.inv.s32 b (List.mem_of_getElem? hb)) (fun p hp => ?_)
              obtain ⟨x, hx, rfl⟩ := List.mem_map.1 hp
              exact (HPK.out.ok.right x (List.filter_sublist.subset hx)).1
            have HN : Hid (32 = T.length) := h32.symm
            have HBF : Hid (∀ (w' : World) (L' : List HP), Own w' (engP f E :: L') → Calls Tryz.prog 13 #[.pointer (some ⟨f, 0, none⟩), .int .i64 j] w' (RetX w' (fun v : Value => .tuple #[v, .int .i64 0]) (fun v => rdA 1 v 32 (bcs T) :: engP f E :: L'))) := Lib.hid fun w' L' h => by
              refine (eblock_ok w' L' f E j b h HPK.out.ok hb).mono ?_
              rintro e w2 ⟨g, rfl, h1, h2⟩
              exact ⟨_, rfl, rdA_pts h32 (by rw [hT]; exact h1), h2⟩
            have HBP : Hid (∀ (w' : World) (L' : List HP), Own w' (engP p F :: L') → Calls Tryz.prog 13 #[.pointer (some ⟨p, 0, none⟩), .int .i64 j] w' (RetX w' (fun v : Value => .tuple #[v, .int .i64 0]) (fun v => rdA 1 v 32 (bcs T) :: engP p F :: L'))) := Lib.hid fun w' L' h => by
              refine (eblock_ok w' L' p F j b' h HB44.out.ok hb').mono ?_
              rintro e w2 ⟨g, rfl, h1, h2⟩
              exact ⟨_, rfl, rdA_pts h32 (by rw [hT, ← heq]; exact h1), h2⟩
            clear hb hb' heq hT h32
            go_upto_region 15 with (first | (go_at_call 13; (with_reducible refine Calls.mono (HBP.out _ _ hO) ?_); clear hO; rintro e u ⟨va, rfl, hO, hSn⟩; replace hS := hS.trans hSn; clear hSn))
            go_wp2_with (first | (go_at_call 13; (with_reducible refine Calls.mono (HBF.out _ _ (own_order [2] hO rfl)) ?_); clear hO; rintro e u ⟨vb, rfl, hO, hSn⟩; replace hS := hS.trans hSn; clear hSn) | (refine own_string (v := va) (n := 32) (bs := T) rfl rfl rfl Tryz.underlying23 Tryz.underlying5 Tryz.underlying9 HN.out (rdA_rd (own_at hO (k := 2) rfl)) ?_) | (refine own_string (v := vb) (n := 32) (bs := T) rfl rfl rfl Tryz.underlying23 Tryz.underlying5 Tryz.underlying9 HN.out (rdA_rd (own_at hO (k := 0) rfl)) ?_))
            have hO := own_sub (own_order [3, 1] hO rfl) (.cons_cons _ (.cons_cons _ (.cons _ (.cons _ (List.Sublist.refl _)))))
            go_roundw
            case rel => exact ⟨j + 1, by omega, by go_num, hO, hS⟩
            case measure => simp [intOf]; omega
          · have hje : j = 5 := by omega
            subst hje
            have HNA : Hid (∀ (w' : World) (L' : List HP), Own w' (engP p F :: L') → Calls Tryz.prog 14 #[.pointer (some ⟨p, 0, none⟩)] w' (Ret w' (.int .i64 E.next) (engP p F :: L'))) := Lib.hid fun w' L' h => by rw [← HB44.out.next]; exact enext_c w' L' p F h
            go_wp2_with (first | (go_at_call 14; (first | (with_reducible refine Calls.mono (HNA.out _ _ hO) ?_) | (with_reducible refine Calls.mono (enext_c _ _ f E (own_swap hO)) ?_)); clear hO; rintro e u ⟨rfl, hO, hSn⟩; replace hS := hS.trans hSn; clear hSn))
            go_ret
            exact ⟨rfl, below_of (own_at hO (k := 2) rfl) hS⟩
      · have f3 : ¬ ((i : Int) < ws.length) := by omega
        clear hgo hlt
        go_wp2
        go_loopw [10] (fun iv wr => ∃ i : Nat, i ≤ 5 ∧ iv = .int .i64 i ∧ Own wr (engP p F :: engP f E :: [snap w]) ∧ Same w wr) (fun iv _ => 5 - (intOf iv).toNat)
        case atStart => exact ⟨0, Nat.zero_le _, rfl, hO, hS⟩
        case round =>
          clear hO hS
          obtain ⟨j, hj, rfl, hO, hS⟩ := hrel
          by_cases hlt : j < 5
          · have hm1 : (j : Int) < 5 := by omega
            obtain ⟨b, hb⟩ : ∃ b, E.m[j]? = some b := ⟨_, List.getElem?_eq_getElem (by have := HPK.out.m5; omega)⟩
            obtain ⟨b', hb', heq⟩ := HB44.out.blk j b hb
            obtain ⟨T, hT⟩ : ∃ T, T = E.blockM j b := ⟨_, rfl⟩
            have h32 : T.length = 32 := by
              rw [hT]
              unfold Eng.blockM Eng.bytes
              refine appAll_32 (HPK.out.inv.s32 b (List.mem_of_getElem? hb)) (fun p hp => ?_)
              obtain ⟨x, hx, rfl⟩ := List.mem_map.1 hp
              exact (HPK.out.ok.right x (List.filter_sublist.subset hx)).1
            have HN : Hid (32 = T.length) := h32.symm
            have HBF : Hid (∀ (w' : World) (L' : List HP), Own w' (engP f E :: L') → Calls Tryz.prog 13 #[.pointer (some ⟨f, 0, none⟩), .int .i64 j] w' (RetX w' (fun v : Value => .tuple #[v, .int .i64 0]) (fun v => rdA 1 v 32 (bcs T) :: engP f E :: L'))) := Lib.hid fun w' L' h => by
              refine (eblock_ok w' L' f E j b h HPK.out.ok hb).mono ?_
              rintro e w2 ⟨g, rfl, h1, h2⟩
              exact ⟨_, rfl, rdA_pts h32 (by rw [hT]; exact h1), h2⟩
            have HBP : Hid (∀ (w' : World) (L' : List HP), Own w' (engP p F :: L') → Calls Tryz.prog 13 #[.pointer (some ⟨p, 0, none⟩), .int .i64 j] w' (RetX w' (fun v : Value => .tuple #[v, .int .i64 0]) (fun v => rdA 1 v 32 (bcs T) :: engP p F :: L'))) := Lib.hid fun w' L' h => by
              refine (eblock_ok w' L' p F j b' h HB44.out.ok hb').mono ?_
              rintro e w2 ⟨g, rfl, h1, h2⟩
              exact ⟨_, rfl, rdA_pts h32 (by rw [hT, ← heq]; exact h1), h2⟩
            clear hb hb' heq hT h32
            go_upto_region 15 with (first | (go_at_call 13; (with_reducible refine Calls.mono (HBP.out _ _ hO) ?_); clear hO; rintro e u ⟨va, rfl, hO, hSn⟩; replace hS := hS.trans hSn; clear hSn))
            go_wp2_with (first | (go_at_call 13; (with_reducible refine Calls.mono (HBF.out _ _ (own_order [2] hO rfl)) ?_); clear hO; rintro e u ⟨vb, rfl, hO, hSn⟩; replace hS := hS.trans hSn; clear hSn) | (refine own_string (v := va) (n := 32) (bs := T) rfl rfl rfl Tryz.underlying23 Tryz.underlying5 Tryz.underlying9 HN.out (rdA_rd (own_at hO (k := 2) rfl)) ?_) | (refine own_string (v := vb) (n := 32) (bs := T) rfl rfl rfl Tryz.underlying23 Tryz.underlying5 Tryz.underlying9 HN.out (rdA_rd (own_at hO (k := 0) rfl)) ?_))
            have hO := own_sub (own_order [3, 1] hO rfl) (.cons_cons _ (.cons_cons _ (.cons _ (.cons _ (List.Sublist.refl _)))))
            go_roundw
            case rel => exact ⟨j + 1, by omega, by go_num, hO, hS⟩
            case measure => simp [intOf]; omega
          · have hje : j = 5 := by omega
            subst hje
            have HNA : Hid (∀ (w' : World) (L' : List HP), Own w' (engP p F :: L') → Calls Tryz.prog 14 #[.pointer (some ⟨p, 0, none⟩)] w' (Ret w' (.int .i64 E.next) (engP p F :: L'))) := Lib.hid fun w' L' h => by rw [← HB44.out.next]; exact enext_c w' L' p F h
            go_wp2_with (first | (go_at_call 14; (first | (with_reducible refine Calls.mono (HNA.out _ _ hO) ?_) | (with_reducible refine Calls.mono (enext_c _ _ f E (own_swap hO)) ?_)); clear hO; rintro e u ⟨rfl, hO, hSn⟩; replace hS := hS.trans hSn; clear hSn))
            go_ret
            exact ⟨rfl, below_of (own_at hO (k := 2) rfl) hS⟩
end Go.Proofs.YtlmkcnkidkoilaaGreat.H
