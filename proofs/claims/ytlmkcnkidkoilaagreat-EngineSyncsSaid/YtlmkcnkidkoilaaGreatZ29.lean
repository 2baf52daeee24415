/- The reference's engine: last. The reference's engine: Flush. The reference's engine: Ready. -/
import Derived.Test.YtlmkcnkidkoilaaGreatZ24
import Derived.Test.YtlmkcnkidkoilaaGreatZ28
import Derived.Test.YtlmkcnkidkoilaaGreatZ27
set_option linter.unusedVariables false
set_option linter.unusedSimpArgs false
set_option maxRecDepth 100000
namespace Go.Proofs.YtlmkcnkidkoilaaGreat.H
open Go.RowKit
/-- The slice of what stood in the last Write of a block. -/
def lookV (l : List Ws) (i : Nat) : Value := ((l.find? fun x => decide (x.blk = i)).map (·.v)).getD (.slice none 0 0)
theorem lookV_rd {n : Nat} {s : Nat → List Int} {ws : List Ws} {wv : Value} {g : List RdI} (h : RSOk n s ws wv g) (i : Nat) : ∃ A c, lookV ws i = .slice A (s i).length c ∧ ((⟨1, .slice A (s i).length c, (s i).length, zs (s i)⟩ : RdI) ∈ g ∨ (A = none ∧ c = 0 ∧ s i = [])) := by
  rw [h.look i]
  unfold lookV lookS
  cases hf : ws.find? fun x => decide (x.blk = i) with
  | none => exact ⟨none, 0, rfl, .inr ⟨rfl, rfl, rfl⟩⟩
  | some x =>
    obtain ⟨A, c, e, hm⟩ := h.sets x (List.mem_of_find?_eq_some hf)
    exact ⟨A, c, e, .inl hm⟩
theorem wrs_cells {w : World} {ad : Addr} {n c : Nat} {ws : List Ws} (h : Rd w 2 (.slice (some ad) n c) n (cellsS ws)) {k : Nat} {x : Ws} (hx : ws[k]? = some x) : w.cell? (ad.add (k * 2)) = some (.int .i64 x.blk) ∧ w.cell? ((ad.add (k * 2)).add 1) = some x.v := by
  have h0 := h.cell (cellsS_at ws k x hx 0 _ rfl)
  have h1 := h.cell (cellsS_at ws k x hx 1 _ rfl)
  refine ⟨?_, h1⟩
  rwa [addr_add, Nat.add_zero] at h0
theorem find_take {ws : List Ws} {i k : Nat} {x : Ws} (hn : ∀ y ∈ ws.take k, y.blk ≠ i) (hx : ws[k]? = some x) (he : x.blk = i) : (ws.find? fun x => decide (x.blk = i)) = some x := by
  have e : ws = ws.take k ++ x :: ws.drop (k + 1) := by
    obtain ⟨hk, e2⟩ := List.getElem?_eq_some_iff.1 hx
    conv => lhs; rw [← List.take_append_drop k ws, List.drop_eq_getElem_cons hk, e2]
  rw [e, List.find?_append, List.find?_eq_none.2 (fun y hy => by simpa using hn y hy)]
  simp [he]
section
variable (w : World) (L : List HP) (r : Nat)
theorem rlast_o (q : Nat) (lv wv : Value) (n : Nat) (s : Nat → List Int) (ws : List Ws) (g : List RdI) (next : Nat) (m : List Blk) (hR : RSOk n s ws wv g) (i : Nat) (hO : Own w (rO r q lv wv next m g L)) : Calls Tryz.prog 98 #[.pointer (some ⟨r, 0, none⟩), .int .i64 i] w (Ret w (lookV ws i) (rO r q lv wv next m g L)) := by
  obtain ⟨A, c, rfl, hm⟩ := hR.rd
  have HRD : Hid (∀ (w' : World) (A1 B1 : HP), Own w' (A1 :: B1 :: rdG g :: L) → Rd w' 2 (.slice A ws.length c) ws.length (cellsS ws)) := Lib.hid fun w' A1 B1 h => rdG_rd (own_at h (k := 2) rfl) hm
  have HSET : Hid (∀ x ∈ ws, ∃ A c, x.v = .slice A x.set.length c) := Lib.hid fun x hx => by obtain ⟨A, c, e, _⟩ := hR.sets x hx; exact ⟨A, c, e⟩
  have hmw := (rdG_rd (own_at hO (k := 2) rfl) hm).max
  have hS := Same.refl w
  clear hR hm
  go_enter Tryz.func98, Tryz.ntmps98
  go_wp2
  go_loopw [5] (fun iv wr => ∃ k : Nat, k ≤ ws.length ∧ iv = .int .i64 k ∧ Hid (∀ y ∈ ws.take k, y.blk ≠ i) ∧ Own wr (rO r q lv (.slice A ws.length c) next m g L) ∧ Same w wr) (fun iv _ => ws.length - (intOf iv).toNat)
  case atStart => exact ⟨0, Nat.zero_le _, rfl, Lib.hid (fun y hy => by simp at hy), hO, hS⟩
  case round =>
    clear hO hS
    obtain ⟨k, hk, rfl, HNO, hO, hS⟩ := hrel
    by_cases hlt : k < ws.length
    · obtain ⟨x, hx⟩ : ∃ x, ws[k]? = some x := ⟨_, List.getElem?_eq_getElem hlt⟩
      have hrd := HRD.out _ _ _ hO
      have HNOW := Lib.hid hO
      obtain ⟨ad, e1⟩ := hrd.addr (by rw [cellsS_length]; omega)
      subst e1
      have hO := HNOW.out
      have HC := Lib.hid (wrs_cells hrd hx)
      have hm1 : (k : Int) < ws.length := by omega
      obtain ⟨B, cb, hxv⟩ := HSET.out x (List.mem_of_getElem? hx)
      clear hrd HNOW
      by_cases he : x.blk = i
      · have HL : Hid (lookV ws i = .slice B x.set.length cb) := by
          show _ = _
          unfold lookV
          rw [find_take HNO.out hx he]
          exact hxv
        have he2 : ((x.blk : Int) == (i : Int)) = true := by rw [beq_iff_eq]; omega
        rw [hxv] at HC
        clear hx he hxv
        go_wp2_with (first | (apply own_load1 rfl rfl rfl; (first | exact row_rdptr | exact row_wts | exact row_wrs | exact row_int); (first | exact own_get 0 hO rfl | exact own_get 1 hO rfl | exact own_get 2 hO rfl | exact own_get 3 hO rfl | exact own_get 4 hO rfl | exact own_get 5 hO rfl | exact own_get 6 hO rfl | exact own_get 7 hO rfl); (first | (simp only [List.getElem?_toArray, List.getElem?_cons_succ, List.getElem?_cons_zero]; rfl) | rfl)) | (refine own_load1_at (ad := ad.add (k * 2)) (v := .int .i64 x.blk) rfl rfl rfl row_int HC.out.1 ?_) | (refine own_load1_at (ad := (ad.add (k * 2)).add 1) (v := .slice B x.set.length cb) rfl rfl rfl row_zs HC.out.2 ?_))
        go_ret
        exact ⟨by rw [HL.out]; rfl, hO, hS⟩
      · have he2 : ((x.blk : Int) == (i : Int)) = false := by rw [beq_eq_false_iff_ne]; omega
        have HN2 : Hid (∀ y ∈ ws.take (k + 1), y.blk ≠ i) := Lib.hid fun y hy => by
          rw [List.take_add_one, hx] at hy
          rcases List.mem_append.1 hy with hy | hy
          · exact HNO.out y hy
          · have e : y = x := by simpa using hy
            rw [e]; exact he
        clear hx he hxv
        go_wp2_with (first | (apply own_load1 rfl rfl rfl; (first | exact row_rdptr | exact row_wts | exact row_wrs | exact row_int); (first | exact own_get 0 hO rfl | exact own_get 1 hO rfl | exact own_get 2 hO rfl | exact own_get 3 hO rfl | exact own_get 4 hO rfl | exact own_get 5 hO rfl | exact own_get 6 hO rfl | exact own_get 7 hO rfl); (first | (simp only [List.getElem?_toArray, List.getElem?_cons_succ, List.getElem?_cons_zero]; rfl) | rfl)) | (refine own_load1_at (ad := ad.add (k * 2)) (v := .int .i64 x.blk) rfl rfl rfl row_int HC.out.1 ?_))
        go_roundw
        case rel => exact ⟨k + 1, by omega, by go_num, HN2, hO, hS⟩
        case measure => simp [intOf]; omega
    · have hke : k = ws.length := by omega
      subst hke
      have HL : Hid (lookV ws i = .slice none 0 0) := by
        show _ = _
        unfold lookV
        have := HNO.out
        rw [List.take_length] at this
        rw [List.find?_eq_none.2 (fun y hy => by simpa using this y hy)]
        rfl
      go_wp2_with (first | (apply own_load1 rfl rfl rfl; (first | exact row_rdptr | exact row_wts | exact row_wrs | exact row_int); (first | exact own_get 0 hO rfl | exact own_get 1 hO rfl | exact own_get 2 hO rfl | exact own_get 3 hO rfl | exact own_get 4 hO rfl | exact own_get 5 hO rfl | exact own_get 6 hO rfl | exact own_get 7 hO rfl); (first | (simp only [List.getElem?_toArray, List.getElem?_cons_succ, List.getElem?_cons_zero]; rfl) | rfl)))
      go_ret
      exact ⟨by rw [HL.out]; rfl, hO, hS⟩
end
end Go.Proofs.YtlmkcnkidkoilaaGreat.H
set_option linter.unusedVariables false
set_option linter.unusedSimpArgs false
set_option maxRecDepth 100000
namespace Go.Proofs.YtlmkcnkidkoilaaGreat.H
open Go.RowKit
theorem sz_wts : (Tryz.prog.info? 103).map (·.size) = some 1 := by kernel_rfl
theorem sz_wrs : (Tryz.prog.info? 104).map (·.size) = some 1 := by kernel_rfl
theorem we_one5 (x : We) (h : x.2.oneCell' = true) : ∀ u ∈ [Value.int .i64 x.1.n, .int .i64 x.1.p.blk, .int .i64 x.1.p.off, .string x.1.p.dat, x.2], u.oneCell' = true := by
  intro u hu
  simp only [List.mem_cons, List.not_mem_nil, or_false] at hu
  rcases hu with rfl | rfl | rfl | rfl | rfl
  · rfl
  · rfl
  · rfl
  · rfl
  · exact h
abbrev stayF (n : Nat) (s : Nat → List Int) (l : List We) : List We := l.filter fun x => !inAny n s x.1.n
theorem stayF_next (n : Nat) (s : Nat → List Int) {l : List We} {k : Nat} {x : We} (hx : l[k]? = some x) {b : Bool} (hb : inAny n s x.1.n = b) : stayF n s (l.take (k + 1)) = stayF n s (l.take k) ++ (if b then [] else [x]) := by
  unfold stayF
  rw [List.take_add_one, hx, List.filter_append]
  congr 1
  show List.filter _ [x] = _
  rw [List.filter_cons, hb]
  cases b <;> rfl
theorem stayF_len (n : Nat) (s : Nat → List Int) (l : List We) (k : Nat) : (stayF n s (l.take k)).length ≤ l.length := by
  refine Nat.le_trans (List.length_filter_le _ _) ?_
  rw [List.length_take]
  omega
theorem cellsW_snoc (l : List We) (x : We) : cellsW (l ++ [x]) = cellsW l ++ [.int .i64 x.1.n, .int .i64 x.1.p.blk, .int .i64 x.1.p.off, .string x.1.p.dat, x.2] := by
  rw [cellsW_app]
  simp [cellsW, We.cells]
section
variable (w : World) (L : List HP) (r : Nat) (E : Eng)
set_option maxHeartbeats 3200000 in
theorem rflush_e (hO : Own w (rengP r E :: L)) (hl : E.l.length ≤ 200) : Calls Tryz.prog 69 #[.pointer (some ⟨r, 0, none⟩)] w (Ret w (.int .i64 0) (rengP r E.flushed :: L)) := by
  obtain ⟨q, lv, wv, we, ws, g, hkk, hO⟩ := reng_open.1 hO
  have HK := Lib.hid hkk
  have hwl : we.length ≤ 200 := by rw [← hkk.1, List.length_map] at hl; exact hl
  have hwl2 : ws.length ≤ 96 := by
    have h1 := hkk.2.2.nod
    have h2 := hkk.2.2.key
    have hm96 : E.m.length ≤ 96 := by
      obtain ⟨_, _, _, _, _, ⟨hk, _⟩, _⟩ := rdisk_open.1 (own_order [1] hO rfl)
      exact hk.len
    have h3 : (ws.map (·.blk)).length ≤ E.m.length := by
      have hsub : ∀ a ∈ ws.map (·.blk), a ∈ List.range E.m.length := fun a ha => by
        obtain ⟨x, hx, rfl⟩ := List.mem_map.1 ha
        exact List.mem_range.2 (h2 x hx)
      have := (List.nodup_iff_pairwise_ne.1 h1 |> fun _ => h1).length_le_of_subset hsub
      rwa [List.length_range] at this
    rw [List.length_map] at h3
    omega
  obtain ⟨A, c, rfl, hm⟩ := hkk.2.1.rd
  obtain ⟨B, cb, rfl, hmb⟩ := hkk.2.2.rd
  have HW := Lib.hid hkk.2.1
  have HANY : Hid (∀ x : Int, inAny E.m.length E.s x = ws.any fun y => y.set.contains x) := Lib.hid fun x => hkk.2.2.any x
  have HSETS := Lib.hid hkk.2.2.sets
  have hmw := (rdG_rd (own_at hO (k := 2) rfl) hm).max
  have hmw2 := (rdG_rd (own_at hO (k := 2) rfl) hmb).max
  have HRB : Hid (∀ (w' : World) (L' : List HP), Own w' (rdG g :: L') → Rd w' 2 (.slice B ws.length cb) ws.length (cellsS ws)) := Lib.hid fun w' L' h => rdG_rd h hmb
  have hS := Same.refl w
  clear hkk hm hmb hl
  go_enter Tryz.func69, Tryz.ntmps69
  go_wp2_with (first | (apply own_load1 rfl rfl rfl; (first | exact row_rdptr | exact row_wts | exact row_wrs | exact row_int); (first | exact own_get 0 hO rfl | exact own_get 1 hO rfl | exact own_get 2 hO rfl | exact own_get 3 hO rfl | exact own_get 4 hO rfl | exact own_get 5 hO rfl | exact own_get 6 hO rfl | exact own_get 7 hO rfl); (first | (simp only [List.getElem?_toArray, List.getElem?_cons_succ, List.getElem?_cons_zero]; rfl) | rfl)) | (go_at_call 73; (with_reducible refine Calls.mono (call_at 1 (fun L' h => rflush_c _ L' q E.m h) rfl hO) ?_); clear hO; rintro e u ⟨rfl, hO, hSn⟩; replace hS := hS.trans hSn; clear hSn; simp only [List.set_cons_zero, List.set_cons_succ] at hO))
  go_loopw [3, 4] (fun pv iv wr => ∃ (k : Nat) (ov : Value), k ≤ we.length ∧ ov = pv ∧ iv = .int .i64 k ∧ Own wr (owns 125 5 ov (stayF E.m.length E.s (we.take k)).length (cellsW (stayF E.m.length E.s (we.take k))) :: rO r q (.slice A we.length c) (.slice B ws.length cb) E.next (crashL allV 0 E.m) g L) ∧ Same w wr) (fun _ iv _ => we.length - (intOf iv).toNat)
  case atStart => exact ⟨0, _, Nat.zero_le _, rfl, rfl, owns_nil hO, hS⟩
  case round =>
    clear hO hS
    obtain ⟨k, ov, hk, hov, rfl, hO, hS⟩ := hrel
    subst hov
    by_cases hlt : k < we.length
    · obtain ⟨⟨x, xv⟩, hx⟩ : ∃ x, we[k]? = some x := ⟨_, List.getElem?_eq_getElem hlt⟩
      obtain ⟨A2, c2, e2, _⟩ := HW.out.beh _ (List.mem_of_getElem? hx)
      have e2 : xv = .slice A2 x.beh.length c2 := e2
      subst e2
      obtain ⟨ad, c', e1, hc⟩ := wat HW.out hx (own_at hO (k := 3) rfl)
      have e3 : A = some ad := by injection e1
      have HC : Hid (∀ (w' : World) (L' : List HP), Own w' (rdG g :: L') → ∀ (j : Nat) (u : Value), (We.cells (x, .slice A2 x.beh.length c2))[j]? = some u → w'.cell? ((ad.add (k * 5)).add j) = some u) := Lib.hid fun w' L' h => hc _ w' h
      have HNOW := Lib.hid hO
      subst e3
      have hO := HNOW.out
      have hm1 : (k : Int) < we.length := by omega
      have HNXT := Lib.hid (fun b0 hb0 => stayF_next E.m.length E.s hx (b := b0) hb0)
      have HBL : Hid ((stayF E.m.length E.s (we.take k)).length ≤ 200) := by have := stayF_len E.m.length E.s we k; show _ ≤ _; omega
      clear hx hc e1 HNOW
      go_wp2_with (first | (apply own_load1 rfl rfl rfl; (first | exact row_rdptr | exact row_wts | exact row_wrs | exact row_int); (first | exact own_get 0 hO rfl | exact own_get 1 hO rfl | exact own_get 2 hO rfl | exact own_get 3 hO rfl | exact own_get 4 hO rfl | exact own_get 5 hO rfl | exact own_get 6 hO rfl | exact own_get 7 hO rfl); (first | (simp only [List.getElem?_toArray, List.getElem?_cons_succ, List.getElem?_cons_zero]; rfl) | rfl)))
      go_loopw [5, 6] (fun bv jv wr => ∃ (j : Nat) (b : Bool), j ≤ ws.length ∧ bv = .bool b ∧ jv = .int .i64 j ∧ Hid (b = (ws.take j).any fun y => y.set.contains (x.n : Int)) ∧ Own wr (owns 125 5 ov (stayF E.m.length E.s (we.take k)).length (cellsW (stayF E.m.length E.s (we.take k))) :: rO r q (.slice (some ad) we.length c) (.slice B ws.length cb) E.next (crashL allV 0 E.m) g L) ∧ Same w wr) (fun _ jv _ => ws.length - (intOf jv).toNat)
      case atStart => exact ⟨0, false, Nat.zero_le _, rfl, rfl, Lib.hid rfl, hO, hS⟩
      case round =>
        clear hO hS
        obtain ⟨j, b, hj, rfl, rfl, HB, hO, hS⟩ := hrel
        by_cases hlt2 : j < ws.length
        · obtain ⟨y, hy⟩ : ∃ y, ws[j]? = some y := ⟨_, List.getElem?_eq_getElem hlt2⟩
          have hrb := HRB.out _ _ (own_at hO (k := 3) rfl)
          have HNOW := Lib.hid hO
          obtain ⟨adb, e5⟩ := hrb.addr (by rw [cellsS_length]; omega)
          subst e5
          have hO := HNOW.out
          obtain ⟨B2, cb2, hyv, hyg⟩ := HSETS.out y (List.mem_of_getElem? hy)
          have HCY : Hid (∀ (w' : World) (L' : List HP), Own w' (rdG g :: L') → w'.cell? ((adb.add (j * 2)).add 1) = some (.slice B2 y.set.length cb2)) := Lib.hid fun w' L' h => by
            have h2 := (wrs_cells (HRB.out w' L' h) hy).2
            rw [hyv] at h2
            exact h2
          have HYR : Hid (∀ (w' : World) (L' : List HP), Own w' (rdG g :: L') → Rd w' 1 (.slice B2 y.set.length cb2) y.set.length (zs y.set)) := Lib.hid fun w' L' h => rdG_rd h hyg
          have hm2 : (j : Int) < ws.length := by omega
          have HNB : Hid (((ws.take (j + 1)).any fun y => y.set.contains (x.n : Int)) = (b || y.set.contains (x.n : Int))) := by
            show _ = _
            rw [HB.out, List.take_add_one, hy]
            simp only [Option.toList_some, List.any_append, List.any_cons, List.any_nil, Bool.or_false]
          clear hy hrb hyv hyg HNOW
          go_upto_region 12 with (first | (apply own_load1 rfl rfl rfl; (first | exact row_rdptr | exact row_wts | exact row_wrs | exact row_int); (first | exact own_get 0 hO rfl | exact own_get 1 hO rfl | exact own_get 2 hO rfl | exact own_get 3 hO rfl | exact own_get 4 hO rfl | exact own_get 5 hO rfl | exact own_get 6 hO rfl | exact own_get 7 hO rfl); (first | (simp only [List.getElem?_toArray, List.getElem?_cons_succ, List.getElem?_cons_zero]; rfl) | rfl)))
          cases b with
          | true =>
            refine wp_region_seq (Cls _ (owns 125 5 ov (stayF E.m.length E.s (we.take k)).length (cellsW (stayF E.m.length E.s (we.take k))) :: rO r q (.slice (some ad) we.length c) (.slice (some adb) ws.length cb) E.next (crashL allV 0 E.m) g L)) 20 71 mixed (by kernel_rfl) rfl (cls_drew hO) ?_
            simp only [List.append_eq, List.cons_append, List.nil_append, List.take_succ_cons, List.take_zero]
            repeat (first
              | (apply wv_skip rfl; simp only [Act.put, List.setIfInBounds_toArray, List.set_cons_zero, List.set_cons_succ])
              | (apply wv_load1 rfl rfl rfl; (first | exact row_int | exact row_str | exact row_bool | exact row_u8 | exact row_bys | exact row_pats | exact row_err); (intro w h; (first | exact own_get 0 h.1 rfl | exact own_get 1 h.1 rfl | exact own_get 2 h.1 rfl | exact own_get 3 h.1 rfl | exact own_get 4 h.1 rfl | exact own_get 5 h.1 rfl | exact own_get 6 h.1 rfl | exact own_get 7 h.1 rfl)); (first | (simp only [List.getElem?_toArray, List.getElem?_cons_succ, List.getElem?_cons_zero]; rfl) | rfl); simp only [Act.put, List.setIfInBounds_toArray, List.set_cons_zero, List.set_cons_succ])
              | (apply wv_loadrow rfl rfl rfl; (first | exact row_pat); exact sz_pat; (intro w h; (first | exact own_get 0 h.1 rfl | exact own_get 1 h.1 rfl | exact own_get 2 h.1 rfl | exact own_get 3 h.1 rfl | exact own_get 4 h.1 rfl | exact own_get 5 h.1 rfl | exact own_get 6 h.1 rfl | exact own_get 7 h.1 rfl)); (focus (simp; done)); (first | (simp only [List.drop_zero, List.drop_succ_cons, List.take_succ_cons, List.take_zero]; rfl) | rfl); simp only [Act.put, List.setIfInBounds_toArray, List.set_cons_zero, List.set_cons_succ])
              | (apply wv_run rfl; (focus (intro w h; go_simp; first | done | rfl)); simp only [Act.put, List.setIfInBounds_toArray, List.set_cons_zero, List.set_cons_succ])
              | (apply wv_call rfl; (focus (intro w; go_simp; first | done | exact ⟨rfl, rfl⟩)); (focus (intro w h; apply cls_call h; fail)); simp only [Act.put, List.setIfInBounds_toArray, List.set_cons_zero, List.set_cons_succ]))
            refine wv_nil ?_
            simp only [List.drop_succ_cons, List.drop_zero]
            intro w5 ⟨hO5, hS5⟩
            clear hO
            go_wp2
            go_roundw
            case rel => exact ⟨j + 1, true, by omega, rfl, by go_num, Lib.hid (by rw [HNB.out]; rfl), hO5, hS.trans hS5⟩
            case measure => simp [intOf]; omega
          | false =>
            obtain ⟨bh, hbh⟩ : ∃ bh, y.set.contains (x.n : Int) = bh := ⟨_, rfl⟩
            have HBH := Lib.hid hbh
            have HN2 : Hid (((ws.take (j + 1)).any fun y => y.set.contains (x.n : Int)) = bh) := by show _ = _; rw [HNB.out, hbh]; rfl
            clear hbh
            refine wp_region_seq (Cls _ (owns 125 5 ov (stayF E.m.length E.s (we.take k)).length (cellsW (stayF E.m.length E.s (we.take k))) :: rO r q (.slice (some ad) we.length c) (.slice (some adb) ws.length cb) E.next (crashL allV 0 E.m) g L)) 20 71 mixed (by kernel_rfl) rfl (cls_drew hO) ?_
            simp only [List.append_eq, List.cons_append, List.nil_append, List.take_succ_cons, List.take_zero]
            repeat (first
              | (apply wv_skip rfl; simp only [Act.put, List.setIfInBounds_toArray, List.set_cons_zero, List.set_cons_succ])
              | (refine wv_load1 (b := r) (off := 2) (cs := #[.pointer (some ⟨q, 0, none⟩), .slice (some ad) we.length c, .slice (some adb) ws.length cb, .int .i64 E.next]) (t := 106) (v := .slice (some adb) ws.length cb) rfl rfl rfl row_wrs (fun w h => own_get 1 h.1 rfl) rfl ?_; simp only [Act.put, List.setIfInBounds_toArray, List.set_cons_zero, List.set_cons_succ])
              | (refine wv_load1 (b := r) (off := 1) (cs := #[.pointer (some ⟨q, 0, none⟩), .slice (some ad) we.length c, .slice (some adb) ws.length cb, .int .i64 E.next]) (t := 106) (v := .slice (some ad) we.length c) rfl rfl rfl row_wts (fun w h => own_get 1 h.1 rfl) rfl ?_; simp only [Act.put, List.setIfInBounds_toArray, List.set_cons_zero, List.set_cons_succ])
              | (refine wv_load1_at (ad := (adb.add (j * 2)).add 1) (v := .slice B2 y.set.length cb2) rfl rfl rfl row_zs (fun w h => HCY.out _ _ (own_at h.1 (k := 3) rfl)) ?_; simp only [Act.put, List.setIfInBounds_toArray, List.set_cons_zero, List.set_cons_succ])
              | (refine wv_load1_at (ad := ad.add (k * 5)) (v := .int .i64 x.n) rfl rfl rfl row_int (fun w h => ent_cell0 (HC.out _ _ (own_at h.1 (k := 3) rfl))) ?_; simp only [Act.put, List.setIfInBounds_toArray, List.set_cons_zero, List.set_cons_succ])
              | (apply wv_load1 rfl rfl rfl; (first | exact row_int | exact row_str | exact row_bool | exact row_u8 | exact row_bys | exact row_pats | exact row_err); (intro w h; (first | exact own_get 0 h.1 rfl | exact own_get 1 h.1 rfl | exact own_get 2 h.1 rfl | exact own_get 3 h.1 rfl | exact own_get 4 h.1 rfl | exact own_get 5 h.1 rfl | exact own_get 6 h.1 rfl | exact own_get 7 h.1 rfl)); (first | (simp only [List.getElem?_toArray, List.getElem?_cons_succ, List.getElem?_cons_zero]; rfl) | rfl); simp only [Act.put, List.setIfInBounds_toArray, List.set_cons_zero, List.set_cons_succ])
              | (apply wv_loadrow rfl rfl rfl; (first | exact row_pat); exact sz_pat; (intro w h; (first | exact own_get 0 h.1 rfl | exact own_get 1 h.1 rfl | exact own_get 2 h.1 rfl | exact own_get 3 h.1 rfl | exact own_get 4 h.1 rfl | exact own_get 5 h.1 rfl | exact own_get 6 h.1 rfl | exact own_get 7 h.1 rfl)); (focus (simp; done)); (first | (simp only [List.drop_zero, List.drop_succ_cons, List.take_succ_cons, List.take_zero]; rfl) | rfl); simp only [Act.put, List.setIfInBounds_toArray, List.set_cons_zero, List.set_cons_succ])
              | (apply wv_run rfl; (focus (intro w h; go_simp; first | done | rfl)); simp only [Act.put, List.setIfInBounds_toArray, List.set_cons_zero, List.set_cons_succ])
              | (apply wv_call rfl; (focus (intro w; go_simp; first | done | exact ⟨rfl, rfl⟩)); (focus (intro w h; apply cls_call h; (exact ghas_c _ _ (.slice B2 y.set.length cb2) y.set.length y.set (x.n : Int) (r := bh) rfl HBH.out h.1 (fun w' h => HYR.out _ _ (own_at h (k := 3) rfl))))); simp only [Act.put, List.setIfInBounds_toArray, List.set_cons_zero, List.set_cons_succ]))
            refine wv_nil ?_
            simp only [List.drop_succ_cons, List.drop_zero]
            intro w5 ⟨hO5, hS5⟩
            clear hO
            go_wp2
            go_roundw
            case rel => exact ⟨j + 1, bh, by omega, rfl, by go_num, Lib.hid HN2.out.symm, hO5, hS.trans hS5⟩
            case measure => simp [intOf]; omega
        · have hje : j = ws.length := by omega
          subst hje
          rw [List.take_length] at HB
          have HNX := Lib.hid (HNXT.out b (by rw [HANY.out]; exact HB.out.symm))
          cases b with
          | true =>
            go_wp2_with (first | (apply own_load1 rfl rfl rfl; (first | exact row_rdptr | exact row_wts | exact row_wrs | exact row_int); (first | exact own_get 0 hO rfl | exact own_get 1 hO rfl | exact own_get 2 hO rfl | exact own_get 3 hO rfl | exact own_get 4 hO rfl | exact own_get 5 hO rfl | exact own_get 6 hO rfl | exact own_get 7 hO rfl); (first | (simp only [List.getElem?_toArray, List.getElem?_cons_succ, List.getElem?_cons_zero]; rfl) | rfl)))
            go_roundw
            case rel => exact ⟨k + 1, ov, by omega, rfl, by go_num, by rw [HNX.out, if_pos rfl, List.append_nil]; exact hO, hS⟩
            case measure => simp [intOf]; omega
          | false =>
            go_wp2_with (first | (apply own_load1 rfl rfl rfl; (first | exact row_rdptr | exact row_wts | exact row_wrs | exact row_int); (first | exact own_get 0 hO rfl | exact own_get 1 hO rfl | exact own_get 2 hO rfl | exact own_get 3 hO rfl | exact own_get 4 hO rfl | exact own_get 5 hO rfl | exact own_get 6 hO rfl | exact own_get 7 hO rfl); (first | (simp only [List.getElem?_toArray, List.getElem?_cons_succ, List.getElem?_cons_zero]; rfl) | rfl)) | (refine own_loadrow_at (ad := ad.add (k * 5)) (vs := [.int .i64 x.n, .int .i64 x.p.blk, .int .i64 x.p.off, .string x.p.dat, .slice A2 x.beh.length c2]) rfl rfl rfl row_wt sz_wt rfl (HC.out _ _ (own_at hO (k := 3) rfl)) ?_) | (refine own_append (m := 1) (n := (stayF E.m.length E.s (we.take k)).length) (xs := (cellsW (stayF E.m.length E.s (we.take k)))) (news := [.int .i64 x.n, .int .i64 x.p.blk, .int .i64 x.p.off, .string x.p.dat, .slice A2 x.beh.length c2]) rfl rfl rfl rfl Tryz.underlying103 info_wt3 rfl (by decide) (own_perm (own_alloc_new hO (.cells #[.int .i64 x.n, .int .i64 x.p.blk, .int .i64 x.p.off, .string x.p.dat, .slice A2 x.beh.length c2] 125)) (List.Perm.swap _ _ _)) ?_ (we_one5 (x, .slice A2 x.beh.length c2) rfl) ?_ ?_ ?_; (exact rd_block (own_get 1 (own_perm (own_alloc_new hO (.cells #[.int .i64 x.n, .int .i64 x.p.blk, .int .i64 x.p.off, .string x.p.dat, .slice A2 x.beh.length c2] 125)) (List.Perm.swap _ _ _)) rfl) rfl (by simp) (by simp) (by simp)); (have := HBL.out; unfold maxLen; omega); (have := HBL.out; omega); clear hO; intro v' w9 hO hS9 hv'))
            go_roundw
            case rel => exact ⟨k + 1, v', by omega, rfl, by go_num, by rw [HNX.out, if_neg (by simp), List.length_append, List.length_singleton, cellsW_snoc]; exact own_drop (own_swap hO), hS.trans ((Same.alloc _ _).trans hS9)⟩
            case measure => simp [intOf]; omega
    · have hke : k = we.length := by omega
      subst hke
      rw [List.take_length] at hO
      have hov1 := owns_cell1 hO
      go_wp2_with (first | (apply own_load1 rfl rfl rfl; (first | exact row_rdptr | exact row_wts | exact row_wrs | exact row_int); (first | exact own_get 0 hO rfl | exact own_get 1 hO rfl | exact own_get 2 hO rfl | exact own_get 3 hO rfl | exact own_get 4 hO rfl | exact own_get 5 hO rfl | exact own_get 6 hO rfl | exact own_get 7 hO rfl); (first | (simp only [List.getElem?_toArray, List.getElem?_cons_succ, List.getElem?_cons_zero]; rfl) | rfl)) | (refine own_store1 (k := 1) (b := r) (off := 1) (cs' := #[.pointer (some ⟨q, 0, none⟩), ov, .slice B ws.length cb, .int .i64 E.next]) rfl rfl rfl rfl sz_wts hO rfl hov1 (by show 1 < 4; decide) rfl ?_; clear hO; intro u hO hSn; replace hS := hS.trans hSn; clear hSn; simp only [List.set_cons_zero, List.set_cons_succ] at hO) | (refine own_store1 (k := 1) (b := r) (off := 2) (cs' := #[.pointer (some ⟨q, 0, none⟩), ov, .slice none 0 0, .int .i64 E.next]) rfl rfl rfl rfl sz_wrs hO rfl rfl (by show 2 < 4; decide) rfl ?_; clear hO; intro u hO hSn; replace hS := hS.trans hSn; clear hSn; simp only [List.set_cons_zero, List.set_cons_succ] at hO))
      go_ret
      refine ⟨rfl, ?_, hS⟩
      obtain ⟨NA, nc, hov⟩ := (owns_rd hO).slice
      subst hov
      have hcap : NA = none → nc = 0 := fun hA => owns_nilcap hO hA
      have h1 := rdG_nil (rdG_owns (own_order [0, 2] hO rfl)) 2
      refine reng_open.2 ⟨q, .slice NA (stayF E.m.length E.s we).length nc, .slice none 0 0, stayF E.m.length E.s we, [], _, ⟨?_, ⟨fun A' n' c' e6 hA => (by cases e6; exact hcap hA), ⟨NA, nc, rfl, List.mem_cons_of_mem _ (List.mem_cons_self ..)⟩, fun y hy => ?_⟩, ⟨⟨none, 0, rfl, List.mem_cons_self ..⟩, fun y hy => (by cases hy), fun y hy => (by cases hy), List.nodup_nil, fun _ => rfl⟩⟩, own_order [1, 1, 0] h1 rfl⟩
      · show (stayF E.m.length E.s we).map (·.1) = E.l.filter fun x => !inAny E.m.length E.s x.n
        rw [← HK.out.1, List.filter_map]
        rfl
      · obtain ⟨A', c', e6, h6⟩ := HW.out.beh y (List.filter_sublist.subset hy)
        exact ⟨A', c', e6, List.mem_cons_of_mem _ (List.mem_cons_of_mem _ h6)⟩
end
end Go.Proofs.YtlmkcnkidkoilaaGreat.H
set_option linter.unusedVariables false
set_option linter.unusedSimpArgs false
set_option maxRecDepth 100000
namespace Go.Proofs.YtlmkcnkidkoilaaGreat.H
open Go.RowKit
theorem readyGo_one (ws : List Int) (i : Int) (x : Wt) (out : List Int) : readyGo ws i [x] out = (if okW ws i out x then out ++ [(x.n : Int)] else out) := rfl
theorem readyGo_next (ws : List Int) (i : Int) (l : List We) {k : Nat} {x : We} (hx : l[k]? = some x) : readyGo ws i ((l.take (k + 1)).map (·.1)) [] = (if okW ws i (readyGo ws i ((l.take k).map (·.1)) []) x.1 then readyGo ws i ((l.take k).map (·.1)) [] ++ [(x.1.n : Int)] else readyGo ws i ((l.take k).map (·.1)) []) := by
  rw [List.take_add_one, hx, List.map_append, readyGo_split]
  exact readyGo_one ws i x.1 _
/-- The state in the midst of Ready. -/
abbrev rR (r q : Nat) (lv wv : Value) (next : Nat) (m : List Blk) (g : List RdI) (ov : Value) (out : List Int) (L : List HP) : List HP := rO r q lv wv next m g (owns 3 1 ov out.length (zs out) :: L)
section
variable (w : World) (L : List HP) (r : Nat) (E : Eng)
theorem rready_no (i : Int) (hO : Own w (rengP r E :: L)) (hi : i < 0 ∨ (E.m.length : Int) ≤ i) : Calls Tryz.prog 53 #[.pointer (some ⟨r, 0, none⟩), .int .i64 i] w (Ret w (.slice none 0 0) (rengP r E :: L)) := by
  have HI := Lib.hid hi
  have hS := Same.refl w
  clear hi
  go_enter Tryz.func53, Tryz.ntmps53
  go_wp2_with (first | (go_at_call 87; (with_reducible refine Calls.mono (rmay_e_no _ _ r E i hO HI.out) ?_); clear hO; rintro e u ⟨rfl, hO, hSn⟩; replace hS := hS.trans hSn; clear hSn))
  go_ret
  exact ⟨rfl, hO, hS⟩
set_option maxHeartbeats 3200000 in
theorem rready_ok (i : Nat) (hO : Own w (rengP r E :: L)) (hk : E.Ok) (hi : i < E.m.length) : Calls Tryz.prog 53 #[.pointer (some ⟨r, 0, none⟩), .int .i64 i] w (RetX w (fun v : Value => v) (fun v => owns 3 1 v (readyL E.l i).length (zs (readyL E.l i)) :: rengP r E :: L)) := by
  have HI := Lib.hid hi
  have HEL : Hid (E.l.length ≤ 200) := hk.len
  have HBEH : Hid (∀ x ∈ E.l, x.beh.length ≤ 1000000) := hk.behl
  have hS := Same.refl w
  clear hi hk
  go_enter Tryz.func53, Tryz.ntmps53
  go_upto_region 4 with (first | (go_at_call 87; (with_reducible refine Calls.mono (rmay_e_ok _ _ r E i hO HI.out) ?_); clear hO; rintro e u ⟨rfl, hO, hSn⟩; replace hS := hS.trans hSn; clear hSn))
  obtain ⟨q, lv, wv, we, ws, g, hkk, hO⟩ := reng_open.1 hO
  have HK := Lib.hid hkk
  have HWL : Hid (we.length ≤ 200) := by show _ ≤ _; have := HEL.out; rw [← hkk.1, List.length_map] at this; exact this
  have hwl := HWL.out
  obtain ⟨A, c, rfl, hm⟩ := hkk.2.1.rd
  have HW := Lib.hid hkk.2.1
  obtain ⟨W, hWW⟩ : ∃ W, W = wnums E.l := ⟨_, rfl⟩
  have HWW : Hid (wnums (we.map (·.1)) = W) := by show _ = _; rw [hkk.1, hWW]
  have HEND : Hid (readyGo W i (we.map (·.1)) [] = readyL E.l i) := by show _ = _; unfold readyL; rw [hkk.1, hWW]
  have hmw := (rdG_rd (own_at hO (k := 2) rfl) hm).max
  clear hkk hm hWW
  go_wp2
  go_loopw [5, 6] (fun pv iv wr => ∃ (k : Nat) (ov : Value) (out : List Int), k ≤ we.length ∧ ov = pv ∧ iv = .int .i64 k ∧ Hid (out = readyGo W i ((we.take k).map (·.1)) []) ∧ out.length ≤ k ∧ Own wr (rR r q (.slice A we.length c) wv E.next E.m g ov out L) ∧ Same w wr) (fun _ iv _ => we.length - (intOf iv).toNat)
  case atStart => exact ⟨0, _, [], Nat.zero_le _, rfl, rfl, Lib.hid rfl, Nat.zero_le _, own_order [1, 1, 1] (owns_nil hO) rfl, hS⟩
  case round =>
    clear hO hS
    obtain ⟨k, ov, out, hk, hov, rfl, HOUT, hol, hO, hS⟩ := hrel
    subst hov
    by_cases hlt : k < we.length
    · obtain ⟨⟨x, xv⟩, hx⟩ : ∃ x, we[k]? = some x := ⟨_, List.getElem?_eq_getElem hlt⟩
      obtain ⟨A2, c2, e2, hbg⟩ := HW.out.beh _ (List.mem_of_getElem? hx)
      have e2 : xv = .slice A2 x.beh.length c2 := e2
      subst e2
      obtain ⟨ad, c', e1, hc⟩ := wat HW.out hx (own_at hO (k := 2) rfl)
      have HC := Lib.hid (hc _ wr (own_at hO (k := 2) rfl))
      have e3 : A = some ad := by injection e1
      have HNOW := Lib.hid hO
      subst e3
      have hO := HNOW.out
      have hm1 : (k : Int) < we.length := by omega
      have HNX : Hid (readyGo W i ((we.take (k + 1)).map (·.1)) [] = (if okW W i out x then out ++ [(x.n : Int)] else out)) := by show _ = _; rw [readyGo_next W i we hx, ← HOUT.out]
      have HBR : Hid (∀ (w' : World) (L' : List HP), Own w' (rdG g :: L') → Rd w' 1 (.slice A2 x.beh.length c2) x.beh.length (zs x.beh)) := Lib.hid fun w' L' h => rdG_rd h hbg
      have HXB : Hid (x.beh.length ≤ 1000000) := by
        refine HBEH.out x ?_
        rw [← HK.out.1]
        exact List.mem_map.2 ⟨_, List.mem_of_getElem? hx, rfl⟩
      clear hx hc e1 hbg HNOW
      have hxb := HXB.out
      go_upto_region 8 with (first | (apply own_load1 rfl rfl rfl; (first | exact row_rdptr | exact row_wts | exact row_wrs | exact row_int); (first | exact own_get 0 hO rfl | exact own_get 1 hO rfl | exact own_get 2 hO rfl | exact own_get 3 hO rfl | exact own_get 4 hO rfl | exact own_get 5 hO rfl | exact own_get 6 hO rfl | exact own_get 7 hO rfl); (first | (simp only [List.getElem?_toArray, List.getElem?_cons_succ, List.getElem?_cons_zero]; rfl) | rfl)) | (refine own_loadrow_at (ad := ad.add (k * 5)) (vs := We.cells (x, .slice A2 x.beh.length c2)) rfl rfl rfl row_wt sz_wt rfl HC.out ?_) | (refine own_alloc (T := 125) rfl rfl zero_wt rfl hO ?_; clear hO; intro gx u hO hSn; replace hS := hS.trans hSn; clear hSn) | (apply own_store_all (k := 0) rfl rfl rfl rfl sz_wt hO rfl; (focus rfl); (focus rfl); (focus rfl); clear hO; intro u hO hSn; replace hS := hS.trans hSn; clear hSn; simp only [List.set_cons_zero, List.set_cons_succ] at hO))
      obtain ⟨ok0, hok0⟩ : ∃ ok0, ok0 = decide (x.p.blk = (i : Int)) := ⟨_, rfl⟩
      have HOK0 := Lib.hid hok0
      have hbe : (x.p.blk == (i : Int)) = ok0 := by rw [hok0]; by_cases h : x.p.blk = (i : Int) <;> simp [h]
      clear hok0
      go_wp2_with (first | (refine own_load1 (b := gx) (off := 1) (cs := (We.cells (x, .slice A2 x.beh.length c2)).toArray) (t := 125) (v := .int .i64 x.p.blk) rfl rfl rfl row_int (own_get 0 hO rfl) rfl ?_))
      go_loopw [8, 9] (fun bv jv wr => ∃ (j : Nat) (b : Bool), j ≤ x.beh.length ∧ bv = .bool b ∧ jv = .int .i64 j ∧ Hid (b = (ok0 && (x.beh.take j).all fun d => !W.contains d || out.contains d)) ∧ Own wr (pts gx (.cells (We.cells (x, .slice A2 x.beh.length c2)).toArray 125) :: rR r q (.slice (some ad) we.length c) wv E.next E.m g ov out L) ∧ Same w wr) (fun _ jv _ => x.beh.length - (intOf jv).toNat)
      case atStart => exact ⟨0, ok0, Nat.zero_le _, by simp only [hbe], rfl, Lib.hid (by simp), hO, hS⟩
      case round =>
        clear hO hS hbe
        obtain ⟨j, b, hj, rfl, rfl, HB, hO, hS⟩ := hrel
        by_cases hlt2 : j < x.beh.length
        · obtain ⟨d, hd⟩ : ∃ y, x.beh[j]? = some y := ⟨_, List.getElem?_eq_getElem hlt2⟩
          have hrb := HBR.out _ _ (own_at hO (k := 3) rfl)
          have HNOW := Lib.hid hO
          obtain ⟨ad2, e5⟩ := hrb.addr (by unfold zs; rw [List.length_map]; omega)
          subst e5
          have hO := HNOW.out
          have HCD : Hid (∀ (w' : World) (L' : List HP), Own w' (rdG g :: L') → w'.cell? (ad2.add j) = some (.int .i64 d)) := Lib.hid fun w' L' h => zs_cell (HBR.out w' L' h) hd
          have hm2 : (j : Int) < x.beh.length := by omega
          have HNB : Hid ((ok0 && (x.beh.take (j + 1)).all fun d => !W.contains d || out.contains d) = (b && (!W.contains d || out.contains d))) := by
            show _ = _
            rw [HB.out, List.take_add_one, hd]
            simp only [Option.toList_some, List.all_append, List.all_cons, List.all_nil, Bool.and_true, Bool.and_assoc]
          clear hd hrb HNOW
          have hO := own_order [1, 1, 1] hO rfl
          simp only [List.eraseIdx_cons_succ, List.eraseIdx_zero, List.tail_cons] at hO
          cases b with
          | false =>
            go_wp2_with (first | (refine own_load1 (b := gx) (off := 4) (cs := (We.cells (x, .slice (some ad2) x.beh.length c2)).toArray) (t := 125) (v := .slice (some ad2) x.beh.length c2) rfl rfl rfl row_zs (own_get 3 hO rfl) rfl ?_) | (refine own_load1_at (ad := ad2.add j) (v := .int .i64 d) rfl rfl rfl row_int (HCD.out _ _ (own_at hO (k := 2) rfl)) ?_))
            go_roundw
            case rel => exact ⟨j + 1, false, by omega, rfl, by go_num, Lib.hid (by rw [HNB.out]; rfl), own_order [3] hO rfl, hS⟩
            case measure => simp [intOf]; omega
          | true =>
            obtain ⟨bw, hbw⟩ : ∃ bw, W.contains d = bw := ⟨_, rfl⟩
            have HBW : Hid ((wnums (we.map (·.1))).contains d = bw) := by show _ = _; rw [HWW.out]; exact hbw
            cases bw with
            | false =>
              have HN2 : Hid ((ok0 && (x.beh.take (j + 1)).all fun d => !W.contains d || out.contains d) = true) := by show _ = _; rw [HNB.out, hbw]; rfl
              clear hbw
              go_wp2_with (first | (refine own_load1 (b := gx) (off := 4) (cs := (We.cells (x, .slice (some ad2) x.beh.length c2)).toArray) (t := 125) (v := .slice (some ad2) x.beh.length c2) rfl rfl rfl row_zs (own_get 3 hO rfl) rfl ?_) | (refine own_load1_at (ad := ad2.add j) (v := .int .i64 d) rfl rfl rfl row_int (HCD.out _ _ (own_at hO (k := 2) rfl)) ?_) | (go_at_call 89; (with_reducible refine Calls.mono (rwaits_o _ _ r q (.slice (some ad) we.length c) wv we g E.next E.m HW.out d HBW.out hO) ?_); clear hO; rintro e u ⟨rfl, hO, hSn⟩; replace hS := hS.trans hSn; clear hSn))
              go_roundw
              case rel => exact ⟨j + 1, true, by omega, rfl, by go_num, Lib.hid HN2.out.symm, own_order [3] hO rfl, hS⟩
              case measure => simp [intOf]; omega
            | true =>
              obtain ⟨bh, hbh⟩ : ∃ bh, out.contains d = bh := ⟨_, rfl⟩
              have HBH := Lib.hid hbh
              have HN2 : Hid ((ok0 && (x.beh.take (j + 1)).all fun d => !W.contains d || out.contains d) = bh) := by show _ = _; rw [HNB.out, hbw, hbh]; cases bh <;> rfl
              clear hbw hbh
              cases bh with
              | true =>
                go_wp2_with (first | (refine own_load1 (b := gx) (off := 4) (cs := (We.cells (x, .slice (some ad2) x.beh.length c2)).toArray) (t := 125) (v := .slice (some ad2) x.beh.length c2) rfl rfl rfl row_zs (own_get 3 hO rfl) rfl ?_) | (refine own_load1_at (ad := ad2.add j) (v := .int .i64 d) rfl rfl rfl row_int (HCD.out _ _ (own_at hO (k := 2) rfl)) ?_) | (go_at_call 89; (with_reducible refine Calls.mono (rwaits_o _ _ r q (.slice (some ad) we.length c) wv we g E.next E.m HW.out d HBW.out hO) ?_); clear hO; rintro e u ⟨rfl, hO, hSn⟩; replace hS := hS.trans hSn; clear hSn) | (go_at_call 90; (with_reducible refine Calls.mono (ghas_c _ _ ov out.length out d (r := true) rfl HBH.out hO (fun w' h => owns_rd (own_order [4] h rfl))) ?_); clear hO; rintro e u ⟨rfl, hO, hSn⟩; replace hS := hS.trans hSn; clear hSn))
                go_roundw
                case rel => exact ⟨j + 1, true, by omega, rfl, by go_num, Lib.hid HN2.out.symm, own_order [3] hO rfl, hS⟩
                case measure => simp [intOf]; omega
              | false =>
                go_wp2_with (first | (refine own_load1 (b := gx) (off := 4) (cs := (We.cells (x, .slice (some ad2) x.beh.length c2)).toArray) (t := 125) (v := .slice (some ad2) x.beh.length c2) rfl rfl rfl row_zs (own_get 3 hO rfl) rfl ?_) | (refine own_load1_at (ad := ad2.add j) (v := .int .i64 d) rfl rfl rfl row_int (HCD.out _ _ (own_at hO (k := 2) rfl)) ?_) | (go_at_call 89; (with_reducible refine Calls.mono (rwaits_o _ _ r q (.slice (some ad) we.length c) wv we g E.next E.m HW.out d HBW.out hO) ?_); clear hO; rintro e u ⟨rfl, hO, hSn⟩; replace hS := hS.trans hSn; clear hSn) | (go_at_call 90; (with_reducible refine Calls.mono (ghas_c _ _ ov out.length out d (r := false) rfl HBH.out hO (fun w' h => owns_rd (own_order [4] h rfl))) ?_); clear hO; rintro e u ⟨rfl, hO, hSn⟩; replace hS := hS.trans hSn; clear hSn))
                go_roundw
                case rel => exact ⟨j + 1, false, by omega, rfl, by go_num, Lib.hid HN2.out.symm, own_order [3] hO rfl, hS⟩
                case measure => simp [intOf]; omega
        · have hje : j = x.beh.length := by omega
          subst hje
          rw [List.take_length] at HB
          have HBE : Hid (okW W i out x = b) := by show _ = _; rw [HB.out, HOK0.out]; rfl
          have hO := own_order [4, 0] hO rfl
          simp only [List.eraseIdx_cons_succ, List.eraseIdx_zero, List.tail_cons] at hO
          have HOL : Hid (out.length ≤ 200) := by show _ ≤ _; omega
          cases b with
          | true =>
            have HN3 : Hid (out ++ [(x.n : Int)] = readyGo W i ((we.take (k + 1)).map (·.1)) []) := by show _ = _; rw [HNX.out, HBE.out]; rfl
            go_wp2_with (first | (refine own_load1 (b := gx) (off := 4) (cs := (We.cells (x, .slice A2 x.beh.length c2)).toArray) (t := 125) (v := .slice A2 x.beh.length c2) rfl rfl rfl row_zs (own_get 1 hO rfl) rfl ?_) | (refine own_load1 (b := gx) (off := 0) (cs := (We.cells (x, .slice A2 x.beh.length c2)).toArray) (t := 125) (v := .int .i64 x.n) rfl rfl rfl row_int (own_get 1 hO rfl) rfl ?_) | (refine own_append (m := 1) (n := out.length) (xs := (zs out)) (news := [.int .i64 x.n]) rfl rfl rfl rfl Tryz.underlying38 info_z3 rfl (by decide) (own_perm (own_alloc_new hO (.cells #[.int .i64 x.n] 3)) (List.Perm.swap _ _ _)) ?_ (by intro u hu; rw [List.mem_singleton.1 hu]; rfl) ?_ ?_ ?_; (exact rd_block (own_get 1 (own_perm (own_alloc_new hO (.cells #[.int .i64 x.n] 3)) (List.Perm.swap _ _ _)) rfl) rfl (by simp) (by simp) (by simp)); (have := HOL.out; unfold maxLen; omega); (have := HOL.out; omega); clear hO; intro v' w9 hO hS9 hv'))
            go_roundw
            case rel => exact ⟨k + 1, v', out ++ [(x.n : Int)], by omega, rfl, by go_num, HN3, by rw [List.length_append, List.length_singleton]; omega, own_order [1, 1, 1] (own_drop (own_swap (own_flr hO))) rfl, hS.trans ((Same.alloc _ _).trans hS9)⟩
            case measure => simp [intOf]; omega
          | false =>
            have HN3 : Hid (out = readyGo W i ((we.take (k + 1)).map (·.1)) []) := by show _ = _; rw [HNX.out, HBE.out]; rfl
            go_wp2_with (first | (refine own_load1 (b := gx) (off := 4) (cs := (We.cells (x, .slice A2 x.beh.length c2)).toArray) (t := 125) (v := .slice A2 x.beh.length c2) rfl rfl rfl row_zs (own_get 1 hO rfl) rfl ?_))
            go_roundw
            case rel => exact ⟨k + 1, ov, out, by omega, rfl, by go_num, HN3, by omega, own_order [1, 1, 1] (own_drop (own_swap hO)) rfl, hS⟩
            case measure => simp [intOf]; omega
    · have hke : k = we.length := by omega
      subst hke
      have HF : Hid (out = readyL E.l i) := by
        show out = _
        have := HOUT.out
        rw [List.take_length, HEND.out] at this
        exact this
      go_wp2_with (first | (apply own_load1 rfl rfl rfl; (first | exact row_rdptr | exact row_wts | exact row_wrs | exact row_int); (first | exact own_get 0 hO rfl | exact own_get 1 hO rfl | exact own_get 2 hO rfl | exact own_get 3 hO rfl | exact own_get 4 hO rfl | exact own_get 5 hO rfl | exact own_get 6 hO rfl | exact own_get 7 hO rfl); (first | (simp only [List.getElem?_toArray, List.getElem?_cons_succ, List.getElem?_cons_zero]; rfl) | rfl)))
      go_ret
      refine ⟨ov, rfl, ?_, hS⟩
      have hO := own_order [3] hO rfl
      rw [HF.out] at hO
      exact own_swap (reng_open.2 ⟨q, .slice A we.length c, wv, we, ws, g, HK.out, own_order [1, 1, 1] hO rfl⟩)
end
end Go.Proofs.YtlmkcnkidkoilaaGreat.H
