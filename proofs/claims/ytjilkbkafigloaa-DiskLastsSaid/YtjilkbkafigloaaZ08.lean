/- settle of the program's disk, with Crash's pick (K10's walk, turned). Flush, Crash of the program's disk. The law's sector. The law's live. DiskNone's walk. -/
import Derived.Test.YtjilkbkafigloaaZ07
set_option linter.unusedVariables false
set_option linter.unusedSimpArgs false
set_option maxRecDepth 100000
namespace Go.Proofs.Ytjilkbkafigloaa.H
open Go.RowKit
section
variable (w : World) (L : List HP) (d : Nat) (m : List Blk)
set_option maxHeartbeats 1600000 in
theorem settle_crash (bp : Nat) (pk : Nat → Nat → Int) (hO : Own w (diskP d m :: L)) (h0 : 0 < m.length) (hv : ∀ b ∈ m, b.vs.length ≤ 1000000)
    (hp : ∀ (k n : Nat) (w' : World) (L' : List HP), k < 1000 → n ≤ 1000000 → (∀ w', Own w' L' → Own w' L) → Own w' L' → Calls Try.prog 38 #[.int .i64 k, .int .i64 n, .pointer (some ⟨bp, 0, none⟩)] w' (Ret w' (.int .i64 (pk k n)) L')) :
    Calls Try.prog 34 #[.pointer (some ⟨d, 0, none⟩), .func (.func 38) #[] #[.pointer (some ⟨bp, 0, none⟩)]] w (Ret w (.int .i64 0) (diskP d (crashL pk 0 m) :: L)) := by
  have HP := Lib.hid hp
  have HV := Lib.hid hv
  have hS := Same.refl w
  obtain ⟨lv, bv, bb, fv, fb, l, hk, hO⟩ := disk_open.1 hO
  have hO := rdV_cons (v := .slice none 0 0) (ss := []) (rdA_nil (size := 32) (own_at hO (k := 4) rfl))
  have hk := hk.more (.slice none 0 0, [])
  have hln : secs (m.map (·.s)) ≠ [] := fun e => by
    have := secs_length (l := m.map (·.s)) (fun s hs => by obtain ⟨b, hb, rfl⟩ := List.mem_map.1 hs; exact hk.s32 b hb)
    rw [e, List.length_map] at this
    simp at this
    omega
  obtain ⟨g, cap, rest, rfl, hc1, hc2, hc3, hc4, hO⟩ := owns_open (own_at hO (k := 2) rfl) (fun e => hln (by
    have hr := owns_rd (own_at hO (k := 2) rfl)
    rw [e] at hr
    obtain ⟨A, c, e2⟩ := hr.slice
    injection e2 with _ e3 _
    have := hr.out.1
    rw [← e3] at this
    exact List.length_eq_zero_iff.1 (by omega)))
  have hO : Own w (mapP bv fv :: pts d (.cells #[.slice (some ⟨g, 0, none⟩) m.length cap, .map (some bv), .map (some bb)] 66) :: pts g (.cells (secs (m.map (·.s)) ++ rest).toArray 26) :: mapP bb fb :: rdV ((.slice none 0 0, []) :: l) :: L) := own_perm hO (by
    refine (perm_at (k := 3) rfl).trans (List.Perm.cons _ ?_)
    refine (perm_at (k := 2) rfl).trans (List.Perm.cons _ (List.Perm.cons _ ?_))
    exact List.Perm.swap _ _ _)
  obtain ⟨es, ck, hM, _⟩ := mapP_open.1 hO
  have hin : ∀ q ∈ fv, inI q.1 := fun q hq => by
    obtain ⟨i, b, h1, h2, _⟩ := hk.keyv q hq
    have := (List.getElem?_eq_some_iff.1 h1).1
    have := hk.len
    rw [h2]
    exact inI_nat (by omega)
  have hrk := rising_keys hk hM.nod
  have hfl : fv.length = (idxs 0 m).length := by
    have := congrArg List.length hrk
    rw [List.length_map] at this
    rw [← this]
    unfold rising
    rw [List.length_mergeSort, List.length_map]
  have hil := idxs_len m 0
  have hml := hk.len
  have HIN := Lib.hid hin
  have HK := Lib.hid hk
  have HRK := Lib.hid hrk
  have HFL := Lib.hid hfl
  have HC1 := Lib.hid hc1
  have HC2 := Lib.hid hc2
  have HC3 : Hid (m.length * 32 + rest.length = cap * 32) := by show _ = _; rw [← hc4, ← List.length_append]; exact hc3
  clear hp hv hin hk hrk hM hln hc1 hc2 hc3 hc4 hfl h0
  go_enter Try.func34, Try.ntmps34
  go_wp2_with (first | (apply own_load1 rfl rfl rfl; (first | exact row_secs | exact row_mv | exact row_mb); (first | exact own_get 0 hO rfl | exact own_get 1 hO rfl | exact own_get 2 hO rfl | exact own_get 3 hO rfl | exact own_get 4 hO rfl | exact own_get 5 hO rfl | exact own_get 6 hO rfl | exact own_get 7 hO rfl); (first | (simp only [List.getElem?_toArray, List.getElem?_cons_succ, List.getElem?_cons_zero]; rfl) | rfl)) | (go_at_call 46; (with_reducible refine Calls.mono (keys_run hO) ?_); clear hO; rintro e u ⟨gm, rfl, hO, hSn⟩; replace hS := hS.trans hSn; clear hSn) | (go_at_call 45; (with_reducible refine Calls.mono (sorted_run hO HIN.out (by have := HFL.out; omega)) ?_); clear hO; rintro e u ⟨sv, rfl, hO, hSn⟩; replace hS := hS.trans hSn; clear hSn; obtain ⟨As, cs, rfl⟩ := (owns_rd hO).slice))
  rw [HRK.out, List.map_map, HFL.out] at hO
  rw [HFL.out]
  have hO : Own u (setL d (.slice As (idxs 0 m).length cs) (idxs 0 m) g cap m.length rest bv bb fv fb ((.slice none 0 0, []) :: l) ((stK pk 0 m 0).map (·.s)) L) := by
    rw [stK_zero]
    exact hO
  go_loopw [5, 6, 7, 8, 18] (fun _ _ _ _ x wr => ∃ k : Nat, k ≤ (idxs 0 m).length ∧ x = .int .i64 k ∧ (∃ fvk, DiskOk (stK pk 0 m k) fvk fb ((.slice none 0 0, []) :: l) ∧ Own wr (setL d (.slice As (idxs 0 m).length cs) (idxs 0 m) g cap m.length rest bv bb fvk fb ((.slice none 0 0, []) :: l) ((stK pk 0 m k).map (·.s)) L)) ∧ Same w wr) (fun _ _ _ _ x _ => (idxs 0 m).length - (intOf x).toNat)
  case atStart => exact ⟨0, Nat.zero_le _, rfl, ⟨fv, by rw [stK_zero]; exact HK.out, hO⟩, hS⟩
  case round =>
    clear hO hS
    obtain ⟨k, hk, rfl, ⟨fvk, hdk, hO⟩, hS⟩ := hrel
    by_cases hlt : k < (idxs 0 m).length
    · obtain ⟨x, hx⟩ : ∃ x, (idxs 0 m)[k]? = some x := ⟨_, List.getElem?_eq_getElem hlt⟩
      obtain ⟨i, b, e, h1, h2, h3, h4⟩ := stK_step pk m 0 0 k x hx
      rw [Nat.zero_add] at e h4
      subst e
      obtain ⟨_, A', c', e, _, _, hcl⟩ := (owns_rd hO).out
      cases e
      obtain ⟨ads, rfl, hcell⟩ := hcl k (.int .i64 (x : Int)) (by rw [List.getElem?_map, hx]; rfl)
      obtain ⟨A, c, hv, hmem⟩ := hdk.vers x b h3
      have HCELL := Lib.hid hcell
      have HVS := Lib.hid hv
      have HMEM := Lib.hid hmem
      have HDK := Lib.hid hdk
      have H3 := Lib.hid h3
      have H4 := Lib.hid h4
      have hrv := rdV_rd (own_at hO (k := 5) rfl) hmem
      have hmx := hrv.max
      have HLEN : Hid (b.vs.length ≤ 1000000) := HV.out b (List.mem_of_getElem? h1)
      have hk1 : (k : Int) < (idxs 0 m).length := by omega
      have hk9 : k < 1000 := by omega
      clear hcl hcell hv hmem hdk h1 h2 h3 h4 hx hrv
      go_upto_region 8 with (first | (refine own_load1_at (ad := ads.add k) (v := .int .i64 (x : Int)) rfl rfl rfl row_int HCELL.out ?_) | (apply own_load1 rfl rfl rfl; (first | exact row_secs | exact row_mv | exact row_mb); (first | exact own_get 0 hO rfl | exact own_get 1 hO rfl | exact own_get 2 hO rfl | exact own_get 3 hO rfl | exact own_get 4 hO rfl | exact own_get 5 hO rfl | exact own_get 6 hO rfl | exact own_get 7 hO rfl); (first | (simp only [List.getElem?_toArray, List.getElem?_cons_succ, List.getElem?_cons_zero]; rfl) | rfl)) | (refine own_mlookup (i := 1) (b := bv) (k := (x : Int)) (f := fvk) rfl rfl rfl rfl und_mv und_i zero_secs hO rfl HVS.out ?_) | (go_at_call 38; (with_reducible refine Calls.mono (HP.out k b.vs.length _ _ hk9 HLEN.out (fun w' h => own_drop (own_drop (own_drop (own_drop (own_drop (own_drop h)))))) hO) ?_); clear hO; rintro e u ⟨rfl, hO, hSn⟩; replace hS := hS.trans hSn; clear hSn))
      generalize hvv : pk k b.vs.length = v
      rw [hvv] at H4
      by_cases hin : 1 ≤ v ∧ v ≤ (b.vs.length : Int)
      · obtain ⟨hv1, hv2⟩ := hin
        have d1 : decide (1 ≤ v) = true := decide_eq_true hv1
        have d2 : decide (v ≤ (b.vs.length : Int)) = true := decide_eq_true hv2
        obtain ⟨s, hsv⟩ : ∃ s, b.vs[(v - 1).toNat]? = some s := ⟨_, List.getElem?_eq_getElem (by omega)⟩
        have hsett : sett v b = s := by unfold sett; rw [if_pos ⟨hv1, hv2⟩, hsv]; rfl
        have h32 : ∀ s ∈ b.vs, s.length = 32 := HDK.out.v32 b (List.mem_of_getElem? H3.out)
        have hs32 := h32 s (List.mem_of_getElem? hsv)
        have hb32 := HDK.out.s32 b (List.mem_of_getElem? H3.out)
        obtain ⟨i0, hi0⟩ := u8_info
        obtain ⟨q, rfl⟩ : ∃ q : Nat, v = (q : Int) + 1 := ⟨(v - 1).toNat, by omega⟩
        have hq : ((q : Int) + 1 - 1).toNat = q := by omega
        rw [hq] at hsv
        have hrv := rdV_rd (own_at hO (k := 5) rfl) HMEM.out
        obtain ⟨ad2, rfl, _⟩ := vers_cell hrv h32 hsv
        have HVC : Hid (∀ w', Own w' (setL d (.slice (some ads) (idxs 0 m).length cs) (idxs 0 m) g cap m.length rest bv bb fvk fb ((.slice none 0 0, []) :: l) ((stK pk 0 m k).map (·.s)) L) → ∀ (j : Nat) (u : Value), (bcs s)[j]? = some u → w'.cell? ((ad2.add (q * 32)).add j) = some u) := Lib.hid fun w' h => by
          obtain ⟨ad3, e3, h3⟩ := vers_cell (rdV_rd (own_at h (k := 5) rfl) HMEM.out) h32 hsv
          cases e3
          exact h3
        have hx1 : (x : Int) < m.length := by
          have h1 := (List.getElem?_eq_some_iff.1 H3.out).1
          have h2 : (stK pk 0 m k).length = m.length := stK_len pk m 0 k
          omega
        have hsub : IntKind.i64.wrap ((q : Int) + 1 - 1) = (q : Int) := by rw [IntKind.wrap_i64] <;> omega
        have hsub2 : IntKind.i64.wrap (q : Int) = (q : Int) := by rw [IntKind.wrap_i64] <;> omega
        have hq1 : (q : Int) < b.vs.length := by omega
        have hq2 : q < b.vs.length := by omega
        have hq3 : ¬ ((q : Int) < 0) := by omega
        have hrow := secs_row (l := (stK pk 0 m k).map (·.s)) (rest := rest) (fun s hs => by obtain ⟨b, hb, rfl⟩ := List.mem_map.1 hs; exact HDK.out.s32 b hb) (k := x) (s := b.s) (by rw [List.getElem?_map, H3.out]; rfl)
        have HROW := Lib.hid hrow
        have HB32 := Lib.hid hb32
        have HS32 := Lib.hid hs32
        have hEq : ∀ w', (Op.equalIn 10000 26 (secV b.s) (secV s)).run Try.prog w' = .ok (decide (b.s = s)) w' := fun w' => eq_sec w' (n := 0) und_sec hi0 9998 hb32 hs32
        clear h32 hrv hrow hb32 hs32 hsv
        by_cases heq : b.s = s
        · have hs : Hid (sett ((q : Int) + 1) b = b.s) := by show _ = _; rw [hsett, heq]
          have d3 : decide (b.s = s) = true := decide_eq_true heq
          clear heq hsett
          refine wp_region_seq (Cls u (_)) 23 74 mixed (by kernel_rfl) rfl (cls_drew hO) ?_
          simp only [List.append_eq, List.cons_append, List.nil_append, List.take_succ_cons, List.take_zero]
          repeat (first
            | (apply wv_skip rfl; simp only [Act.put, List.setIfInBounds_toArray, List.set_cons_zero, List.set_cons_succ])
            | (refine wv_load1 (b := d) (off := 0) (cs := #[.slice (some ⟨g, 0, none⟩) m.length cap, .map (some bv), .map (some bb)]) (t := 66) (v := .slice (some ⟨g, 0, none⟩) m.length cap) rfl rfl rfl row_secs (fun w h => own_get 2 h.1 rfl) rfl ?_; simp only [Act.put, List.setIfInBounds_toArray, List.set_cons_zero, List.set_cons_succ])
            | (refine wv_loadrow (b := g) (off := x * 32) (vs := bcs b.s) rfl rfl rfl row_sec sz_sec (fun w h => own_get 3 h.1 rfl) HROW.out.1 HROW.out.2 ?_; simp only [Act.put, List.setIfInBounds_toArray, List.set_cons_zero, List.set_cons_succ])
            | (refine wv_loadrow_at (ad := ad2.add (q * 32)) (vs := bcs s) rfl rfl rfl row_sec sz_sec (by rw [bcs_length]; exact HS32.out) (fun w h => HVC.out w h.1) ?_; simp only [Act.put, List.setIfInBounds_toArray, List.set_cons_zero, List.set_cons_succ])
            | (apply wv_run rfl; (focus (intro w h; go_simp; simp only [hEq w, d3]; first | done | rfl)); simp only [Act.put, List.setIfInBounds_toArray, List.set_cons_zero, List.set_cons_succ])
            | (apply wv_load1 rfl rfl rfl; (first | exact row_int | exact row_str | exact row_bool | exact row_u8 | exact row_bys | exact row_pats | exact row_err); (intro w h; (first | exact own_get 0 h.1 rfl | exact own_get 1 h.1 rfl | exact own_get 2 h.1 rfl | exact own_get 3 h.1 rfl | exact own_get 4 h.1 rfl | exact own_get 5 h.1 rfl | exact own_get 6 h.1 rfl | exact own_get 7 h.1 rfl)); (first | (simp only [List.getElem?_toArray, List.getElem?_cons_succ, List.getElem?_cons_zero]; rfl) | rfl); simp only [Act.put, List.setIfInBounds_toArray, List.set_cons_zero, List.set_cons_succ])
            | (apply wv_loadrow rfl rfl rfl; (first | exact row_pat); exact sz_pat; (intro w h; (first | exact own_get 0 h.1 rfl | exact own_get 1 h.1 rfl | exact own_get 2 h.1 rfl | exact own_get 3 h.1 rfl | exact own_get 4 h.1 rfl | exact own_get 5 h.1 rfl | exact own_get 6 h.1 rfl | exact own_get 7 h.1 rfl)); (focus (simp; done)); (first | (simp only [List.drop_zero, List.drop_succ_cons, List.take_succ_cons, List.take_zero]; rfl) | rfl); simp only [Act.put, List.setIfInBounds_toArray, List.set_cons_zero, List.set_cons_succ])
            | (apply wv_run rfl; (focus (intro w h; go_simp; first | done | rfl)); simp only [Act.put, List.setIfInBounds_toArray, List.set_cons_zero, List.set_cons_succ])
            | (apply wv_call rfl; (focus (intro w; go_simp; first | done | exact ⟨rfl, rfl⟩)); (focus (intro w h; apply cls_call h; fail)); simp only [Act.put, List.setIfInBounds_toArray, List.set_cons_zero, List.set_cons_succ]))
          refine wv_nil ?_
          simp only [List.drop_succ_cons, List.drop_zero]
          intro w9 ⟨hO9, hS9⟩
          replace hS := hS.trans hS9
          clear hO hS9
          have hO := hO9
          clear hO9
          go_wp2_with (first | (apply own_load1 rfl rfl rfl; (first | exact row_secs | exact row_mv | exact row_mb); (first | exact own_get 0 hO rfl | exact own_get 1 hO rfl | exact own_get 2 hO rfl | exact own_get 3 hO rfl | exact own_get 4 hO rfl | exact own_get 5 hO rfl | exact own_get 6 hO rfl | exact own_get 7 hO rfl); (first | (simp only [List.getElem?_toArray, List.getElem?_cons_succ, List.getElem?_cons_zero]; rfl) | rfl)) | (refine own_mdel (i := 1) (b := bv) (f := fvk) (k := (x : Int)) rfl rfl rfl rfl und_mv und_i hO rfl ?_; clear hO; intro u hO hSn; replace hS := hS.trans hSn; clear hSn))
          go_roundw
          case rel =>
            refine ⟨k + 1, by omega, by go_num, ⟨mdel fvk x, ?_, ?_⟩, hS⟩
            · rw [H4.out]; exact HDK.out.settle H3.out (sett_len HDK.out H3.out ((q : Int) + 1)) (List.mem_cons_self ..)
            · rw [H4.out, map_set_s (b' := ⟨sett ((q : Int) + 1) b, [], b.bad⟩) H3.out hs.out]; exact hO
          case measure => simp [intOf]; omega
        · have hs : Hid (sett ((q : Int) + 1) b = s) := hsett
          have d3 : decide (b.s = s) = false := decide_eq_false heq
          clear heq hsett
          refine wp_region_seq (Cls u (_)) 23 74 mixed (by kernel_rfl) rfl (cls_drew hO) ?_
          simp only [List.append_eq, List.cons_append, List.nil_append, List.take_succ_cons, List.take_zero]
          repeat (first
            | (apply wv_skip rfl; simp only [Act.put, List.setIfInBounds_toArray, List.set_cons_zero, List.set_cons_succ])
            | (refine wv_load1 (b := d) (off := 0) (cs := #[.slice (some ⟨g, 0, none⟩) m.length cap, .map (some bv), .map (some bb)]) (t := 66) (v := .slice (some ⟨g, 0, none⟩) m.length cap) rfl rfl rfl row_secs (fun w h => own_get 2 h.1 rfl) rfl ?_; simp only [Act.put, List.setIfInBounds_toArray, List.set_cons_zero, List.set_cons_succ])
            | (refine wv_loadrow (b := g) (off := x * 32) (vs := bcs b.s) rfl rfl rfl row_sec sz_sec (fun w h => own_get 3 h.1 rfl) HROW.out.1 HROW.out.2 ?_; simp only [Act.put, List.setIfInBounds_toArray, List.set_cons_zero, List.set_cons_succ])
            | (refine wv_loadrow_at (ad := ad2.add (q * 32)) (vs := bcs s) rfl rfl rfl row_sec sz_sec (by rw [bcs_length]; exact HS32.out) (fun w h => HVC.out w h.1) ?_; simp only [Act.put, List.setIfInBounds_toArray, List.set_cons_zero, List.set_cons_succ])
            | (apply wv_run rfl; (focus (intro w h; go_simp; simp only [hEq w, d3]; first | done | rfl)); simp only [Act.put, List.setIfInBounds_toArray, List.set_cons_zero, List.set_cons_succ])
            | (apply wv_load1 rfl rfl rfl; (first | exact row_int | exact row_str | exact row_bool | exact row_u8 | exact row_bys | exact row_pats | exact row_err); (intro w h; (first | exact own_get 0 h.1 rfl | exact own_get 1 h.1 rfl | exact own_get 2 h.1 rfl | exact own_get 3 h.1 rfl | exact own_get 4 h.1 rfl | exact own_get 5 h.1 rfl | exact own_get 6 h.1 rfl | exact own_get 7 h.1 rfl)); (first | (simp only [List.getElem?_toArray, List.getElem?_cons_succ, List.getElem?_cons_zero]; rfl) | rfl); simp only [Act.put, List.setIfInBounds_toArray, List.set_cons_zero, List.set_cons_succ])
            | (apply wv_loadrow rfl rfl rfl; (first | exact row_pat); exact sz_pat; (intro w h; (first | exact own_get 0 h.1 rfl | exact own_get 1 h.1 rfl | exact own_get 2 h.1 rfl | exact own_get 3 h.1 rfl | exact own_get 4 h.1 rfl | exact own_get 5 h.1 rfl | exact own_get 6 h.1 rfl | exact own_get 7 h.1 rfl)); (focus (simp; done)); (first | (simp only [List.drop_zero, List.drop_succ_cons, List.take_succ_cons, List.take_zero]; rfl) | rfl); simp only [Act.put, List.setIfInBounds_toArray, List.set_cons_zero, List.set_cons_succ])
            | (apply wv_run rfl; (focus (intro w h; go_simp; first | done | rfl)); simp only [Act.put, List.setIfInBounds_toArray, List.set_cons_zero, List.set_cons_succ])
            | (apply wv_call rfl; (focus (intro w; go_simp; first | done | exact ⟨rfl, rfl⟩)); (focus (intro w h; apply cls_call h; fail)); simp only [Act.put, List.setIfInBounds_toArray, List.set_cons_zero, List.set_cons_succ]))
          refine wv_nil ?_
          simp only [List.drop_succ_cons, List.drop_zero]
          intro w9 ⟨hO9, hS9⟩
          replace hS := hS.trans hS9
          clear hO hS9
          have hO := hO9
          clear hO9
          go_upto_region 9 with fail
          refine wp_region_seq (Cls w9 (_)) 11 74 mixed (by kernel_rfl) rfl (cls_drew hO) ?_
          simp only [List.append_eq, List.cons_append, List.nil_append, List.take_succ_cons, List.take_zero]
          repeat (first
            | (apply wv_skip rfl; simp only [Act.put, List.setIfInBounds_toArray, List.set_cons_zero, List.set_cons_succ])
            | (refine wv_load1 (b := d) (off := 0) (cs := #[.slice (some ⟨g, 0, none⟩) m.length cap, .map (some bv), .map (some bb)]) (t := 66) (v := .slice (some ⟨g, 0, none⟩) m.length cap) rfl rfl rfl row_secs (fun w h => own_get 2 h.1 rfl) rfl ?_; simp only [Act.put, List.setIfInBounds_toArray, List.set_cons_zero, List.set_cons_succ])
            | (refine wv_loadrow (b := g) (off := x * 32) (vs := bcs b.s) rfl rfl rfl row_sec sz_sec (fun w h => own_get 3 h.1 rfl) HROW.out.1 HROW.out.2 ?_; simp only [Act.put, List.setIfInBounds_toArray, List.set_cons_zero, List.set_cons_succ])
            | (refine wv_loadrow_at (ad := ad2.add (q * 32)) (vs := bcs s) rfl rfl rfl row_sec sz_sec (by rw [bcs_length]; exact HS32.out) (fun w h => HVC.out w h.1) ?_; simp only [Act.put, List.setIfInBounds_toArray, List.set_cons_zero, List.set_cons_succ])
            | (apply wv_run rfl; (focus (intro w h; go_simp; simp only [hEq w, d3]; first | done | rfl)); simp only [Act.put, List.setIfInBounds_toArray, List.set_cons_zero, List.set_cons_succ])
            | (apply wv_load1 rfl rfl rfl; (first | exact row_int | exact row_str | exact row_bool | exact row_u8 | exact row_bys | exact row_pats | exact row_err); (intro w h; (first | exact own_get 0 h.1 rfl | exact own_get 1 h.1 rfl | exact own_get 2 h.1 rfl | exact own_get 3 h.1 rfl | exact own_get 4 h.1 rfl | exact own_get 5 h.1 rfl | exact own_get 6 h.1 rfl | exact own_get 7 h.1 rfl)); (first | (simp only [List.getElem?_toArray, List.getElem?_cons_succ, List.getElem?_cons_zero]; rfl) | rfl); simp only [Act.put, List.setIfInBounds_toArray, List.set_cons_zero, List.set_cons_succ])
            | (apply wv_loadrow rfl rfl rfl; (first | exact row_pat); exact sz_pat; (intro w h; (first | exact own_get 0 h.1 rfl | exact own_get 1 h.1 rfl | exact own_get 2 h.1 rfl | exact own_get 3 h.1 rfl | exact own_get 4 h.1 rfl | exact own_get 5 h.1 rfl | exact own_get 6 h.1 rfl | exact own_get 7 h.1 rfl)); (focus (simp; done)); (first | (simp only [List.drop_zero, List.drop_succ_cons, List.take_succ_cons, List.take_zero]; rfl) | rfl); simp only [Act.put, List.setIfInBounds_toArray, List.set_cons_zero, List.set_cons_succ])
            | (apply wv_run rfl; (focus (intro w h; go_simp; first | done | rfl)); simp only [Act.put, List.setIfInBounds_toArray, List.set_cons_zero, List.set_cons_succ])
            | (apply wv_call rfl; (focus (intro w; go_simp; first | done | exact ⟨rfl, rfl⟩)); (focus (intro w h; apply cls_call h; fail)); simp only [Act.put, List.setIfInBounds_toArray, List.set_cons_zero, List.set_cons_succ]))
          refine wv_nil ?_
          simp only [List.drop_succ_cons, List.drop_zero]
          intro w10 ⟨hO10, hS10⟩
          replace hS := hS.trans hS10
          clear hO hS10
          refine own_store (k := 3) (b := g) (off := x * 32) (n := 32) (v := secV s) (vs := bcs s) (new := secs (((stK pk 0 m k).map (·.s)).set x s) ++ rest) rfl rfl rfl rfl sz_sec hO10 rfl rfl (by rw [bcs_length]; exact HS32.out) (bcs_one s) HROW.out.1 (secs_set (fun s hs => by obtain ⟨b, hb, rfl⟩ := List.mem_map.1 hs; exact HDK.out.s32 b hb) (by rw [List.length_map]; exact (List.getElem?_eq_some_iff.1 H3.out).1)) ?_
          intro w11 hO hS11
          replace hS := hS.trans hS11
          clear hO10 hS11
          refine wpList_nil ?_
          simp only [Act.put, List.setIfInBounds_toArray, List.set_cons_zero, List.set_cons_succ]
          simp only [Exit.then]
          have hO : Own w11 (setL d (.slice (some ads) (idxs 0 m).length cs) (idxs 0 m) g cap m.length rest bv bb fvk fb ((.slice none 0 0, []) :: l) (((stK pk 0 m k).map (·.s)).set x s) L) := hO
          go_wp2_with (first | (apply own_load1 rfl rfl rfl; (first | exact row_secs | exact row_mv | exact row_mb); (first | exact own_get 0 hO rfl | exact own_get 1 hO rfl | exact own_get 2 hO rfl | exact own_get 3 hO rfl | exact own_get 4 hO rfl | exact own_get 5 hO rfl | exact own_get 6 hO rfl | exact own_get 7 hO rfl); (first | (simp only [List.getElem?_toArray, List.getElem?_cons_succ, List.getElem?_cons_zero]; rfl) | rfl)) | (refine own_mdel (i := 1) (b := bv) (f := fvk) (k := (x : Int)) rfl rfl rfl rfl und_mv und_i hO rfl ?_; clear hO; intro u hO hSn; replace hS := hS.trans hSn; clear hSn))
          go_roundw
          case rel =>
            refine ⟨k + 1, by omega, by go_num, ⟨mdel fvk x, ?_, ?_⟩, hS⟩
            · rw [H4.out]; exact HDK.out.settle H3.out (sett_len HDK.out H3.out ((q : Int) + 1)) (List.mem_cons_self ..)
            · rw [H4.out, List.map_set, hs.out]; exact hO
          case measure => simp [intOf]; omega
      · have hs : Hid (sett v b = b.s) := by show _ = _; unfold sett; rw [if_neg hin]
        by_cases hv1 : 1 ≤ v
        · have hv2 : ¬ (v ≤ (b.vs.length : Int)) := fun h => hin ⟨hv1, h⟩
          have d1 : decide (1 ≤ v) = true := decide_eq_true hv1
          have d2 : decide (v ≤ (b.vs.length : Int)) = false := decide_eq_false hv2
          clear hin
          refine wp_region_seq (Cls u (_)) 23 74 mixed (by kernel_rfl) rfl (cls_drew hO) ?_
          simp only [List.append_eq, List.cons_append, List.nil_append, List.take_succ_cons, List.take_zero]
          repeat (first
            | (apply wv_skip rfl; simp only [Act.put, List.setIfInBounds_toArray, List.set_cons_zero, List.set_cons_succ])
            | (apply wv_load1 rfl rfl rfl; (first | exact row_int | exact row_str | exact row_bool | exact row_u8 | exact row_bys | exact row_pats | exact row_err); (intro w h; (first | exact own_get 0 h.1 rfl | exact own_get 1 h.1 rfl | exact own_get 2 h.1 rfl | exact own_get 3 h.1 rfl | exact own_get 4 h.1 rfl | exact own_get 5 h.1 rfl | exact own_get 6 h.1 rfl | exact own_get 7 h.1 rfl)); (first | (simp only [List.getElem?_toArray, List.getElem?_cons_succ, List.getElem?_cons_zero]; rfl) | rfl); simp only [Act.put, List.setIfInBounds_toArray, List.set_cons_zero, List.set_cons_succ])
            | (apply wv_loadrow rfl rfl rfl; (first | exact row_pat); exact sz_pat; (intro w h; (first | exact own_get 0 h.1 rfl | exact own_get 1 h.1 rfl | exact own_get 2 h.1 rfl | exact own_get 3 h.1 rfl | exact own_get 4 h.1 rfl | exact own_get 5 h.1 rfl | exact own_get 6 h.1 rfl | exact own_get 7 h.1 rfl)); (focus (simp; done)); (first | (simp only [List.drop_zero, List.drop_succ_cons, List.take_succ_cons, List.take_zero]; rfl) | rfl); simp only [Act.put, List.setIfInBounds_toArray, List.set_cons_zero, List.set_cons_succ])
            | (apply wv_run rfl; (focus (intro w h; go_simp; first | done | rfl)); simp only [Act.put, List.setIfInBounds_toArray, List.set_cons_zero, List.set_cons_succ])
            | (apply wv_call rfl; (focus (intro w; go_simp; first | done | exact ⟨rfl, rfl⟩)); (focus (intro w h; apply cls_call h; fail)); simp only [Act.put, List.setIfInBounds_toArray, List.set_cons_zero, List.set_cons_succ]))
          refine wv_nil ?_
          simp only [List.drop_succ_cons, List.drop_zero]
          intro w9 ⟨hO9, hS9⟩
          replace hS := hS.trans hS9
          clear hO hS9
          have hO := hO9
          clear hO9
          go_wp2_with (first | (apply own_load1 rfl rfl rfl; (first | exact row_secs | exact row_mv | exact row_mb); (first | exact own_get 0 hO rfl | exact own_get 1 hO rfl | exact own_get 2 hO rfl | exact own_get 3 hO rfl | exact own_get 4 hO rfl | exact own_get 5 hO rfl | exact own_get 6 hO rfl | exact own_get 7 hO rfl); (first | (simp only [List.getElem?_toArray, List.getElem?_cons_succ, List.getElem?_cons_zero]; rfl) | rfl)) | (refine own_mdel (i := 1) (b := bv) (f := fvk) (k := (x : Int)) rfl rfl rfl rfl und_mv und_i hO rfl ?_; clear hO; intro u hO hSn; replace hS := hS.trans hSn; clear hSn))
          go_roundw
          case rel =>
            refine ⟨k + 1, by omega, by go_num, ⟨mdel fvk x, ?_, ?_⟩, hS⟩
            · rw [H4.out]; exact HDK.out.settle H3.out (sett_len HDK.out H3.out v) (List.mem_cons_self ..)
            · rw [H4.out, map_set_s (b' := ⟨sett v b, [], b.bad⟩) H3.out hs.out]; exact hO
          case measure => simp [intOf]; omega
        · have d1 : decide (1 ≤ v) = false := decide_eq_false hv1
          clear hin
          refine wp_region_seq (Cls u (_)) 23 74 mixed (by kernel_rfl) rfl (cls_drew hO) ?_
          simp only [List.append_eq, List.cons_append, List.nil_append, List.take_succ_cons, List.take_zero]
          repeat (first
            | (apply wv_skip rfl; simp only [Act.put, List.setIfInBounds_toArray, List.set_cons_zero, List.set_cons_succ])
            | (apply wv_load1 rfl rfl rfl; (first | exact row_int | exact row_str | exact row_bool | exact row_u8 | exact row_bys | exact row_pats | exact row_err); (intro w h; (first | exact own_get 0 h.1 rfl | exact own_get 1 h.1 rfl | exact own_get 2 h.1 rfl | exact own_get 3 h.1 rfl | exact own_get 4 h.1 rfl | exact own_get 5 h.1 rfl | exact own_get 6 h.1 rfl | exact own_get 7 h.1 rfl)); (first | (simp only [List.getElem?_toArray, List.getElem?_cons_succ, List.getElem?_cons_zero]; rfl) | rfl); simp only [Act.put, List.setIfInBounds_toArray, List.set_cons_zero, List.set_cons_succ])
            | (apply wv_loadrow rfl rfl rfl; (first | exact row_pat); exact sz_pat; (intro w h; (first | exact own_get 0 h.1 rfl | exact own_get 1 h.1 rfl | exact own_get 2 h.1 rfl | exact own_get 3 h.1 rfl | exact own_get 4 h.1 rfl | exact own_get 5 h.1 rfl | exact own_get 6 h.1 rfl | exact own_get 7 h.1 rfl)); (focus (simp; done)); (first | (simp only [List.drop_zero, List.drop_succ_cons, List.take_succ_cons, List.take_zero]; rfl) | rfl); simp only [Act.put, List.setIfInBounds_toArray, List.set_cons_zero, List.set_cons_succ])
            | (apply wv_run rfl; (focus (intro w h; go_simp; first | done | rfl)); simp only [Act.put, List.setIfInBounds_toArray, List.set_cons_zero, List.set_cons_succ])
            | (apply wv_call rfl; (focus (intro w; go_simp; first | done | exact ⟨rfl, rfl⟩)); (focus (intro w h; apply cls_call h; fail)); simp only [Act.put, List.setIfInBounds_toArray, List.set_cons_zero, List.set_cons_succ]))
          refine wv_nil ?_
          simp only [List.drop_succ_cons, List.drop_zero]
          intro w9 ⟨hO9, hS9⟩
          replace hS := hS.trans hS9
          clear hO hS9
          have hO := hO9
          clear hO9
          go_wp2_with (first | (apply own_load1 rfl rfl rfl; (first | exact row_secs | exact row_mv | exact row_mb); (first | exact own_get 0 hO rfl | exact own_get 1 hO rfl | exact own_get 2 hO rfl | exact own_get 3 hO rfl | exact own_get 4 hO rfl | exact own_get 5 hO rfl | exact own_get 6 hO rfl | exact own_get 7 hO rfl); (first | (simp only [List.getElem?_toArray, List.getElem?_cons_succ, List.getElem?_cons_zero]; rfl) | rfl)) | (refine own_mdel (i := 1) (b := bv) (f := fvk) (k := (x : Int)) rfl rfl rfl rfl und_mv und_i hO rfl ?_; clear hO; intro u hO hSn; replace hS := hS.trans hSn; clear hSn))
          go_roundw
          case rel =>
            refine ⟨k + 1, by omega, by go_num, ⟨mdel fvk x, ?_, ?_⟩, hS⟩
            · rw [H4.out]; exact HDK.out.settle H3.out (sett_len HDK.out H3.out v) (List.mem_cons_self ..)
            · rw [H4.out, map_set_s (b' := ⟨sett v b, [], b.bad⟩) H3.out hs.out]; exact hO
          case measure => simp [intOf]; omega
    · have hke : k = (idxs 0 m).length := by omega
      subst hke
      go_wp2
      go_ret
      rw [stK_all] at hdk hO
      refine ⟨rfl, ?_, hS⟩
      have hlen : (crashL pk 0 m).length = m.length := crashL_len pk m 0
      have h1 := own_drop hO
      have h2 := own_at h1 (k := 2) rfl
      have hsl : (secs ((crashL pk 0 m).map (·.s))).length = m.length * 32 := by
        rw [secs_length (fun s hs => by obtain ⟨b, hb, rfl⟩ := List.mem_map.1 hs; exact hdk.s32 b hb), List.length_map, hlen]
      have h3 := owns_of_pts (size := 32) (n := m.length) (cap := cap) (xs := secs ((crashL pk 0 m).map (·.s))) h2 (by rw [List.size_toArray, List.length_append, hsl]; exact HC3.out) HC1.out HC2.out (by rw [← hsl]; exact List.take_left)
      refine disk_open.2 ⟨.slice (some ⟨g, 0, none⟩) m.length cap, bv, bb, fvk, fb, _, hdk, ?_⟩
      rw [hlen]
      exact own_at h3 (k := 2) rfl
end
end Go.Proofs.Ytjilkbkafigloaa.H
set_option linter.unusedVariables false
set_option linter.unusedSimpArgs false
set_option maxRecDepth 100000
namespace Go.Proofs.Ytjilkbkafigloaa.H
open Go.RowKit
section
variable (w : World) (L : List HP) (d : Nat) (m : List Blk)
theorem flush1_c (k n : Nat) (hO : Own w L) : Calls Try.prog 35 #[.int .i64 k, .int .i64 n] w (Ret w (.int .i64 n) L) := by
  go_enter Try.func35, Try.ntmps35
  go_wp2
  go_ret
  exact ⟨rfl, hO, Same.refl _⟩
theorem flush_nil (hO : Own w L) : Calls Try.prog 17 #[.pointer none] w (Ret w (.int .i64 1) L) := by
  have hS := Same.refl w
  go_enter Try.func17, Try.ntmps17
  go_wp2_with (first | (go_at_call 34; (with_reducible refine Calls.mono (settle_nil _ _ _ hO) ?_); clear hO; rintro e u ⟨rfl, hO, hSn⟩; replace hS := hS.trans hSn; clear hSn))
  go_ret
  exact ⟨rfl, hO, hS⟩
/-- Flush's pick. -/
abbrev allV : Nat → Nat → Int := fun _ n => (n : Int)
theorem flush_c (hO : Own w (diskP d m :: L)) (h0 : 0 < m.length) (hv : ∀ b ∈ m, b.vs.length ≤ 1000000) : Calls Try.prog 17 #[.pointer (some ⟨d, 0, none⟩)] w (Ret w (.int .i64 0) (diskP d (crashL allV 0 m) :: L)) := by
  have hS := Same.refl w
  have H0 := Lib.hid h0
  have HV := Lib.hid hv
  clear h0 hv
  go_enter Try.func17, Try.ntmps17
  go_wp2_with (first | (go_at_call 34; (with_reducible refine Calls.mono (settle_flush _ _ d m allV hO H0.out HV.out (fun k n w' L' _ _ _ h => flush1_c w' L' k n h)) ?_); clear hO; rintro e u ⟨rfl, hO, hSn⟩; replace hS := hS.trans hSn; clear hSn))
  go_ret
  exact ⟨rfl, hO, hS⟩
/-- Crash's pick. -/
abbrev pickV (l : List Int) : Nat → Nat → Int := fun k _ => (l[k]?).getD 0
theorem crash1_c (bp : Nat) (v : Value) (l : List Int) (k n : Nat) (hO : Own w L) (hb : ∀ w', Own w' L → w'.heap[bp]? = some (.cells #[v] 41)) (hr : ∀ w', Own w' L → Rd w' 1 v l.length (l.map encZ)) : Calls Try.prog 38 #[.int .i64 k, .int .i64 n, .pointer (some ⟨bp, 0, none⟩)] w (Ret w (.int .i64 (pickV l k n)) L) := by
  have hB := Lib.hid (hb w hO)
  obtain ⟨_, A, c, rfl, _, _, hcl⟩ := (hr w hO).out
  clear hb hr
  by_cases hk : k < l.length
  · obtain ⟨ad, rfl, hcell⟩ := hcl k (.int .i64 l[k]) (by simp [hk])
    have hk1 : (k : Int) < l.length := by omega
    have hpk : Hid (pickV l k n = l[k]) := by show _ = _; simp [pickV, List.getElem?_eq_getElem hk]
    have HC := Lib.hid hcell
    clear hcl hcell
    go_enter Try.func38, Try.ntmps38
    go_wp2_with (first | (refine own_load1 (b := bp) (off := 0) (cs := #[.slice (some ad) l.length c]) (t := 41) (v := .slice (some ad) l.length c) rfl rfl rfl row_intsD hB.out rfl ?_) | (refine own_load1_at (ad := ad.add k) (v := .int .i64 l[k]) rfl rfl rfl row_int HC.out ?_))
    go_ret
    exact ⟨congrArg (fun x => Ending.returned (Value.int .i64 x)) hpk.out.symm, hO, Same.refl _⟩
  · have hk1 : ¬ ((k : Int) < l.length) := by omega
    have hpk : Hid (pickV l k n = 0) := by show _ = _; simp [pickV, List.getElem?_eq_none (by omega : l.length ≤ k)]
    have hd : decide ((k : Int) < l.length) = false := decide_eq_false hk1
    clear hcl
    go_enter Try.func38, Try.ntmps38
    go_wp2_with (first | (refine own_load1 (b := bp) (off := 0) (cs := #[.slice A l.length c]) (t := 41) (v := .slice A l.length c) rfl rfl rfl row_intsD hB.out rfl ?_))
    go_ret
    exact ⟨congrArg (fun x => Ending.returned (Value.int .i64 x)) hpk.out.symm, hO, Same.refl _⟩
theorem crash_nil (v : Value) (hv : v.cells = #[v]) (hO : Own w L) : Calls Try.prog 20 #[.pointer none, v] w (Ret w (.int .i64 1) L) := by
  have hS := Same.refl w
  have HV := Lib.hid hv
  clear hv
  go_enter Try.func20, Try.ntmps20
  go_wp2_with (first | (refine own_box (x := .tmp 1) (cs := #[v]) rfl rfl rfl HV.out hO ?_; clear hO; intro bx u hO hSn; replace hS := hS.trans hSn; clear hSn) | (go_at_call 34; (with_reducible refine Calls.mono (settle_nil _ _ _ hO) ?_); clear hO; rintro e u ⟨rfl, hO, hSn⟩; replace hS := hS.trans hSn; clear hSn))
  go_ret
  exact ⟨rfl, own_drop hO, hS⟩
theorem crash_c (v : Value) (l : List Int) (hO : Own w (diskP d m :: L)) (h0 : 0 < m.length) (hv : ∀ b ∈ m, b.vs.length ≤ 1000000) (hr : ∀ w', Own w' L → Rd w' 1 v l.length (l.map encZ)) : Calls Try.prog 20 #[.pointer (some ⟨d, 0, none⟩), v] w (Ret w (.int .i64 0) (diskP d (crashL (pickV l) 0 m) :: L)) := by
  have hS := Same.refl w
  have H0 := Lib.hid h0
  have HV := Lib.hid hv
  have HR := Lib.hid hr
  obtain ⟨A, c, rfl⟩ := (hr w (own_drop hO)).slice
  clear h0 hv hr
  go_enter Try.func20, Try.ntmps20
  go_wp2_with (first | (refine own_box (x := .tmp 1) (cs := #[.slice A l.length c]) rfl rfl rfl rfl hO ?_; clear hO; intro bp u hO hSn; replace hS := hS.trans hSn; clear hSn; replace hO := own_perm hO (List.Perm.swap _ _ _)) | (go_at_call 34; (with_reducible refine Calls.mono (settle_crash _ _ d m bp (pickV l) hO H0.out HV.out (fun k n w' L' _ _ hs h => crash1_c w' L' bp (.slice A l.length c) l k n h (fun w2 h2 => own_pts (hs w2 h2)) (fun w2 h2 => HR.out w2 (own_drop (hs w2 h2))))) ?_); clear hO; rintro e u ⟨rfl, hO, hSn⟩; replace hS := hS.trans hSn; clear hSn))
  go_ret
  exact ⟨rfl, own_drop (own_perm hO (List.Perm.swap _ _ _)), hS⟩
end
end Go.Proofs.Ytjilkbkafigloaa.H
set_option linter.unusedVariables false
set_option linter.unusedSimpArgs false
set_option maxRecDepth 100000
namespace Go.Proofs.Ytjilkbkafigloaa.H
open Go.RowKit
/-- A sector of one byte. -/
abbrev sec (c : UInt8) : Sec := List.replicate 32 c
theorem row_arr : isRowB Try.prog 25 = some true := by kernel_rfl
theorem sz_arr3 : (Try.prog.info? 25).map (·.size) = some 32 := by kernel_rfl
theorem zero_arr : (Try.prog.info? 25).map (·.zero) = some (some (.agg (Array.replicate 32 (.int .u8 0)))) := by kernel_rfl
theorem sz_u83 : (Try.prog.info? 5).map (·.size) = some 1 := by kernel_rfl
def half (c : UInt8) (k : Nat) : Sec := List.replicate k c ++ List.replicate (32 - k) 0
theorem half_len (c : UInt8) {k : Nat} (h : k ≤ 32) : (half c k).length = 32 := by simp [half]; omega
theorem half_set (c : UInt8) {k : Nat} (h : k < 32) : (bcs (half c k)).toArray.setIfInBounds k (.int .u8 (c.toNat : Int)) = (bcs (half c (k + 1))).toArray := by
  have e : (half c k).set k c = half c (k + 1) := by
    unfold half
    rw [List.set_append_right _ _ (by simp), List.length_replicate, Nat.sub_self, show 32 - k = (32 - (k + 1)) + 1 by omega, List.replicate_succ, List.set_cons_zero, List.replicate_succ', List.append_assoc]
    rfl
  rw [← e]
  apply Array.ext'
  simp [bcs, List.map_set]
theorem half_zero (c : UInt8) : (Value.agg (Array.replicate 32 (Value.int .u8 0))).cells = (bcs (half c 0)).toArray := by
  apply Array.ext'
  simp [Value.cells, half, bcs]
theorem sector_c (w : World) (L : List HP) (c : UInt8) (hO : Own w L) : Calls Try.prog 10 #[.int .u8 (c.toNat : Int)] w (Ret w (secV (sec c)) L) := by
  have hS := Same.refl w
  go_enter Try.func10, Try.ntmps10
  go_wp2_with (first | (refine own_alloc (T := 25) rfl rfl zero_arr (half_zero c) hO ?_; clear hO; intro g u hO hSn; replace hS := hS.trans hSn; clear hSn))
  go_loopw [3] (fun i wr => ∃ k : Nat, k ≤ 32 ∧ i = .int .i64 k ∧ Own wr (pts g (.cells (bcs (half c k)).toArray 25) :: L) ∧ Same w wr) (fun i _ => 32 - (intOf i).toNat)
  case atStart => exact ⟨0, Nat.zero_le _, rfl, hO, hS⟩
  case round =>
    clear hO hS
    obtain ⟨k, hk, rfl, hO, hS⟩ := hrel
    have HH : Hid ((half c k).length = 32) := Lib.hid (half_len c hk)
    by_cases hlt : k < 32
    · have hk1 : (k : Int) < 32 := by omega
      have HS := Lib.hid (half_set c hlt)
      go_wp2_with (refine own_store1 (k := 0) (cs' := (bcs (half c (k + 1))).toArray) rfl rfl rfl rfl sz_u83 hO rfl rfl ?_ ?_ ?_; (simp only [List.size_toArray, bcs_length, HH.out]; exact hlt); exact HS.out; clear hO; intro u hO hSn; replace hS := hS.trans hSn; clear hSn; simp only [List.set_cons_zero] at hO)
      go_roundw
      case rel => exact ⟨k + 1, by omega, by go_num, hO, hS⟩
      case measure => simp [intOf]; omega
    · have hke : k = 32 := by omega
      subst hke
      have e : Hid (half c 32 = sec c) := Lib.hid (List.append_nil _)
      go_wp2_with (first | (refine own_loadrow (b := g) (off := 0) (vs := bcs (half c 32)) rfl rfl rfl row_arr sz_arr3 (own_get 0 hO rfl) (by simp [bcs_length, HH.out]) (by rw [List.drop_zero]; exact List.take_of_length_le (by simp [bcs_length, HH.out])) ?_) | (refine own_store_all (k := 0) rfl rfl rfl rfl sz_arr3 hO rfl (secA_size HH.out) (secA_size HH.out) (bcs_all _) ?_; clear hO; intro u hO hSn; replace hS := hS.trans hSn; clear hSn; simp only [List.set_cons_zero, List.set_cons_succ] at hO))
      refine bodyPost_ret (results_cell rfl rfl (own_get 0 hO rfl) row_arr (by rw [secA_size HH.out]; exact sz_arr3)) rfl ⟨by rw [← e.out], own_drop hO, hS⟩
end Go.Proofs.Ytjilkbkafigloaa.H
set_option linter.unusedVariables false
set_option linter.unusedSimpArgs false
set_option maxRecDepth 100000
namespace Go.Proofs.Ytjilkbkafigloaa.H
open Go.RowKit
abbrev lv0 : List Blk := fresh (List.replicate 2 sec0)
abbrev lv1 : List Blk := [⟨sec0, [sec 1], false⟩, ⟨sec0, [], false⟩]
abbrev lv2 : List Blk := [⟨sec0, [sec 1, sec 2], false⟩, ⟨sec0, [], false⟩]
abbrev lv3 : List Blk := [⟨sec 1, [], false⟩, ⟨sec0, [], false⟩]
theorem row_u8D : isRowB Try.prog 5 = some false := by kernel_rfl
section
variable (w : World) (L : List HP) (d : Nat)
theorem live_new (hO : Own w L) : Calls Try.prog 14 #[.int .i64 2] w (RetX w (fun d : Nat => .pointer (some ⟨d, 0, none⟩)) (fun d => diskP d lv0 :: L)) := new_ok w L 2 hO (by decide) (by decide)
theorem live_s1 (hO : Own w L) : Calls Try.prog 10 #[.int .u8 1] w (Ret w (secV (sec 1)) L) := sector_c w L 1 hO
theorem live_s2 (hO : Own w L) : Calls Try.prog 10 #[.int .u8 2] w (Ret w (secV (sec 2)) L) := sector_c w L 2 hO
theorem live_w1 (hO : Own w (diskP d lv0 :: L)) : Calls Try.prog 19 #[.pointer (some ⟨d, 0, none⟩), .int .i64 0, secV (sec 1)] w (Ret w (.int .i64 0) (diskP d lv1 :: L)) := write_ok w L d lv0 0 ⟨sec0, [], false⟩ (sec 1) hO rfl rfl rfl (by decide)
theorem live_w2 (hO : Own w (diskP d lv1 :: L)) : Calls Try.prog 19 #[.pointer (some ⟨d, 0, none⟩), .int .i64 0, secV (sec 2)] w (Ret w (.int .i64 0) (diskP d lv2 :: L)) := write_ok w L d lv1 0 ⟨sec0, [sec 1], false⟩ (sec 2) hO rfl rfl rfl (by decide)
theorem live_v (hO : Own w (diskP d lv2 :: L)) : Calls Try.prog 22 #[.pointer (some ⟨d, 0, none⟩), .int .i64 0] w (Ret w (.int .i64 2) (diskP d lv2 :: L)) := versions_c w L d lv2 0 hO
theorem live_c (g : Nat) (hO : Own w (diskP d lv2 :: L)) (hg : ∀ w', Own w' L → Rd w' 1 (.slice (some ⟨g, 0, none⟩) 1 1) 1 [.int .i64 1]) : Calls Try.prog 20 #[.pointer (some ⟨d, 0, none⟩), .slice (some ⟨g, 0, none⟩) 1 1] w (Ret w (.int .i64 0) (diskP d lv3 :: L)) := crash_c w L d lv2 _ [1] hO (by decide) (fun b hb => by simp at hb; rcases hb with rfl | rfl <;> simp) hg
theorem live_r (hO : Own w (diskP d lv3 :: L)) : Calls Try.prog 21 #[.pointer (some ⟨d, 0, none⟩), .int .i64 0] w (Ret w (.tuple #[secV (sec 1), .int .i64 0]) (diskP d lv3 :: L)) := read_ok w L d lv3 0 ⟨sec 1, [], false⟩ hO rfl
theorem live_z (hO : Own w (diskP d lv3 :: L)) : Calls Try.prog 27 #[.pointer (some ⟨d, 0, none⟩)] w (Ret w (.int .i64 2) (diskP d lv3 :: L)) := size_c w L d lv3 hO
theorem live3_c (hO : Own w L) : Calls Try.prog 13 #[] w (fun e w' => e = .returned (.bool true) ∧ Own w' L ∧ Same w w') := by
  have hS := Same.refl w
  go_enter Try.func13, Try.ntmps13
  go_upto_region 3 with (first | (go_at_call 14; (with_reducible refine Calls.mono (live_new _ _ hO) ?_); clear hO; rintro e u ⟨d, rfl, hO, hSn⟩; replace hS := hS.trans hSn; clear hSn) | (go_at_call 10; (with_reducible refine Calls.mono (live_s1 _ _ hO) ?_); clear hO; rintro e u ⟨rfl, hO, hSn⟩; replace hS := hS.trans hSn; clear hSn) | (go_at_call 19; (with_reducible refine Calls.mono (live_w1 _ _ d hO) ?_); clear hO; rintro e u ⟨rfl, hO, hSn⟩; replace hS := hS.trans hSn; clear hSn))
  go_upto_region 5 with (first | (go_at_call 10; (with_reducible refine Calls.mono (live_s2 _ _ hO) ?_); clear hO; rintro e u ⟨rfl, hO, hSn⟩; replace hS := hS.trans hSn; clear hSn) | (go_at_call 19; (with_reducible refine Calls.mono (live_w2 _ _ d hO) ?_); clear hO; rintro e u ⟨rfl, hO, hSn⟩; replace hS := hS.trans hSn; clear hSn) | (go_at_call 22; (with_reducible refine Calls.mono (live_v _ _ d hO) ?_); clear hO; rintro e u ⟨rfl, hO, hSn⟩; replace hS := hS.trans hSn; clear hSn))
  go_upto_region 7 with (first | (go_at_call 20; (with_reducible refine Calls.mono (live_c _ _ d _ (own_perm (own_alloc_new hO (.cells #[.int .i64 1] 3)) (List.Perm.swap _ _ _)) (fun w' h => rd_block (own_pts h) rfl (by decide) (by decide) (by decide))) ?_); clear hO; rintro e u ⟨rfl, hO, hSn⟩; replace hS := (hS.trans (Same.alloc _ _)).trans hSn; clear hSn) | (go_at_call 21; (with_reducible refine Calls.mono (live_r _ _ d hO) ?_); clear hO; rintro e u ⟨rfl, hO, hSn⟩; replace hS := hS.trans hSn; clear hSn) | (refine own_alloc (T := 26) rfl rfl zero_sec rfl hO ?_; clear hO; intro ga u hO hSn; replace hS := hS.trans hSn; clear hSn) | (refine own_store_all (k := 0) rfl rfl rfl rfl sz_sec hO rfl (secA_size (by simp)) (by rfl) (bcs_all _) ?_; clear hO; intro u hO hSn; replace hS := hS.trans hSn; clear hSn; simp only [List.set_cons_zero, List.set_cons_succ] at hO))
  obtain ⟨gg, hO⟩ : ∃ gg, Own u (pts ga (.cells (bcs (sec 1)).toArray 26) :: diskP d lv3 :: pts gg (.cells #[.int .i64 1] 3) :: L) := ⟨_, hO⟩
  refine wp_plain_seq (Cls u (pts ga (.cells (bcs (sec 1)).toArray 26) :: diskP d lv3 :: pts gg (.cells #[.int .i64 1] 3) :: L)) 20 (cls_here hO) ?_
  simp only [List.append_eq, List.cons_append, List.nil_append, List.take_succ_cons, List.take_zero]
  repeat (first
    | (apply wv_skip rfl; simp only [Act.put, List.setIfInBounds_toArray, List.set_cons_zero, List.set_cons_succ])
    | (apply wv_load1 rfl rfl rfl; (first | exact row_int | exact row_str | exact row_bool | exact row_u8 | exact row_bys | exact row_pats | exact row_err); (intro w h; (first | exact own_get 0 h.1 rfl | exact own_get 1 h.1 rfl | exact own_get 2 h.1 rfl | exact own_get 3 h.1 rfl | exact own_get 4 h.1 rfl | exact own_get 5 h.1 rfl | exact own_get 6 h.1 rfl | exact own_get 7 h.1 rfl)); (first | (simp only [List.getElem?_toArray, List.getElem?_cons_succ, List.getElem?_cons_zero]; rfl) | rfl); simp only [Act.put, List.setIfInBounds_toArray, List.set_cons_zero, List.set_cons_succ])
    | (apply wv_loadrow rfl rfl rfl; (first | exact row_pat); exact sz_pat; (intro w h; (first | exact own_get 0 h.1 rfl | exact own_get 1 h.1 rfl | exact own_get 2 h.1 rfl | exact own_get 3 h.1 rfl | exact own_get 4 h.1 rfl | exact own_get 5 h.1 rfl | exact own_get 6 h.1 rfl | exact own_get 7 h.1 rfl)); (focus (simp; done)); (first | (simp only [List.drop_zero, List.drop_succ_cons, List.take_succ_cons, List.take_zero]; rfl) | rfl); simp only [Act.put, List.setIfInBounds_toArray, List.set_cons_zero, List.set_cons_succ])
    | (refine wv_load1 (b := ga) (off := 3) (cs := (bcs (sec 1)).toArray) (t := 26) (v := .int .u8 1) rfl rfl rfl row_u8D (fun w h => own_get 0 h.1 rfl) rfl ?_; simp only [Act.put, List.setIfInBounds_toArray, List.set_cons_zero, List.set_cons_succ])
    | (apply wv_run rfl; (focus (intro w h; go_simp; first | done | rfl)); simp only [Act.put, List.setIfInBounds_toArray, List.set_cons_zero, List.set_cons_succ])
    | (apply wv_call rfl; (focus (intro w; go_simp; first | done | exact ⟨rfl, rfl⟩)); (focus (intro w h; apply cls_call h; exact call_at 1 (fun L' h => live_z _ L' d h) rfl h.1)); simp only [Act.put, List.setIfInBounds_toArray, List.set_cons_zero, List.set_cons_succ]))
  refine wv_nil ?_
  simp only [List.drop_succ_cons, List.drop_zero]
  intro w9 ⟨hO9, hS9⟩
  clear hO
  go_wp2
  go_ret
  exact ⟨rfl, own_drop (own_drop (own_drop hO9)), hS.trans hS9⟩
end
end Go.Proofs.Ytjilkbkafigloaa.H
set_option linter.unusedVariables false
set_option linter.unusedSimpArgs false
set_option maxRecDepth 100000
namespace Go.Proofs.Ytjilkbkafigloaa.H
open Go.RowKit
theorem fork_nil (w : World) (L : List HP) (hO : Own w L) : Calls Try.prog 24 #[.pointer none] w (Ret w (.pointer none) L) := by
  go_enter Try.func24, Try.ntmps24
  go_wp2
  go_ret
  exact ⟨rfl, hO, Same.refl _⟩
theorem live4_c (w : World) (L : List HP) (hO : Own w L) : Calls Try.prog 13 #[] w (Ret w (.bool true) L) := live3_c w L hO
set_option maxHeartbeats 3200000 in
theorem none_walk (w : World) (kd di dc : Int) (A : Option Addr) (n c : Nat) (db : Bool) : Calls Try.prog 9 #[.agg #[.int .i64 kd, .int .i64 di, .int .u8 dc, .slice A n c, .bool db]] w (fun e w' => e = .returned (.bool true) ∧ Below w.heap.size w w') := by
  have hS := Same.refl w
  have hO := own_snap (w := w)
  obtain ⟨i0, hi0⟩ := u8_info
  have HE : Hid (∀ w', (Op.equalIn 10000 26 (secV sec0) (secV sec0)).run Try.prog w' = .ok true w') := Lib.hid fun w' => by
    have h := eq_sec w' (n := 0) und_sec hi0 9998 (a := sec0) (b := sec0) (by simp) (by simp)
    simpa using h
  clear hi0
  go_enter Try.func9, Try.ntmps9
  go_upto_region 4 with (first | (refine own_box_agg (x := .tmp 0) rfl rfl rfl hO ?_; clear hO; intro b u hO hSn; replace hS := hS.trans hSn; clear hSn) | (go_at_call 21; (with_reducible refine Calls.mono (read_nil _ _ di hO) ?_); clear hO; rintro e u ⟨rfl, hO, hSn⟩; replace hS := hS.trans hSn; clear hSn) | (go_at_call 18; (with_reducible refine Calls.mono (lasting_nil _ _ di hO) ?_); clear hO; rintro e u ⟨rfl, hO, hSn⟩; replace hS := hS.trans hSn; clear hSn) | (refine own_load1 (b := b) (off := 1) (cs := #[.int .i64 kd, .int .i64 di, .int .u8 dc, .slice A n c, .bool db]) (t := 50) (v := .int .i64 di) rfl rfl rfl row_int (by first | exact own_get 0 hO rfl | exact own_get 1 hO rfl) rfl ?_) | (refine own_alloc (T := 26) rfl rfl zero_sec rfl hO ?_; clear hO; intro ga u hO hSn; replace hS := hS.trans hSn; clear hSn) | (refine own_store_all (k := 0) rfl rfl rfl rfl sz_sec hO rfl (secA_size (by simp)) (by rfl) (bcs_all _) ?_; clear hO; intro u hO hSn; replace hS := hS.trans hSn; clear hSn; simp only [List.set_cons_zero, List.set_cons_succ] at hO))
  refine wp_plain_seq (Cls u (_)) 58 (cls_here hO) ?_
  simp only [List.append_eq, List.cons_append, List.nil_append, List.take_succ_cons, List.take_zero]
  repeat (first
    | (apply wv_skip rfl; simp only [Act.put, List.setIfInBounds_toArray, List.set_cons_zero, List.set_cons_succ])
    | (apply wv_load1 rfl rfl rfl; (first | exact row_int | exact row_str | exact row_bool | exact row_u8 | exact row_bys | exact row_pats | exact row_err); (intro w h; (first | exact own_get 0 h.1 rfl | exact own_get 1 h.1 rfl | exact own_get 2 h.1 rfl | exact own_get 3 h.1 rfl | exact own_get 4 h.1 rfl | exact own_get 5 h.1 rfl | exact own_get 6 h.1 rfl | exact own_get 7 h.1 rfl)); (first | (simp only [List.getElem?_toArray, List.getElem?_cons_succ, List.getElem?_cons_zero]; rfl) | rfl); simp only [Act.put, List.setIfInBounds_toArray, List.set_cons_zero, List.set_cons_succ])
    | (apply wv_loadrow rfl rfl rfl; (first | exact row_pat); exact sz_pat; (intro w h; (first | exact own_get 0 h.1 rfl | exact own_get 1 h.1 rfl | exact own_get 2 h.1 rfl | exact own_get 3 h.1 rfl | exact own_get 4 h.1 rfl | exact own_get 5 h.1 rfl | exact own_get 6 h.1 rfl | exact own_get 7 h.1 rfl)); (focus (simp; done)); (first | (simp only [List.drop_zero, List.drop_succ_cons, List.take_succ_cons, List.take_zero]; rfl) | rfl); simp only [Act.put, List.setIfInBounds_toArray, List.set_cons_zero, List.set_cons_succ])
    | (refine wv_load1 (b := b) (off := 1) (cs := #[.int .i64 kd, .int .i64 di, .int .u8 dc, .slice A n c, .bool db]) (t := 50) (v := .int .i64 di) rfl rfl rfl row_int (fun w h => own_get 2 h.1 rfl) rfl ?_; simp only [Act.put, List.setIfInBounds_toArray, List.set_cons_zero, List.set_cons_succ])
    | (refine wv_load1 (b := b) (off := 3) (cs := #[.int .i64 kd, .int .i64 di, .int .u8 dc, .slice A n c, .bool db]) (t := 50) (v := .slice A n c) rfl rfl rfl row_intsD (fun w h => own_get 2 h.1 rfl) rfl ?_; simp only [Act.put, List.setIfInBounds_toArray, List.set_cons_zero, List.set_cons_succ])
    | (refine wv_loadrow (off := 0) (cs := (bcs sec0).toArray) (t := 26) (vs := bcs sec0) rfl rfl rfl row_sec sz_sec (fun w h => by first | exact own_get 0 h.1 rfl | exact own_get 1 h.1 rfl) (by simp [bcs_length]) (by rw [List.drop_zero]; exact List.take_of_length_le (by simp [bcs_length])) ?_; simp only [Act.put, List.setIfInBounds_toArray, List.set_cons_zero, List.set_cons_succ])
    | (apply wv_run rfl; (focus (intro w h; go_simp; simp only [HE.out w]; first | done | rfl)); simp only [Act.put, List.setIfInBounds_toArray, List.set_cons_zero, List.set_cons_succ])
    | (apply wv_run rfl; (focus (intro w h; go_simp; first | done | rfl)); simp only [Act.put, List.setIfInBounds_toArray, List.set_cons_zero, List.set_cons_succ])
    | (apply wv_call rfl; (focus (intro w; go_simp; first | done | exact ⟨rfl, rfl⟩)); (focus (intro w h; apply cls_call h; (first | exact live4_c _ _ h.1 | exact write_nil _ _ di sec0 h.1 | exact flush_nil _ _ h.1 | exact crash_nil _ _ (.slice A n c) rfl h.1 | exact spoil_nil _ _ di true h.1 | exact size_nil _ _ h.1 | exact versions_nil _ _ di h.1 | exact fork_nil _ _ h.1))); simp only [Act.put, List.setIfInBounds_toArray, List.set_cons_zero, List.set_cons_succ]))
  refine wv_nil ?_
  simp only [List.drop_succ_cons, List.drop_zero]
  intro w9 ⟨hO9, hS9⟩
  clear hO HE
  go_wp2
  go_ret
  exact ⟨rfl, below_of (own_drop (own_drop (own_drop hO9))) (hS.trans hS9)⟩
end Go.Proofs.Ytjilkbkafigloaa.H
