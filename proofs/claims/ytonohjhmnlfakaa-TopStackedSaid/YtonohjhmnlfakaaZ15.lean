/- settle of the program's disk, with Crash's pick (K10's walk, turned). Flush, Crash of the program's disk. Plain words on an engine: what its functions make of it. -/
import Derived.Test.YtonohjhmnlfakaaZ14
import Derived.Test.YtonohjhmnlfakaaZ11
import Derived.Test.YtonohjhmnlfakaaZ02
set_option linter.unusedVariables false
set_option linter.unusedSimpArgs false
set_option maxRecDepth 100000
namespace Go.Proofs.Ytonohjhmnlfakaa.H
open Go.RowKit
section
variable (w : World) (L : List HP) (d : Nat) (m : List Blk)
set_option maxHeartbeats 1600000 in
theorem settle_crash (bp : Nat) (pk : Nat → Nat → Int) (hO : Own w (diskP d m :: L)) (h0 : 0 < m.length) (hv : ∀ b ∈ m, b.vs.length ≤ 1000000)
    (hp : ∀ (k n : Nat) (w' : World) (L' : List HP), k < 1000 → n ≤ 1000000 → (∀ w', Own w' L' → Own w' L) → Own w' L' → Calls Try.prog 86 #[.int .i64 k, .int .i64 n, .pointer (some ⟨bp, 0, none⟩)] w' (Ret w' (.int .i64 (pk k n)) L')) :
    Calls Try.prog 71 #[.pointer (some ⟨d, 0, none⟩), .func (.func 86) #[] #[.pointer (some ⟨bp, 0, none⟩)]] w (Ret w (.int .i64 0) (diskP d (crashL pk 0 m) :: L)) := by
  have HP := Lib.hid hp
  have HV := Lib.hid hv
  have hS := Same.refl w
  obtain ⟨lv, bv, bb, fv, fb, l, hk, hO⟩ := disk_open.1 hO
  have hO := rdV_cons (v := .slice none 0 0) (ss := []) (rdA_nil (size := 32) (own_at hO (k := 4) rfl))
  have hk := hk.more (.slice none 0 0, [])
  have hln : secs (m.map (·.s)) ≠ [] := fun e => by
    have := secs_length (l := m.map (·.s)) (fun s hs => by obtain ⟨b, hb, rfl⟩ := List.mem_map.1 hs; exact hk.s32 b hb)
    rw [e, List.length_map] at this
    simp at this
    omega
  obtain ⟨g, cap, rest, rfl, hc1, hc2, hc3, hc4, hO⟩ := owns_open (own_at hO (k := 2) rfl) (fun e => hln (by
    have hr := owns_rd (own_at hO (k := 2) rfl)
    rw [e] at hr
    obtain ⟨A, c, e2⟩ := hr.slice
    injection e2 with _ e3 _
    have := hr.out.1
    rw [← e3] at this
    exact List.length_eq_zero_iff.1 (by omega)))
  have hO : Own w (mapP bv fv :: pts d (.cells #[.slice (some ⟨g, 0, none⟩) m.length cap, .map (some bv), .map (some bb)] 101) :: pts g (.cells (secs (m.map (·.s)) ++ rest).toArray 47) :: mapP bb fb :: rdV ((.slice none 0 0, []) :: l) :: L) := own_perm hO (by
    refine (perm_at (k := 3) rfl).trans (List.Perm.cons _ ?_)
    refine (perm_at (k := 2) rfl).trans (List.Perm.cons _ (List.Perm.cons _ ?_))
    exact List.Perm.swap _ _ _)
  obtain ⟨es, ck, hM, _⟩ := mapP_open.1 hO
  have hin : ∀ q ∈ fv, inI q.1 := fun q hq => by
    obtain ⟨i, b, h1, h2, _⟩ := hk.keyv q hq
    have := (List.getElem?_eq_some_iff.1 h1).1
    have := hk.len
    rw [h2]
    exact inI_nat (by omega)
  have hrk := rising_keys hk hM.nod
  have hfl : fv.length = (idxs 0 m).length := by
    have := congrArg List.length hrk
    rw [List.length_map] at this
    rw [← this]
    unfold rising
    rw [List.length_mergeSort, List.length_map]
  have hil := idxs_len m 0
  have hml := hk.len
  have HIN := Lib.hid hin
  have HK := Lib.hid hk
  have HRK := Lib.hid hrk
  have HFL := Lib.hid hfl
  have HC1 := Lib.hid hc1
  have HC2 := Lib.hid hc2
  have HC3 : Hid (m.length * 32 + rest.length = cap * 32) := by show _ = _; rw [← hc4, ← List.length_append]; exact hc3
  clear hp hv hin hk hrk hM hln hc1 hc2 hc3 hc4 hfl h0
  go_enter Try.func71, Try.ntmps71
  go_wp2_with (first | (apply own_load1 rfl rfl rfl; (first | exact row_secs | exact row_mv | exact row_mb); (first | exact own_get 0 hO rfl | exact own_get 1 hO rfl | exact own_get 2 hO rfl | exact own_get 3 hO rfl | exact own_get 4 hO rfl | exact own_get 5 hO rfl | exact own_get 6 hO rfl | exact own_get 7 hO rfl); (first | (simp only [List.getElem?_toArray, List.getElem?_cons_succ, List.getElem?_cons_zero]; rfl) | rfl)) | (go_at_call 94; (with_reducible refine Calls.mono (keys_run hO) ?_); clear hO; rintro e u ⟨gm, rfl, hO, hSn⟩; replace hS := hS.trans hSn; clear hSn) | (go_at_call 93; (with_reducible refine Calls.mono (sorted_run hO HIN.out (by have := HFL.out; omega)) ?_); clear hO; rintro e u ⟨sv, rfl, hO, hSn⟩; replace hS := hS.trans hSn; clear hSn; obtain ⟨As, cs, rfl⟩ := (owns_rd hO).slice))
  rw [HRK.out, List.map_map, HFL.out] at hO
  rw [HFL.out]
  have hO : Own u (setL d (.slice As (idxs 0 m).length cs) (idxs 0 m) g cap m.length rest bv bb fv fb ((.slice none 0 0, []) :: l) ((stK pk 0 m 0).map (·.s)) L) := by
    rw [stK_zero]
    exact hO
  go_loopw [5, 6, 7, 8, 18] (fun _ _ _ _ x wr => ∃ k : Nat, k ≤ (idxs 0 m).length ∧ x = .int .i64 k ∧ (∃ fvk, DiskOk (stK pk 0 m k) fvk fb ((.slice none 0 0, []) :: l) ∧ Own wr (setL d (.slice As (idxs 0 m).length cs) (idxs 0 m) g cap m.length rest bv bb fvk fb ((.slice none 0 0, []) :: l) ((stK pk 0 m k).map (·.s)) L)) ∧ Same w wr) (fun _ _ _ _ x _ => (idxs 0 m).length - (intOf x).toNat)
  case atStart => exact ⟨0, Nat.zero_le _, rfl, ⟨fv, by rw [stK_zero]; exact HK.out, hO⟩, hS⟩
  case round =>
    clear hO hS
    obtain ⟨k, hk, rfl, ⟨fvk, hdk, hO⟩, hS⟩ := hrel
    by_cases hlt : k < (idxs 0 m).length
    · obtain ⟨x, hx⟩ : ∃ x, (idxs 0 m)[k]? = some x := ⟨_, List.getElem?_eq_getElem hlt⟩
      obtain ⟨i, b, e, h1, h2, h3, h4⟩ := stK_step pk m 0 0 k x hx
      rw [Nat.zero_add] at e h4
      subst e
      obtain ⟨_, A', c', e, _, _, hcl⟩ := (owns_rd hO).out
      cases e
      obtain ⟨ads, rfl, hcell⟩ := hcl k (.int .i64 (x : Int)) (by rw [List.getElem?_map, hx]; rfl)
      obtain ⟨A, c, hv, hmem⟩ := hdk.vers x b h3
      have HCELL := Lib.hid hcell
      have HVS := Lib.hid hv
      have HMEM := Lib.hid hmem
      have HDK := Lib.hid hdk
      have H3 := Lib.hid h3
      have H4 := Lib.hid h4
      have hrv := rdV_rd (own_at hO (k := 5) rfl) hmem
      have hmx := hrv.max
      have HLEN : Hid (b.vs.length ≤ 1000000) := HV.out b (List.mem_of_getElem? h1)
      have hk1 : (k : Int) < (idxs 0 m).length := by omega
      have hk9 : k < 1000 := by omega
      clear hcl hcell hv hmem hdk h1 h2 h3 h4 hx hrv
      go_upto_region 8 with (first | (refine own_load1_at (ad := ads.add k) (v := .int .i64 (x : Int)) rfl rfl rfl row_int HCELL.out ?_) | (apply own_load1 rfl rfl rfl; (first | exact row_secs | exact row_mv | exact row_mb); (first | exact own_get 0 hO rfl | exact own_get 1 hO rfl | exact own_get 2 hO rfl | exact own_get 3 hO rfl | exact own_get 4 hO rfl | exact own_get 5 hO rfl | exact own_get 6 hO rfl | exact own_get 7 hO rfl); (first | (simp only [List.getElem?_toArray, List.getElem?_cons_succ, List.getElem?_cons_zero]; rfl) | rfl)) | (refine own_mlookup (i := 1) (b := bv) (k := (x : Int)) (f := fvk) rfl rfl rfl rfl und_mv und_i zero_secs hO rfl HVS.out ?_) | (go_at_call 86; (with_reducible refine Calls.mono (HP.out k b.vs.length _ _ hk9 HLEN.out (fun w' h => own_drop (own_drop (own_drop (own_drop (own_drop (own_drop h)))))) hO) ?_); clear hO; rintro e u ⟨rfl, hO, hSn⟩; replace hS := hS.trans hSn; clear hSn))
      generalize hvv : pk k b.vs.length = v
      rw [hvv] at H4
      by_cases hin : 1 ≤ v ∧ v ≤ (b.vs.length : Int)
      · obtain ⟨hv1, hv2⟩ := hin
        have d1 : decide (1 ≤ v) = true := decide_eq_true hv1
        have d2 : decide (v ≤ (b.vs.length : Int)) = true := decide_eq_true hv2
        obtain ⟨s, hsv⟩ : ∃ s, b.vs[(v - 1).toNat]? = some s := ⟨_, List.getElem?_eq_getElem (by omega)⟩
        have hsett : sett v b = s := by unfold sett; rw [if_pos ⟨hv1, hv2⟩, hsv]; rfl
        have h32 : ∀ s ∈ b.vs, s.length = 32 := HDK.out.v32 b (List.mem_of_getElem? H3.out)
        have hs32 := h32 s (List.mem_of_getElem? hsv)
        have hb32 := HDK.out.s32 b (List.mem_of_getElem? H3.out)
        obtain ⟨i0, hi0⟩ := u8_info
        obtain ⟨q, rfl⟩ : ∃ q : Nat, v = (q : Int) + 1 := ⟨(v - 1).toNat, by omega⟩
        have hq : ((q : Int) + 1 - 1).toNat = q := by omega
        rw [hq] at hsv
        have hrv := rdV_rd (own_at hO (k := 5) rfl) HMEM.out
        obtain ⟨ad2, rfl, _⟩ := vers_cell hrv h32 hsv
        have HVC : Hid (∀ w', Own w' (setL d (.slice (some ads) (idxs 0 m).length cs) (idxs 0 m) g cap m.length rest bv bb fvk fb ((.slice none 0 0, []) :: l) ((stK pk 0 m k).map (·.s)) L) → ∀ (j : Nat) (u : Value), (bcs s)[j]? = some u → w'.cell? ((ad2.add (q * 32)).add j) = some u) := Lib.hid fun w' h => by
          obtain ⟨ad3, e3, h3⟩ := vers_cell (rdV_rd (own_at h (k := 5) rfl) HMEM.out) h32 hsv
          cases e3
          exact h3
        have hx1 : (x : Int) < m.length := by
          have h1 := (List.getElem?_eq_some_iff.1 H3.out).1
          have h2 : (stK pk 0 m k).length = m.length := stK_len pk m 0 k
          omega
        have hsub : IntKind.i64.wrap ((q : Int) + 1 - 1) = (q : Int) := by rw [IntKind.wrap_i64] <;> omega
        have hsub2 : IntKind.i64.wrap (q : Int) = (q : Int) := by rw [IntKind.wrap_i64] <;> omega
        have hq1 : (q : Int) < b.vs.length := by omega
        have hq2 : q < b.vs.length := by omega
        have hq3 : ¬ ((q : Int) < 0) := by omega
        have hrow := secs_row (l := (stK pk 0 m k).map (·.s)) (rest := rest) (fun s hs => by obtain ⟨b, hb, rfl⟩ := List.mem_map.1 hs; exact HDK.out.s32 b hb) (k := x) (s := b.s) (by rw [List.getElem?_map, H3.out]; rfl)
        have HROW := Lib.hid hrow
        have HB32 := Lib.hid hb32
        have HS32 := Lib.hid hs32
        have hEq : ∀ w', (Op.equalIn 10000 47 (secV b.s) (secV s)).run Try.prog w' = .ok (decide (b.s = s)) w' := fun w' => eq_sec w' (n := 0) und_sec hi0 9998 hb32 hs32
        clear h32 hrv hrow hb32 hs32 hsv
        by_cases heq : b.s = s
        · have hs : Hid (sett ((q : Int) + 1) b = b.s) := by show _ = _; rw [hsett, heq]
          have d3 : decide (b.s = s) = true := decide_eq_true heq
          clear heq hsett
          refine wp_region_seq (Cls u (_)) 23 74 mixed (by kernel_rfl) rfl (cls_drew hO) ?_
          simp only [List.append_eq, List.cons_append, List.nil_append, List.take_succ_cons, List.take_zero]
          repeat (first
            | (apply wv_skip rfl; simp only [Act.put, List.setIfInBounds_toArray, List.set_cons_zero, List.set_cons_succ])
            | (refine wv_load1 (b := d) (off := 0) (cs := #[.slice (some ⟨g, 0, none⟩) m.length cap, .map (some bv), .map (some bb)]) (t := 101) (v := .slice (some ⟨g, 0, none⟩) m.length cap) rfl rfl rfl row_secs (fun w h => own_get 2 h.1 rfl) rfl ?_; simp only [Act.put, List.setIfInBounds_toArray, List.set_cons_zero, List.set_cons_succ])
            | (refine wv_loadrow (b := g) (off := x * 32) (vs := bcs b.s) rfl rfl rfl row_sec sz_sec (fun w h => own_get 3 h.1 rfl) HROW.out.1 HROW.out.2 ?_; simp only [Act.put, List.setIfInBounds_toArray, List.set_cons_zero, List.set_cons_succ])
            | (refine wv_loadrow_at (ad := ad2.add (q * 32)) (vs := bcs s) rfl rfl rfl row_sec sz_sec (by rw [bcs_length]; exact HS32.out) (fun w h => HVC.out w h.1) ?_; simp only [Act.put, List.setIfInBounds_toArray, List.set_cons_zero, List.set_cons_succ])
            | (apply wv_run rfl; (focus (intro w h; go_simp; simp only [hEq w, d3]; first | done | rfl)); simp only [Act.put, List.setIfInBounds_toArray, List.set_cons_zero, List.set_cons_succ])
            | (apply wv_load1 rfl rfl rfl; (first | exact row_int | exact row_str | exact row_bool | exact row_u8 | exact row_bys | exact row_pats | exact row_err); (intro w h; (first | exact own_get 0 h.1 rfl | exact own_get 1 h.1 rfl | exact own_get 2 h.1 rfl | exact own_get 3 h.1 rfl | exact own_get 4 h.1 rfl | exact own_get 5 h.1 rfl | exact own_get 6 h.1 rfl | exact own_get 7 h.1 rfl)); (first | (simp only [List.getElem?_toArray, List.getElem?_cons_succ, List.getElem?_cons_zero]; rfl) | rfl); simp only [Act.put, List.setIfInBounds_toArray, List.set_cons_zero, List.set_cons_succ])
            | (apply wv_loadrow rfl rfl rfl; (first | exact row_pat); exact sz_pat; (intro w h; (first | exact own_get 0 h.1 rfl | exact own_get 1 h.1 rfl | exact own_get 2 h.1 rfl | exact own_get 3 h.1 rfl | exact own_get 4 h.1 rfl | exact own_get 5 h.1 rfl | exact own_get 6 h.1 rfl | exact own_get 7 h.1 rfl)); (focus (simp; done)); (first | (simp only [List.drop_zero, List.drop_succ_cons, List.take_succ_cons, List.take_zero]; rfl) | rfl); simp only [Act.put, List.setIfInBounds_toArray, List.set_cons_zero, List.set_cons_succ])
            | (apply wv_run rfl; (focus (intro w h; go_simp; first | done | rfl)); simp only [Act.put, List.setIfInBounds_toArray, List.set_cons_zero, List.set_cons_succ])
            | (apply wv_call rfl; (focus (intro w; go_simp; first | done | exact ⟨rfl, rfl⟩)); (focus (intro w h; apply cls_call h; fail)); simp only [Act.put, List.setIfInBounds_toArray, List.set_cons_zero, List.set_cons_succ]))
          refine wv_nil ?_
          simp only [List.drop_succ_cons, List.drop_zero]
          intro w9 ⟨hO9, hS9⟩
          replace hS := hS.trans hS9
          clear hO hS9
          have hO := hO9
          clear hO9
          go_wp2_with (first | (apply own_load1 rfl rfl rfl; (first | exact row_secs | exact row_mv | exact row_mb); (first | exact own_get 0 hO rfl | exact own_get 1 hO rfl | exact own_get 2 hO rfl | exact own_get 3 hO rfl | exact own_get 4 hO rfl | exact own_get 5 hO rfl | exact own_get 6 hO rfl | exact own_get 7 hO rfl); (first | (simp only [List.getElem?_toArray, List.getElem?_cons_succ, List.getElem?_cons_zero]; rfl) | rfl)) | (refine own_mdel (i := 1) (b := bv) (f := fvk) (k := (x : Int)) rfl rfl rfl rfl und_mv und_i hO rfl ?_; clear hO; intro u hO hSn; replace hS := hS.trans hSn; clear hSn))
          go_roundw
          case rel =>
            refine ⟨k + 1, by omega, by go_num, ⟨mdel fvk x, ?_, ?_⟩, hS⟩
            · rw [H4.out]; exact HDK.out.settle H3.out (sett_len HDK.out H3.out ((q : Int) + 1)) (List.mem_cons_self ..)
            · rw [H4.out, map_set_s (b' := ⟨sett ((q : Int) + 1) b, [], b.bad⟩) H3.out hs.out]; exact hO
          case measure => simp [intOf]; omega
        · have hs : Hid (sett ((q : Int) + 1) b = s) := hsett
          have d3 : decide (b.s = s) = false := decide_eq_false heq
          clear heq hsett
          refine wp_region_seq (Cls u (_)) 23 74 mixed (by kernel_rfl) rfl (cls_drew hO) ?_
          simp only [List.append_eq, List.cons_append, List.nil_append, List.take_succ_cons, List.take_zero]
          repeat (first
            | (apply wv_skip rfl; simp only [Act.put, List.setIfInBounds_toArray, List.set_cons_zero, List.set_cons_succ])
            | (refine wv_load1 (b := d) (off := 0) (cs := #[.slice (some ⟨g, 0, none⟩) m.length cap, .map (some bv), .map (some bb)]) (t := 101) (v := .slice (some ⟨g, 0, none⟩) m.length cap) rfl rfl rfl row_secs (fun w h => own_get 2 h.1 rfl) rfl ?_; simp only [Act.put, List.setIfInBounds_toArray, List.set_cons_zero, List.set_cons_succ])
            | (refine wv_loadrow (b := g) (off := x * 32) (vs := bcs b.s) rfl rfl rfl row_sec sz_sec (fun w h => own_get 3 h.1 rfl) HROW.out.1 HROW.out.2 ?_; simp only [Act.put, List.setIfInBounds_toArray, List.set_cons_zero, List.set_cons_succ])
            | (refine wv_loadrow_at (ad := ad2.add (q * 32)) (vs := bcs s) rfl rfl rfl row_sec sz_sec (by rw [bcs_length]; exact HS32.out) (fun w h => HVC.out w h.1) ?_; simp only [Act.put, List.setIfInBounds_toArray, List.set_cons_zero, List.set_cons_succ])
            | (apply wv_run rfl; (focus (intro w h; go_simp; simp only [hEq w, d3]; first | done | rfl)); simp only [Act.put, List.setIfInBounds_toArray, List.set_cons_zero, List.set_cons_succ])
            | (apply wv_load1 rfl rfl rfl; (first | exact row_int | exact row_str | exact row_bool | exact row_u8 | exact row_bys | exact row_pats | exact row_err); (intro w h; (first | exact own_get 0 h.1 rfl | exact own_get 1 h.1 rfl | exact own_get 2 h.1 rfl | exact own_get 3 h.1 rfl | exact own_get 4 h.1 rfl | exact own_get 5 h.1 rfl | exact own_get 6 h.1 rfl | exact own_get 7 h.1 rfl)); (first | (simp only [List.getElem?_toArray, List.getElem?_cons_succ, List.getElem?_cons_zero]; rfl) | rfl); simp only [Act.put, List.setIfInBounds_toArray, List.set_cons_zero, List.set_cons_succ])
            | (apply wv_loadrow rfl rfl rfl; (first | exact row_pat); exact sz_pat; (intro w h; (first | exact own_get 0 h.1 rfl | exact own_get 1 h.1 rfl | exact own_get 2 h.1 rfl | exact own_get 3 h.1 rfl | exact own_get 4 h.1 rfl | exact own_get 5 h.1 rfl | exact own_get 6 h.1 rfl | exact own_get 7 h.1 rfl)); (focus (simp; done)); (first | (simp only [List.drop_zero, List.drop_succ_cons, List.take_succ_cons, List.take_zero]; rfl) | rfl); simp only [Act.put, List.setIfInBounds_toArray, List.set_cons_zero, List.set_cons_succ])
            | (apply wv_run rfl; (focus (intro w h; go_simp; first | done | rfl)); simp only [Act.put, List.setIfInBounds_toArray, List.set_cons_zero, List.set_cons_succ])
            | (apply wv_call rfl; (focus (intro w; go_simp; first | done | exact ⟨rfl, rfl⟩)); (focus (intro w h; apply cls_call h; fail)); simp only [Act.put, List.setIfInBounds_toArray, List.set_cons_zero, List.set_cons_succ]))
          refine wv_nil ?_
          simp only [List.drop_succ_cons, List.drop_zero]
          intro w9 ⟨hO9, hS9⟩
          replace hS := hS.trans hS9
          clear hO hS9
          have hO := hO9
          clear hO9
          go_upto_region 9 with fail
          refine wp_region_seq (Cls w9 (_)) 11 74 mixed (by kernel_rfl) rfl (cls_drew hO) ?_
          simp only [List.append_eq, List.cons_append, List.nil_append, List.take_succ_cons, List.take_zero]
          repeat (first
            | (apply wv_skip rfl; simp only [Act.put, List.setIfInBounds_toArray, List.set_cons_zero, List.set_cons_succ])
            | (refine wv_load1 (b := d) (off := 0) (cs := #[.slice (some ⟨g, 0, none⟩) m.length cap, .map (some bv), .map (some bb)]) (t := 101) (v := .slice (some ⟨g, 0, none⟩) m.length cap) rfl rfl rfl row_secs (fun w h => own_get 2 h.1 rfl) rfl ?_; simp only [Act.put, List.setIfInBounds_toArray, List.set_cons_zero, List.set_cons_succ])
            | (refine wv_loadrow (b := g) (off := x * 32) (vs := bcs b.s) rfl rfl rfl row_sec sz_sec (fun w h => own_get 3 h.1 rfl) HROW.out.1 HROW.out.2 ?_; simp only [Act.put, List.setIfInBounds_toArray, List.set_cons_zero, List.set_cons_succ])
            | (refine wv_loadrow_at (ad := ad2.add (q * 32)) (vs := bcs s) rfl rfl rfl row_sec sz_sec (by rw [bcs_length]; exact HS32.out) (fun w h => HVC.out w h.1) ?_; simp only [Act.put, List.setIfInBounds_toArray, List.set_cons_zero, List.set_cons_succ])
            | (apply wv_run rfl; (focus (intro w h; go_simp; simp only [hEq w, d3]; first | done | rfl)); simp only [Act.put, List.setIfInBounds_toArray, List.set_cons_zero, List.set_cons_succ])
            | (apply wv_load1 rfl rfl rfl; (first | exact row_int | exact row_str | exact row_bool | exact row_u8 | exact row_bys | exact row_pats | exact row_err); (intro w h; (first | exact own_get 0 h.1 rfl | exact own_get 1 h.1 rfl | exact own_get 2 h.1 rfl | exact own_get 3 h.1 rfl | exact own_get 4 h.1 rfl | exact own_get 5 h.1 rfl | exact own_get 6 h.1 rfl | exact own_get 7 h.1 rfl)); (first | (simp only [List.getElem?_toArray, List.getElem?_cons_succ, List.getElem?_cons_zero]; rfl) | rfl); simp only [Act.put, List.setIfInBounds_toArray, List.set_cons_zero, List.set_cons_succ])
            | (apply wv_loadrow rfl rfl rfl; (first | exact row_pat); exact sz_pat; (intro w h; (first | exact own_get 0 h.1 rfl | exact own_get 1 h.1 rfl | exact own_get 2 h.1 rfl | exact own_get 3 h.1 rfl | exact own_get 4 h.1 rfl | exact own_get 5 h.1 rfl | exact own_get 6 h.1 rfl | exact own_get 7 h.1 rfl)); (focus (simp; done)); (first | (simp only [List.drop_zero, List.drop_succ_cons, List.take_succ_cons, List.take_zero]; rfl) | rfl); simp only [Act.put, List.setIfInBounds_toArray, List.set_cons_zero, List.set_cons_succ])
            | (apply wv_run rfl; (focus (intro w h; go_simp; first | done | rfl)); simp only [Act.put, List.setIfInBounds_toArray, List.set_cons_zero, List.set_cons_succ])
            | (apply wv_call rfl; (focus (intro w; go_simp; first | done | exact ⟨rfl, rfl⟩)); (focus (intro w h; apply cls_call h; fail)); simp only [Act.put, List.setIfInBounds_toArray, List.set_cons_zero, List.set_cons_succ]))
          refine wv_nil ?_
          simp only [List.drop_succ_cons, List.drop_zero]
          intro w10 ⟨hO10, hS10⟩
          replace hS := hS.trans hS10
          clear hO hS10
          refine own_store (k := 3) (b := g) (off := x * 32) (n := 32) (v := secV s) (vs := bcs s) (new := secs (((stK pk 0 m k).map (·.s)).set x s) ++ rest) rfl rfl rfl rfl sz_sec hO10 rfl rfl (by rw [bcs_length]; exact HS32.out) (bcs_one s) HROW.out.1 (secs_set (fun s hs => by obtain ⟨b, hb, rfl⟩ := List.mem_map.1 hs; exact HDK.out.s32 b hb) (by rw [List.length_map]; exact (List.getElem?_eq_some_iff.1 H3.out).1)) ?_
          intro w11 hO hS11
          replace hS := hS.trans hS11
          clear hO10 hS11
          refine wpList_nil ?_
          simp only [Act.put, List.setIfInBounds_toArray, List.set_cons_zero, List.set_cons_succ]
          simp only [Exit.then]
          have hO : Own w11 (setL d (.slice (some ads) (idxs 0 m).length cs) (idxs 0 m) g cap m.length rest bv bb fvk fb ((.slice none 0 0, []) :: l) (((stK pk 0 m k).map (·.s)).set x s) L) := hO
          go_wp2_with (first | (apply own_load1 rfl rfl rfl; (first | exact row_secs | exact row_mv | exact row_mb); (first | exact own_get 0 hO rfl | exact own_get 1 hO rfl | exact own_get 2 hO rfl | exact own_get 3 hO rfl | exact own_get 4 hO rfl | exact own_get 5 hO rfl | exact own_get 6 hO rfl | exact own_get 7 hO rfl); (first | (simp only [List.getElem?_toArray, List.getElem?_cons_succ, List.getElem?_cons_zero]; rfl) | rfl)) | (refine own_mdel (i := 1) (b := bv) (f := fvk) (k := (x : Int)) rfl rfl rfl rfl und_mv und_i hO rfl ?_; clear hO; intro u hO hSn; replace hS := hS.trans hSn; clear hSn))
          go_roundw
          case rel =>
            refine ⟨k + 1, by omega, by go_num, ⟨mdel fvk x, ?_, ?_⟩, hS⟩
            · rw [H4.out]; exact HDK.out.settle H3.out (sett_len HDK.out H3.out ((q : Int) + 1)) (List.mem_cons_self ..)
            · rw [H4.out, List.map_set, hs.out]; exact hO
          case measure => simp [intOf]; omega
      · have hs : Hid (sett v b = b.s) := by show _ = _; unfold sett; rw [if_neg hin]
        by_cases hv1 : 1 ≤ v
        · have hv2 : ¬ (v ≤ (b.vs.length : Int)) := fun h => hin ⟨hv1, h⟩
          have d1 : decide (1 ≤ v) = true := decide_eq_true hv1
          have d2 : decide (v ≤ (b.vs.length : Int)) = false := decide_eq_false hv2
          clear hin
          refine wp_region_seq (Cls u (_)) 23 74 mixed (by kernel_rfl) rfl (cls_drew hO) ?_
          simp only [List.append_eq, List.cons_append, List.nil_append, List.take_succ_cons, List.take_zero]
          repeat (first
            | (apply wv_skip rfl; simp only [Act.put, List.setIfInBounds_toArray, List.set_cons_zero, List.set_cons_succ])
            | (apply wv_load1 rfl rfl rfl; (first | exact row_int | exact row_str | exact row_bool | exact row_u8 | exact row_bys | exact row_pats | exact row_err); (intro w h; (first | exact own_get 0 h.1 rfl | exact own_get 1 h.1 rfl | exact own_get 2 h.1 rfl | exact own_get 3 h.1 rfl | exact own_get 4 h.1 rfl | exact own_get 5 h.1 rfl | exact own_get 6 h.1 rfl | exact own_get 7 h.1 rfl)); (first | (simp only [List.getElem?_toArray, List.getElem?_cons_succ, List.getElem?_cons_zero]; rfl) | rfl); simp only [Act.put, List.setIfInBounds_toArray, List.set_cons_zero, List.set_cons_succ])
            | (apply wv_loadrow rfl rfl rfl; (first | exact row_pat); exact sz_pat; (intro w h; (first | exact own_get 0 h.1 rfl | exact own_get 1 h.1 rfl | exact own_get 2 h.1 rfl | exact own_get 3 h.1 rfl | exact own_get 4 h.1 rfl | exact own_get 5 h.1 rfl | exact own_get 6 h.1 rfl | exact own_get 7 h.1 rfl)); (focus (simp; done)); (first | (simp only [List.drop_zero, List.drop_succ_cons, List.take_succ_cons, List.take_zero]; rfl) | rfl); simp only [Act.put, List.setIfInBounds_toArray, List.set_cons_zero, List.set_cons_succ])
            | (apply wv_run rfl; (focus (intro w h; go_simp; first | done | rfl)); simp only [Act.put, List.setIfInBounds_toArray, List.set_cons_zero, List.set_cons_succ])
            | (apply wv_call rfl; (focus (intro w; go_simp; first | done | exact ⟨rfl, rfl⟩)); (focus (intro w h; apply cls_call h; fail)); simp only [Act.put, List.setIfInBounds_toArray, List.set_cons_zero, List.set_cons_succ]))
          refine wv_nil ?_
          simp only [List.drop_succ_cons, List.drop_zero]
          intro w9 ⟨hO9, hS9⟩
          replace hS := hS.trans hS9
          clear hO hS9
          have hO := hO9
          clear hO9
          go_wp2_with (first | (apply own_load1 rfl rfl rfl; (first | exact row_secs | exact row_mv | exact row_mb); (first | exact own_get 0 hO rfl | exact own_get 1 hO rfl | exact own_get 2 hO rfl | exact own_get 3 hO rfl | exact own_get 4 hO rfl | exact own_get 5 hO rfl | exact own_get 6 hO rfl | exact own_get 7 hO rfl); (first | (simp only [List.getElem?_toArray, List.getElem?_cons_succ, List.getElem?_cons_zero]; rfl) | rfl)) | (refine own_mdel (i := 1) (b := bv) (f := fvk) (k := (x : Int)) rfl rfl rfl rfl und_mv und_i hO rfl ?_; clear hO; intro u hO hSn; replace hS := hS.trans hSn; clear hSn))
          go_roundw
          case rel =>
            refine ⟨k + 1, by omega, by go_num, ⟨mdel fvk x, ?_, ?_⟩, hS⟩
            · rw [H4.out]; exact HDK.out.settle H3.out (sett_len HDK.out H3.out v) (List.mem_cons_self ..)
            · rw [H4.out, map_set_s (b' := ⟨sett v b, [], b.bad⟩) H3.out hs.out]; exact hO
          case measure => simp [intOf]; omega
        · have d1 : decide (1 ≤ v) = false := decide_eq_false hv1
          clear hin
          refine wp_region_seq (Cls u (_)) 23 74 mixed (by kernel_rfl) rfl (cls_drew hO) ?_
          simp only [List.append_eq, List.cons_append, List.nil_append, List.take_succ_cons, List.take_zero]
          repeat (first
            | (apply wv_skip rfl; simp only [Act.put, List.setIfInBounds_toArray, List.set_cons_zero, List.set_cons_succ])
            | (apply wv_load1 rfl rfl rfl; (first | exact row_int | exact row_str | exact row_bool | exact row_u8 | exact row_bys | exact row_pats | exact row_err); (intro w h; (first | exact own_get 0 h.1 rfl | exact own_get 1 h.1 rfl | exact own_get 2 h.1 rfl | exact own_get 3 h.1 rfl | exact own_get 4 h.1 rfl | exact own_get 5 h.1 rfl | exact own_get 6 h.1 rfl | exact own_get 7 h.1 rfl)); (first | (simp only [List.getElem?_toArray, List.getElem?_cons_succ, List.getElem?_cons_zero]; rfl) | rfl); simp only [Act.put, List.setIfInBounds_toArray, List.set_cons_zero, List.set_cons_succ])
            | (apply wv_loadrow rfl rfl rfl; (first | exact row_pat); exact sz_pat; (intro w h; (first | exact own_get 0 h.1 rfl | exact own_get 1 h.1 rfl | exact own_get 2 h.1 rfl | exact own_get 3 h.1 rfl | exact own_get 4 h.1 rfl | exact own_get 5 h.1 rfl | exact own_get 6 h.1 rfl | exact own_get 7 h.1 rfl)); (focus (simp; done)); (first | (simp only [List.drop_zero, List.drop_succ_cons, List.take_succ_cons, List.take_zero]; rfl) | rfl); simp only [Act.put, List.setIfInBounds_toArray, List.set_cons_zero, List.set_cons_succ])
            | (apply wv_run rfl; (focus (intro w h; go_simp; first | done | rfl)); simp only [Act.put, List.setIfInBounds_toArray, List.set_cons_zero, List.set_cons_succ])
            | (apply wv_call rfl; (focus (intro w; go_simp; first | done | exact ⟨rfl, rfl⟩)); (focus (intro w h; apply cls_call h; fail)); simp only [Act.put, List.setIfInBounds_toArray, List.set_cons_zero, List.set_cons_succ]))
          refine wv_nil ?_
          simp only [List.drop_succ_cons, List.drop_zero]
          intro w9 ⟨hO9, hS9⟩
          replace hS := hS.trans hS9
          clear hO hS9
          have hO := hO9
          clear hO9
          go_wp2_with (first | (apply own_load1 rfl rfl rfl; (first | exact row_secs | exact row_mv | exact row_mb); (first | exact own_get 0 hO rfl | exact own_get 1 hO rfl | exact own_get 2 hO rfl | exact own_get 3 hO rfl | exact own_get 4 hO rfl | exact own_get 5 hO rfl | exact own_get 6 hO rfl | exact own_get 7 hO rfl); (first | (simp only [List.getElem?_toArray, List.getElem?_cons_succ, List.getElem?_cons_zero]; rfl) | rfl)) | (refine own_mdel (i := 1) (b := bv) (f := fvk) (k := (x : Int)) rfl rfl rfl rfl und_mv und_i hO rfl ?_; clear hO; intro u hO hSn; replace hS := hS.trans hSn; clear hSn))
          go_roundw
          case rel =>
            refine ⟨k + 1, by omega, by go_num, ⟨mdel fvk x, ?_, ?_⟩, hS⟩
            · rw [H4.out]; exact HDK.out.settle H3.out (sett_len HDK.out H3.out v) (List.mem_cons_self ..)
            · rw [H4.out, map_set_s (b' := ⟨sett v b, [], b.bad⟩) H3.out hs.out]; exact hO
          case measure => simp [intOf]; omega
    · have hke : k = (idxs 0 m).length := by omega
      subst hke
      go_wp2
      go_ret
      rw [stK_all] at hdk hO
      refine ⟨rfl, ?_, hS⟩
      have hlen : (crashL pk 0 m).length = m.length := crashL_len pk m 0
      have h1 := own_drop hO
      have h2 := own_at h1 (k := 2) rfl
      have hsl : (secs ((crashL pk 0 m).map (·.s))).length = m.length * 32 := by
        rw [secs_length (fun s hs => by obtain ⟨b, hb, rfl⟩ := List.mem_map.1 hs; exact hdk.s32 b hb), List.length_map, hlen]
      have h3 := owns_of_pts (size := 32) (n := m.length) (cap := cap) (xs := secs ((crashL pk 0 m).map (·.s))) h2 (by rw [List.size_toArray, List.length_append, hsl]; exact HC3.out) HC1.out HC2.out (by rw [← hsl]; exact List.take_left)
      refine disk_open.2 ⟨.slice (some ⟨g, 0, none⟩) m.length cap, bv, bb, fvk, fb, _, hdk, ?_⟩
      rw [hlen]
      exact own_at h3 (k := 2) rfl
end
end Go.Proofs.Ytonohjhmnlfakaa.H
set_option linter.unusedVariables false
set_option linter.unusedSimpArgs false
set_option maxRecDepth 100000
namespace Go.Proofs.Ytonohjhmnlfakaa.H
open Go.RowKit
section
variable (w : World) (L : List HP) (d : Nat) (m : List Blk)
theorem flush1_c (k n : Nat) (hO : Own w L) : Calls Try.prog 72 #[.int .i64 k, .int .i64 n] w (Ret w (.int .i64 n) L) := by
  go_enter Try.func72, Try.ntmps72
  go_wp2
  go_ret
  exact ⟨rfl, hO, Same.refl _⟩
theorem flush_nil (hO : Own w L) : Calls Try.prog 32 #[.pointer none] w (Ret w (.int .i64 1) L) := by
  have hS := Same.refl w
  go_enter Try.func32, Try.ntmps32
  go_wp2_with (first | (go_at_call 71; (with_reducible refine Calls.mono (settle_nil _ _ _ hO) ?_); clear hO; rintro e u ⟨rfl, hO, hSn⟩; replace hS := hS.trans hSn; clear hSn))
  go_ret
  exact ⟨rfl, hO, hS⟩
/-- Flush's pick. -/
abbrev allV : Nat → Nat → Int := fun _ n => (n : Int)
theorem flush_c (hO : Own w (diskP d m :: L)) (h0 : 0 < m.length) (hv : ∀ b ∈ m, b.vs.length ≤ 1000000) : Calls Try.prog 32 #[.pointer (some ⟨d, 0, none⟩)] w (Ret w (.int .i64 0) (diskP d (crashL allV 0 m) :: L)) := by
  have hS := Same.refl w
  have H0 := Lib.hid h0
  have HV := Lib.hid hv
  clear h0 hv
  go_enter Try.func32, Try.ntmps32
  go_wp2_with (first | (go_at_call 71; (with_reducible refine Calls.mono (settle_flush _ _ d m allV hO H0.out HV.out (fun k n w' L' _ _ _ h => flush1_c w' L' k n h)) ?_); clear hO; rintro e u ⟨rfl, hO, hSn⟩; replace hS := hS.trans hSn; clear hSn))
  go_ret
  exact ⟨rfl, hO, hS⟩
/-- Crash's pick. -/
abbrev pickV (l : List Int) : Nat → Nat → Int := fun k _ => (l[k]?).getD 0
theorem crash1_c (bp : Nat) (v : Value) (l : List Int) (k n : Nat) (hO : Own w L) (hb : ∀ w', Own w' L → w'.heap[bp]? = some (.cells #[v] 34)) (hr : ∀ w', Own w' L → Rd w' 1 v l.length (l.map encZ)) : Calls Try.prog 86 #[.int .i64 k, .int .i64 n, .pointer (some ⟨bp, 0, none⟩)] w (Ret w (.int .i64 (pickV l k n)) L) := by
  have hB := Lib.hid (hb w hO)
  obtain ⟨_, A, c, rfl, _, _, hcl⟩ := (hr w hO).out
  clear hb hr
  by_cases hk : k < l.length
  · obtain ⟨ad, rfl, hcell⟩ := hcl k (.int .i64 l[k]) (by simp [hk])
    have hk1 : (k : Int) < l.length := by omega
    have hpk : Hid (pickV l k n = l[k]) := by show _ = _; simp [pickV, List.getElem?_eq_getElem hk]
    have HC := Lib.hid hcell
    clear hcl hcell
    go_enter Try.func86, Try.ntmps86
    go_wp2_with (first | (refine own_load1 (b := bp) (off := 0) (cs := #[.slice (some ad) l.length c]) (t := 34) (v := .slice (some ad) l.length c) rfl rfl rfl row_intsD hB.out rfl ?_) | (refine own_load1_at (ad := ad.add k) (v := .int .i64 l[k]) rfl rfl rfl row_int HC.out ?_))
    go_ret
    exact ⟨congrArg (fun x => Ending.returned (Value.int .i64 x)) hpk.out.symm, hO, Same.refl _⟩
  · have hk1 : ¬ ((k : Int) < l.length) := by omega
    have hpk : Hid (pickV l k n = 0) := by show _ = _; simp [pickV, List.getElem?_eq_none (by omega : l.length ≤ k)]
    have hd : decide ((k : Int) < l.length) = false := decide_eq_false hk1
    clear hcl
    go_enter Try.func86, Try.ntmps86
    go_wp2_with (first | (refine own_load1 (b := bp) (off := 0) (cs := #[.slice A l.length c]) (t := 34) (v := .slice A l.length c) rfl rfl rfl row_intsD hB.out rfl ?_))
    go_ret
    exact ⟨congrArg (fun x => Ending.returned (Value.int .i64 x)) hpk.out.symm, hO, Same.refl _⟩
theorem crash_nil (v : Value) (hv : v.cells = #[v]) (hO : Own w L) : Calls Try.prog 60 #[.pointer none, v] w (Ret w (.int .i64 1) L) := by
  have hS := Same.refl w
  have HV := Lib.hid hv
  clear hv
  go_enter Try.func60, Try.ntmps60
  go_wp2_with (first | (refine own_box (x := .tmp 1) (cs := #[v]) rfl rfl rfl HV.out hO ?_; clear hO; intro bx u hO hSn; replace hS := hS.trans hSn; clear hSn) | (go_at_call 71; (with_reducible refine Calls.mono (settle_nil _ _ _ hO) ?_); clear hO; rintro e u ⟨rfl, hO, hSn⟩; replace hS := hS.trans hSn; clear hSn))
  go_ret
  exact ⟨rfl, own_drop hO, hS⟩
theorem crash_c (v : Value) (l : List Int) (hO : Own w (diskP d m :: L)) (h0 : 0 < m.length) (hv : ∀ b ∈ m, b.vs.length ≤ 1000000) (hr : ∀ w', Own w' L → Rd w' 1 v l.length (l.map encZ)) : Calls Try.prog 60 #[.pointer (some ⟨d, 0, none⟩), v] w (Ret w (.int .i64 0) (diskP d (crashL (pickV l) 0 m) :: L)) := by
  have hS := Same.refl w
  have H0 := Lib.hid h0
  have HV := Lib.hid hv
  have HR := Lib.hid hr
  obtain ⟨A, c, rfl⟩ := (hr w (own_drop hO)).slice
  clear h0 hv hr
  go_enter Try.func60, Try.ntmps60
  go_wp2_with (first | (refine own_box (x := .tmp 1) (cs := #[.slice A l.length c]) rfl rfl rfl rfl hO ?_; clear hO; intro bp u hO hSn; replace hS := hS.trans hSn; clear hSn; replace hO := own_perm hO (List.Perm.swap _ _ _)) | (go_at_call 71; (with_reducible refine Calls.mono (settle_crash _ _ d m bp (pickV l) hO H0.out HV.out (fun k n w' L' _ _ hs h => crash1_c w' L' bp (.slice A l.length c) l k n h (fun w2 h2 => own_pts (hs w2 h2)) (fun w2 h2 => HR.out w2 (own_drop (hs w2 h2))))) ?_); clear hO; rintro e u ⟨rfl, hO, hSn⟩; replace hS := hS.trans hSn; clear hSn))
  go_ret
  exact ⟨rfl, own_drop (own_perm hO (List.Perm.swap _ _ _)), hS⟩
end
end Go.Proofs.Ytonohjhmnlfakaa.H
set_option linter.unusedVariables false
set_option linter.unusedSimpArgs false
namespace Go.Proofs.Ytonohjhmnlfakaa.H
open Go.RowKit
/-- An item: a patch, and those that must be on the disk ahead of it. -/
structure It where
  p : Pat
  deps : List Int
def inAny (n : Nat) (s : Nat → List Int) (x : Int) : Bool := (List.range n).any fun i => (s i).contains x
namespace Eng
/-- What lasts on a block, with the patches on it that are such. -/
def bytes (E : Eng) (i : Nat) (b : Blk) (f : Wt → Bool) : Sec := appAll b.s ((E.l.filter fun x => decide (x.p.blk = (i : Int)) && f x).map (·.p))
def flushed (E : Eng) : Eng := ⟨crashL allV 0 E.m, E.l.filter fun x => !inAny E.m.length E.s x.n, fun _ => [], E.next⟩
/-- The blocks' numbers that wait. -/
def waiting (E : Eng) : List Int := wnums E.l
def dirtyN (E : Eng) : List Nat := (List.range E.m.length).filter fun i : Nat => E.l.any fun x => decide (x.p.blk = (i : Int))
def dirty (E : Eng) : List Int := E.dirtyN.map fun i : Nat => (i : Int)
/-- Write of a block: how many, the error, the engine then. -/
def writeM (E : Eng) (i : Nat) : (Nat × Int) × Eng := match E.m[i]? with
  | none => ((0, 2), E)
  | some b => if readyL E.l i = [] ∨ readyL E.l i = E.s i then ((0, 0), E) else if b.bad then ((0, 10), E)
    else (((readyL E.l i).length, 0), ⟨E.m.set i (b.wr (E.bytes i b fun x => (readyL E.l i).contains (x.n : Int))), E.l, fun j => if j = i then readyL E.l i else E.s j, E.next⟩)
def writes (E : Eng) (k : Nat) : Eng := (List.range k).foldl (fun E i => (E.writeM i).2) E
def round (E : Eng) : Eng := (E.writes E.m.length).flushed
def syncGo : Nat → Eng → Int × Eng
  | 0, E => (0, E)
  | k + 1, E => if E.l.length = 0 then (0, E) else if E.round.l.length = E.l.length then (10, E.round) else syncGo k E.round
def sync (E : Eng) : Int × Eng := syncGo E.l.length E
def depOf (first : Nat) (d : Int) : Int := if d < 0 then (first : Int) - d - 1 else d
/-- One item more. -/
def add1 (first : Nat) (E : Eng) (x : It) : Eng := ⟨E.m, E.l ++ [⟨E.next, x.p, x.deps.map (depOf first) ++ wnums (E.l.filter fun w => overB w.p x.p)⟩], E.s, E.next + 1⟩
def formB (E : Eng) (l : List It) : Bool := l.any fun x => !rightB x.p || decide ((E.m.length : Int) ≤ x.p.blk)
def depB (E : Eng) (i : Nat) (x : It) : Bool := x.deps.any fun d => decide ((E.next : Int) ≤ d) || decide (d < -(i : Int))
def rangeB (E : Eng) (l : List It) : Bool := l.zipIdx.any fun x => E.depB x.2 x.1
def addM (E : Eng) (l : List It) : (Int × Int) × Eng :=
  if E.formB l then ((0, 3), E) else if E.rangeB l then ((0, 2), E) else if 200 < E.l.length + l.length then ((0, 11), E) else (((E.next : Int), 0), l.foldl (add1 E.next) E)
end Eng
theorem appAll_32 {b : List UInt8} {ps : List Pat} (hb : b.length = 32) (h : ∀ p ∈ ps, rightB p = true) : (appAll b ps).length = 32 := by
  induction ps generalizing b with
  | nil => exact hb
  | cons p ps ih =>
    refine ih ?_ (fun q hq => h q (List.mem_cons_of_mem _ hq))
    obtain ⟨p1, p2, p3, p4, p5, p6⟩ := rightB_iff.1 (h p (List.mem_cons_self ..))
    have hs : p.dat.size = p.dat.data.toList.length := by rw [Array.length_toList]; rfl
    unfold app
    rw [over_length _ _ _ (by omega)]
    exact hb
theorem Asc.filter {l : List Wt} (h : Asc l) (f : Wt → Bool) : Asc (l.filter f) := ⟨h.asc.filter f, fun x hx => h.beh x (List.filter_sublist.subset hx)⟩
theorem Eng.Ok.flushed {E : Eng} (h : E.Ok) : E.flushed.Ok where
  asc := h.asc.filter _
  pos := by show 0 < (crashL allV 0 E.m).length; rw [crashL_len]; exact h.pos
  right := fun x hx => by
    have h1 := h.right x (List.filter_sublist.subset hx)
    refine ⟨h1.1, ?_⟩
    show x.p.blk < ((crashL allV 0 E.m).length : Int)
    rw [crashL_len]
    exact h1.2
  lt := fun x hx => h.lt x (List.filter_sublist.subset hx)
  len := Nat.le_trans (List.length_filter_le _ _) h.len
  lim := h.lim
  behl := fun x hx => h.behl x (List.filter_sublist.subset hx)
  sl := fun i => Nat.zero_le _
theorem ready_len {l : List Wt} (i : Int) : (readyL l i).length ≤ l.length := by
  obtain ⟨t, h1, h2⟩ := readyGo_app (wnums l) i l []
  unfold readyL
  rw [h1, List.nil_append]
  have := h2.length_le
  unfold wnums at this
  rwa [List.length_map] at this
theorem Eng.Ok.write {E : Eng} (h : E.Ok) (i : Nat) : ((E.writeM i).2).Ok := by
  unfold Eng.writeM
  cases hb : E.m[i]? with
  | none => exact h
  | some b =>
    show (Eng.Ok (Prod.snd (if _ then _ else _)))
    split
    · exact h
    · split
      · exact h
      · refine ⟨h.asc, by simpa using h.pos, fun x hx => by simpa using h.right x hx, h.lt, h.len, h.lim, h.behl, fun j => ?_⟩
        show (if j = i then readyL E.l i else E.s j).length ≤ 200
        split
        · exact Nat.le_trans (ready_len _) h.len
        · exact h.sl j
end Go.Proofs.Ytonohjhmnlfakaa.H
