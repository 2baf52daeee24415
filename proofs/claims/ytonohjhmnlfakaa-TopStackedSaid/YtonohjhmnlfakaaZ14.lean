/- settle of the program's disk. -/
import Derived.Test.YtonohjhmnlfakaaZ13
set_option linter.unusedVariables false
set_option linter.unusedSimpArgs false
set_option maxRecDepth 100000
namespace Go.Proofs.Ytonohjhmnlfakaa.H
open Go.RowKit
theorem row_intsD : isRowB Try.prog 34 = some false := by kernel_rfl
theorem DiskOk.more {m : List Blk} {fv fb : List (Int × Value)} {l : List (Value × List Sec)} (hk : DiskOk m fv fb l) (x : Value × List Sec) : DiskOk m fv fb (x :: l) :=
  ⟨hk.len, hk.s32, hk.v32, hk.keyv, fun i b hb => by obtain ⟨A, c, h1, h2⟩ := hk.vers i b hb; exact ⟨A, c, h1, List.mem_cons_of_mem _ h2⟩, hk.keyb, hk.bads⟩
theorem inI_nat {i : Nat} (h : i < 1000) : inI (i : Int) := by
  unfold inI
  have e1 : IntKind.i64.signed = true := rfl
  have e2 : IntKind.i64.bits = 64 := rfl
  simp only [Lit.wf, IntKind.min, IntKind.max, e1, e2, if_true, Bool.and_eq_true, decide_eq_true_eq]
  constructor <;> omega
theorem stK_len (pk : Nat → Nat → Int) : ∀ (r : List Blk) (k0 k : Nat), (stK pk k0 r k).length = r.length
  | [], _, _ => rfl
  | b :: r, k0, k => by
    unfold stK
    split
    · rw [List.length_cons, stK_len pk r, List.length_cons]
    · cases k with
      | zero => rfl
      | succ k => show (_ :: stK pk (k0 + 1) r k).length = _; rw [List.length_cons, stK_len pk r, List.length_cons]
theorem secs_row {l : List Sec} {rest : List Value} (h : ∀ s ∈ l, s.length = 32) {k : Nat} {s : Sec} (hk : l[k]? = some s) : k * 32 + 32 ≤ (secs l ++ rest).toArray.size ∧ ((secs l ++ rest).toArray.toList.drop (k * 32)).take 32 = bcs s := by
  have hl := secs_length h
  have hkl := (List.getElem?_eq_some_iff.1 hk).1
  have hb : (bcs s).length = 32 := by rw [bcs_length, h s (List.mem_of_getElem? hk)]
  refine ⟨by rw [List.size_toArray, List.length_append]; omega, List.ext_getElem? (fun j => ?_)⟩
  by_cases hj : j < 32
  · have h1 := secs_at h hk (List.getElem?_eq_getElem (l := bcs s) (i := j) (by omega))
    rw [List.getElem?_take, if_pos hj, List.getElem?_drop]
    show (secs l ++ rest)[k * 32 + j]? = _
    rw [List.getElem?_append_left (by omega), h1, List.getElem?_eq_getElem (by omega)]
  · rw [List.getElem?_eq_none (by rw [List.length_take]; omega), List.getElem?_eq_none (by omega)]
theorem secs_set {s : Sec} {rest : List Value} : ∀ {l : List Sec} {x : Nat}, (∀ s ∈ l, s.length = 32) → x < l.length → (secs l ++ rest).toArray.toList.take (x * 32) ++ bcs s ++ (secs l ++ rest).toArray.toList.drop (x * 32 + 32) = secs (l.set x s) ++ rest
  | [], _, _, hx => by simp at hx
  | a :: r, x, h, hx => by
    have ha : (bcs a).length = 32 := by rw [bcs_length, h a (List.mem_cons_self ..)]
    have e : secs (a :: r) ++ rest = bcs a ++ (secs r ++ rest) := by
      show (bcs a ++ secs r) ++ rest = _
      rw [List.append_assoc]
    show (secs (a :: r) ++ rest).take (x * 32) ++ bcs s ++ (secs (a :: r) ++ rest).drop (x * 32 + 32) = _
    rw [e]
    cases x with
    | zero =>
      rw [Nat.zero_mul, Nat.zero_add, List.take_zero, List.nil_append, ← ha, List.drop_left]
      show _ = (bcs s ++ secs r) ++ rest
      rw [List.append_assoc]
    | succ x =>
      have ih : (secs r ++ rest).take (x * 32) ++ bcs s ++ (secs r ++ rest).drop (x * 32 + 32) = secs (r.set x s) ++ rest := secs_set (fun y hy => h y (List.mem_cons_of_mem _ hy)) (by simpa using hx)
      rw [show (x + 1) * 32 = (bcs a).length + x * 32 by omega, List.take_length_add_append, show (bcs a).length + x * 32 + 32 = (bcs a).length + (x * 32 + 32) by omega, List.drop_length_add_append, List.append_assoc, List.append_assoc, ← List.append_assoc (List.take _ _), ih]
      show _ = (bcs a ++ secs (r.set x s)) ++ rest
      rw [List.append_assoc]
theorem crashL_len (pk : Nat → Nat → Int) : ∀ (r : List Blk) (k : Nat), (crashL pk k r).length = r.length
  | [], _ => rfl
  | b :: r, k => by
    unfold crashL
    split
    · rw [List.length_cons, crashL_len pk r, List.length_cons]
    · rw [List.length_cons, crashL_len pk r, List.length_cons]
/-- What is owned in settle's loop. -/
abbrev setL (d : Nat) (sv : Value) (ks : List Nat) (g : Nat) (cap : Nat) (n : Nat) (rest : List Value) (bv bb : Nat) (fv fb : List (Int × Value)) (l : List (Value × List Sec)) (ss : List Sec) (L : List HP) : List HP :=
  owns 3 1 sv ks.length (ks.map fun i : Nat => Value.int .i64 (i : Int)) :: mapP bv fv :: pts d (.cells #[.slice (some ⟨g, 0, none⟩) n cap, .map (some bv), .map (some bb)] 101) :: pts g (.cells (secs ss ++ rest).toArray 47) :: mapP bb fb :: rdV l :: L
section
variable (w : World) (L : List HP) (d : Nat) (m : List Blk)
theorem settle_nil (f : Value) (hO : Own w L) : Calls Try.prog 71 #[.pointer none, f] w (Ret w (.int .i64 1) L) := by
  go_enter Try.func71, Try.ntmps71
  go_wp2
  go_ret
  exact ⟨rfl, hO, Same.refl _⟩
set_option maxHeartbeats 1600000 in
theorem settle_flush (pk : Nat → Nat → Int) (hO : Own w (diskP d m :: L)) (h0 : 0 < m.length) (hv : ∀ b ∈ m, b.vs.length ≤ 1000000)
    (hp : ∀ (k n : Nat) (w' : World) (L' : List HP), k < 1000 → n ≤ 1000000 → (∀ w', Own w' L' → Own w' L) → Own w' L' → Calls Try.prog 72 #[.int .i64 k, .int .i64 n] w' (Ret w' (.int .i64 (pk k n)) L')) :
    Calls Try.prog 71 #[.pointer (some ⟨d, 0, none⟩), .func (.func 72) #[] #[]] w (Ret w (.int .i64 0) (diskP d (crashL pk 0 m) :: L)) := by
  have HP := Lib.hid hp
  have HV := Lib.hid hv
  have hS := Same.refl w
  obtain ⟨lv, bv, bb, fv, fb, l, hk, hO⟩ := disk_open.1 hO
  have hO := rdV_cons (v := .slice none 0 0) (ss := []) (rdA_nil (size := 32) (own_at hO (k := 4) rfl))
  have hk := hk.more (.slice none 0 0, [])
  have hln : secs (m.map (·.s)) ≠ [] := fun e => by
    have := secs_length (l := m.map (·.s)) (fun s hs => by obtain ⟨b, hb, rfl⟩ := List.mem_map.1 hs; exact hk.s32 b hb)
    rw [e, List.length_map] at this
    simp at this
    omega
  obtain ⟨g, cap, rest, rfl, hc1, hc2, hc3, hc4, hO⟩ := owns_open (own_at hO (k := 2) rfl) (fun e => hln (by
    have hr := owns_rd (own_at hO (k := 2) rfl)
    rw [e] at hr
    obtain ⟨A, c, e2⟩ := hr.slice
    injection e2 with _ e3 _
    have := hr.out.1
    rw [← e3] at this
    exact List.length_eq_zero_iff.1 (by omega)))
  have hO : Own w (mapP bv fv :: pts d (.cells #[.slice (some ⟨g, 0, none⟩) m.length cap, .map (some bv), .map (some bb)] 101) :: pts g (.cells (secs (m.map (·.s)) ++ rest).toArray 47) :: mapP bb fb :: rdV ((.slice none 0 0, []) :: l) :: L) := own_perm hO (by
    refine (perm_at (k := 3) rfl).trans (List.Perm.cons _ ?_)
    refine (perm_at (k := 2) rfl).trans (List.Perm.cons _ (List.Perm.cons _ ?_))
    exact List.Perm.swap _ _ _)
  obtain ⟨es, ck, hM, _⟩ := mapP_open.1 hO
  have hin : ∀ q ∈ fv, inI q.1 := fun q hq => by
    obtain ⟨i, b, h1, h2, _⟩ := hk.keyv q hq
    have := (List.getElem?_eq_some_iff.1 h1).1
    have := hk.len
    rw [h2]
    exact inI_nat (by omega)
  have hrk := rising_keys hk hM.nod
  have hfl : fv.length = (idxs 0 m).length := by
    have := congrArg List.length hrk
    rw [List.length_map] at this
    rw [← this]
    unfold rising
    rw [List.length_mergeSort, List.length_map]
  have hil := idxs_len m 0
  have hml := hk.len
  have HIN := Lib.hid hin
  have HK := Lib.hid hk
  have HRK := Lib.hid hrk
  have HFL := Lib.hid hfl
  have HC1 := Lib.hid hc1
  have HC2 := Lib.hid hc2
  have HC3 : Hid (m.length * 32 + rest.length = cap * 32) := by show _ = _; rw [← hc4, ← List.length_append]; exact hc3
  clear hp hv hin hk hrk hM hln hc1 hc2 hc3 hc4 hfl h0
  go_enter Try.func71, Try.ntmps71
  go_wp2_with (first | (apply own_load1 rfl rfl rfl; (first | exact row_secs | exact row_mv | exact row_mb); (first | exact own_get 0 hO rfl | exact own_get 1 hO rfl | exact own_get 2 hO rfl | exact own_get 3 hO rfl | exact own_get 4 hO rfl | exact own_get 5 hO rfl | exact own_get 6 hO rfl | exact own_get 7 hO rfl); (first | (simp only [List.getElem?_toArray, List.getElem?_cons_succ, List.getElem?_cons_zero]; rfl) | rfl)) | (go_at_call 94; (with_reducible refine Calls.mono (keys_run hO) ?_); clear hO; rintro e u ⟨gm, rfl, hO, hSn⟩; replace hS := hS.trans hSn; clear hSn) | (go_at_call 93; (with_reducible refine Calls.mono (sorted_run hO HIN.out (by have := HFL.out; omega)) ?_); clear hO; rintro e u ⟨sv, rfl, hO, hSn⟩; replace hS := hS.trans hSn; clear hSn; obtain ⟨As, cs, rfl⟩ := (owns_rd hO).slice))
  rw [HRK.out, List.map_map, HFL.out] at hO
  rw [HFL.out]
  have hO : Own u (setL d (.slice As (idxs 0 m).length cs) (idxs 0 m) g cap m.length rest bv bb fv fb ((.slice none 0 0, []) :: l) ((stK pk 0 m 0).map (·.s)) L) := by
    rw [stK_zero]
    exact hO
  go_loopw [5, 6, 7, 8, 18] (fun _ _ _ _ x wr => ∃ k : Nat, k ≤ (idxs 0 m).length ∧ x = .int .i64 k ∧ (∃ fvk, DiskOk (stK pk 0 m k) fvk fb ((.slice none 0 0, []) :: l) ∧ Own wr (setL d (.slice As (idxs 0 m).length cs) (idxs 0 m) g cap m.length rest bv bb fvk fb ((.slice none 0 0, []) :: l) ((stK pk 0 m k).map (·.s)) L)) ∧ Same w wr) (fun _ _ _ _ x _ => (idxs 0 m).length - (intOf x).toNat)
  case atStart => exact ⟨0, Nat.zero_le _, rfl, ⟨fv, by rw [stK_zero]; exact HK.out, hO⟩, hS⟩
  case round =>
    clear hO hS
    obtain ⟨k, hk, rfl, ⟨fvk, hdk, hO⟩, hS⟩ := hrel
    by_cases hlt : k < (idxs 0 m).length
    · obtain ⟨x, hx⟩ : ∃ x, (idxs 0 m)[k]? = some x := ⟨_, List.getElem?_eq_getElem hlt⟩
      obtain ⟨i, b, e, h1, h2, h3, h4⟩ := stK_step pk m 0 0 k x hx
      rw [Nat.zero_add] at e h4
      subst e
      obtain ⟨_, A', c', e, _, _, hcl⟩ := (owns_rd hO).out
      cases e
      obtain ⟨ads, rfl, hcell⟩ := hcl k (.int .i64 (x : Int)) (by rw [List.getElem?_map, hx]; rfl)
      obtain ⟨A, c, hv, hmem⟩ := hdk.vers x b h3
      have HCELL := Lib.hid hcell
      have HVS := Lib.hid hv
      have HMEM := Lib.hid hmem
      have HDK := Lib.hid hdk
      have H3 := Lib.hid h3
      have H4 := Lib.hid h4
      have hrv := rdV_rd (own_at hO (k := 5) rfl) hmem
      have hmx := hrv.max
      have HLEN : Hid (b.vs.length ≤ 1000000) := HV.out b (List.mem_of_getElem? h1)
      have hk1 : (k : Int) < (idxs 0 m).length := by omega
      have hk9 : k < 1000 := by omega
      clear hcl hcell hv hmem hdk h1 h2 h3 h4 hx hrv
      go_upto_region 8 with (first | (refine own_load1_at (ad := ads.add k) (v := .int .i64 (x : Int)) rfl rfl rfl row_int HCELL.out ?_) | (apply own_load1 rfl rfl rfl; (first | exact row_secs | exact row_mv | exact row_mb); (first | exact own_get 0 hO rfl | exact own_get 1 hO rfl | exact own_get 2 hO rfl | exact own_get 3 hO rfl | exact own_get 4 hO rfl | exact own_get 5 hO rfl | exact own_get 6 hO rfl | exact own_get 7 hO rfl); (first | (simp only [List.getElem?_toArray, List.getElem?_cons_succ, List.getElem?_cons_zero]; rfl) | rfl)) | (refine own_mlookup (i := 1) (b := bv) (k := (x : Int)) (f := fvk) rfl rfl rfl rfl und_mv und_i zero_secs hO rfl HVS.out ?_) | (go_at_call 72; (with_reducible refine Calls.mono (HP.out k b.vs.length _ _ hk9 HLEN.out (fun w' h => own_drop (own_drop (own_drop (own_drop (own_drop (own_drop h)))))) hO) ?_); clear hO; rintro e u ⟨rfl, hO, hSn⟩; replace hS := hS.trans hSn; clear hSn))
      generalize hvv : pk k b.vs.length = v
      rw [hvv] at H4
      by_cases hin : 1 ≤ v ∧ v ≤ (b.vs.length : Int)
      · obtain ⟨hv1, hv2⟩ := hin
        have d1 : decide (1 ≤ v) = true := decide_eq_true hv1
        have d2 : decide (v ≤ (b.vs.length : Int)) = true := decide_eq_true hv2
        obtain ⟨s, hsv⟩ : ∃ s, b.vs[(v - 1).toNat]? = some s := ⟨_, List.getElem?_eq_getElem (by omega)⟩
        have hsett : sett v b = s := by unfold sett; rw [if_pos ⟨hv1, hv2⟩, hsv]; rfl
        have h32 : ∀ s ∈ b.vs, s.length = 32 := HDK.out.v32 b (List.mem_of_getElem? H3.out)
        have hs32 := h32 s (List.mem_of_getElem? hsv)
        have hb32 := HDK.out.s32 b (List.mem_of_getElem? H3.out)
        obtain ⟨i0, hi0⟩ := u8_info
        obtain ⟨q, rfl⟩ : ∃ q : Nat, v = (q : Int) + 1 := ⟨(v - 1).toNat, by omega⟩
        have hq : ((q : Int) + 1 - 1).toNat = q := by omega
        rw [hq] at hsv
        have hrv := rdV_rd (own_at hO (k := 5) rfl) HMEM.out
        obtain ⟨ad2, rfl, _⟩ := vers_cell hrv h32 hsv
        have HVC : Hid (∀ w', Own w' (setL d (.slice (some ads) (idxs 0 m).length cs) (idxs 0 m) g cap m.length rest bv bb fvk fb ((.slice none 0 0, []) :: l) ((stK pk 0 m k).map (·.s)) L) → ∀ (j : Nat) (u : Value), (bcs s)[j]? = some u → w'.cell? ((ad2.add (q * 32)).add j) = some u) := Lib.hid fun w' h => by
          obtain ⟨ad3, e3, h3⟩ := vers_cell (rdV_rd (own_at h (k := 5) rfl) HMEM.out) h32 hsv
          cases e3
          exact h3
        have hx1 : (x : Int) < m.length := by
          have h1 := (List.getElem?_eq_some_iff.1 H3.out).1
          have h2 : (stK pk 0 m k).length = m.length := stK_len pk m 0 k
          omega
        have hsub : IntKind.i64.wrap ((q : Int) + 1 - 1) = (q : Int) := by rw [IntKind.wrap_i64] <;> omega
        have hsub2 : IntKind.i64.wrap (q : Int) = (q : Int) := by rw [IntKind.wrap_i64] <;> omega
        have hq1 : (q : Int) < b.vs.length := by omega
        have hq2 : q < b.vs.length := by omega
        have hq3 : ¬ ((q : Int) < 0) := by omega
        have hrow := secs_row (l := (stK pk 0 m k).map (·.s)) (rest := rest) (fun s hs => by obtain ⟨b, hb, rfl⟩ := List.mem_map.1 hs; exact HDK.out.s32 b hb) (k := x) (s := b.s) (by rw [List.getElem?_map, H3.out]; rfl)
        have HROW := Lib.hid hrow
        have HB32 := Lib.hid hb32
        have HS32 := Lib.hid hs32
        have hEq : ∀ w', (Op.equalIn 10000 47 (secV b.s) (secV s)).run Try.prog w' = .ok (decide (b.s = s)) w' := fun w' => eq_sec w' (n := 0) und_sec hi0 9998 hb32 hs32
        clear h32 hrv hrow hb32 hs32 hsv
        by_cases heq : b.s = s
        · have hs : Hid (sett ((q : Int) + 1) b = b.s) := by show _ = _; rw [hsett, heq]
          have d3 : decide (b.s = s) = true := decide_eq_true heq
          clear heq hsett
          refine wp_region_seq (Cls u (_)) 23 74 mixed (by kernel_rfl) rfl (cls_drew hO) ?_
          simp only [List.append_eq, List.cons_append, List.nil_append, List.take_succ_cons, List.take_zero]
          repeat (first
            | (apply wv_skip rfl; simp only [Act.put, List.setIfInBounds_toArray, List.set_cons_zero, List.set_cons_succ])
            | (refine wv_load1 (b := d) (off := 0) (cs := #[.slice (some ⟨g, 0, none⟩) m.length cap, .map (some bv), .map (some bb)]) (t := 101) (v := .slice (some ⟨g, 0, none⟩) m.length cap) rfl rfl rfl row_secs (fun w h => own_get 2 h.1 rfl) rfl ?_; simp only [Act.put, List.setIfInBounds_toArray, List.set_cons_zero, List.set_cons_succ])
            | (refine wv_loadrow (b := g) (off := x * 32) (vs := bcs b.s) rfl rfl rfl row_sec sz_sec (fun w h => own_get 3 h.1 rfl) HROW.out.1 HROW.out.2 ?_; simp only [Act.put, List.setIfInBounds_toArray, List.set_cons_zero, List.set_cons_succ])
            | (refine wv_loadrow_at (ad := ad2.add (q * 32)) (vs := bcs s) rfl rfl rfl row_sec sz_sec (by rw [bcs_length]; exact HS32.out) (fun w h => HVC.out w h.1) ?_; simp only [Act.put, List.setIfInBounds_toArray, List.set_cons_zero, List.set_cons_succ])
            | (apply wv_run rfl; (focus (intro w h; go_simp; simp only [hEq w, d3]; first | done | rfl)); simp only [Act.put, List.setIfInBounds_toArray, List.set_cons_zero, List.set_cons_succ])
            | (apply wv_load1 rfl rfl rfl; (first | exact row_int | exact row_str | exact row_bool | exact row_u8 | exact row_bys | exact row_pats | exact row_err); (intro w h; (first | exact own_get 0 h.1 rfl | exact own_get 1 h.1 rfl | exact own_get 2 h.1 rfl | exact own_get 3 h.1 rfl | exact own_get 4 h.1 rfl | exact own_get 5 h.1 rfl | exact own_get 6 h.1 rfl | exact own_get 7 h.1 rfl)); (first | (simp only [List.getElem?_toArray, List.getElem?_cons_succ, List.getElem?_cons_zero]; rfl) | rfl); simp only [Act.put, List.setIfInBounds_toArray, List.set_cons_zero, List.set_cons_succ])
            | (apply wv_loadrow rfl rfl rfl; (first | exact row_pat); exact sz_pat; (intro w h; (first | exact own_get 0 h.1 rfl | exact own_get 1 h.1 rfl | exact own_get 2 h.1 rfl | exact own_get 3 h.1 rfl | exact own_get 4 h.1 rfl | exact own_get 5 h.1 rfl | exact own_get 6 h.1 rfl | exact own_get 7 h.1 rfl)); (focus (simp; done)); (first | (simp only [List.drop_zero, List.drop_succ_cons, List.take_succ_cons, List.take_zero]; rfl) | rfl); simp only [Act.put, List.setIfInBounds_toArray, List.set_cons_zero, List.set_cons_succ])
            | (apply wv_run rfl; (focus (intro w h; go_simp; first | done | rfl)); simp only [Act.put, List.setIfInBounds_toArray, List.set_cons_zero, List.set_cons_succ])
            | (apply wv_call rfl; (focus (intro w; go_simp; first | done | exact ⟨rfl, rfl⟩)); (focus (intro w h; apply cls_call h; fail)); simp only [Act.put, List.setIfInBounds_toArray, List.set_cons_zero, List.set_cons_succ]))
          refine wv_nil ?_
          simp only [List.drop_succ_cons, List.drop_zero]
          intro w9 ⟨hO9, hS9⟩
          replace hS := hS.trans hS9
          clear hO hS9
          have hO := hO9
          clear hO9
          go_wp2_with (first | (apply own_load1 rfl rfl rfl; (first | exact row_secs | exact row_mv | exact row_mb); (first | exact own_get 0 hO rfl | exact own_get 1 hO rfl | exact own_get 2 hO rfl | exact own_get 3 hO rfl | exact own_get 4 hO rfl | exact own_get 5 hO rfl | exact own_get 6 hO rfl | exact own_get 7 hO rfl); (first | (simp only [List.getElem?_toArray, List.getElem?_cons_succ, List.getElem?_cons_zero]; rfl) | rfl)) | (refine own_mdel (i := 1) (b := bv) (f := fvk) (k := (x : Int)) rfl rfl rfl rfl und_mv und_i hO rfl ?_; clear hO; intro u hO hSn; replace hS := hS.trans hSn; clear hSn))
          go_roundw
          case rel =>
            refine ⟨k + 1, by omega, by go_num, ⟨mdel fvk x, ?_, ?_⟩, hS⟩
            · rw [H4.out]; exact HDK.out.settle H3.out (sett_len HDK.out H3.out ((q : Int) + 1)) (List.mem_cons_self ..)
            · rw [H4.out, map_set_s (b' := ⟨sett ((q : Int) + 1) b, [], b.bad⟩) H3.out hs.out]; exact hO
          case measure => simp [intOf]; omega
        · have hs : Hid (sett ((q : Int) + 1) b = s) := hsett
          have d3 : decide (b.s = s) = false := decide_eq_false heq
          clear heq hsett
          refine wp_region_seq (Cls u (_)) 23 74 mixed (by kernel_rfl) rfl (cls_drew hO) ?_
          simp only [List.append_eq, List.cons_append, List.nil_append, List.take_succ_cons, List.take_zero]
          repeat (first
            | (apply wv_skip rfl; simp only [Act.put, List.setIfInBounds_toArray, List.set_cons_zero, List.set_cons_succ])
            | (refine wv_load1 (b := d) (off := 0) (cs := #[.slice (some ⟨g, 0, none⟩) m.length cap, .map (some bv), .map (some bb)]) (t := 101) (v := .slice (some ⟨g, 0, none⟩) m.length cap) rfl rfl rfl row_secs (fun w h => own_get 2 h.1 rfl) rfl ?_; simp only [Act.put, List.setIfInBounds_toArray, List.set_cons_zero, List.set_cons_succ])
            | (refine wv_loadrow (b := g) (off := x * 32) (vs := bcs b.s) rfl rfl rfl row_sec sz_sec (fun w h => own_get 3 h.1 rfl) HROW.out.1 HROW.out.2 ?_; simp only [Act.put, List.setIfInBounds_toArray, List.set_cons_zero, List.set_cons_succ])
            | (refine wv_loadrow_at (ad := ad2.add (q * 32)) (vs := bcs s) rfl rfl rfl row_sec sz_sec (by rw [bcs_length]; exact HS32.out) (fun w h => HVC.out w h.1) ?_; simp only [Act.put, List.setIfInBounds_toArray, List.set_cons_zero, List.set_cons_succ])
            | (apply wv_run rfl; (focus (intro w h; go_simp; simp only [hEq w, d3]; first | done | rfl)); simp only [Act.put, List.setIfInBounds_toArray, List.set_cons_zero, List.set_cons_succ])
            | (apply wv_load1 rfl rfl rfl; (first | exact row_int | exact row_str | exact row_bool | exact row_u8 | exact row_bys | exact row_pats | exact row_err); (intro w h; (first | exact own_get 0 h.1 rfl | exact own_get 1 h.1 rfl | exact own_get 2 h.1 rfl | exact own_get 3 h.1 rfl | exact own_get 4 h.1 rfl | exact own_get 5 h.1 rfl | exact own_get 6 h.1 rfl | exact own_get 7 h.1 rfl)); (first | (simp only [List.getElem?_toArray, List.getElem?_cons_succ, List.getElem?_cons_zero]; rfl) | rfl); simp only [Act.put, List.setIfInBounds_toArray, List.set_cons_zero, List.set_cons_succ])
            | (apply wv_loadrow rfl rfl rfl; (first | exact row_pat); exact sz_pat; (intro w h; (first | exact own_get 0 h.1 rfl | exact own_get 1 h.1 rfl | exact own_get 2 h.1 rfl | exact own_get 3 h.1 rfl | exact own_get 4 h.1 rfl | exact own_get 5 h.1 rfl | exact own_get 6 h.1 rfl | exact own_get 7 h.1 rfl)); (focus (simp; done)); (first | (simp only [List.drop_zero, List.drop_succ_cons, List.take_succ_cons, List.take_zero]; rfl) | rfl); simp only [Act.put, List.setIfInBounds_toArray, List.set_cons_zero, List.set_cons_succ])
            | (apply wv_run rfl; (focus (intro w h; go_simp; first | done | rfl)); simp only [Act.put, List.setIfInBounds_toArray, List.set_cons_zero, List.set_cons_succ])
            | (apply wv_call rfl; (focus (intro w; go_simp; first | done | exact ⟨rfl, rfl⟩)); (focus (intro w h; apply cls_call h; fail)); simp only [Act.put, List.setIfInBounds_toArray, List.set_cons_zero, List.set_cons_succ]))
          refine wv_nil ?_
          simp only [List.drop_succ_cons, List.drop_zero]
          intro w9 ⟨hO9, hS9⟩
          replace hS := hS.trans hS9
          clear hO hS9
          have hO := hO9
          clear hO9
          go_upto_region 9 with fail
          refine wp_region_seq (Cls w9 (_)) 11 74 mixed (by kernel_rfl) rfl (cls_drew hO) ?_
          simp only [List.append_eq, List.cons_append, List.nil_append, List.take_succ_cons, List.take_zero]
          repeat (first
            | (apply wv_skip rfl; simp only [Act.put, List.setIfInBounds_toArray, List.set_cons_zero, List.set_cons_succ])
            | (refine wv_load1 (b := d) (off := 0) (cs := #[.slice (some ⟨g, 0, none⟩) m.length cap, .map (some bv), .map (some bb)]) (t := 101) (v := .slice (some ⟨g, 0, none⟩) m.length cap) rfl rfl rfl row_secs (fun w h => own_get 2 h.1 rfl) rfl ?_; simp only [Act.put, List.setIfInBounds_toArray, List.set_cons_zero, List.set_cons_succ])
            | (refine wv_loadrow (b := g) (off := x * 32) (vs := bcs b.s) rfl rfl rfl row_sec sz_sec (fun w h => own_get 3 h.1 rfl) HROW.out.1 HROW.out.2 ?_; simp only [Act.put, List.setIfInBounds_toArray, List.set_cons_zero, List.set_cons_succ])
            | (refine wv_loadrow_at (ad := ad2.add (q * 32)) (vs := bcs s) rfl rfl rfl row_sec sz_sec (by rw [bcs_length]; exact HS32.out) (fun w h => HVC.out w h.1) ?_; simp only [Act.put, List.setIfInBounds_toArray, List.set_cons_zero, List.set_cons_succ])
            | (apply wv_run rfl; (focus (intro w h; go_simp; simp only [hEq w, d3]; first | done | rfl)); simp only [Act.put, List.setIfInBounds_toArray, List.set_cons_zero, List.set_cons_succ])
            | (apply wv_load1 rfl rfl rfl; (first | exact row_int | exact row_str | exact row_bool | exact row_u8 | exact row_bys | exact row_pats | exact row_err); (intro w h; (first | exact own_get 0 h.1 rfl | exact own_get 1 h.1 rfl | exact own_get 2 h.1 rfl | exact own_get 3 h.1 rfl | exact own_get 4 h.1 rfl | exact own_get 5 h.1 rfl | exact own_get 6 h.1 rfl | exact own_get 7 h.1 rfl)); (first | (simp only [List.getElem?_toArray, List.getElem?_cons_succ, List.getElem?_cons_zero]; rfl) | rfl); simp only [Act.put, List.setIfInBounds_toArray, List.set_cons_zero, List.set_cons_succ])
            | (apply wv_loadrow rfl rfl rfl; (first | exact row_pat); exact sz_pat; (intro w h; (first | exact own_get 0 h.1 rfl | exact own_get 1 h.1 rfl | exact own_get 2 h.1 rfl | exact own_get 3 h.1 rfl | exact own_get 4 h.1 rfl | exact own_get 5 h.1 rfl | exact own_get 6 h.1 rfl | exact own_get 7 h.1 rfl)); (focus (simp; done)); (first | (simp only [List.drop_zero, List.drop_succ_cons, List.take_succ_cons, List.take_zero]; rfl) | rfl); simp only [Act.put, List.setIfInBounds_toArray, List.set_cons_zero, List.set_cons_succ])
            | (apply wv_run rfl; (focus (intro w h; go_simp; first | done | rfl)); simp only [Act.put, List.setIfInBounds_toArray, List.set_cons_zero, List.set_cons_succ])
            | (apply wv_call rfl; (focus (intro w; go_simp; first | done | exact ⟨rfl, rfl⟩)); (focus (intro w h; apply cls_call h; fail)); simp only [Act.put, List.setIfInBounds_toArray, List.set_cons_zero, List.set_cons_succ]))
          refine wv_nil ?_
          simp only [List.drop_succ_cons, List.drop_zero]
          intro w10 ⟨hO10, hS10⟩
          replace hS := hS.trans hS10
          clear hO hS10
          refine own_store (k := 3) (b := g) (off := x * 32) (n := 32) (v := secV s) (vs := bcs s) (new := secs (((stK pk 0 m k).map (·.s)).set x s) ++ rest) rfl rfl rfl rfl sz_sec hO10 rfl rfl (by rw [bcs_length]; exact HS32.out) (bcs_one s) HROW.out.1 (secs_set (fun s hs => by obtain ⟨b, hb, rfl⟩ := List.mem_map.1 hs; exact HDK.out.s32 b hb) (by rw [List.length_map]; exact (List.getElem?_eq_some_iff.1 H3.out).1)) ?_
          intro w11 hO hS11
          replace hS := hS.trans hS11
          clear hO10 hS11
          refine wpList_nil ?_
          simp only [Act.put, List.setIfInBounds_toArray, List.set_cons_zero, List.set_cons_succ]
          simp only [Exit.then]
          have hO : Own w11 (setL d (.slice (some ads) (idxs 0 m).length cs) (idxs 0 m) g cap m.length rest bv bb fvk fb ((.slice none 0 0, []) :: l) (((stK pk 0 m k).map (·.s)).set x s) L) := hO
          go_wp2_with (first | (apply own_load1 rfl rfl rfl; (first | exact row_secs | exact row_mv | exact row_mb); (first | exact own_get 0 hO rfl | exact own_get 1 hO rfl | exact own_get 2 hO rfl | exact own_get 3 hO rfl | exact own_get 4 hO rfl | exact own_get 5 hO rfl | exact own_get 6 hO rfl | exact own_get 7 hO rfl); (first | (simp only [List.getElem?_toArray, List.getElem?_cons_succ, List.getElem?_cons_zero]; rfl) | rfl)) | (refine own_mdel (i := 1) (b := bv) (f := fvk) (k := (x : Int)) rfl rfl rfl rfl und_mv und_i hO rfl ?_; clear hO; intro u hO hSn; replace hS := hS.trans hSn; clear hSn))
          go_roundw
          case rel =>
            refine ⟨k + 1, by omega, by go_num, ⟨mdel fvk x, ?_, ?_⟩, hS⟩
            · rw [H4.out]; exact HDK.out.settle H3.out (sett_len HDK.out H3.out ((q : Int) + 1)) (List.mem_cons_self ..)
            · rw [H4.out, List.map_set, hs.out]; exact hO
          case measure => simp [intOf]; omega
      · have hs : Hid (sett v b = b.s) := by show _ = _; unfold sett; rw [if_neg hin]
        by_cases hv1 : 1 ≤ v
        · have hv2 : ¬ (v ≤ (b.vs.length : Int)) := fun h => hin ⟨hv1, h⟩
          have d1 : decide (1 ≤ v) = true := decide_eq_true hv1
          have d2 : decide (v ≤ (b.vs.length : Int)) = false := decide_eq_false hv2
          clear hin
          refine wp_region_seq (Cls u (_)) 23 74 mixed (by kernel_rfl) rfl (cls_drew hO) ?_
          simp only [List.append_eq, List.cons_append, List.nil_append, List.take_succ_cons, List.take_zero]
          repeat (first
            | (apply wv_skip rfl; simp only [Act.put, List.setIfInBounds_toArray, List.set_cons_zero, List.set_cons_succ])
            | (apply wv_load1 rfl rfl rfl; (first | exact row_int | exact row_str | exact row_bool | exact row_u8 | exact row_bys | exact row_pats | exact row_err); (intro w h; (first | exact own_get 0 h.1 rfl | exact own_get 1 h.1 rfl | exact own_get 2 h.1 rfl | exact own_get 3 h.1 rfl | exact own_get 4 h.1 rfl | exact own_get 5 h.1 rfl | exact own_get 6 h.1 rfl | exact own_get 7 h.1 rfl)); (first | (simp only [List.getElem?_toArray, List.getElem?_cons_succ, List.getElem?_cons_zero]; rfl) | rfl); simp only [Act.put, List.setIfInBounds_toArray, List.set_cons_zero, List.set_cons_succ])
            | (apply wv_loadrow rfl rfl rfl; (first | exact row_pat); exact sz_pat; (intro w h; (first | exact own_get 0 h.1 rfl | exact own_get 1 h.1 rfl | exact own_get 2 h.1 rfl | exact own_get 3 h.1 rfl | exact own_get 4 h.1 rfl | exact own_get 5 h.1 rfl | exact own_get 6 h.1 rfl | exact own_get 7 h.1 rfl)); (focus (simp; done)); (first | (simp only [List.drop_zero, List.drop_succ_cons, List.take_succ_cons, List.take_zero]; rfl) | rfl); simp only [Act.put, List.setIfInBounds_toArray, List.set_cons_zero, List.set_cons_succ])
            | (apply wv_run rfl; (focus (intro w h; go_simp; first | done | rfl)); simp only [Act.put, List.setIfInBounds_toArray, List.set_cons_zero, List.set_cons_succ])
            | (apply wv_call rfl; (focus (intro w; go_simp; first | done | exact ⟨rfl, rfl⟩)); (focus (intro w h; apply cls_call h; fail)); simp only [Act.put, List.setIfInBounds_toArray, List.set_cons_zero, List.set_cons_succ]))
          refine wv_nil ?_
          simp only [List.drop_succ_cons, List.drop_zero]
          intro w9 ⟨hO9, hS9⟩
          replace hS := hS.trans hS9
          clear hO hS9
          have hO := hO9
          clear hO9
          go_wp2_with (first | (apply own_load1 rfl rfl rfl; (first | exact row_secs | exact row_mv | exact row_mb); (first | exact own_get 0 hO rfl | exact own_get 1 hO rfl | exact own_get 2 hO rfl | exact own_get 3 hO rfl | exact own_get 4 hO rfl | exact own_get 5 hO rfl | exact own_get 6 hO rfl | exact own_get 7 hO rfl); (first | (simp only [List.getElem?_toArray, List.getElem?_cons_succ, List.getElem?_cons_zero]; rfl) | rfl)) | (refine own_mdel (i := 1) (b := bv) (f := fvk) (k := (x : Int)) rfl rfl rfl rfl und_mv und_i hO rfl ?_; clear hO; intro u hO hSn; replace hS := hS.trans hSn; clear hSn))
          go_roundw
          case rel =>
            refine ⟨k + 1, by omega, by go_num, ⟨mdel fvk x, ?_, ?_⟩, hS⟩
            · rw [H4.out]; exact HDK.out.settle H3.out (sett_len HDK.out H3.out v) (List.mem_cons_self ..)
            · rw [H4.out, map_set_s (b' := ⟨sett v b, [], b.bad⟩) H3.out hs.out]; exact hO
          case measure => simp [intOf]; omega
        · have d1 : decide (1 ≤ v) = false := decide_eq_false hv1
          clear hin
          refine wp_region_seq (Cls u (_)) 23 74 mixed (by kernel_rfl) rfl (cls_drew hO) ?_
          simp only [List.append_eq, List.cons_append, List.nil_append, List.take_succ_cons, List.take_zero]
          repeat (first
            | (apply wv_skip rfl; simp only [Act.put, List.setIfInBounds_toArray, List.set_cons_zero, List.set_cons_succ])
            | (apply wv_load1 rfl rfl rfl; (first | exact row_int | exact row_str | exact row_bool | exact row_u8 | exact row_bys | exact row_pats | exact row_err); (intro w h; (first | exact own_get 0 h.1 rfl | exact own_get 1 h.1 rfl | exact own_get 2 h.1 rfl | exact own_get 3 h.1 rfl | exact own_get 4 h.1 rfl | exact own_get 5 h.1 rfl | exact own_get 6 h.1 rfl | exact own_get 7 h.1 rfl)); (first | (simp only [List.getElem?_toArray, List.getElem?_cons_succ, List.getElem?_cons_zero]; rfl) | rfl); simp only [Act.put, List.setIfInBounds_toArray, List.set_cons_zero, List.set_cons_succ])
            | (apply wv_loadrow rfl rfl rfl; (first | exact row_pat); exact sz_pat; (intro w h; (first | exact own_get 0 h.1 rfl | exact own_get 1 h.1 rfl | exact own_get 2 h.1 rfl | exact own_get 3 h.1 rfl | exact own_get 4 h.1 rfl | exact own_get 5 h.1 rfl | exact own_get 6 h.1 rfl | exact own_get 7 h.1 rfl)); (focus (simp; done)); (first | (simp only [List.drop_zero, List.drop_succ_cons, List.take_succ_cons, List.take_zero]; rfl) | rfl); simp only [Act.put, List.setIfInBounds_toArray, List.set_cons_zero, List.set_cons_succ])
            | (apply wv_run rfl; (focus (intro w h; go_simp; first | done | rfl)); simp only [Act.put, List.setIfInBounds_toArray, List.set_cons_zero, List.set_cons_succ])
            | (apply wv_call rfl; (focus (intro w; go_simp; first | done | exact ⟨rfl, rfl⟩)); (focus (intro w h; apply cls_call h; fail)); simp only [Act.put, List.setIfInBounds_toArray, List.set_cons_zero, List.set_cons_succ]))
          refine wv_nil ?_
          simp only [List.drop_succ_cons, List.drop_zero]
          intro w9 ⟨hO9, hS9⟩
          replace hS := hS.trans hS9
          clear hO hS9
          have hO := hO9
          clear hO9
          go_wp2_with (first | (apply own_load1 rfl rfl rfl; (first | exact row_secs | exact row_mv | exact row_mb); (first | exact own_get 0 hO rfl | exact own_get 1 hO rfl | exact own_get 2 hO rfl | exact own_get 3 hO rfl | exact own_get 4 hO rfl | exact own_get 5 hO rfl | exact own_get 6 hO rfl | exact own_get 7 hO rfl); (first | (simp only [List.getElem?_toArray, List.getElem?_cons_succ, List.getElem?_cons_zero]; rfl) | rfl)) | (refine own_mdel (i := 1) (b := bv) (f := fvk) (k := (x : Int)) rfl rfl rfl rfl und_mv und_i hO rfl ?_; clear hO; intro u hO hSn; replace hS := hS.trans hSn; clear hSn))
          go_roundw
          case rel =>
            refine ⟨k + 1, by omega, by go_num, ⟨mdel fvk x, ?_, ?_⟩, hS⟩
            · rw [H4.out]; exact HDK.out.settle H3.out (sett_len HDK.out H3.out v) (List.mem_cons_self ..)
            · rw [H4.out, map_set_s (b' := ⟨sett v b, [], b.bad⟩) H3.out hs.out]; exact hO
          case measure => simp [intOf]; omega
    · have hke : k = (idxs 0 m).length := by omega
      subst hke
      go_wp2
      go_ret
      rw [stK_all] at hdk hO
      refine ⟨rfl, ?_, hS⟩
      have hlen : (crashL pk 0 m).length = m.length := crashL_len pk m 0
      have h1 := own_drop hO
      have h2 := own_at h1 (k := 2) rfl
      have hsl : (secs ((crashL pk 0 m).map (·.s))).length = m.length * 32 := by
        rw [secs_length (fun s hs => by obtain ⟨b, hb, rfl⟩ := List.mem_map.1 hs; exact hdk.s32 b hb), List.length_map, hlen]
      have h3 := owns_of_pts (size := 32) (n := m.length) (cap := cap) (xs := secs ((crashL pk 0 m).map (·.s))) h2 (by rw [List.size_toArray, List.length_append, hsl]; exact HC3.out) HC1.out HC2.out (by rw [← hsl]; exact List.take_left)
      refine disk_open.2 ⟨.slice (some ⟨g, 0, none⟩) m.length cap, bv, bb, fvk, fb, _, hdk, ?_⟩
      rw [hlen]
      exact own_at h3 (k := 2) rfl
end
end Go.Proofs.Ytonohjhmnlfakaa.H
