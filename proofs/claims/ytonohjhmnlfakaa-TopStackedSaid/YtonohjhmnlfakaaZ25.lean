/- Add of the program's engine, where all are taken. -/
import Derived.Test.YtonohjhmnlfakaaZ24
set_option linter.unusedVariables false
set_option linter.unusedSimpArgs false
set_option maxRecDepth 100000
namespace Go.Proofs.Ytonohjhmnlfakaa.H
open Go.RowKit
theorem owns_cell1 {w : World} {L : List HP} {t : TypeId} {sz n : Nat} {v : Value} {xs : List Value} (h : Own w (owns t sz v n xs :: L)) : v.oneCell' = true := by
  obtain ⟨A, c, e⟩ := (owns_rd h).slice
  rw [e]; rfl
theorem add_take {is : List Iv} {k : Nat} {x : It} {f : Nat} {E : Eng} (hx : (is.map (·.1))[k]? = some x) : ((is.take (k + 1)).map (·.1)).foldl (Eng.add1 f) E = (((is.take k).map (·.1)).foldl (Eng.add1 f) E).add1 f x := by
  rw [List.getElem?_map] at hx
  obtain ⟨y, hy, rfl⟩ := Option.map_eq_some_iff.1 hx
  rw [List.take_add_one, hy, List.map_append, List.foldl_append]
  rfl
/-- A number more behind which the new entry comes. -/
theorem ad_more {w : World} {L : List HP} {A : HP} {nx : Nat} {p : Pat} {v : Value} {bl : List Int} {q : Int} {gn : Nat}
    (h : Own w (owns 3 1 v (bl.length + 1) (zs bl ++ [.int .i64 q]) :: A :: pts gn (.cells #[.int .i64 nx, .int .i64 p.blk, .int .i64 p.off, .string p.dat, v] 79) :: L)) :
    Own w (pts gn (.cells #[.int .i64 nx, .int .i64 p.blk, .int .i64 p.off, .string p.dat, v] 79) :: owns 3 1 v (bl ++ [q]).length (zs (bl ++ [q])) :: L) := by
  have e1 : (bl ++ [q]).length = bl.length + 1 := by simp
  have e2 : zs (bl ++ [q]) = zs bl ++ [.int .i64 q] := by simp [zs, encZ]
  rw [e1, e2]
  exact own_swap (own_drop (own_order [1] h rfl))
theorem ad_more2 {w : World} {L : List HP} {A B : HP} {nx : Nat} {p : Pat} {v : Value} {bl : List Int} {q : Int} {gn : Nat}
    (h : Own w (owns 3 1 v (bl.length + 1) (zs bl ++ [.int .i64 q]) :: A :: B :: pts gn (.cells #[.int .i64 nx, .int .i64 p.blk, .int .i64 p.off, .string p.dat, v] 79) :: L)) :
    Own w (pts gn (.cells #[.int .i64 nx, .int .i64 p.blk, .int .i64 p.off, .string p.dat, v] 79) :: owns 3 1 v (bl ++ [q]).length (zs (bl ++ [q])) :: L) :=
  ad_more (A := B) (own_drop (own_order [1] h rfl))
theorem overe_v (w : World) (L : List HP) (a0 a1 b0 b1 : Int) (s t : ByteArray) {r : Bool} (hr : overB ⟨a0, a1, s⟩ ⟨b0, b1, t⟩ = r) (hO : Own w L) :
    Calls Try.prog 40 #[.agg #[.int .i64 a0, .int .i64 a1, .string s], .agg #[.int .i64 b0, .int .i64 b1, .string t]] w (Ret w (.bool r) L) := by
  have h := over_c w L a0 a1 b0 b1 s t hO
  rw [hr] at h
  exact h
theorem nwe_one (x : Wt) (B : Option Addr) (cb : Nat) : ∀ u ∈ We.cells (nWe x B cb), u.oneCell' = true := by
  intro u hu
  simp only [We.cells, List.mem_cons, List.not_mem_nil, or_false] at hu
  rcases hu with rfl | rfl | rfl | rfl | rfl <;> rfl
section
variable (w : World) (L : List HP) (e : Nat) (E : Eng)
set_option maxHeartbeats 12800000 in
theorem eadd_did (v : Value) (n : Nat) (is : List Iv) (hO : Own w (engP e E :: L)) (hk : E.Ok) (hn : n = is.length) (h6 : n ≤ 1000000) (hrd : ∀ w', Own w' L → Rd w' 4 v n (cellsI is)) (hdep : ∀ x ∈ is, ∃ A c, x.2 = .slice A x.1.deps.length c ∧ ∀ w', Own w' L → Rd w' 1 (.slice A x.1.deps.length c) x.1.deps.length (zs x.1.deps)) (hlo : ∀ x ∈ is, ∀ d ∈ x.1.deps, -9223372036854775808 ≤ d) (hform : E.formB (is.map (·.1)) = false) (hrange : E.rangeB (is.map (·.1)) = false) (hroom : E.l.length + is.length ≤ 200) (hdl : ∀ x ∈ is, x.1.deps.length ≤ 1000000) :
    Calls Try.prog 9 #[.pointer (some ⟨e, 0, none⟩), v] w (Ret w (.tuple #[.int .i64 E.next, .int .i64 0]) (engP e ((is.map (·.1)).foldl (Eng.add1 E.next) E) :: L)) := by
  subst hn
  have HOK := Lib.hid hk
  have HRD := Lib.hid hrd
  have HDEP := Lib.hid hdep
  have HLO := Lib.hid hlo
  have H6 := Lib.hid h6
  have HN6 : Hid (E.next ≤ 1000000) := hk.lim
  have HSL : Hid (∀ x ∈ is, ∃ A n c, x.2 = .slice A n c) := Lib.hid fun x hx => by obtain ⟨A, c, e1, _⟩ := hdep x hx; exact ⟨A, _, c, e1⟩
  have hS := Same.refl w
  obtain ⟨VA, vc, rfl⟩ := (hrd w (own_drop hO)).slice
  have hmx := (hrd w (own_drop hO)).max
  have HRM := Lib.hid hroom
  have HDL := Lib.hid hdl
  clear hroom hdl
  have HRG := Lib.hid hrange
  clear hrange
  have HFO : Hid ((is.any fun x => E.formI x.1) = false) := by show _ = _; rw [form_any]; exact hform
  clear hk hrd hdep hlo hform
  go_enter Try.func9, Try.ntmps9
  go_wp2_with (first | (refine own_box (x := .tmp 0) (cs := #[.pointer (some ⟨e, 0, none⟩)]) rfl rfl rfl rfl hO ?_; clear hO; intro be u hO hSn; replace hS := hS.trans hSn; clear hSn) | (refine own_load1 (b := be) (off := 0) (cs := #[.pointer (some ⟨e, 0, none⟩)]) (t := 23) (v := .pointer (some ⟨e, 0, none⟩)) rfl rfl rfl row_eptr (own_get 0 hO rfl) rfl ?_) | (go_at_call 34; (with_reducible refine Calls.mono (cf_form _ _ be e E (.slice VA is.length vc) is.length is (r := false) rfl HSL.out HFO.out hO (fun w' h => HRD.out w' (own_drop (own_drop h)))) ?_); clear hO; rintro e u ⟨rfl, hO, hSn⟩; replace hS := hS.trans hSn; clear hSn))
  go_loopw [23] (fun iv wr => ∃ k : Nat, k ≤ is.length ∧ iv = .int .i64 k ∧ Own wr (beL be e E L) ∧ Same w wr) (fun iv _ => is.length - (intOf iv).toNat)
  case atStart => exact ⟨0, Nat.zero_le _, rfl, hO, hS⟩
  case round =>
    clear hO hS
    obtain ⟨k, hk, rfl, hO, hS⟩ := hrel
    by_cases hlt : k < is.length
    · obtain ⟨⟨x, xv⟩, hx⟩ : ∃ y, is[k]? = some y := ⟨_, List.getElem?_eq_getElem hlt⟩
      obtain ⟨DA, dc, e2, hdr⟩ := HDEP.out _ (List.mem_of_getElem? hx)
      have e2 : xv = .slice DA x.deps.length dc := e2
      subst e2
      have HDR : Hid (∀ w', Own w' L → Rd w' 1 (.slice DA x.deps.length dc) x.deps.length (zs x.deps)) := hdr
      have HXL : Hid (∀ d ∈ x.deps, -9223372036854775808 ≤ d) := HLO.out _ (List.mem_of_getElem? hx)
      have HK6 : Hid (k ≤ 1000000) := by have := H6.out; show _ ≤ _; omega
      obtain ⟨ad, rfl⟩ := (HRD.out _ (own_drop (own_drop hO))).addr (by rw [cellsI_length]; omega)
      have HC := Lib.hid (item_cells (HRD.out _ (own_drop (own_drop hO))) hx)
      have hm1 : (k : Int) < is.length := by omega
      have HLX : Hid ((is.map (·.1))[k]? = some x) := by show _ = _; rw [List.getElem?_map, hx]; rfl
      clear hx hdr
      go_upto_region 8 with (first | (refine own_loadrow_at (ad := ad.add (k * 4)) (vs := [.int .i64 x.p.blk, .int .i64 x.p.off, .string x.p.dat, .slice DA x.deps.length dc]) rfl rfl rfl row_item sz_item rfl HC.out ?_) | (refine own_alloc (T := 3) (cs := #[.int .i64 0]) rfl rfl zero_i rfl hO ?_; clear hO; intro bi u hO hSn; replace hS := hS.trans hSn; clear hSn) | (refine own_alloc (T := 36) (cs := #[.int .i64 0, .int .i64 0, .string ⟨#[]⟩, .slice none 0 0]) rfl rfl zero_item rfl hO ?_; clear hO; intro gx u hO hSn; replace hS := hS.trans hSn; clear hSn) | (refine own_store1 (k := 1) (b := bi) (off := 0) (cs' := #[.int .i64 k]) rfl rfl rfl rfl sz_z hO rfl rfl (by simp) rfl ?_; clear hO; intro u hO hSn; replace hS := hS.trans hSn; clear hSn; simp only [List.set_cons_zero, List.set_cons_succ] at hO) | (refine own_store_all (k := 0) (b := gx) (vs := #[.int .i64 x.p.blk, .int .i64 x.p.off, .string x.p.dat, .slice DA x.deps.length dc]) rfl rfl rfl rfl sz_item hO rfl rfl rfl rfl ?_; clear hO; intro u hO hSn; replace hS := hS.trans hSn; clear hSn; simp only [List.set_cons_zero] at hO))
      have hO : Own u (pts bi (.cells #[.int .i64 k] 3) :: pts be (.cells #[.pointer (some ⟨e, 0, none⟩)] 23) :: engP e E :: pts gx (.cells #[.int .i64 x.p.blk, .int .i64 x.p.off, .string x.p.dat, .slice DA x.deps.length dc] 36) :: L) := own_order [1, 1, 1] hO rfl
      have HDB := Lib.hid (range_no HRG.out HLX.out)
      go_wp2_with (first | (refine own_load1 (b := gx) (off := 3) (cs := #[.int .i64 x.p.blk, .int .i64 x.p.off, .string x.p.dat, .slice DA x.deps.length dc]) (t := 36) (v := .slice DA x.deps.length dc) rfl rfl rfl row_zs (own_get 3 hO rfl) rfl ?_) | (go_at_call 38; (with_reducible refine Calls.mono (cf_dep _ _ be e E bi k (.slice DA x.deps.length dc) x.deps.length x.deps (r := false) rfl HXL.out HN6.out HK6.out HDB.out hO (fun w' h => HDR.out w' (own_drop (own_drop (own_drop (own_drop h)))))) ?_); clear hO; rintro e u ⟨rfl, hO, hSn⟩; replace hS := hS.trans hSn; clear hSn))
      go_roundw
      case rel => exact ⟨k + 1, by omega, by go_num, own_sub hO (.cons _ (.cons_cons _ (.cons_cons _ (.cons _ (List.Sublist.refl _))))), hS⟩
      case measure => simp [intOf]; omega
    · have hke : k = is.length := by omega
      subst hke
      obtain ⟨d, wv, bs, fs, we, g, hkk, hO⟩ := eng_open.1 (own_swap hO)
      have HK := Lib.hid hkk
      obtain ⟨WA, wc, rfl, hm⟩ := hkk.2.1.rd
      have hO := own_order [4] hO rfl
      simp only [List.eraseIdx_cons_succ, List.eraseIdx_zero, List.tail_cons] at hO
      have hwl : we.length = E.l.length := by rw [← hkk.1, List.length_map]
      have hf1 : ¬ (200 < (we.length : Int) + is.length) := by have := HRM.out; omega
      have hw2 : we.length ≤ 200 := by have := HRM.out; omega
      have h66 := H6.out
      clear hkk hm hwl
      go_wp2_with (first | (refine own_load1 (b := be) (off := 0) (cs := #[.pointer (some ⟨e, 0, none⟩)]) (t := 23) (v := .pointer (some ⟨e, 0, none⟩)) rfl rfl rfl row_eptr (own_get 0 hO rfl) rfl ?_) | (apply own_load1 rfl rfl rfl; (first | exact row_ents | exact row_int); (first | exact own_get 0 hO rfl | exact own_get 1 hO rfl | exact own_get 2 hO rfl | exact own_get 3 hO rfl | exact own_get 4 hO rfl | exact own_get 5 hO rfl | exact own_get 6 hO rfl | exact own_get 7 hO rfl); (first | (simp only [List.getElem?_toArray, List.getElem?_cons_succ, List.getElem?_cons_zero]; rfl) | rfl)))
      have hO := own_swap (eng_open.2 ⟨_, _, _, _, _, _, HK.out, own_order [1, 1, 1, 1] hO rfl⟩)
      clear hf1 hw2 h66
      go_loopw [48] (fun iv wr => ∃ k : Nat, k ≤ is.length ∧ iv = .int .i64 k ∧ Own wr (beL be e (((is.take k).map (·.1)).foldl (Eng.add1 E.next) E) L) ∧ Same w wr) (fun iv _ => is.length - (intOf iv).toNat)
      case atStart => exact ⟨0, Nat.zero_le _, rfl, hO, hS⟩
      case round =>
        clear hO hS HK
        obtain ⟨k, hk, rfl, hO, hS⟩ := hrel
        by_cases hlt : k < is.length
        · obtain ⟨⟨x, xv⟩, hx⟩ : ∃ y, is[k]? = some y := ⟨_, List.getElem?_eq_getElem hlt⟩
          obtain ⟨DA, dc, e2, hdr⟩ := HDEP.out _ (List.mem_of_getElem? hx)
          have e2 : xv = .slice DA x.deps.length dc := e2
          subst e2
          have HDR : Hid (∀ w', Own w' L → Rd w' 1 (.slice DA x.deps.length dc) x.deps.length (zs x.deps)) := hdr
          have HXL : Hid (∀ d ∈ x.deps, -9223372036854775808 ≤ d) := HLO.out _ (List.mem_of_getElem? hx)
          have HK6 : Hid (k ≤ 1000000) := by have := H6.out; show _ ≤ _; omega
          obtain ⟨ad, rfl⟩ := (HRD.out _ (own_drop (own_drop hO))).addr (by rw [cellsI_length]; omega)
          have HC := Lib.hid (item_cells (HRD.out _ (own_drop (own_drop hO))) hx)
          have hm1 : (k : Int) < is.length := by omega
          have HLX : Hid ((is.map (·.1))[k]? = some x) := by show _ = _; rw [List.getElem?_map, hx]; rfl
          clear hx hdr
          have HXD : Hid (x.deps.length ≤ 1000000) := by
            obtain ⟨y, hy, e0⟩ := List.mem_map.1 (List.mem_of_getElem? HLX.out)
            show _ ≤ _
            rw [← e0]
            exact HDL.out y hy
          have HDN : Hid (∀ d ∈ x.deps, d < (E.next : Int) ∧ -(k : Int) ≤ d) := by
            have h1 := range_no HRG.out HLX.out
            intro d hd
            have h2 := List.any_eq_false.1 h1 d hd
            unfold Eng.depI at h2
            simp only [Bool.or_eq_true, decide_eq_true_eq, not_or] at h2
            omega
          obtain ⟨F, hF⟩ : ∃ F, F = ((is.take k).map (·.1)).foldl (Eng.add1 E.next) E := ⟨_, rfl⟩
          rw [← hF] at hO
          have hlk : ((is.take k).map (·.1)).length = k := by rw [List.length_map, List.length_take]; omega
          have HFN : Hid (F.next = E.next + k) := by show _ = _; rw [hF, Eng.addK_next, hlk]
          have HFL : Hid (F.l.length < 200) := by have := Eng.addK_len E E.next ((is.take k).map (·.1)); rw [← hF, hlk] at this; have := HRM.out; show _ < _; omega
          have HFX : Hid (((is.take (k + 1)).map (·.1)).foldl (Eng.add1 E.next) E = F.add1 E.next x) := by show _ = _; rw [add_take HLX.out, hF]
          have HF6 : Hid (F.next ≤ 2000000) := by have := HN6.out; have := HK6.out; have := HFN.out; show _ ≤ _; omega
          clear hF hlk
          go_upto_region 17 with (first | (refine own_loadrow_at (ad := ad.add (k * 4)) (vs := [.int .i64 x.p.blk, .int .i64 x.p.off, .string x.p.dat, .slice DA x.deps.length dc]) rfl rfl rfl row_item sz_item rfl HC.out ?_) | (refine own_alloc (T := 3) (cs := #[.int .i64 0]) rfl rfl zero_i rfl hO ?_; clear hO; intro bi u hO hSn; replace hS := hS.trans hSn; clear hSn) | (refine own_alloc (T := 36) (cs := #[.int .i64 0, .int .i64 0, .string ⟨#[]⟩, .slice none 0 0]) rfl rfl zero_item rfl hO ?_; clear hO; intro gx u hO hSn; replace hS := hS.trans hSn; clear hSn) | (refine own_store1 (k := 1) (b := bi) (off := 0) (cs' := #[.int .i64 k]) rfl rfl rfl rfl sz_z hO rfl rfl (by simp) rfl ?_; clear hO; intro u hO hSn; replace hS := hS.trans hSn; clear hSn; simp only [List.set_cons_zero, List.set_cons_succ] at hO) | (refine own_store_all (k := 0) (b := gx) (vs := #[.int .i64 x.p.blk, .int .i64 x.p.off, .string x.p.dat, .slice DA x.deps.length dc]) rfl rfl rfl rfl sz_item hO rfl rfl rfl rfl ?_; clear hO; intro u hO hSn; replace hS := hS.trans hSn; clear hSn; simp only [List.set_cons_zero] at hO))
          obtain ⟨d, wv, bs, fs, we, g, hkk, hO⟩ := eng_open.1 (own_order [2] hO rfl)
          obtain ⟨WA, wc, rfl, hm⟩ := hkk.2.1.rd
          have HK := Lib.hid hkk
          have HM := Lib.hid hm
          have HWL : Hid (we.length < 200) := by have := HFL.out; rw [← hkk.1, List.length_map] at this; exact this
          clear hm
          have hO := own_order [4, 4] hO rfl
          simp only [List.eraseIdx_cons_succ, List.eraseIdx_zero, List.tail_cons] at hO
          clear hkk
          refine wp_region_own (α := Nat → Value) (fun y => .pointer (some ⟨e, 0, none⟩) :: .pointer (some ⟨e, 0, none⟩) :: .pointer (some ⟨e, 3, none⟩) :: .int .i64 F.next :: .pointer (some ⟨gx, 0, none⟩) :: .agg #[.int .i64 x.p.blk, .int .i64 x.p.off, .string x.p.dat] :: .agg #[.int .i64 F.next, .int .i64 x.p.blk, .int .i64 x.p.off, .string x.p.dat, .slice none 0 0] :: y 7 :: undef :: [])
            (stB 8 ([pts gx (.cells #[.int .i64 x.p.blk, .int .i64 x.p.off, .string x.p.dat, .slice DA x.deps.length dc] 36), pts be (.cells #[.pointer (some ⟨e, 0, none⟩)] 23), pts e (.cells #[.pointer (some ⟨d, 0, none⟩), .slice WA we.length wc, .map (some bs), .int .i64 F.next] 67), diskP d F.m, mapP bs fs, rdG g] ++ L) (fun y => blkP 79 #[.int .i64 F.next, .int .i64 x.p.blk, .int .i64 x.p.off, .string x.p.dat, .slice none 0 0] (y 7) :: ([pts gx (.cells #[.int .i64 x.p.blk, .int .i64 x.p.off, .string x.p.dat, .slice DA x.deps.length dc] 36), pts be (.cells #[.pointer (some ⟨e, 0, none⟩)] 23), pts e (.cells #[.pointer (some ⟨d, 0, none⟩), .slice WA we.length wc, .map (some bs), .int .i64 F.next] 67), diskP d F.m, mapP bs fs, rdG g] ++ L)) [(7, some 8, fun v => blkP 79 #[.int .i64 0, .int .i64 0, .int .i64 0, .string ⟨#[]⟩, .slice none 0 0] v)]) u (fun _ => undef) 121 (fun _ => rfl) mixed (by kernel_rfl) rfl (by rw [stB_no rfl, owL_none, List.append_nil]; exact own_heap hO (fun _ _ h => h)) (Same.drew _) (fun _ _ _ _ hd h => ⟨hd ▸ h.1, h.2⟩) ?_ ?_
          · refine ⟨?_, ?_, ?_, ?_, ?_, ?_, ?_, ?_, ?_, trivial⟩
            · refine fs_lift 8 (by decide) (by kernel_rfl) ?_; (refine fs_pure (fun _ _ => rfl) (fun D gh hD hcl hp => ?_); simp only [putO]; simp only [Act.put, List.setIfInBounds_toArray, List.set_cons_zero, List.set_cons_succ]; first | exact y_skip rfl | exact (y_load1 (b := be) (off := 0) (cs := #[.pointer (some ⟨e, 0, none⟩)]) (t := 23) (v := .pointer (some ⟨e, 0, none⟩)) rfl rfl rfl row_eptr (fun w h => own_get 1 h.1 rfl) rfl) | exact y_run rfl (by intro w h; go_simp; first | done | rfl))
            · refine fs_lift 8 (by decide) (by kernel_rfl) ?_; (refine fs_pure (fun _ _ => rfl) (fun D gh hD hcl hp => ?_); simp only [putO]; simp only [Act.put, List.setIfInBounds_toArray, List.set_cons_zero, List.set_cons_succ]; first | exact y_skip rfl | exact (rfl) | exact y_run rfl (by intro w h; go_simp; first | done | rfl))
            · refine fs_lift 8 (by decide) (by kernel_rfl) ?_; (refine fs_pure (fun _ _ => rfl) (fun D gh hD hcl hp => ?_); simp only [putO]; simp only [Act.put, List.setIfInBounds_toArray, List.set_cons_zero, List.set_cons_succ]; first | exact y_skip rfl | exact (rfl) | exact y_run rfl (by intro w h; go_simp; first | done | rfl))
            · refine fs_lift 8 (by decide) (by kernel_rfl) ?_; (refine fs_pure (fun _ _ => rfl) (fun D gh hD hcl hp => ?_); simp only [putO]; simp only [Act.put, List.setIfInBounds_toArray, List.set_cons_zero, List.set_cons_succ]; first | exact y_skip rfl | exact (y_load1 (b := e) (off := 3) (cs := #[.pointer (some ⟨d, 0, none⟩), .slice WA we.length wc, .map (some bs), .int .i64 F.next]) (t := 67) (v := .int .i64 F.next) rfl rfl rfl row_int (fun w h => own_get 2 h.1 rfl) rfl) | exact y_run rfl (by intro w h; go_simp; first | done | rfl))
            · refine fs_lift 8 (by decide) (by kernel_rfl) ?_; (refine fs_pure (fun _ _ => rfl) (fun D gh hD hcl hp => ?_); simp only [putO]; simp only [Act.put, List.setIfInBounds_toArray, List.set_cons_zero, List.set_cons_succ]; first | exact y_skip rfl | exact (rfl) | exact y_run rfl (by intro w h; go_simp; first | done | rfl))
            · refine fs_lift 8 (by decide) (by kernel_rfl) ?_; (refine fs_pure (fun _ _ => rfl) (fun D gh hD hcl hp => ?_); simp only [putO]; simp only [Act.put, List.setIfInBounds_toArray, List.set_cons_zero, List.set_cons_succ]; first | exact y_skip rfl | exact (y_loadrow (b := gx) (off := 0) (cs := #[.int .i64 x.p.blk, .int .i64 x.p.off, .string x.p.dat, .slice DA x.deps.length dc]) (t := 36) (vs := [.int .i64 x.p.blk, .int .i64 x.p.off, .string x.p.dat]) rfl rfl rfl row_pat sz_pat (fun w h => own_get 0 h.1 rfl) (by show 3 ≤ 4; decide) rfl) | exact y_run rfl (by intro w h; go_simp; first | done | rfl))
            · refine fs_lift 8 (by decide) (by kernel_rfl) ?_; (refine fs_pure (fun _ _ => rfl) (fun D gh hD hcl hp => ?_); simp only [putO]; simp only [Act.put, List.setIfInBounds_toArray, List.set_cons_zero, List.set_cons_succ]; first | exact y_skip rfl | exact (rfl) | exact y_run rfl (by intro w h; go_simp; first | done | rfl))
            · refine fs_lift 8 (by decide) (by kernel_rfl) ?_; (refine @fs_new _ _ _ _ _ _ _ _ _ _ _ _ [] (fun v => v) rfl rfl (by kernel_rfl) (by kernel_rfl) (by intro j; rcases j with _ | j; (focus (first | exact .inr fun _ _ => rfl | exact .inl (by kernel_rfl))); rcases j with _ | j; (focus (first | exact .inr fun _ _ => rfl | exact .inl (by kernel_rfl))); rcases j with _ | j; (focus (first | exact .inr fun _ _ => rfl | exact .inl (by kernel_rfl))); rcases j with _ | j; (focus (first | exact .inr fun _ _ => rfl | exact .inl (by kernel_rfl))); rcases j with _ | j; (focus (first | exact .inr fun _ _ => rfl | exact .inl (by kernel_rfl))); rcases j with _ | j; (focus (first | exact .inr fun _ _ => rfl | exact .inl (by kernel_rfl))); rcases j with _ | j; (focus (first | exact .inr fun _ _ => rfl | exact .inl (by kernel_rfl))); rcases j with _ | j; (focus (first | exact .inr fun _ _ => rfl | exact .inl (by kernel_rfl))); rcases j with _ | j; (focus (first | exact .inr fun _ _ => rfl | exact .inl (by kernel_rfl))); exact .inr fun _ _ => rfl) (fun _ _ => rfl) ?_; intro D gh u hD hcl hp hO hS N hN; simp only [putO]; simp only [Act.put, List.setIfInBounds_toArray, List.set_cons_zero, List.set_cons_succ]; refine own_alloc (T := 79) (cs := #[.int .i64 0, .int .i64 0, .int .i64 0, .string ⟨#[]⟩, .slice none 0 0]) rfl rfl zero_ent rfl hO (fun b3 w3 hO3 hS3 => hN _ _ _ rfl rfl (blk_open.2 ⟨b3, rfl, hO3⟩) hS3))
            · refine fs_end rfl rfl (by kernel_rfl) (by kernel_rfl) ?_
              intro y w7 hO hS N hN
              simp only [putO]
              simp only [Act.put, List.setIfInBounds_toArray, List.set_cons_zero, List.set_cons_succ]
              have hO : Own w7 (blkP 79 #[.int .i64 0, .int .i64 0, .int .i64 0, .string ⟨#[]⟩, .slice none 0 0] (y 7) :: pts gx (.cells #[.int .i64 x.p.blk, .int .i64 x.p.off, .string x.p.dat, .slice DA x.deps.length dc] 36) :: pts be (.cells #[.pointer (some ⟨e, 0, none⟩)] 23) :: pts e (.cells #[.pointer (some ⟨d, 0, none⟩), .slice WA we.length wc, .map (some bs), .int .i64 F.next] 67) :: diskP d F.m :: mapP bs fs :: rdG g :: L) := own_perm hO (List.perm_append_singleton _ (_ :: _ :: _ :: _ :: _ :: _ :: L))
              obtain ⟨gn, hgn, hO⟩ := blk_open.1 hO
              refine own_store_all (k := 0) (b := gn) (vs := #[.int .i64 F.next, .int .i64 x.p.blk, .int .i64 x.p.off, .string x.p.dat, .slice none 0 0]) rfl rfl hgn rfl sz_ent hO rfl rfl rfl rfl (fun w8 hO8 hS8 => hN _ _ rfl ?_ hS8)
              exact own_perm (blk_open.2 ⟨gn, hgn, hO8⟩) (List.Perm.of_eq (List.append_nil _).symm)
          intro y w10 D hD hO hS10
          rw [stB_yes (hD 8 (by decide)), owL_end hD (by kernel_rfl)] at hO
          have hO : Own w10 (blkP 79 #[.int .i64 F.next, .int .i64 x.p.blk, .int .i64 x.p.off, .string x.p.dat, .slice none 0 0] (y 7) :: pts gx (.cells #[.int .i64 x.p.blk, .int .i64 x.p.off, .string x.p.dat, .slice DA x.deps.length dc] 36) :: pts be (.cells #[.pointer (some ⟨e, 0, none⟩)] 23) :: pts e (.cells #[.pointer (some ⟨d, 0, none⟩), .slice WA we.length wc, .map (some bs), .int .i64 F.next] 67) :: diskP d F.m :: mapP bs fs :: rdG g :: L) := own_perm hO (List.Perm.of_eq (List.append_nil _))
          obtain ⟨gn, hgn, hO⟩ := blk_open.1 hO
          simp only [putO, hgn]
          simp only [Act.put, List.setIfInBounds_toArray, List.set_cons_zero, List.set_cons_succ]
          simp only [Exit.then]
          clear hD hgn
          replace hS := hS.trans hS10
          clear hS10
          have hO : Own w10 (adL gn gx be e d bs F.next x.p (.slice none 0 0) [] (.slice DA x.deps.length dc) (.slice WA we.length wc) fs g F.m F.next L) := own_order [1] (owns_nil hO) rfl
          go_wp2_with (first | (refine own_load1 (b := gx) (off := 3) (cs := #[.int .i64 x.p.blk, .int .i64 x.p.off, .string x.p.dat, .slice DA x.deps.length dc]) (t := 36) (v := .slice DA x.deps.length dc) rfl rfl rfl row_zs (own_get 2 hO rfl) rfl ?_))
          go_loopw [62] (fun jv wr => ∃ (j : Nat) (vb : Value), j ≤ x.deps.length ∧ jv = .int .i64 j ∧ Own wr (adL gn gx be e d bs F.next x.p vb ((x.deps.take j).map (Eng.depOf E.next)) (.slice DA x.deps.length dc) (.slice WA we.length wc) fs g F.m F.next L) ∧ Same w wr) (fun jv _ => x.deps.length - (intOf jv).toNat)
          case atStart => exact ⟨0, _, Nat.zero_le _, rfl, hO, hS⟩
          case round =>
            clear hO hS
            obtain ⟨j, vb, hj, rfl, hO, hS⟩ := hrel
            by_cases hlt2 : j < x.deps.length
            · obtain ⟨q, hq⟩ : ∃ q, x.deps[j]? = some q := ⟨_, List.getElem?_eq_getElem hlt2⟩
              have hql := own_drop (own_drop (own_drop (own_drop (own_drop (own_drop (own_drop (own_drop hO)))))))
              obtain ⟨ad2, hda⟩ := (HDR.out _ hql).addr (by unfold zs; rw [List.length_map]; omega)
              subst hda
              have HCL := Lib.hid (zs_cell (HDR.out _ hql) hq)
              have hm2 : (j : Int) < x.deps.length := by omega
              have hxd := HXD.out
              obtain ⟨bl, hbl⟩ : ∃ bl, bl = (x.deps.take j).map (Eng.depOf E.next) := ⟨_, rfl⟩
              rw [← hbl] at hO
              have HBL : Hid (bl.length ≤ 1000000) := by have := HXD.out; show _ ≤ _; rw [hbl, List.length_map, List.length_take]; omega
              have HNX : Hid ((x.deps.take (j + 1)).map (Eng.depOf E.next) = bl ++ [Eng.depOf E.next q]) := by
                show _ = _
                rw [List.take_add_one, hq, List.map_append, hbl]
                rfl
              have HQ := Lib.hid (HDN.out q (List.mem_of_getElem? hq))
              have HQL := Lib.hid (HXL.out q (List.mem_of_getElem? hq))
              clear hq hql hbl
              have hO := own_order [1] hO rfl
              simp only [List.eraseIdx_cons_succ, List.eraseIdx_zero, List.tail_cons] at hO
              by_cases hneg : q < 0
              · have hadd : IntKind.i64.wrap ((E.next : Int) + (-q - 1)) = (E.next : Int) - q - 1 := by
                  have h1 := HQ.out
                  have h2 := HN6.out
                  have h3 := HK6.out
                  rw [IntKind.wrap_i64] <;> omega
                have HDQ : Hid (Eng.depOf E.next q = (E.next : Int) - q - 1) := by show _ = _; unfold Eng.depOf; rw [if_pos hneg]
                go_wp2_with (first | (refine own_load1_at (ad := ad2.add j) (v := .int .i64 q) rfl rfl rfl row_int HCL.out ?_) | (refine own_not (d := q) rfl rfl rfl HQL.out hneg ?_) | (refine own_load1 (b := gn) (off := 4) (cs := #[.int .i64 F.next, .int .i64 x.p.blk, .int .i64 x.p.off, .string x.p.dat, vb]) (t := 79) (v := vb) rfl rfl rfl row_zs (own_get 1 hO rfl) rfl ?_) | (refine own_append (m := 1) (n := bl.length) (xs := (zs bl)) (news := [.int .i64 ((E.next : Int) - q - 1)]) rfl rfl rfl rfl Try.underlying34 info_z3 rfl (by decide) (own_perm (own_alloc_new hO (.cells #[.int .i64 ((E.next : Int) - q - 1)] 3)) (List.Perm.swap _ _ _)) ?_ (by intro u hu; rw [List.mem_singleton.1 hu]; rfl) ?_ ?_ ?_; (exact rd_block (own_get 1 (own_perm (own_alloc_new hO (.cells #[.int .i64 ((E.next : Int) - q - 1)] 3)) (List.Perm.swap _ _ _)) rfl) rfl (by simp) (by simp) (by simp)); (have := HBL.out; unfold maxLen; omega); (have := HBL.out; omega); clear hO; intro v' w9 hO hS9 hv') | (refine own_store1 (k := 2) (b := gn) (off := 4) (cs' := #[.int .i64 F.next, .int .i64 x.p.blk, .int .i64 x.p.off, .string x.p.dat, v']) rfl rfl rfl rfl sz_zs hO rfl (owns_cell1 hO) (by simp) rfl ?_; clear hO; intro u hO hSn; replace hS := hS.trans ((Same.alloc _ _).trans (hS9.trans hSn)); clear hSn; simp only [List.set_cons_zero, List.set_cons_succ] at hO))
                go_roundw
                case rel => exact ⟨j + 1, v', by omega, by go_num, by rw [HNX.out, HDQ.out]; exact ad_more hO, hS⟩
                case measure => simp [intOf]; omega
              · have HDQ : Hid (Eng.depOf E.next q = q) := by show _ = _; unfold Eng.depOf; rw [if_neg hneg]
                go_wp2_with (first | (refine own_load1_at (ad := ad2.add j) (v := .int .i64 q) rfl rfl rfl row_int HCL.out ?_) | (refine own_load1 (b := gn) (off := 4) (cs := #[.int .i64 F.next, .int .i64 x.p.blk, .int .i64 x.p.off, .string x.p.dat, vb]) (t := 79) (v := vb) rfl rfl rfl row_zs (own_get 1 hO rfl) rfl ?_) | (refine own_append (m := 1) (n := bl.length) (xs := (zs bl)) (news := [.int .i64 (q)]) rfl rfl rfl rfl Try.underlying34 info_z3 rfl (by decide) (own_perm (own_alloc_new hO (.cells #[.int .i64 (q)] 3)) (List.Perm.swap _ _ _)) ?_ (by intro u hu; rw [List.mem_singleton.1 hu]; rfl) ?_ ?_ ?_; (exact rd_block (own_get 1 (own_perm (own_alloc_new hO (.cells #[.int .i64 (q)] 3)) (List.Perm.swap _ _ _)) rfl) rfl (by simp) (by simp) (by simp)); (have := HBL.out; unfold maxLen; omega); (have := HBL.out; omega); clear hO; intro v' w9 hO hS9 hv') | (refine own_store1 (k := 2) (b := gn) (off := 4) (cs' := #[.int .i64 F.next, .int .i64 x.p.blk, .int .i64 x.p.off, .string x.p.dat, v']) rfl rfl rfl rfl sz_zs hO rfl (owns_cell1 hO) (by simp) rfl ?_; clear hO; intro u hO hSn; replace hS := hS.trans ((Same.alloc _ _).trans (hS9.trans hSn)); clear hSn; simp only [List.set_cons_zero, List.set_cons_succ] at hO))
                go_roundw
                case rel => exact ⟨j + 1, v', by omega, by go_num, by rw [HNX.out, HDQ.out]; exact ad_more hO, hS⟩
                case measure => simp [intOf]; omega
            · have hje : j = x.deps.length := by omega
              subst hje
              rw [List.take_length] at hO
              obtain ⟨D, hD⟩ : ∃ D, D = x.deps.map (Eng.depOf E.next) := ⟨_, rfl⟩
              have HDL3 : Hid (D.length ≤ 1000000) := by have := HXD.out; show _ ≤ _; rw [hD, List.length_map]; exact this
              rw [← hD] at hO
              have HDD := Lib.hid hD
              clear hD hlt2 hj
              go_wp2_with (first | (refine own_load1 (b := be) (off := 0) (cs := #[.pointer (some ⟨e, 0, none⟩)]) (t := 23) (v := .pointer (some ⟨e, 0, none⟩)) rfl rfl rfl row_eptr (own_get 3 hO rfl) rfl ?_) | (refine own_load1 (b := e) (off := 1) (cs := #[.pointer (some ⟨d, 0, none⟩), .slice WA we.length wc, .map (some bs), .int .i64 F.next]) (t := 67) (v := .slice WA we.length wc) rfl rfl rfl row_ents (own_get 4 hO rfl) rfl ?_))
              go_loopw [84] (fun jv wr => ∃ (j : Nat) (vb : Value), j ≤ we.length ∧ jv = .int .i64 j ∧ Own wr (adL gn gx be e d bs F.next x.p vb (D ++ lapW x.p (we.take j)) (.slice DA x.deps.length dc) (.slice WA we.length wc) fs g F.m F.next L) ∧ Same w wr) (fun jv _ => we.length - (intOf jv).toNat)
              case atStart => exact ⟨0, vb, Nat.zero_le _, rfl, by rw [List.take_zero]; unfold lapW wnums; simp only [List.map_nil, List.filter_nil, List.append_nil]; exact hO, hS⟩
              case round =>
                clear hO hS
                obtain ⟨j, vb, hj, rfl, hO, hS⟩ := hrel
                by_cases hlt2 : j < we.length
                · obtain ⟨⟨y, yv⟩, hy⟩ : ∃ y, we[j]? = some y := ⟨_, List.getElem?_eq_getElem hlt2⟩
                  obtain ⟨A2, c2, e2, _⟩ := HK.out.2.1.beh _ (List.mem_of_getElem? hy)
                  have e2 : yv = .slice A2 y.beh.length c2 := e2
                  subst e2
                  obtain ⟨ad2, c', e1, hc⟩ := wat HK.out.2.1 hy (own_at hO (k := 7) rfl)
                  have e3 : WA = some ad2 := by injection e1
                  have e4 : c' = wc := by injection e1 with _ _ e5; exact e5.symm
                  subst e4
                  have HC2 := Lib.hid (hc _ wr (own_at hO (k := 7) rfl))
                  subst e3
                  have hm2 : (j : Int) < we.length := by omega
                  have hwl := HWL.out
                  have HLN := Lib.hid (lap_next x.p hy)
                  have HBL : Hid ((D ++ lapW x.p (we.take j)).length ≤ 2000000) := by
                    have h1 := HDL3.out
                    have h2 := HWL.out
                    have h3 : (lapW x.p (we.take j)).length ≤ we.length := by
                      unfold lapW wnums
                      rw [List.length_map]
                      refine Nat.le_trans (List.length_filter_le _ _) ?_
                      rw [List.length_map, List.length_take]
                      omega
                    show _ ≤ _
                    rw [List.length_append]
                    omega
                  obtain ⟨bl, hbl⟩ : ∃ bl, bl = D ++ lapW x.p (we.take j) := ⟨_, rfl⟩
                  have HBB := Lib.hid hbl
                  rw [← hbl] at hO HBL
                  clear hy hc e1 hbl
                  go_upto_region 28 with (first | (refine own_loadrow_at (ad := ad2.add (j * 5)) (vs := [.int .i64 y.n, .int .i64 y.p.blk, .int .i64 y.p.off, .string y.p.dat, .slice A2 y.beh.length c2]) rfl rfl rfl row_ent sz_ent rfl HC2.out ?_) | (refine own_alloc (T := 79) rfl rfl zero_ent rfl hO ?_; clear hO; intro gy u hO hSn; replace hS := hS.trans hSn; clear hSn) | (apply own_store_all (k := 0) rfl rfl rfl rfl sz_ent hO rfl; (focus rfl); (focus rfl); (focus rfl); clear hO; intro u hO hSn; replace hS := hS.trans hSn; clear hSn; simp only [List.set_cons_zero, List.set_cons_succ] at hO))
                  have hO := own_order [2] hO rfl
                  simp only [List.eraseIdx_cons_succ, List.eraseIdx_zero, List.tail_cons] at hO
                  obtain ⟨r, hr⟩ : ∃ r, overB y.p x.p = r := ⟨_, rfl⟩
                  have HOV := Lib.hid hr
                  have hlap : lapW x.p (we.take (j + 1)) = lapW x.p (we.take j) ++ (if r then [(y.n : Int)] else []) := by rw [HLN.out]; rw [hr]
                  cases r with
                  | true =>
                    have HNX : Hid (D ++ lapW x.p (we.take (j + 1)) = bl ++ [(y.n : Int)]) := by show _ = _; rw [hlap, HBB.out, List.append_assoc]; rfl
                    clear hr hlap
                    go_wp2_with (first | (refine own_loadrow (b := gy) (off := 1) (cs := #[.int .i64 y.n, .int .i64 y.p.blk, .int .i64 y.p.off, .string y.p.dat, .slice A2 y.beh.length c2]) (t := 79) (vs := [.int .i64 y.p.blk, .int .i64 y.p.off, .string y.p.dat]) rfl rfl rfl row_pat sz_pat (own_get 1 hO rfl) (by show 1 + 3 ≤ 5; decide) rfl ?_) | (refine own_loadrow (b := gx) (off := 0) (cs := #[.int .i64 x.p.blk, .int .i64 x.p.off, .string x.p.dat, .slice DA x.deps.length dc]) (t := 36) (vs := [.int .i64 x.p.blk, .int .i64 x.p.off, .string x.p.dat]) rfl rfl rfl row_pat sz_pat (own_get 3 hO rfl) (by show 3 ≤ 4; decide) rfl ?_) | (go_at_call 40; (with_reducible refine Calls.mono (overe_v _ _ y.p.blk y.p.off x.p.blk x.p.off y.p.dat x.p.dat (r := true) HOV.out hO) ?_); clear hO; rintro e u ⟨rfl, hO, hSn⟩; replace hS := hS.trans hSn; clear hSn) | (refine own_load1 (b := gn) (off := 4) (cs := #[.int .i64 F.next, .int .i64 x.p.blk, .int .i64 x.p.off, .string x.p.dat, vb]) (t := 79) (v := vb) rfl rfl rfl row_zs (own_get 2 hO rfl) rfl ?_) | (refine own_load1 (b := gy) (off := 0) (cs := #[.int .i64 y.n, .int .i64 y.p.blk, .int .i64 y.p.off, .string y.p.dat, .slice A2 y.beh.length c2]) (t := 79) (v := .int .i64 y.n) rfl rfl rfl row_int (own_get 1 hO rfl) rfl ?_) | (refine own_append (m := 1) (n := bl.length) (xs := (zs bl)) (news := [.int .i64 y.n]) rfl rfl rfl rfl Try.underlying34 info_z3 rfl (by decide) (own_perm (own_alloc_new hO (.cells #[.int .i64 y.n] 3)) (List.Perm.swap _ _ _)) ?_ (by intro u hu; rw [List.mem_singleton.1 hu]; rfl) ?_ ?_ ?_; (exact rd_block (own_get 1 (own_perm (own_alloc_new hO (.cells #[.int .i64 y.n] 3)) (List.Perm.swap _ _ _)) rfl) rfl (by simp) (by simp) (by simp)); (have := HBL.out; unfold maxLen; omega); (have := HBL.out; omega); clear hO; intro v' w9 hO hS9 hv') | (refine own_store1 (k := 3) (b := gn) (off := 4) (cs' := #[.int .i64 F.next, .int .i64 x.p.blk, .int .i64 x.p.off, .string x.p.dat, v']) rfl rfl rfl rfl sz_zs hO rfl (owns_cell1 hO) (by simp) rfl ?_; clear hO; intro u hO hSn; replace hS := hS.trans ((Same.alloc _ _).trans (hS9.trans hSn)); clear hSn; simp only [List.set_cons_zero, List.set_cons_succ] at hO))
                    go_roundw
                    case rel => exact ⟨j + 1, v', by omega, by go_num, by rw [HNX.out]; exact ad_more2 hO, hS⟩
                    case measure => simp [intOf]; omega
                  | false =>
                    have HNX : Hid (D ++ lapW x.p (we.take (j + 1)) = bl) := by show _ = _; rw [hlap, HBB.out]; simp
                    clear hr hlap
                    go_wp2_with (first | (refine own_loadrow (b := gy) (off := 1) (cs := #[.int .i64 y.n, .int .i64 y.p.blk, .int .i64 y.p.off, .string y.p.dat, .slice A2 y.beh.length c2]) (t := 79) (vs := [.int .i64 y.p.blk, .int .i64 y.p.off, .string y.p.dat]) rfl rfl rfl row_pat sz_pat (own_get 1 hO rfl) (by show 1 + 3 ≤ 5; decide) rfl ?_) | (refine own_loadrow (b := gx) (off := 0) (cs := #[.int .i64 x.p.blk, .int .i64 x.p.off, .string x.p.dat, .slice DA x.deps.length dc]) (t := 36) (vs := [.int .i64 x.p.blk, .int .i64 x.p.off, .string x.p.dat]) rfl rfl rfl row_pat sz_pat (own_get 3 hO rfl) (by show 3 ≤ 4; decide) rfl ?_) | (go_at_call 40; (with_reducible refine Calls.mono (overe_v _ _ y.p.blk y.p.off x.p.blk x.p.off y.p.dat x.p.dat (r := false) HOV.out hO) ?_); clear hO; rintro e u ⟨rfl, hO, hSn⟩; replace hS := hS.trans hSn; clear hSn))
                    go_roundw
                    case rel => exact ⟨j + 1, vb, by omega, by go_num, by rw [HNX.out]; exact own_swap (own_drop (own_order [1] hO rfl)), hS⟩
                    case measure => simp [intOf]; omega
                · have hje : j = we.length := by omega
                  subst hje
                  rw [List.take_length] at hO
                  obtain ⟨bl, hbl⟩ : ∃ bl, bl = D ++ lapW x.p we := ⟨_, rfl⟩
                  rw [← hbl] at hO
                  obtain ⟨BA, bc, hvb⟩ := (owns_rd (own_at hO (k := 1) rfl)).slice
                  subst hvb
                  have HFA : Hid (F.add1 E.next x = ⟨F.m, F.l ++ [⟨F.next, x.p, bl⟩], F.s, F.next + 1⟩) := by
                    show _ = _
                    unfold Eng.add1
                    rw [hbl, HDD.out]
                    unfold lapW
                    rw [HK.out.1]
                  have HCAP : Hid (WA = none → wc = 0) := Lib.hid (HK.out.2.1.cap WA _ wc rfl)
                  have hwrap : IntKind.i64.wrap ((F.next : Int) + 1) = ((F.next + 1 : Nat) : Int) := by have := HF6.out; rw [IntKind.wrap_i64] <;> omega
                  clear hbl hlt2 hj
                  go_upto_region 31 with fail
                  refine wp_region_own (α := Nat → Value) (fun y => .pointer (some ⟨e, 0, none⟩) :: .pointer (some ⟨e, 0, none⟩) :: .pointer (some ⟨e, 0, none⟩) :: .pointer (some ⟨e, 1, none⟩) :: .slice WA we.length wc :: .slice WA we.length we.length :: .agg #[.int .i64 F.next, .int .i64 x.p.blk, .int .i64 x.p.off, .string x.p.dat, .slice BA bl.length bc] :: y 7 :: y 8 :: .pointer (some ⟨e, 0, none⟩) :: .pointer (some ⟨e, 1, none⟩) :: undef :: [])
                    (stB 11 ([pts gn (.cells #[.int .i64 F.next, .int .i64 x.p.blk, .int .i64 x.p.off, .string x.p.dat, .slice BA bl.length bc] 79), owns 3 1 (.slice BA bl.length bc) bl.length (zs bl), pts gx (.cells #[.int .i64 x.p.blk, .int .i64 x.p.off, .string x.p.dat, .slice DA x.deps.length dc] 36), pts be (.cells #[.pointer (some ⟨e, 0, none⟩)] 23), pts e (.cells #[.pointer (some ⟨d, 0, none⟩), .slice WA we.length wc, .map (some bs), .int .i64 F.next] 67), diskP d F.m, mapP bs fs, rdG g] ++ L) (fun y => [pts gn (.cells #[.int .i64 F.next, .int .i64 x.p.blk, .int .i64 x.p.off, .string x.p.dat, .slice BA bl.length bc] 79), owns 3 1 (.slice BA bl.length bc) bl.length (zs bl), pts gx (.cells #[.int .i64 x.p.blk, .int .i64 x.p.off, .string x.p.dat, .slice DA x.deps.length dc] 36), pts be (.cells #[.pointer (some ⟨e, 0, none⟩)] 23), pts e (.cells #[.pointer (some ⟨d, 0, none⟩), y 8, .map (some bs), .int .i64 F.next] 67), diskP d F.m, mapP bs fs, rdG g] ++ L) [(7, some 8, fun v => owns 79 5 v 1 (We.cells (nWe ⟨F.next, x.p, bl⟩ BA bc))), (8, none, fun v => owns 79 5 v (we.length + 1) (cellsW we ++ We.cells (nWe ⟨F.next, x.p, bl⟩ BA bc)))]) wr (fun _ => undef) 121 (fun _ => rfl) mixed (by kernel_rfl) rfl (by rw [stB_no rfl, owL_none, List.append_nil]; exact own_heap hO (fun _ _ h => h)) (Same.drew _) (fun _ _ _ _ hd h => ⟨hd ▸ h.1, h.2⟩) ?_ ?_
                  · refine ⟨?_, ?_, ?_, ?_, ?_, ?_, ?_, ?_, ?_, ?_, ?_, ?_, trivial⟩
                    · refine fs_lift 11 (by decide) (by kernel_rfl) ?_; (refine fs_pure (fun _ _ => rfl) (fun D gh hD hcl hp => ?_); simp only [putO]; simp only [Act.put, List.setIfInBounds_toArray, List.set_cons_zero, List.set_cons_succ]; first | exact y_skip rfl | exact (y_load1 (b := be) (off := 0) (cs := #[.pointer (some ⟨e, 0, none⟩)]) (t := 23) (v := .pointer (some ⟨e, 0, none⟩)) rfl rfl rfl row_eptr (fun w h => own_get 3 h.1 rfl) rfl) | exact y_run rfl (by intro w h; go_simp; first | done | rfl))
                    · refine fs_lift 11 (by decide) (by kernel_rfl) ?_; (refine fs_pure (fun _ _ => rfl) (fun D gh hD hcl hp => ?_); simp only [putO]; simp only [Act.put, List.setIfInBounds_toArray, List.set_cons_zero, List.set_cons_succ]; first | exact y_skip rfl | exact (y_load1 (b := be) (off := 0) (cs := #[.pointer (some ⟨e, 0, none⟩)]) (t := 23) (v := .pointer (some ⟨e, 0, none⟩)) rfl rfl rfl row_eptr (fun w h => own_get 3 h.1 rfl) rfl) | exact y_run rfl (by intro w h; go_simp; first | done | rfl))
                    · refine fs_lift 11 (by decide) (by kernel_rfl) ?_; (refine fs_pure (fun _ _ => rfl) (fun D gh hD hcl hp => ?_); simp only [putO]; simp only [Act.put, List.setIfInBounds_toArray, List.set_cons_zero, List.set_cons_succ]; first | exact y_skip rfl | exact (rfl) | exact y_run rfl (by intro w h; go_simp; first | done | rfl))
                    · refine fs_lift 11 (by decide) (by kernel_rfl) ?_; (refine fs_pure (fun _ _ => rfl) (fun D gh hD hcl hp => ?_); simp only [putO]; simp only [Act.put, List.setIfInBounds_toArray, List.set_cons_zero, List.set_cons_succ]; first | exact y_skip rfl | exact (rfl) | exact y_run rfl (by intro w h; go_simp; first | done | rfl))
                    · refine fs_lift 11 (by decide) (by kernel_rfl) ?_; (refine fs_pure (fun _ _ => rfl) (fun D gh hD hcl hp => ?_); simp only [putO]; simp only [Act.put, List.setIfInBounds_toArray, List.set_cons_zero, List.set_cons_succ]; first | exact y_skip rfl | exact (y_load1 (b := e) (off := 1) (cs := #[.pointer (some ⟨d, 0, none⟩), .slice WA we.length wc, .map (some bs), .int .i64 F.next]) (t := 67) (v := .slice WA we.length wc) rfl rfl rfl row_ents (fun w h => own_get 4 h.1 rfl) rfl) | exact y_run rfl (by intro w h; go_simp; first | done | rfl))
                    · refine fs_lift 11 (by decide) (by kernel_rfl) ?_; (refine fs_pure (fun _ _ => rfl) (fun D gh hD hcl hp => ?_); simp only [putO]; simp only [Act.put, List.setIfInBounds_toArray, List.set_cons_zero, List.set_cons_succ]; first | exact y_skip rfl | exact (y_call rfl (by intro w h; go_simp; first | done | exact ⟨rfl, rfl⟩) (by intro w h; apply cls_call h; exact clip_e _ _ WA we.length wc h.1 (rdG_rd (own_at h.1 (k := 7) rfl) HM.out) HCAP.out)) | exact y_run rfl (by intro w h; go_simp; first | done | rfl))
                    · refine fs_lift 11 (by decide) (by kernel_rfl) ?_; (refine fs_pure (fun _ _ => rfl) (fun D gh hD hcl hp => ?_); simp only [putO]; simp only [Act.put, List.setIfInBounds_toArray, List.set_cons_zero, List.set_cons_succ]; first | exact y_skip rfl | exact (y_loadrow (b := gn) (off := 0) (cs := #[.int .i64 F.next, .int .i64 x.p.blk, .int .i64 x.p.off, .string x.p.dat, .slice BA bl.length bc]) (t := 79) (vs := [.int .i64 F.next, .int .i64 x.p.blk, .int .i64 x.p.off, .string x.p.dat, .slice BA bl.length bc]) rfl rfl rfl row_ent sz_ent (fun w h => own_get 0 h.1 rfl) (by show 5 ≤ 5; decide) rfl) | exact y_run rfl (by intro w h; go_simp; first | done | rfl))
                    · refine fs_lift 11 (by decide) (by kernel_rfl) ?_; (refine @fs_new _ _ _ _ _ _ _ _ _ _ _ _ [] (fun v => v) rfl rfl (by kernel_rfl) (by kernel_rfl) (by intro j; rcases j with _ | j; (focus (first | exact .inr fun _ _ => rfl | exact .inl (by kernel_rfl))); rcases j with _ | j; (focus (first | exact .inr fun _ _ => rfl | exact .inl (by kernel_rfl))); rcases j with _ | j; (focus (first | exact .inr fun _ _ => rfl | exact .inl (by kernel_rfl))); rcases j with _ | j; (focus (first | exact .inr fun _ _ => rfl | exact .inl (by kernel_rfl))); rcases j with _ | j; (focus (first | exact .inr fun _ _ => rfl | exact .inl (by kernel_rfl))); rcases j with _ | j; (focus (first | exact .inr fun _ _ => rfl | exact .inl (by kernel_rfl))); rcases j with _ | j; (focus (first | exact .inr fun _ _ => rfl | exact .inl (by kernel_rfl))); rcases j with _ | j; (focus (first | exact .inr fun _ _ => rfl | exact .inl (by kernel_rfl))); rcases j with _ | j; (focus (first | exact .inr fun _ _ => rfl | exact .inl (by kernel_rfl))); rcases j with _ | j; (focus (first | exact .inr fun _ _ => rfl | exact .inl (by kernel_rfl))); rcases j with _ | j; (focus (first | exact .inr fun _ _ => rfl | exact .inl (by kernel_rfl))); rcases j with _ | j; (focus (first | exact .inr fun _ _ => rfl | exact .inl (by kernel_rfl))); exact .inr fun _ _ => rfl) (fun _ _ => rfl) ?_; intro D gh u hD hcl hp hO hS N hN; simp only [putO]; simp only [Act.put, List.setIfInBounds_toArray, List.set_cons_zero, List.set_cons_succ]; refine own_es1 (y := nWe ⟨F.next, x.p, bl⟩ BA bc) rfl rfl rfl (hN _ _ _ rfl rfl (owns_e1 (own_alloc_new hO _)) (Same.alloc _ _)))
                    · refine fs_lift 11 (by decide) (by kernel_rfl) ?_; (refine @fs_new _ _ _ _ _ _ _ _ _ _ _ _ [(7, some 8, fun v => owns 79 5 v 1 (We.cells (nWe ⟨F.next, x.p, bl⟩ BA bc)))] (fun v => v) rfl rfl (by kernel_rfl) (by kernel_rfl) (by intro j; rcases j with _ | j; (focus (first | exact .inr fun _ _ => rfl | exact .inl (by kernel_rfl))); rcases j with _ | j; (focus (first | exact .inr fun _ _ => rfl | exact .inl (by kernel_rfl))); rcases j with _ | j; (focus (first | exact .inr fun _ _ => rfl | exact .inl (by kernel_rfl))); rcases j with _ | j; (focus (first | exact .inr fun _ _ => rfl | exact .inl (by kernel_rfl))); rcases j with _ | j; (focus (first | exact .inr fun _ _ => rfl | exact .inl (by kernel_rfl))); rcases j with _ | j; (focus (first | exact .inr fun _ _ => rfl | exact .inl (by kernel_rfl))); rcases j with _ | j; (focus (first | exact .inr fun _ _ => rfl | exact .inl (by kernel_rfl))); rcases j with _ | j; (focus (first | exact .inr fun _ _ => rfl | exact .inl (by kernel_rfl))); rcases j with _ | j; (focus (first | exact .inr fun _ _ => rfl | exact .inl (by kernel_rfl))); rcases j with _ | j; (focus (first | exact .inr fun _ _ => rfl | exact .inl (by kernel_rfl))); rcases j with _ | j; (focus (first | exact .inr fun _ _ => rfl | exact .inl (by kernel_rfl))); rcases j with _ | j; (focus (first | exact .inr fun _ _ => rfl | exact .inl (by kernel_rfl))); exact .inr fun _ _ => rfl) (fun _ _ => rfl) ?_; intro D gh u hD hcl hp hO hS N hN; simp only [putO]; simp only [Act.put, List.setIfInBounds_toArray, List.set_cons_zero, List.set_cons_succ]; refine own_appf (n := we.length) (m := 1) (xs := cellsW we) (news := We.cells (nWe ⟨F.next, x.p, bl⟩ BA bc)) rfl rfl rfl rfl Try.underlying65 info_ent3 (by simp [Value.cells]) (by decide) (own_drop hO) (full_rdZ (rdG_rd (own_at hO (k := 8) rfl) HM.out)) (owns_rd hO) (by decide) (nwe_one _ _ _) ?_ ?_ (fun v3 w3 hO3 hS3 => hN _ _ _ rfl rfl hO3 hS3); (have := HWL.out; simp only [maxLen]; omega); (have := HWL.out; omega))
                    · refine fs_lift 11 (by decide) (by kernel_rfl) ?_; (refine fs_pure (fun _ _ => rfl) (fun D gh hD hcl hp => ?_); simp only [putO]; simp only [Act.put, List.setIfInBounds_toArray, List.set_cons_zero, List.set_cons_succ]; first | exact y_skip rfl | exact (rfl) | exact y_run rfl (by intro w h; go_simp; first | done | rfl))
                    · refine fs_lift 11 (by decide) (by kernel_rfl) ?_; (refine fs_pure (fun _ _ => rfl) (fun D gh hD hcl hp => ?_); simp only [putO]; simp only [Act.put, List.setIfInBounds_toArray, List.set_cons_zero, List.set_cons_succ]; first | exact y_skip rfl | exact (rfl) | exact y_run rfl (by intro w h; go_simp; first | done | rfl))
                    · refine fs_end rfl rfl (by kernel_rfl) (by kernel_rfl) ?_
                      intro y w7 hO hS N hN
                      simp only [putO]
                      simp only [Act.put, List.setIfInBounds_toArray, List.set_cons_zero, List.set_cons_succ]
                      have hO : Own w7 (([pts gn (.cells #[.int .i64 F.next, .int .i64 x.p.blk, .int .i64 x.p.off, .string x.p.dat, .slice BA bl.length bc] 79), owns 3 1 (.slice BA bl.length bc) bl.length (zs bl), pts gx (.cells #[.int .i64 x.p.blk, .int .i64 x.p.off, .string x.p.dat, .slice DA x.deps.length dc] 36), pts be (.cells #[.pointer (some ⟨e, 0, none⟩)] 23), pts e (.cells #[.pointer (some ⟨d, 0, none⟩), .slice WA we.length wc, .map (some bs), .int .i64 F.next] 67), diskP d F.m, mapP bs fs, rdG g] ++ L) ++ [owns 79 5 (y 8) (we.length + 1) (cellsW we ++ We.cells (nWe ⟨F.next, x.p, bl⟩ BA bc))]) := hO
                      have hv := owns_cell1 (own_perm hO (List.perm_append_singleton _ _))
                      refine own_store1 (k := 4) (b := e) (off := 1) rfl rfl rfl rfl sz_ents hO rfl hv (by show 1 < 4; decide) rfl (fun w8 hO8 hS8 => hN _ _ rfl ?_ hS8)
                      exact hO8
                  intro y w11 DD hDD hO hS10
                  rw [stB_yes (hDD 11 (by decide)), owL_end hDD (by kernel_rfl)] at hO
                  have hO : Own w11 (owns 79 5 (y 8) (we.length + 1) (cellsW we ++ We.cells (nWe ⟨F.next, x.p, bl⟩ BA bc)) :: ([pts gn (.cells #[.int .i64 F.next, .int .i64 x.p.blk, .int .i64 x.p.off, .string x.p.dat, .slice BA bl.length bc] 79), owns 3 1 (.slice BA bl.length bc) bl.length (zs bl), pts gx (.cells #[.int .i64 x.p.blk, .int .i64 x.p.off, .string x.p.dat, .slice DA x.deps.length dc] 36), pts be (.cells #[.pointer (some ⟨e, 0, none⟩)] 23), pts e (.cells #[.pointer (some ⟨d, 0, none⟩), y 8, .map (some bs), .int .i64 F.next] 67), diskP d F.m, mapP bs fs, rdG g] ++ L)) := own_perm hO (List.perm_append_singleton _ _)
                  obtain ⟨QA, qc, e8⟩ := (owns_rd hO).slice
                  rw [e8] at hO
                  simp only [putO, e8]
                  simp only [Act.put, List.setIfInBounds_toArray, List.set_cons_zero, List.set_cons_succ]
                  simp only [Exit.then]
                  clear hDD e8
                  replace hS := hS.trans hS10
                  clear hS10
                  go_wp2_with (first | (refine own_load1 (b := be) (off := 0) (cs := #[.pointer (some ⟨e, 0, none⟩)]) (t := 23) (v := .pointer (some ⟨e, 0, none⟩)) rfl rfl rfl row_eptr (own_get 4 hO rfl) rfl ?_) | (refine own_load1 (b := e) (off := 3) (cs := #[.pointer (some ⟨d, 0, none⟩), .slice QA (we.length + 1) qc, .map (some bs), .int .i64 F.next]) (t := 67) (v := .int .i64 F.next) rfl rfl rfl row_int (own_get 5 hO rfl) rfl ?_) | (refine own_store1 (k := 5) (b := e) (off := 3) (cs' := #[.pointer (some ⟨d, 0, none⟩), .slice QA (we.length + 1) qc, .map (some bs), .int .i64 (F.next + 1 : Nat)]) rfl rfl rfl rfl sz_z hO rfl rfl (by show 3 < 4; decide) rfl ?_; clear hO; intro u hO hSn; replace hS := hS.trans hSn; clear hSn))
                  go_roundw
                  case rel => exact ⟨k + 1, by omega, by go_num, by rw [HFX.out, HFA.out]; exact add_close HK.out rfl hO, hS⟩
                  case measure => simp [intOf]; omega
        · have hke : k = is.length := by omega
          subst hke
          rw [List.take_length] at hO
          go_wp2
          go_ret2
          exact ⟨rfl, own_drop hO, hS⟩
end
end Go.Proofs.Ytonohjhmnlfakaa.H
