/- EngineClosed's walk. -/
import Derived.Test.YtlmkcnkidkoilaaZ25
import Derived.Test.YtlmkcnkidkoilaaZ26
import Derived.Deep.CutBlock
import Derived.Deep.CutRange
set_option linter.unusedVariables false
set_option linter.unusedSimpArgs false
set_option maxRecDepth 100000
namespace Go.Proofs.Ytlmkcnkidkoilaa.H
open Go.RowKit
theorem sz_strE : (Try.prog.info? 9).map (·.size) = some 1 := by kernel_rfl
theorem info_patE : (Try.prog.info? 30).map (fun i => (i.zero, i.size, i.bytes)) = some (some (.agg #[.int .i64 0, .int .i64 0, .string ⟨#[]⟩]), 3, 32) := by kernel_rfl
theorem made_bytes1 (n : Nat) : madeCells (Value.int .u8 0).cells (n * 1) = (bcs (List.replicate n 0)).toArray := by rw [Nat.mul_one]; exact made_bytes n
theorem pat_one (p : Pat) : ∀ u ∈ [Value.int .i64 p.blk, .int .i64 p.off, .string p.dat], u.oneCell' = true := by
  intro u hu
  simp only [List.mem_cons, List.not_mem_nil, or_false] at hu
  rcases hu with rfl | rfl | rfl <;> rfl
theorem zero_patE : (Try.prog.info? 30).map (·.zero) = some (some (.agg #[.int .i64 0, .int .i64 0, .string ⟨#[]⟩])) := by kernel_rfl
theorem sz_intE : (Try.prog.info? 3).map (·.size) = some 1 := by kernel_rfl
section
variable (w : World) (L : List HP)
set_option maxHeartbeats 12800000 in
theorem closed_walk (v : Value) (n : Nat) (is : List Iv) (B : Option Addr) (nb cb : Nat) (ws : List UInt8) (pv : Value) (pl : List Int) (hn : n = is.length) (hnb : nb = ws.length) (hO : Own w L) (hrd : ∀ w', Own w' L → Rd w' 4 v n (cellsI is)) (hdep : ∀ x ∈ is, ∃ A c, x.2 = .slice A x.1.deps.length c ∧ ∀ w', Own w' L → Rd w' 1 (.slice A x.1.deps.length c) x.1.deps.length (zs x.1.deps)) (hw : ∀ w', Own w' L → Rd w' 1 (.slice B nb cb) nb (bcs ws)) (hp : ∀ w', Own w' L → Rd w' 1 pv pl.length (pl.map encZ)) (hsz : ∀ x ∈ is, x.1.p.dat.size ≤ 140737488355328) :
    Calls Try.prog 4 #[v, .slice B nb cb, pv] w (Ret w (.bool true) L) := by
  subst hn
  subst hnb
  have HRD := Lib.hid hrd
  have HDEP := Lib.hid hdep
  have HW := Lib.hid hw
  have HPK := Lib.hid hp
  have HSZ := Lib.hid hsz
  have hS := Same.refl w
  obtain ⟨VA, vc, rfl⟩ := (hrd w hO).slice
  have hmx := (hrd w hO).max
  have hmxw := (hw w hO).max
  clear hrd hdep hw hp hsz
  go_enter Try.func4, Try.ntmps4
  go_upto_block 0 with (first | (go_at_call 7; (with_reducible refine Calls.mono (new_ok _ _ 5 hO (by decide) (by decide)) ?_); clear hO; rintro e u ⟨dd, rfl, hO, hSn⟩; replace hS := hS.trans hSn; clear hSn) | (go_at_call 6; (with_reducible refine Calls.mono (enew_c _ _ dd _ hO (by decide) (by decide)) ?_); clear hO; rintro e u ⟨e, rfl, hO, hSn⟩; replace hS := hS.trans hSn; clear hSn))
  have hO : Own u (engP e (eng0 5) :: L) := own_drop (own_swap hO)
  have hO := owns_nil (e := 30) (size := 3) (deps_none hO)
  go_cut [8, 9] from 34 to 34 (fun av dv wx => ∃ (E : Eng) (all : List Pat) (ds : List (List Int)) (aw dw : Value), aw = av ∧ dw = dv ∧ Hid (Ck 14 E all ds) ∧ Own wx (owns 30 3 aw all.length (cellsP all) :: depsP dw ds :: engP e E :: L) ∧ Same w wx)
  case rest =>
    clear hO hS
    obtain ⟨E, all, ds, aw, dw, haw, hdw, HB, hO, hS⟩ := hcut
    subst haw
    subst hdw
    obtain ⟨AV, avc, e1⟩ := (owns_rd hO).slice
    subst e1
    obtain ⟨DV, dvc, e2⟩ := deps_slice (own_drop hO)
    subst e2
    have hall : all.length ≤ 14 := HB.out.n
    have hdl : ds.length = all.length := HB.out.cl.len
    have HDL := Lib.hid hdl
    obtain ⟨vs, g, hdo, hO⟩ := deps_open.1 (own_order [1] hO rfl)
    have HDO := Lib.hid hdo
    have hO := own_order [3, 2, 0, 0] hO rfl
    simp only [List.eraseIdx_cons_succ, List.eraseIdx_zero, List.tail_cons] at hO
    clear hdo hdl
    have HSIZE : Hid (∀ (w' : World) (L' : List HP), Own w' (engP e E :: L') → Calls Try.prog 16 #[.pointer (some ⟨e, 0, none⟩)] w' (Ret w' (.int .i64 5) (engP e E :: L'))) := Lib.hid fun w' L' h => by
      have h2 := esize_c w' L' e E h
      rw [HB.out.m5] at h2
      exact h2
    have HM5 : Hid ((crashL (pickV pl) 0 E.m).length * 32 = 160 ∧ (crashL (pickV pl) 0 E.m).length ≤ 1000) := Lib.hid (by rw [crashL_len, HB.out.m5]; decide)
    go_upto_region 36 with (first | (go_at_call 16; (with_reducible refine Calls.mono (call_at 0 (fun L' h => HSIZE.out _ L' h) rfl hO) ?_); clear hO; rintro e u ⟨rfl, hO, hSn⟩; replace hS := hS.trans hSn; clear hSn; simp only [List.set_cons_zero, List.set_cons_succ] at hO) | (go_at_call 18; (with_reducible refine Calls.mono (ecrash_c _ _ e E pv pl hO HB.out.ok (HB.out.vl.mono (by decide)) (fun w' h => HPK.out w' (own_drop (own_drop (own_drop h))))) ?_); clear hO; rintro e5 u ⟨f, rfl, hO, hSn⟩; replace hS := hS.trans hSn; clear hSn) | (go_at_call 17; (with_reducible refine Calls.mono (elasting_c _ _ f (crashL (pickV pl) 0 E.m) hO HM5.out.2) ?_); clear hO; rintro e5 u ⟨o, rfl, hO, hSn⟩; replace hS := hS.trans hSn; clear hSn))
    have HIMG : Hid (Img E all ds ((crashL (pickV pl) 0 E.m).flatMap fun b => b.s)) := Lib.hid (HB.out.img (pickV pl) (fun b hb => (disk_s32 (own_order [1] hO rfl) b hb).1))
    rw [HM5.out.1] at hO
    obtain ⟨img, himg⟩ : ∃ img, img = (crashL (pickV pl) 0 E.m).flatMap fun b => b.s := ⟨_, rfl⟩
    rw [← himg] at hO HIMG
    clear himg HM5 HSIZE
    obtain ⟨IA, ic, hio⟩ := (owns_rd hO).slice
    subst hio
    have HWT : Hid (∀ (w' : World) (L' : List HP), Own w' (engP e E :: L') → Calls Try.prog 11 #[.pointer (some ⟨e, 0, none⟩)] w' (RetX w' (fun v : Value => v) (fun v => owns 3 1 v (wnums E.l).length (zs (wnums E.l)) :: engP e E :: L'))) := Lib.hid fun w' L' h => by
      have h2 := ewaiting_c w' L' e E h HB.out.ok
      have e2 : (wnums E.l).length = E.l.length := by simp [wnums]
      rw [e2]
      exact h2
    have hO := own_sub hO (.cons_cons _ (.cons _ (List.Sublist.refl _)))
    go_upto_region 37 with (first | (go_at_call 11; (with_reducible refine Calls.mono (call_atX 1 (fun L' h => HWT.out _ L' h) rfl hO) ?_); clear hO; rintro e5 u ⟨wv, rfl, hO, hSn⟩; replace hS := hS.trans hSn; clear hSn; simp only [List.set_cons_zero, List.set_cons_succ] at hO))
    obtain ⟨WV, wvc, hwv⟩ := (owns_rd hO).slice
    subst hwv
    clear HWT
    have hnw : (wnums E.l).length ≤ 200 := by have := HB.out.ok.len; simpa [wnums] using this
    have hwm := (owns_rd hO).max
    go_wp2
    go_loopw [22, 23] (fun pv2 iv wr => ∃ (n0 : Nat) (ov : Value) (sl : List Int), n0 ≤ all.length ∧ ov = pv2 ∧ iv = .int .i64 n0 ∧ Hid (Seen E img n0 sl) ∧ Own wr (owns 3 1 ov sl.length (zs sl) :: owns 3 1 (.slice WV (wnums E.l).length wvc) (wnums E.l).length (zs (wnums E.l)) :: owns 5 1 (.slice IA 160 ic) 160 (bcs img) :: engP e E :: owns 30 3 (.slice AV all.length avc) all.length (cellsP all) :: owns 31 1 (.slice DV ds.length dvc) ds.length vs :: rdG g :: L) ∧ Same w wr) (fun _ iv _ => all.length - (intOf iv).toNat)
    case atStart => exact ⟨0, _, [], Nat.zero_le _, rfl, rfl, Seen.start E img, owns_nil hO, hS⟩
    case round =>
      clear hO hS
      obtain ⟨n0, ov, sl, hn0, hov, rfl, HSE, hO, hS⟩ := hrel
      subst hov
      by_cases hlt : n0 < all.length
      · have hm1 : (n0 : Int) < all.length := by omega
        have HSL : Hid (sl.length ≤ 14) := by have := HSE.out.len; show _ ≤ _; omega
        go_wp2
        go_loopw [24, 25] (fun bv kv wr => ∃ (k : Nat) (b : Bool), k ≤ (wnums E.l).length ∧ bv = .bool b ∧ kv = .int .i64 k ∧ Hid (b = !((wnums E.l).take k).contains (n0 : Int)) ∧ Own wr (owns 3 1 ov sl.length (zs sl) :: owns 3 1 (.slice WV (wnums E.l).length wvc) (wnums E.l).length (zs (wnums E.l)) :: owns 5 1 (.slice IA 160 ic) 160 (bcs img) :: engP e E :: owns 30 3 (.slice AV all.length avc) all.length (cellsP all) :: owns 31 1 (.slice DV ds.length dvc) ds.length vs :: rdG g :: L) ∧ Same w wr) (fun _ kv _ => (wnums E.l).length - (intOf kv).toNat)
        case atStart => exact ⟨0, true, Nat.zero_le _, rfl, rfl, Lib.hid rfl, hO, hS⟩
        case round =>
          clear hO hS
          obtain ⟨k, b, hk, rfl, rfl, HBV, hO, hS⟩ := hrel
          by_cases hlt2 : k < (wnums E.l).length
          · obtain ⟨x, hx⟩ : ∃ y, (wnums E.l)[k]? = some y := ⟨_, List.getElem?_eq_getElem hlt2⟩
            obtain ⟨adw, haw⟩ := (owns_rd (own_order [1] hO rfl)).addr (by unfold zs; rw [List.length_map]; omega)
            subst haw
            have HC := Lib.hid (zs_cell (owns_rd (own_order [1] hO rfl)) hx)
            have hm2 : (k : Int) < (wnums E.l).length := by omega
            have HNB : Hid ((!((wnums E.l).take (k + 1)).contains (n0 : Int)) = (b && (x != (n0 : Int)))) := by
              show _ = _
              rw [HBV.out, List.take_add_one, hx]
              simp only [Option.toList_some, List.contains_append, Bool.not_or]
              congr 1
              by_cases e : (n0 : Int) = x
              · simp [e]
              · simp [e, Ne.symm e]
            clear hx
            cases b with
            | false =>
              go_wp2
              go_roundw
              case rel => exact ⟨k + 1, false, by omega, rfl, by go_num, Lib.hid (by rw [HNB.out]; rfl), hO, hS⟩
              case measure => simp [intOf]; omega
            | true =>
              cases hne : (x != (n0 : Int)) with
              | false =>
                rw [hne] at HNB
                go_wp2_with (first | (refine own_load1_at (ad := adw.add k) (v := .int .i64 x) rfl rfl rfl row_int HC.out ?_))
                go_roundw
                case rel => exact ⟨k + 1, false, by omega, rfl, by go_num, Lib.hid (by rw [HNB.out]; rfl), hO, hS⟩
                case measure => simp [intOf]; omega
              | true =>
                rw [hne] at HNB
                go_wp2_with (first | (refine own_load1_at (ad := adw.add k) (v := .int .i64 x) rfl rfl rfl row_int HC.out ?_))
                go_roundw
                case rel => exact ⟨k + 1, true, by omega, rfl, by go_num, Lib.hid (by rw [HNB.out]; rfl), hO, hS⟩
                case measure => simp [intOf]; omega
          · have hke : k = (wnums E.l).length := by omega
            subst hke
            rw [List.take_length] at HBV
            obtain ⟨b0, hb0⟩ : ∃ b0, b0 = b := ⟨_, rfl⟩
            have HB0 : Hid (b0 = !(wnums E.l).contains (n0 : Int)) := by rw [hb0]; exact HBV
            go_wp2
            go_loopw [24, 26] (fun bv kv wr => ∃ (k : Nat) (b : Bool), k ≤ 160 ∧ bv = .bool b ∧ kv = .int .i64 k ∧ Hid (b = (b0 || (img.take k).any fun y => decide (y.toNat = n0 + 1))) ∧ Own wr (owns 3 1 ov sl.length (zs sl) :: owns 3 1 (.slice WV (wnums E.l).length wvc) (wnums E.l).length (zs (wnums E.l)) :: owns 5 1 (.slice IA 160 ic) 160 (bcs img) :: engP e E :: owns 30 3 (.slice AV all.length avc) all.length (cellsP all) :: owns 31 1 (.slice DV ds.length dvc) ds.length vs :: rdG g :: L) ∧ Same w wr) (fun _ kv _ => 160 - (intOf kv).toNat)
            case atStart => exact ⟨0, b, Nat.zero_le _, rfl, rfl, Lib.hid (by rw [hb0]; simp), hO, hS⟩
            case round =>
              clear hO hS hb0 HBV
              obtain ⟨k, b, hk, rfl, rfl, HBV, hO, hS⟩ := hrel
              by_cases hlt2 : k < 160
              · obtain ⟨y, hy⟩ : ∃ y, img[k]? = some y := ⟨_, List.getElem?_eq_getElem (by rw [HIMG.out.len]; exact hlt2)⟩
                obtain ⟨adi, hai⟩ := (owns_rd (own_order [2] hO rfl)).addr (by rw [bcs_length, HIMG.out.len]; decide)
                subst hai
                have HC := Lib.hid (bcs_cell1 (owns_rd (own_order [2] hO rfl)) hy)
                have hm2 : (k : Int) < 160 := by omega
                have hyb : (y.toNat : Int) ≤ 255 := by have := y.toNat_lt; omega
                have HNB : Hid ((b0 || (img.take (k + 1)).any fun y => decide (y.toNat = n0 + 1)) = (b || decide (y.toNat = n0 + 1))) := by
                  show _ = _
                  rw [HBV.out, List.take_add_one, hy]
                  simp only [Option.toList_some, List.any_append, List.any_cons, List.any_nil, Bool.or_false, Bool.or_assoc]
                clear hy
                cases b with
                | true =>
                  go_wp2
                  go_roundw
                  case rel => exact ⟨k + 1, true, by omega, rfl, by go_num, Lib.hid (by rw [HNB.out]; rfl), hO, hS⟩
                  case measure => simp [intOf]; omega
                | false =>
                  by_cases heq : y.toNat = n0 + 1
                  · have heq2 : ((y.toNat : Int) == (n0 : Int) + 1) = true := by rw [beq_iff_eq]; omega
                    have HN2 : Hid ((b0 || (img.take (k + 1)).any fun y => decide (y.toNat = n0 + 1)) = true) := by show _ = _; rw [HNB.out]; simp [heq]
                    clear heq
                    go_wp2_with (first | (refine own_load1_at (ad := adi.add k) (v := .int .u8 (y.toNat : Int)) rfl rfl rfl row_u8 HC.out ?_))
                    go_roundw
                    case rel => exact ⟨k + 1, true, by omega, rfl, by go_num, Lib.hid HN2.out.symm, hO, hS⟩
                    case measure => simp [intOf]; omega
                  · have heq2 : ((y.toNat : Int) == (n0 : Int) + 1) = false := by rw [beq_eq_false_iff_ne]; omega
                    have HN2 : Hid ((b0 || (img.take (k + 1)).any fun y => decide (y.toNat = n0 + 1)) = false) := by show _ = _; rw [HNB.out]; simp [heq]
                    clear heq
                    go_wp2_with (first | (refine own_load1_at (ad := adi.add k) (v := .int .u8 (y.toNat : Int)) rfl rfl rfl row_u8 HC.out ?_))
                    go_roundw
                    case rel => exact ⟨k + 1, false, by omega, rfl, by go_num, Lib.hid HN2.out.symm, hO, hS⟩
                    case measure => simp [intOf]; omega
              · have hke : k = 160 := by omega
                subst hke
                rw [List.take_of_length_le (by rw [HIMG.out.len]; exact Nat.le_refl _)] at HBV
                have HSN : Hid (b = true ↔ Sn E img n0) := by
                  show _ ↔ _
                  rw [HBV.out, HB0.out]
                  unfold Sn
                  simp only [Bool.or_eq_true, Bool.not_eq_true', List.contains_eq_mem, decide_eq_false_iff_not, List.any_eq_true, decide_eq_true_eq]
                cases b with
                | true =>
                  have HSN2 := Lib.hid (HSE.out.yes (HSN.out.1 rfl))
                  go_wp2_with (first | (refine own_append (m := 1) (n := sl.length) (xs := (zs sl)) (news := [.int .i64 (n0 : Int)]) rfl rfl rfl rfl Try.underlying31 info_z3 rfl (by decide) (own_perm (own_alloc_new hO (.cells #[.int .i64 (n0 : Int)] 3)) (List.Perm.swap _ _ _)) ?_ (by intro u hu; rw [List.mem_singleton.1 hu]; rfl) ?_ ?_ ?_; (exact rd_block (own_get 1 (own_perm (own_alloc_new hO (.cells #[.int .i64 (n0 : Int)] 3)) (List.Perm.swap _ _ _)) rfl) rfl (by simp) (by simp) (by simp)); (have := HSL.out; unfold maxLen; omega); (have := HSL.out; omega); clear hO; intro v' w9 hO hS9 hv'))
                  go_roundw
                  case rel => exact ⟨n0 + 1, v', sl ++ [(n0 : Int)], by omega, rfl, by go_num, HSN2, own_fl hO, hS.trans ((Same.alloc _ _).trans hS9)⟩
                  case measure => simp [intOf]; omega
                | false =>
                  have HSN2 := Lib.hid (HSE.out.no (fun h => by have := HSN.out.2 h; cases this))
                  go_wp2
                  go_roundw
                  case rel => exact ⟨n0 + 1, ov, sl, by omega, rfl, by go_num, HSN2, hO, hS⟩
                  case measure => simp [intOf]; omega
      · have hne : n0 = all.length := by omega
        subst hne
        have HCL : Hid (∀ w', Own w' (owns 3 1 ov sl.length (zs sl) :: owns 3 1 (.slice WV (wnums E.l).length wvc) (wnums E.l).length (zs (wnums E.l)) :: owns 5 1 (.slice IA 160 ic) 160 (bcs img) :: engP e E :: owns 30 3 (.slice AV all.length avc) all.length (cellsP all) :: owns 31 1 (.slice DV ds.length dvc) ds.length vs :: rdG g :: L) → Calls Try.prog 19 #[.slice DV ds.length dvc, ov] w' (RetX w' (fun y : Value × List Bool => y.1) (fun y => pur (ClS ds sl y.2) :: owns 3 1 y.1 (thoseZ y.2 ds.length).length (zs (thoseZ y.2 ds.length)) :: owns 3 1 ov sl.length (zs sl) :: owns 3 1 (.slice WV (wnums E.l).length wvc) (wnums E.l).length (zs (wnums E.l)) :: owns 5 1 (.slice IA 160 ic) 160 (bcs img) :: engP e E :: owns 30 3 (.slice AV all.length avc) all.length (cellsP all) :: owns 31 1 (.slice DV ds.length dvc) ds.length vs :: rdG g :: L))) := Lib.hid fun w' h => by
          refine gclose_c w' _ (.slice DV ds.length dvc) vs ds ov sl.length sl rfl h (fun w2 h2 => deps_rd HDO.out (own_order [5, 5] h2 rfl)) (fun w2 h2 => owns_rd h2) (by rw [HDL.out]; omega) (fun l hl => by have := HB.out.few l hl; omega) HB.out.cl.right (fun d hd => ?_)
          obtain ⟨m, e6, h1, _⟩ := HSE.out.of d hd
          rw [HDL.out, e6]
          omega
        go_upto_region 53 with (first | (go_at_call 19; (with_reducible refine Calls.mono (HCL.out _ hO) ?_); clear hO; rintro e5 u ⟨⟨cv, M⟩, rfl, hO, hSn⟩; replace hS := hS.trans hSn; clear hSn))
        obtain ⟨hMS, hO2⟩ := own_pur.1 hO
        clear hO
        have hO := hO2
        clear hO2
        have HMS := Lib.hid hMS
        clear hMS HCL
        obtain ⟨S, hSS⟩ : ∃ S, S = thoseZ M ds.length := ⟨_, rfl⟩
        have HSS := Lib.hid hSS
        have HSLEN : Hid (S.length ≤ 14) := by have := thoseZ_len M ds.length; rw [hSS]; have := HDL.out; show _ ≤ _; omega
        replace hO : Own u (owns 3 1 cv S.length (zs S) :: owns 3 1 ov sl.length (zs sl) :: owns 3 1 (.slice WV (wnums E.l).length wvc) (wnums E.l).length (zs (wnums E.l)) :: owns 5 1 (.slice IA 160 ic) 160 (bcs img) :: engP e E :: owns 30 3 (.slice AV all.length avc) all.length (cellsP all) :: owns 31 1 (.slice DV ds.length dvc) ds.length vs :: rdG g :: L) := by rw [hSS]; exact hO
        obtain ⟨CA, cc, hcv⟩ := (owns_rd hO).slice
        have hcv : cv = .slice CA S.length cc := hcv
        subst hcv
        have hcm := (owns_rd hO).max
        clear hSS
        obtain ⟨LR, hLR⟩ : ∃ LR : List HP, LR = (owns 3 1 ov sl.length (zs sl) :: owns 3 1 (.slice WV (wnums E.l).length wvc) (wnums E.l).length (zs (wnums E.l)) :: owns 5 1 (.slice IA 160 ic) 160 (bcs img) :: engP e E :: owns 30 3 (.slice AV all.length avc) all.length (cellsP all) :: owns 31 1 (.slice DV ds.length dvc) ds.length vs :: rdG g :: L) := ⟨_, rfl⟩
        rw [← hLR] at hO
        have HLR := Lib.hid hLR
        have HAR : Hid (∀ (w' : World) (A B C : HP), Own w' (A :: B :: C :: LR) → Rd w' 3 (.slice AV all.length avc) all.length (cellsP all)) := Lib.hid fun w' A B C h => by rw [hLR] at h; exact owns_rd (own_order [7] h rfl)
        have HAR2 : Hid (∀ (w' : World) (A B : HP), Own w' (A :: B :: LR) → Rd w' 3 (.slice AV all.length avc) all.length (cellsP all)) := Lib.hid fun w' A B h => by rw [hLR] at h; exact owns_rd (own_order [6] h rfl)
        clear hLR
        go_wp2_with (first | (at_make; refine own_make (n := 160) rfl rfl rfl rfl Try.underlying23 info_u8 (by decide) (by decide) (made_bytes1 160) hO ?_; clear hO; intro gw u hO hSn; replace hS := hS.trans hSn; clear hSn))
        go_loopw [29] (fun iv wr => ∃ (j : Nat) (wl : List UInt8), j ≤ S.length ∧ iv = .int .i64 j ∧ Hid (Want all S j wl) ∧ Own wr (pts gw (.cells (bcs wl).toArray 5) :: owns 3 1 (.slice CA S.length cc) S.length (zs S) :: LR) ∧ Same w wr) (fun iv _ => S.length - (intOf iv).toNat)
        case atStart => exact ⟨0, _, Nat.zero_le _, rfl, Want.start all S, hO, hS⟩
        case round =>
          clear hO hS
          obtain ⟨j, wl, hj, rfl, HWA, hO, hS⟩ := hrel
          have hsl14 : S.length ≤ 14 := HSLEN.out
          by_cases hlt2 : j < S.length
          · obtain ⟨dx, hdx⟩ : ∃ y, S[j]? = some y := ⟨_, List.getElem?_eq_getElem hlt2⟩
            obtain ⟨nx, hnx⟩ : ∃ nx : Nat, dx = (nx : Int) ∧ nx < all.length := by
              have hm := List.mem_of_getElem? hdx
              rw [HSS.out] at hm
              unfold thoseZ at hm
              obtain ⟨m, hm1, e6⟩ := List.mem_map.1 hm
              have e6 : (m : Int) = dx := e6
              have := List.mem_range.1 (List.mem_filter.1 hm1).1
              have := HDL.out
              exact ⟨m, e6.symm, by omega⟩
            obtain ⟨hdn, hnl⟩ := hnx
            subst hdn
            obtain ⟨p, hp⟩ : ∃ y, all[nx]? = some y := ⟨_, List.getElem?_eq_getElem hnl⟩
            have hR1 := owns_rd (own_order [1] hO rfl)
            have hR2 := HAR2.out _ _ _ hO
            have HNOW := Lib.hid hO
            obtain ⟨adc, hac⟩ := hR1.addr (by unfold zs; rw [List.length_map]; omega)
            obtain ⟨ada, haa⟩ := hR2.addr (by rw [cellsP_length]; omega)
            subst hac
            subst haa
            have HC := Lib.hid (zs_cell hR1 hdx)
            have HPC := Lib.hid (pats_cells hR2 hp)
            have hO := HNOW.out
            clear HNOW hR1 hR2
            have hm2 : (j : Int) < S.length := by omega
            have hm3 : (nx : Int) < all.length := by omega
            have hpat := HB.out.cl.pat nx p hp
            obtain ⟨p1, p2, p3, p4, p5, p6⟩ := rightB_iff.1 hpat.1
            have h5 : p.blk < 5 := by have := hpat.2.1; rw [HB.out.m5] at this; omega
            have HWN := Lib.hid (HWA.out.next (by rw [HSS.out]; exact thoseZ_asc M ds.length) hdx hp hpat.1 h5 hpat.2.2)
            have HWL : Hid (wl.length = 160) := HWA.out.len
            clear hdx hp hpat
            go_upto_region 58 with (first | (refine own_load1_at (ad := adc.add j) (v := .int .i64 nx) rfl rfl rfl row_int HC.out ?_) | (refine own_loadrow_at (ad := ada.add (nx * 3)) (vs := [.int .i64 p.blk, .int .i64 p.off, .string p.dat]) rfl rfl rfl row_pat sz_pat rfl HPC.out ?_) | (refine own_alloc (T := 30) (cs := #[.int .i64 0, .int .i64 0, .string ⟨#[]⟩]) rfl rfl zero_patE rfl hO ?_; clear hO; intro gp u hO hSn; replace hS := hS.trans hSn; clear hSn) | (refine own_store_all (k := 0) (b := gp) (vs := #[.int .i64 p.blk, .int .i64 p.off, .string p.dat]) rfl rfl rfl rfl sz_pat hO rfl rfl rfl rfl ?_; clear hO; intro u hO hSn; replace hS := hS.trans hSn; clear hSn; simp only [List.set_cons_zero] at hO))
            obtain ⟨LQ, hLQ⟩ : ∃ LQ : List HP, LQ = (owns 3 1 (.slice (some adc) S.length cc) S.length (zs S) :: LR) := ⟨_, rfl⟩
            rw [← hLQ] at hO
            have HLQ := Lib.hid hLQ
            clear hLQ
            go_wp2
            go_loopw [31] (fun kv wr => ∃ k : Nat, k ≤ p.dat.size ∧ kv = .int .i64 k ∧ Own wr (pts gp (.cells #[.int .i64 p.blk, .int .i64 p.off, .string p.dat] 30) :: pts gw (.cells (bcs (over wl (p.blk * 32 + p.off).toNat (p.dat.data.toList.take k))).toArray 5) :: LQ) ∧ Same w wr) (fun kv _ => p.dat.size - (intOf kv).toNat)
            case atStart => exact ⟨0, Nat.zero_le _, rfl, by simpa [over] using hO, hS⟩
            case round =>
              clear hO hS
              obtain ⟨k, hk, rfl, hO, hS⟩ := hrel
              by_cases hlt3 : k < p.dat.size
              · have hmk : (k : Int) < p.dat.size := by omega
                have q0 : IntKind.i64.wrap (p.blk * 32) = p.blk * 32 := by rw [IntKind.wrap_i64]; omega
                have q1 : IntKind.i64.wrap (p.blk * 32 + p.off) = p.blk * 32 + p.off := by rw [IntKind.wrap_i64]; omega
                have q2 : IntKind.i64.wrap (p.blk * 32 + p.off + k) = p.blk * 32 + p.off + k := by rw [IntKind.wrap_i64]; omega
                have q3 : 0 ≤ p.blk * 32 + p.off + k := by omega
                have q4 : p.blk * 32 + p.off + k < 160 := by omega
                have m4 : (p.blk * 32 + p.off + (k : Int)).toNat = (p.blk * 32 + p.off).toNat + k := by omega
                have M4 := Lib.hid m4
                have HS0 : Hid ((p.blk * 32 + p.off).toNat + p.dat.size ≤ 160) := by show _ ≤ _; omega
                clear m4
                go_upto_region 61 with (first | (refine own_load1 (b := gp) (off := 2) (cs := #[.int .i64 p.blk, .int .i64 p.off, .string p.dat]) (t := 30) (v := .string p.dat) rfl rfl rfl row_str (own_get 0 hO rfl) rfl ?_))
                refine wp_region_seq (Cls _ (pts gp (.cells #[.int .i64 p.blk, .int .i64 p.off, .string p.dat] 30) :: pts gw (.cells (bcs (over wl (p.blk * 32 + p.off).toNat (p.dat.data.toList.take k))).toArray 5) :: LQ)) 14 275 mixed (by kernel_rfl) rfl (cls_drew hO) ?_
                simp only [List.append_eq, List.cons_append, List.nil_append, List.take_succ_cons, List.take_zero]
                repeat (first
                  | (apply wv_skip rfl; simp only [Act.put, List.setIfInBounds_toArray, List.set_cons_zero, List.set_cons_succ])
                  | (apply wv_load1 rfl rfl rfl; (first | exact row_int | exact row_str | exact row_bool | exact row_u8 | exact row_bys | exact row_pats | exact row_err); (intro w h; (first | exact own_get 0 h.1 rfl | exact own_get 1 h.1 rfl | exact own_get 2 h.1 rfl | exact own_get 3 h.1 rfl | exact own_get 4 h.1 rfl | exact own_get 5 h.1 rfl | exact own_get 6 h.1 rfl | exact own_get 7 h.1 rfl)); (first | (simp only [List.getElem?_toArray, List.getElem?_cons_succ, List.getElem?_cons_zero]; rfl) | rfl); simp only [Act.put, List.setIfInBounds_toArray, List.set_cons_zero, List.set_cons_succ])
                  | (apply wv_loadrow rfl rfl rfl; (first | exact row_pat); exact sz_pat; (intro w h; (first | exact own_get 0 h.1 rfl | exact own_get 1 h.1 rfl | exact own_get 2 h.1 rfl | exact own_get 3 h.1 rfl | exact own_get 4 h.1 rfl | exact own_get 5 h.1 rfl | exact own_get 6 h.1 rfl | exact own_get 7 h.1 rfl)); (focus (simp; done)); (first | (simp only [List.drop_zero, List.drop_succ_cons, List.take_succ_cons, List.take_zero]; rfl) | rfl); simp only [Act.put, List.setIfInBounds_toArray, List.set_cons_zero, List.set_cons_succ])
                  | (apply wv_run rfl; (focus (intro w h; go_simp; first | done | rfl)); simp only [Act.put, List.setIfInBounds_toArray, List.set_cons_zero, List.set_cons_succ])
                  | (apply wv_call rfl; (focus (intro w; go_simp; first | done | exact ⟨rfl, rfl⟩)); (focus (intro w h; apply cls_call h; fail)); simp only [Act.put, List.setIfInBounds_toArray, List.set_cons_zero, List.set_cons_succ]))
                refine wv_nil ?_
                simp only [List.drop_succ_cons, List.drop_zero]
                intro w5 ⟨hO5, hS5⟩
                clear hO
                have hsl : p.dat.size = p.dat.data.toList.length := by rw [Array.length_toList]; rfl
                refine own_store1 (k := 1) (b := gw) (cs' := (bcs (over wl (p.blk * 32 + p.off).toNat (p.dat.data.toList.take (k + 1)))).toArray) rfl rfl rfl rfl sz_u8 hO5 rfl rfl ?_ ?_ ?_
                · rw [M4.out, List.size_toArray, bcs_length]
                  have := over_length wl (p.blk * 32 + p.off).toNat (p.dat.data.toList.take k) (by rw [List.length_take, HWL.out]; have := HS0.out; omega)
                  rw [this, HWL.out]
                  have := HS0.out
                  omega
                · rw [M4.out]
                  apply Array.ext'
                  rw [Array.toList_setIfInBounds]
                  have hst := over_step wl p.dat.data.toList (p.blk * 32 + p.off).toNat k (by omega) (by rw [HWL.out]; have := HS0.out; omega)
                  rw [← hst, ← bcs_set]
                  rfl
                intro w6 hO6 hS6
                simp only [List.set_cons_zero, List.set_cons_succ] at hO6
                clear hO5
                simp only [Act.put]
                go_wp2
                go_roundw
                case rel => exact ⟨k + 1, by omega, by go_num, hO6, hS.trans (hS5.trans hS6)⟩
                case measure => simp [intOf]; omega
              · have hkk : k = p.dat.size := by omega
                have hfull : p.dat.data.toList.take k = p.dat.data.toList := List.take_of_length_le (by rw [Array.length_toList, hkk]; exact Nat.le_refl _)
                rw [hfull] at hO
                have hnk : ¬ ((k : Int) < p.dat.size) := by omega
                clear hkk hfull hlt3 hk
                go_wp2_with (first | (refine own_load1 (b := gp) (off := 2) (cs := #[.int .i64 p.blk, .int .i64 p.off, .string p.dat]) (t := 30) (v := .string p.dat) rfl rfl rfl row_str (own_get 0 hO rfl) rfl ?_))
                go_roundw
                case rel => exact ⟨j + 1, _, by omega, by go_num, HWN, by rw [← HLQ.out]; exact own_drop hO, hS⟩
                case measure => simp [intOf]; omega
          · have hje : j = S.length := by omega
            subst hje
            have himw : img = wl := img_want HIMG.out hall HDL.out HSE.out HMS.out (by rw [← HSS.out]; exact HWA.out)
            rw [← himw] at hO
            have HI6 : Hid (160 = img.length) := HIMG.out.len.symm
            rw [HLR.out] at hO
            clear himw
            go_wp2_with (first | (go_at_call 14; (with_reducible refine Calls.mono (elive_c _ _ hO) ?_); clear hO; rintro e u ⟨rfl, hO, hSn⟩; replace hS := hS.trans hSn; clear hSn) | (refine own_string (v := .slice IA 160 ic) (n := 160) (bs := img) rfl rfl rfl Try.underlying23 Try.underlying5 Try.underlying9 HI6.out (owns_rd (own_order [4] hO rfl)) ?_) | (refine own_string (v := .slice (some ⟨gw, 0, none⟩) 160 160) (n := 160) (bs := img) rfl rfl rfl Try.underlying23 Try.underlying5 Try.underlying9 HI6.out (rd_block (own_get 0 hO rfl) (List.take_of_length_le (by simp [bcs_length, HIMG.out.len])) (by simp [bcs_length, HIMG.out.len]) (by decide) (by decide)) ?_))
            go_ret
            exact ⟨by simp, own_drop (own_drop (own_drop (own_drop (own_drop (own_drop (own_drop (own_drop (own_drop hO)))))))), hS⟩
  case first =>
    go_wp2
    go_loopw [8, 9, 10] (fun av dv iv wr => ∃ (k : Nat) (E : Eng) (all : List Pat) (ds : List (List Int)) (aw dw : Value), k ≤ is.length ∧ k ≤ 14 ∧ aw = av ∧ dw = dv ∧ iv = .int .i64 k ∧ Hid (Ck k E all ds) ∧ Own wr (owns 30 3 aw all.length (cellsP all) :: depsP dw ds :: engP e E :: L) ∧ Same w wr) (fun _ _ iv _ => is.length - (intOf iv).toNat)
    case atStart => exact ⟨0, eng0 5, [], [], _, _, Nat.zero_le _, Nat.zero_le _, rfl, rfl, rfl, Ck.start, hO, hS⟩
    case round =>
      clear hO hS
      obtain ⟨k, E, all, ds, aw, dw, hk, hk14, hav, hdv, rfl, HB, hO, hS⟩ := hrel
      subst hav
      subst hdv
      obtain ⟨AV, avc, e1⟩ := (owns_rd hO).slice
      subst e1
      obtain ⟨DV, dvc, e2⟩ := deps_slice (own_drop hO)
      subst e2
      have hall : all.length ≤ 14 := Nat.le_trans HB.out.n hk14
      by_cases hlt : k < is.length ∧ k < 14
      · obtain ⟨hlt, hk2⟩ := hlt
        obtain ⟨⟨x, xv⟩, hx⟩ : ∃ y, is[k]? = some y := ⟨_, List.getElem?_eq_getElem hlt⟩
        obtain ⟨DA, dc, e2, hdr⟩ := HDEP.out _ (List.mem_of_getElem? hx)
        have e2 : xv = .slice DA x.deps.length dc := e2
        subst e2
        have HDR : Hid (∀ w', Own w' L → Rd w' 1 (.slice DA x.deps.length dc) x.deps.length (zs x.deps)) := hdr
        have HXS : Hid (x.p.dat.size ≤ 140737488355328) := HSZ.out _ (List.mem_of_getElem? hx)
        have hL := own_drop (own_drop (own_drop hO))
        obtain ⟨ad, e1⟩ := (HRD.out _ hL).addr (by rw [cellsI_length]; omega)
        subst e1
        have HCI : Hid (∀ w', Own w' L → ∀ (j : Nat) (u : Value), (Iv.cells (x, .slice DA x.deps.length dc))[j]? = some u → w'.cell? ((ad.add (k * 4)).add j) = some u) := Lib.hid fun w' h => item_cells (HRD.out w' h) hx
        have hm1 : (k : Int) < is.length := by omega
        have hm2 : (k : Int) < 14 := by omega
        obtain ⟨nd, hnd⟩ : ∃ nd, nd = x.p.dat.size := ⟨_, rfl⟩
        have HND := Lib.hid hnd
        have hns : nd ≤ 140737488355328 := by rw [hnd]; exact HXS.out
        have hnd2 : (x.p.dat.size : Int) = (nd : Int) := by omega
        clear hx hdr hL hnd
        go_upto_region 8 with (first | (refine own_loadrow_at (ad := ad.add (k * 4)) (vs := [.int .i64 x.p.blk, .int .i64 x.p.off, .string x.p.dat]) rfl rfl rfl row_pat sz_pat rfl (fun j u hu => HCI.out _ (own_drop (own_drop (own_drop hO))) j u (pat_of_item hu)) ?_) | (refine own_alloc (T := 33) (cs := #[.int .i64 0, .int .i64 0, .string ⟨#[]⟩, .slice none 0 0]) rfl rfl zero_item rfl hO ?_; clear hO; intro gx u hO hSn; replace hS := hS.trans hSn; clear hSn) | (refine own_store_all (k := 0) (b := gx) (vs := #[.int .i64 x.p.blk, .int .i64 x.p.off, .string x.p.dat, .slice none 0 0]) rfl rfl rfl rfl sz_item hO rfl rfl rfl rfl ?_; clear hO; intro u hO hSn; replace hS := hS.trans hSn; clear hSn; simp only [List.set_cons_zero] at hO))
        obtain ⟨c, hc⟩ : ∃ c, c = UInt8.ofNat (all.length + 1) := ⟨_, rfl⟩
        have hcn : (c.toNat : Int) = (all.length : Int) + 1 := by rw [hc, UInt8.toNat_ofNat']; omega
        have HCC := Lib.hid hc
        have hw8 : IntKind.u8.wrap (all.length : Int) = (all.length : Int) := by rw [IntKind.wrap_u8] <;> omega
        have hw9 : IntKind.u8.wrap ((all.length : Int) + 1) = (all.length : Int) + 1 := by rw [IntKind.wrap_u8] <;> omega
        have HCN := Lib.hid hcn
        clear hc hcn
        go_wp2_with (first | (refine own_load1 (b := gx) (off := 2) (cs := #[.int .i64 x.p.blk, .int .i64 x.p.off, .string x.p.dat, .slice none 0 0]) (t := 33) (v := .string x.p.dat) rfl rfl rfl row_str (own_get 0 hO rfl) rfl ?_) | (at_make; refine own_make (n := nd) rfl rfl rfl rfl Try.underlying23 info_u8 (by omega) (by omega) (made_bytes1 nd) hO ?_; clear hO; intro gd u hO hSn; replace hS := hS.trans hSn; clear hSn))
        go_loopw [13] (fun jv wr => ∃ j : Nat, j ≤ nd ∧ jv = .int .i64 j ∧ Own wr (pts gd (.cells (bcs (List.replicate j c ++ List.replicate (nd - j) 0)).toArray 5) :: pts gx (.cells #[.int .i64 x.p.blk, .int .i64 x.p.off, .string x.p.dat, .slice none 0 0] 33) :: owns 30 3 (.slice AV all.length avc) all.length (cellsP all) :: depsP (.slice DV ds.length dvc) ds :: engP e (E) :: L) ∧ Same w wr) (fun jv _ => nd - (intOf jv).toNat)
        case atStart => exact ⟨0, Nat.zero_le _, rfl, hO, hS⟩
        case round =>
          clear hO hS
          obtain ⟨j, hj, rfl, hO, hS⟩ := hrel
          by_cases hlt2 : j < nd
          · have hm3 : (j : Int) < (nd : Int) := by omega
            have HST : Hid ((bcs (List.replicate j c ++ List.replicate (nd - j) 0)).toArray.setIfInBounds j (.int .u8 ((all.length : Int) + 1)) = (bcs (List.replicate (j + 1) c ++ List.replicate (nd - (j + 1)) 0)).toArray) := by
              show _ = _
              rw [← HCN.out, bcs_setA, rep_set nd j c 0 hlt2]
            have HFIT : Hid (j < (bcs (List.replicate j c ++ List.replicate (nd - j) 0)).toArray.size) := by
              show _ < _
              rw [List.size_toArray, bcs_length]
              simp
              omega
            go_wp2_with (first | (refine own_store1 (k := 0) (b := gd) (off := j) rfl rfl rfl rfl sz_u8 hO rfl rfl HFIT.out HST.out ?_; clear hO; intro u hO hSn; replace hS := hS.trans hSn; clear hSn; simp only [List.set_cons_zero] at hO))
            go_roundw
            case rel => exact ⟨j + 1, by omega, by go_num, hO, hS⟩
            case measure => simp [intOf]; omega
          · have hje : j = nd := by omega
            subst hje
            rw [Nat.sub_self, List.replicate_zero, List.append_nil] at hO
            obtain ⟨sdat, hsd⟩ : ∃ sdat, sdat = bstr (List.replicate j c) := ⟨_, rfl⟩
            have HSD := Lib.hid hsd
            have HR0 : Hid (∀ w', Own w' (pts gd (.cells (bcs (List.replicate j c)).toArray 5) :: pts gx (.cells #[.int .i64 x.p.blk, .int .i64 x.p.off, .string x.p.dat, .slice none 0 0] 33) :: owns 30 3 (.slice AV all.length avc) all.length (cellsP all) :: depsP (.slice DV ds.length dvc) ds :: engP e (E) :: L) → Rd w' 1 (.slice (some ⟨gd, 0, none⟩) j j) j (bcs (List.replicate j c))) := Lib.hid fun w' h => rd_block (own_get 0 h rfl) (List.take_of_length_le (by simp [bcs_length])) (by simp [bcs_length]) (Nat.le_refl _) (by omega)
            clear hsd
            go_upto_region 14 with (first | (refine own_string (v := .slice (some ⟨gd, 0, none⟩) j j) (n := j) (bs := List.replicate j c) rfl rfl rfl Try.underlying23 Try.underlying5 Try.underlying9 (by simp) (HR0.out _ hO) ?_; rw [← HSD.out]) | (refine own_store1 (k := 1) (b := gx) (off := 2) (cs' := #[.int .i64 x.p.blk, .int .i64 x.p.off, .string sdat, .slice none 0 0]) rfl rfl rfl rfl sz_strE hO rfl rfl (by show 2 < 4; decide) rfl ?_; clear hO; intro u hO hSn; replace hS := hS.trans hSn; clear hSn; simp only [List.set_cons_zero, List.set_cons_succ] at hO))
            have hO := owns_nil (e := 3) (size := 1) (own_drop hO)
            clear HR0
            go_upto_block 4 with fail
            go_cut [] from 72 to 72 (fun wx => ∃ (vb : Value) (fl : List Int), fl.length ≤ 6 ∧ Hid (∀ d ∈ fl, 0 ≤ d ∧ d < (all.length : Int)) ∧ Own wx (owns 3 1 vb fl.length (zs fl) :: pts gx (.cells #[.int .i64 x.p.blk, .int .i64 x.p.off, .string sdat, vb] 33) :: owns 30 3 (.slice AV all.length avc) all.length (cellsP all) :: depsP (.slice DV ds.length dvc) ds :: engP e (E) :: L) ∧ Same w wx)
            case first =>
             go_wp2
             go_loopw [14] (fun jv wr => ∃ (j : Nat) (vb : Value) (fl : List Int), j ≤ x.deps.length ∧ j ≤ 6 ∧ jv = .int .i64 j ∧ fl.length ≤ j ∧ Hid (∀ d ∈ fl, 0 ≤ d ∧ d < (all.length : Int)) ∧ Own wr (owns 3 1 vb fl.length (zs fl) :: pts gx (.cells #[.int .i64 x.p.blk, .int .i64 x.p.off, .string sdat, vb] 33) :: owns 30 3 (.slice AV all.length avc) all.length (cellsP all) :: depsP (.slice DV ds.length dvc) ds :: engP e (E) :: L) ∧ Same w wr) (fun jv _ => x.deps.length - (intOf jv).toNat)
             case atStart => exact ⟨0, _, [], Nat.zero_le _, Nat.zero_le _, rfl, Nat.zero_le _, Lib.hid (fun d hd => by cases hd), hO, hS⟩
             case round =>
               clear hO hS
               obtain ⟨j, vb, fl, hj, hj6, rfl, hfl, HFL, hO, hS⟩ := hrel
               have hL : Own wr L := own_drop (own_drop (own_drop (own_drop (own_drop hO))))
               by_cases hlt2 : j < x.deps.length ∧ j < 6
               · obtain ⟨hlt2, hj62⟩ := hlt2
                 obtain ⟨q, hq⟩ : ∃ q, x.deps[j]? = some q := ⟨_, List.getElem?_eq_getElem hlt2⟩
                 obtain ⟨ad2, hda⟩ := (HDR.out _ hL).addr (by unfold zs; rw [List.length_map]; omega)
                 subst hda
                 have HC := Lib.hid (HCI.out _ hL 3 _ rfl)
                 have HCL := Lib.hid (zs_cell (HDR.out _ hL) hq)
                 have hm3 : (j : Int) < x.deps.length := by omega
                 have hm4 : (j : Int) < 6 := by omega
                 have hxd : x.deps.length ≤ 9223372036854775807 := by have := (HDR.out _ hL).max; omega
                 have HBL : Hid (fl.length ≤ 1000000) := by show _ ≤ _; omega
                 clear hq hL
                 by_cases hq0 : 0 ≤ q
                 · by_cases hqn : q < (all.length : Int)
                   · have HFN : Hid (∀ d ∈ fl ++ [q], 0 ≤ d ∧ d < (all.length : Int)) := Lib.hid fun d hd => by
                       rcases List.mem_append.1 hd with hd | hd
                       · exact HFL.out d hd
                       · rw [List.mem_singleton.1 hd]; exact ⟨hq0, hqn⟩
                     go_wp2_with (first | (refine own_load1_at (ad := (ad.add (k * 4)).add 3) (v := .slice (some ad2) x.deps.length dc) rfl rfl rfl row_zs HC.out ?_) | (refine own_load1_at (ad := ad2.add j) (v := .int .i64 q) rfl rfl rfl row_int HCL.out ?_) | (refine own_load1 (b := gx) (off := 3) (cs := #[.int .i64 x.p.blk, .int .i64 x.p.off, .string sdat, vb]) (t := 33) (v := vb) rfl rfl rfl row_zs (own_get 1 hO rfl) rfl ?_) | (refine own_append (m := 1) (n := fl.length) (xs := (zs fl)) (news := [.int .i64 q]) rfl rfl rfl rfl Try.underlying31 info_z3 rfl (by decide) (own_perm (own_alloc_new hO (.cells #[.int .i64 q] 3)) (List.Perm.swap _ _ _)) ?_ (by intro u hu; rw [List.mem_singleton.1 hu]; rfl) ?_ ?_ ?_; (exact rd_block (own_get 1 (own_perm (own_alloc_new hO (.cells #[.int .i64 q] 3)) (List.Perm.swap _ _ _)) rfl) rfl (by simp) (by simp) (by simp)); (have := HBL.out; unfold maxLen; omega); (have := HBL.out; omega); clear hO; intro v' w9 hO hS9 hv') | (refine own_store1 (k := 2) (b := gx) (off := 3) (cs' := #[.int .i64 x.p.blk, .int .i64 x.p.off, .string sdat, v']) rfl rfl rfl rfl sz_zs hO rfl (owns_cell1 hO) (by show 3 < 4; decide) rfl ?_; clear hO; intro u hO hSn; replace hS := hS.trans ((Same.alloc _ _).trans (hS9.trans hSn)); clear hSn; simp only [List.set_cons_zero, List.set_cons_succ] at hO))
                     go_roundw
                     case rel => exact ⟨j + 1, v', fl ++ [q], by omega, by omega, by go_num, by rw [List.length_append, List.length_singleton]; omega, HFN, own_fl hO, hS⟩
                     case measure => simp [intOf]; omega
                   · go_wp2_with (first | (refine own_load1_at (ad := (ad.add (k * 4)).add 3) (v := .slice (some ad2) x.deps.length dc) rfl rfl rfl row_zs HC.out ?_) | (refine own_load1_at (ad := ad2.add j) (v := .int .i64 q) rfl rfl rfl row_int HCL.out ?_) | (refine own_load1 (b := gx) (off := 3) (cs := #[.int .i64 x.p.blk, .int .i64 x.p.off, .string sdat, vb]) (t := 33) (v := vb) rfl rfl rfl row_zs (own_get 1 hO rfl) rfl ?_))
                     go_roundw
                     case rel => exact ⟨j + 1, vb, fl, by omega, by omega, by go_num, by omega, HFL, hO, hS⟩
                     case measure => simp [intOf]; omega
                 · go_wp2_with (first | (refine own_load1_at (ad := (ad.add (k * 4)).add 3) (v := .slice (some ad2) x.deps.length dc) rfl rfl rfl row_zs HC.out ?_) | (refine own_load1_at (ad := ad2.add j) (v := .int .i64 q) rfl rfl rfl row_int HCL.out ?_) | (refine own_load1 (b := gx) (off := 3) (cs := #[.int .i64 x.p.blk, .int .i64 x.p.off, .string sdat, vb]) (t := 33) (v := vb) rfl rfl rfl row_zs (own_get 1 hO rfl) rfl ?_))
                   go_roundw
                   case rel => exact ⟨j + 1, vb, fl, by omega, by omega, by go_num, by omega, HFL, hO, hS⟩
                   case measure => simp [intOf]; omega
               · have hex : j = x.deps.length ∨ (j < x.deps.length ∧ j = 6) := by omega
                 have HCX := Lib.hid (HCI.out _ hL 3 _ rfl)
                 have hxd : x.deps.length ≤ 9223372036854775807 := by have := (HDR.out _ hL).max; omega
                 clear hL
                 rcases hex with hje | ⟨hje1, hje2⟩
                 · subst hje
                   go_wp2_with (first | (refine own_load1_at (ad := (ad.add (k * 4)).add 3) (v := .slice DA x.deps.length dc) rfl rfl rfl row_zs HCX.out ?_))
                   go_meet
                   exact ⟨vb, fl, by omega, HFL, hO, hS⟩
                 · subst hje2
                   go_wp2_with (first | (refine own_load1_at (ad := (ad.add (k * 4)).add 3) (v := .slice DA x.deps.length dc) rfl rfl rfl row_zs HCX.out ?_))
                   go_meet
                   exact ⟨vb, fl, by omega, HFL, hO, hS⟩
            case rest =>
              clear hO hS
              obtain ⟨vb, fl, hfl, HFL, hO, hS⟩ := hcut
              have hL : Own wc L := own_drop (own_drop (own_drop (own_drop (own_drop hO))))
              clear hL
              obtain ⟨FA, fc, e4⟩ := (owns_rd hO).slice
              subst e4
              have hE := HB.out.cl.next
              obtain ⟨p, hpp⟩ : ∃ p : Pat, p = ⟨x.p.blk, x.p.off, sdat⟩ := ⟨_, rfl⟩
              have HPO : Hid (Own1 all.length p) := by
                show Own1 _ _
                have := labP_own all.length x.p
                unfold labP at this
                rw [← HCC.out, ← HND.out, ← HSD.out] at this
                rw [hpp]
                exact this
              have e5 : p.blk = x.p.blk := by rw [hpp]
              have e6 : p.off = x.p.off := by rw [hpp]
              have e7 : p.dat = sdat := by rw [hpp]
              rw [← e5, ← e6, ← e7] at hO
              have HE5 := Lib.hid e5
              have HE6 := Lib.hid e6
              have HE7 := Lib.hid e7
              clear hpp e5 e6 e7
              have hd1 : ∀ d ∈ (⟨p, fl⟩ : It).deps, 0 ≤ d ∧ d < (E.next : Int) := by rw [hE]; exact HFL.out
              have hEl : E.l.length < 200 := by have := HB.out.len; omega
              have HGEN : Hid (∀ (w' : World) (gi : Nat), Own w' (engP e (E) :: pts gi (.cells (cellsI [(⟨p, fl⟩, .slice FA fl.length fc)]).toArray 33) :: owns 3 1 (.slice FA fl.length fc) fl.length (zs fl) :: pts gx (.cells #[.int .i64 p.blk, .int .i64 p.off, .string p.dat, .slice FA fl.length fc] 33) :: owns 30 3 (.slice AV all.length avc) all.length (cellsP all) :: depsP (.slice DV ds.length dvc) ds :: L) → Calls Try.prog 8 #[.pointer (some ⟨e, 0, none⟩), .slice (some ⟨gi, 0, none⟩) 1 1] w' (Ret w' (.tuple #[.int .i64 (E.addM [⟨p, fl⟩]).1.1, .int .i64 (E.addM [⟨p, fl⟩]).1.2]) (engP e ((E.addM [⟨p, fl⟩]).2) :: pts gi (.cells (cellsI [(⟨p, fl⟩, .slice FA fl.length fc)]).toArray 33) :: owns 3 1 (.slice FA fl.length fc) fl.length (zs fl) :: pts gx (.cells #[.int .i64 p.blk, .int .i64 p.off, .string p.dat, .slice FA fl.length fc] 33) :: owns 30 3 (.slice AV all.length avc) all.length (cellsP all) :: depsP (.slice DV ds.length dvc) ds :: L))) := Lib.hid fun w' gi h => by
                refine eadd_c w' _ e E (.slice (some ⟨gi, 0, none⟩) 1 1) 1 [(⟨p, fl⟩, .slice FA fl.length fc)] h HB.out.ok rfl (by decide) (fun w2 h2 => rd_items h2 (by show 1 ≤ 1000000; decide)) (fun y hy => ?_) (fun y hy => ?_) (fun y hy => ?_)
                · rw [List.mem_singleton.1 hy]
                  exact ⟨FA, fc, rfl, fun w2 h2 => owns_rd (own_order [1] h2 rfl)⟩
                · rw [List.mem_singleton.1 hy]
                  intro d hd
                  have := (HFL.out d hd).1
                  omega
                · rw [List.mem_singleton.1 hy]
                  show fl.length ≤ 1000000
                  omega
              rcases addM_one hd1 hEl with ⟨_, hA⟩ | ⟨hform, hA⟩
              · rw [hA] at HGEN
                clear hd1 hE hEl hA
                go_wp2_with (first | (refine own_loadrow (b := gx) (off := 0) (cs := #[.int .i64 p.blk, .int .i64 p.off, .string p.dat, .slice FA fl.length fc]) (t := 33) (vs := [.int .i64 p.blk, .int .i64 p.off, .string p.dat, .slice FA fl.length fc]) rfl rfl rfl row_item sz_item (own_get 1 hO rfl) (by show 4 ≤ 4; decide) rfl ?_) | (refine own_is1g (⟨p, fl⟩, .slice FA fl.length fc) rfl rfl rfl hO ?_; clear hO; intro gi u hO hSn; replace hS := hS.trans hSn; clear hSn; replace hO := own_order [5] hO rfl; simp only [List.eraseIdx_cons_succ, List.eraseIdx_zero, List.tail_cons] at hO; simp only [Act.put, List.setIfInBounds_toArray, List.set_cons_zero, List.set_cons_succ]) | (go_at_call 8; (with_reducible refine Calls.mono (HGEN.out _ gi hO) ?_); clear hO; rintro e u ⟨rfl, hO, hSn⟩; replace hS := hS.trans hSn; clear hSn))
                go_roundw
                case rel => exact ⟨k + 1, E, all, ds, _, _, by omega, by omega, rfl, rfl, by go_num, HB.out.mono (by omega), own_sub (own_order [4, 4, 0] hO rfl) (.cons_cons _ (.cons_cons _ (.cons_cons _ (.cons _ (.cons _ (.cons _ (List.Sublist.refl _))))))), hS⟩
                case measure => simp [intOf]; omega
              · have HBN : Hid (∀ dl : List Int, dl.length ≤ 100 → (∀ d ∈ dl, 0 ≤ d ∧ d < (all.length : Int)) → (∀ d ∈ dl, d ∈ fl ∨ ∃ (m : Nat) (p' : Pat), d = (m : Int) ∧ all[m]? = some p' ∧ overB p' p = true) → (∀ (m : Nat) (p' : Pat), all[m]? = some p' → overB p' p = true → (m : Int) ∈ dl) → Ck (k + 1) (E.add1 E.next ⟨p, fl⟩) (all ++ [p]) (ds ++ [dl])) := Lib.hid fun dl h1 h2 h3 h4 => HB.out.add hk14 HFL.out (by omega) h1 HPO.out hA hform h2 h3 h4
                have HFLE : Hid (fl.length ≤ 6) := by show _ ≤ _; omega
                rw [hA] at HGEN
                rw [hE] at HGEN HBN
                clear hd1 hEl hA hform
                go_upto_region 22 with (first | (refine own_loadrow (b := gx) (off := 0) (cs := #[.int .i64 p.blk, .int .i64 p.off, .string p.dat, .slice FA fl.length fc]) (t := 33) (vs := [.int .i64 p.blk, .int .i64 p.off, .string p.dat, .slice FA fl.length fc]) rfl rfl rfl row_item sz_item (own_get 1 hO rfl) (by show 4 ≤ 4; decide) rfl ?_) | (refine own_is1g (⟨p, fl⟩, .slice FA fl.length fc) rfl rfl rfl hO ?_; clear hO; intro gi u hO hSn; replace hS := hS.trans hSn; clear hSn; replace hO := own_order [5] hO rfl; simp only [List.eraseIdx_cons_succ, List.eraseIdx_zero, List.tail_cons] at hO; simp only [Act.put, List.setIfInBounds_toArray, List.set_cons_zero, List.set_cons_succ]) | (go_at_call 8; (with_reducible refine Calls.mono (HGEN.out _ gi hO) ?_); clear hO; rintro e u ⟨rfl, hO, hSn⟩; replace hS := hS.trans hSn; clear hSn))
                go_upto_region 23 with (first | (refine own_lit0 rfl rfl Try.underlying31 sz_intE hO ?_; clear hO; intro g0 u hO hSn; replace hS := hS.trans hSn; clear hSn) | (refine own_load1 (b := gx) (off := 3) (cs := #[.int .i64 p.blk, .int .i64 p.off, .string p.dat, .slice FA fl.length fc]) (t := 33) (v := .slice FA fl.length fc) rfl rfl rfl row_zs (own_get 4 hO rfl) rfl ?_) | (refine own_append (m := fl.length) (news := zs fl) rfl rfl rfl rfl Try.underlying31 info_z3 (by simp [Value.cells]) (by decide) hO (owns_rd (own_order [3] hO rfl)) (zs_one fl) ?_ ?_ ?_; (have := HFLE.out; simp only [maxLen]; omega); (have := HFLE.out; omega); clear hO; intro v' w9 hO hS9 hv'; replace hS := hS.trans hS9; clear hS9 hv'; rw [Nat.zero_add, List.nil_append] at hO))
                have hO := own_order [0, 3, 3, 3, 0, 0, 0] hO rfl
                go_wp2
                go_loopw [18, 19] (fun pv2 jv wr => ∃ (j : Nat) (ov : Value) (ol : List Int), j ≤ all.length ∧ ov = pv2 ∧ jv = .int .i64 j ∧ Hid (Dl all p fl j ol) ∧ Own wr (owns 3 1 ov (ol).length (zs (ol)) :: pts gx (.cells #[.int .i64 p.blk, .int .i64 p.off, .string p.dat, .slice FA fl.length fc] 33) :: owns 30 3 (.slice AV all.length avc) all.length (cellsP all) :: depsP (.slice DV ds.length dvc) ds :: engP e (E.add1 all.length ⟨p, fl⟩) :: pts gi (.cells (cellsI [(⟨p, fl⟩, .slice FA fl.length fc)]).toArray 33) :: owns 3 1 (.slice FA fl.length fc) fl.length (zs fl) :: L) ∧ Same w wr) (fun _ jv _ => all.length - (intOf jv).toNat)
                case atStart => exact ⟨0, _, fl, Nat.zero_le _, rfl, rfl, Dl.start all p fl, hO, hS⟩
                case round =>
                  clear hO hS
                  obtain ⟨j, ov, ol, hj2, hov, rfl, HDL, hO, hS⟩ := hrel
                  subst hov
                  have HOL : Hid (ol.length ≤ 20) := by have := HDL.out.len; have := HFLE.out; show _ ≤ _; omega
                  by_cases hlt4 : j < all.length
                  · obtain ⟨p0, hp0⟩ : ∃ y, all[j]? = some y := ⟨_, List.getElem?_eq_getElem hlt4⟩
                    obtain ⟨adv, hadv⟩ := (owns_rd (own_order [2] hO rfl)).addr (by rw [cellsP_length]; omega)
                    subst hadv
                    have hm5 : (j : Int) < all.length := by omega
                    obtain ⟨LX, hLX⟩ : ∃ LX : List HP, LX = (depsP (.slice DV ds.length dvc) ds :: engP e (E.add1 all.length ⟨p, fl⟩) :: pts gi (.cells (cellsI [(⟨p, fl⟩, .slice FA fl.length fc)]).toArray 33) :: owns 3 1 (.slice FA fl.length fc) fl.length (zs fl) :: L) := ⟨_, rfl⟩
                    rw [← hLX] at hO
                    have HPC : Hid (∀ w', Own w' (owns 3 1 ov ol.length (zs ol) :: pts gx (.cells #[.int .i64 p.blk, .int .i64 p.off, .string p.dat, .slice FA fl.length fc] 33) :: owns 30 3 (.slice (some adv) all.length avc) all.length (cellsP all) :: LX) → ∀ (i : Nat) (u : Value), (Pat.cells p0)[i]? = some u → w'.cell? ((adv.add (j * 3)).add i) = some u) := Lib.hid fun w' h => pats_cells (owns_rd (own_order [2] h rfl)) hp0
                    obtain ⟨r, hr⟩ : ∃ r, overB p0 p = r := ⟨_, rfl⟩
                    have HROV : Hid (∀ w' (L' : List HP), Own w' L' → Calls Try.prog 15 #[.agg #[.int .i64 p0.blk, .int .i64 p0.off, .string p0.dat], .agg #[.int .i64 p.blk, .int .i64 p.off, .string p.dat]] w' (Ret w' (.bool r) L')) := Lib.hid fun w' L' h => by
                      have h2 := rover_c w' L' p0.blk p0.off p.blk p.off p0.dat p.dat h
                      rw [← hr]
                      exact h2
                    have HPR := Lib.hid hr
                    have HP0 := Lib.hid hp0
                    clear hr hp0
                    go_upto_region 26 with fail
                    refine wp_region_seq (Cls _ (owns 3 1 ov ol.length (zs ol) :: pts gx (.cells #[.int .i64 p.blk, .int .i64 p.off, .string p.dat, .slice FA fl.length fc] 33) :: owns 30 3 (.slice (some adv) all.length avc) all.length (cellsP all) :: LX)) 7 275 mixed (by kernel_rfl) rfl (cls_drew hO) ?_
                    simp only [List.append_eq, List.cons_append, List.nil_append, List.take_succ_cons, List.take_zero]
                    repeat (first
                      | (apply wv_skip rfl; simp only [Act.put, List.setIfInBounds_toArray, List.set_cons_zero, List.set_cons_succ])
                      | (refine wv_loadrow_at (ad := adv.add (j * 3)) (vs := [.int .i64 p0.blk, .int .i64 p0.off, .string p0.dat]) rfl rfl rfl row_pat sz_pat rfl (fun w h => HPC.out w h.1) ?_; simp only [Act.put, List.setIfInBounds_toArray, List.set_cons_zero, List.set_cons_succ])
                      | (refine wv_loadrow (b := gx) (off := 0) (cs := #[.int .i64 p.blk, .int .i64 p.off, .string p.dat, .slice FA fl.length fc]) (t := 33) (vs := [.int .i64 p.blk, .int .i64 p.off, .string p.dat]) rfl rfl rfl row_pat sz_pat (fun w h => own_get 1 h.1 rfl) (by show 3 ≤ 4; decide) rfl ?_; simp only [Act.put, List.setIfInBounds_toArray, List.set_cons_zero, List.set_cons_succ])
                      | (apply wv_load1 rfl rfl rfl; (first | exact row_int | exact row_str | exact row_bool | exact row_u8 | exact row_bys | exact row_pats | exact row_err); (intro w h; (first | exact own_get 0 h.1 rfl | exact own_get 1 h.1 rfl | exact own_get 2 h.1 rfl | exact own_get 3 h.1 rfl | exact own_get 4 h.1 rfl | exact own_get 5 h.1 rfl | exact own_get 6 h.1 rfl | exact own_get 7 h.1 rfl)); (first | (simp only [List.getElem?_toArray, List.getElem?_cons_succ, List.getElem?_cons_zero]; rfl) | rfl); simp only [Act.put, List.setIfInBounds_toArray, List.set_cons_zero, List.set_cons_succ])
                      | (apply wv_loadrow rfl rfl rfl; (first | exact row_pat); exact sz_pat; (intro w h; (first | exact own_get 0 h.1 rfl | exact own_get 1 h.1 rfl | exact own_get 2 h.1 rfl | exact own_get 3 h.1 rfl | exact own_get 4 h.1 rfl | exact own_get 5 h.1 rfl | exact own_get 6 h.1 rfl | exact own_get 7 h.1 rfl)); (focus (simp; done)); (first | (simp only [List.drop_zero, List.drop_succ_cons, List.take_succ_cons, List.take_zero]; rfl) | rfl); simp only [Act.put, List.setIfInBounds_toArray, List.set_cons_zero, List.set_cons_succ])
                      | (apply wv_run rfl; (focus (intro w h; go_simp; first | done | rfl)); simp only [Act.put, List.setIfInBounds_toArray, List.set_cons_zero, List.set_cons_succ])
                      | (apply wv_call rfl; (focus (intro w; go_simp; first | done | exact ⟨rfl, rfl⟩)); (focus (intro w h; apply cls_call h; (exact HROV.out _ _ h.1))); simp only [Act.put, List.setIfInBounds_toArray, List.set_cons_zero, List.set_cons_succ]))
                    refine wv_nil ?_
                    simp only [List.drop_succ_cons, List.drop_zero]
                    intro w5 ⟨hO5, hS5⟩
                    clear hO
                    replace hS := hS.trans hS5
                    clear hS5
                    cases r with
                    | true =>
                      have HDN := Lib.hid (HDL.out.yes HP0.out HPR.out)
                      go_wp2_with (first | (refine own_append (m := 1) (n := ol.length) (xs := zs ol) (news := [.int .i64 (j : Int)]) rfl rfl rfl rfl Try.underlying31 info_z3 rfl (by decide) (own_perm (own_alloc_new hO5 (.cells #[.int .i64 (j : Int)] 3)) (List.Perm.swap _ _ _)) ?_ (by intro u hu; rw [List.mem_singleton.1 hu]; rfl) ?_ ?_ ?_; (exact rd_block (own_get 1 (own_perm (own_alloc_new hO5 (.cells #[.int .i64 (j : Int)] 3)) (List.Perm.swap _ _ _)) rfl) rfl (by simp) (by simp) (by simp)); (have := HOL.out; simp only [maxLen]; omega); (have := HOL.out; omega); intro v' w9 hO hS9 hv'))
                      go_roundw
                      case rel => exact ⟨j + 1, v', ol ++ [(j : Int)], by omega, rfl, by go_num, HDN, by rw [← hLX]; exact own_fl hO, hS.trans ((Same.alloc _ _).trans hS9)⟩
                      case measure => simp [intOf]; omega
                    | false =>
                      have HDN := Lib.hid (HDL.out.no HP0.out HPR.out)
                      go_wp2
                      go_roundw
                      case rel => exact ⟨j + 1, ov, ol, by omega, rfl, by go_num, HDN, by rw [← hLX]; exact hO5, hS⟩
                      case measure => simp [intOf]; omega
                  · have hje3 : j = all.length := by omega
                    subst hje3
                    obtain ⟨OA, oc, hov⟩ := (owns_rd hO).slice
                    subst hov
                    have HB1 : Hid (Ck (k + 1) (E.add1 all.length ⟨p, fl⟩) (all ++ [p]) (ds ++ [ol])) := Lib.hid (HBN.out ol (by have := HOL.out; omega) (HDL.out.range HFL.out) HDL.out.of (fun m p' hm ho => HDL.out.all m p' (List.getElem?_eq_some_iff.1 hm).1 hm ho))
                    have HV1 : Hid (Vl k (E.add1 all.length ⟨p, fl⟩)) := HB.out.vl
                    have hdsl : ds.length ≤ 14 := by have := HB.out.cl.len; omega
                    obtain ⟨vs, g, hdo, hO⟩ := deps_open.1 (own_order [3] hO rfl)
                    have HDO := Lib.hid hdo
                    have hO := own_order [4] hO rfl
                    simp only [List.eraseIdx_cons_succ, List.eraseIdx_zero, List.tail_cons] at hO
                    clear hdo
                    go_upto_region 29 with (first | (refine own_loadrow (b := gx) (off := 0) (cs := #[.int .i64 p.blk, .int .i64 p.off, .string p.dat, .slice FA fl.length fc]) (t := 33) (vs := [.int .i64 p.blk, .int .i64 p.off, .string p.dat]) rfl rfl rfl row_pat sz_pat (own_get 4 hO rfl) (by show 3 ≤ 4; decide) rfl ?_) | (refine own_append (m := 1) (n := all.length) (xs := cellsP all) (news := [.int .i64 p.blk, .int .i64 p.off, .string p.dat]) rfl rfl rfl rfl Try.underlying44 info_patE rfl (by decide) (own_perm (own_alloc_new hO (.cells #[.int .i64 p.blk, .int .i64 p.off, .string p.dat] 30)) (List.Perm.swap _ _ _)) ?_ (pat_one p) ?_ ?_ ?_; (exact rd_block (own_get 1 (own_perm (own_alloc_new hO (.cells #[.int .i64 p.blk, .int .i64 p.off, .string p.dat] 30)) (List.Perm.swap _ _ _)) rfl) rfl (by simp) (by simp) (by simp)); (have := hall; unfold maxLen; omega); (have := hall; omega); clear hO; intro va wa hO hSa hva; replace hS := hS.trans ((Same.alloc _ _).trans hSa); clear hSa hva; replace hO := own_order [2] hO rfl; simp only [List.eraseIdx_cons_succ, List.eraseIdx_zero, List.tail_cons] at hO) | (refine own_append (m := 1) (n := ds.length) (xs := vs) (news := [.slice OA ol.length oc]) rfl rfl rfl rfl Try.underlying28 info_zs3 rfl (by decide) (own_perm (own_alloc_new hO (.cells #[.slice OA ol.length oc] 31)) (List.Perm.swap _ _ _)) ?_ (by intro u hu; rw [List.mem_singleton.1 hu]; rfl) ?_ ?_ ?_; (exact rd_block (own_get 1 (own_perm (own_alloc_new hO (.cells #[.slice OA ol.length oc] 31)) (List.Perm.swap _ _ _)) rfl) rfl (by simp) (by simp) (by simp)); (have := hdsl; unfold maxLen; omega); (have := hdsl; omega); clear hO; intro v' w9 hO hS9 hv'))
                    replace hS := hS.trans ((Same.alloc _ _).trans hS9)
                    clear hS9 hv'
                    have hO := deps_more HDO.out (own_order [0, 4, 3] hO rfl)
                    have hO := own_order [2, 0, 3] hO rfl
                    have hO := cellsP_more (own_sub hO (.cons_cons _ (.cons_cons _ (.cons_cons _ (.cons _ (.cons _ (.cons _ (.cons _ (.cons _ (List.Sublist.refl _))))))))))
                    obtain ⟨E1, hE1⟩ : ∃ E1, E1 = E.add1 all.length ⟨p, fl⟩ := ⟨_, rfl⟩
                    obtain ⟨all1, hall1⟩ : ∃ all1, all1 = all ++ [p] := ⟨_, rfl⟩
                    obtain ⟨ds1, hds1⟩ : ∃ ds1, ds1 = ds ++ [ol] := ⟨_, rfl⟩
                    rw [← hE1, ← hall1, ← hds1] at hO HB1
                    rw [← hE1] at HV1
                    clear hE1 hall1 hds1
                    by_cases hwr : k < ws.length
                    · obtain ⟨y, hy⟩ : ∃ y, ws[k]? = some y := ⟨_, List.getElem?_eq_getElem hwr⟩
                      have hL3 := own_drop (own_drop (own_drop hO))
                      obtain ⟨ad3, e3⟩ := (HW.out _ hL3).addr (by rw [bcs_length]; omega)
                      subst e3
                      have HCB : Hid (∀ w', Own w' L → w'.cell? (ad3.add k) = some (.int .u8 (y.toNat : Int))) := Lib.hid fun w' h => bcs_cell1 (HW.out w' h) hy
                      have hn1 : (k : Int) < ws.length := by omega
                      have hyb : (y.toNat : Int) ≤ 255 := by have := y.toNat_lt; omega
                      obtain ⟨q, hq⟩ : ∃ q, q = y.toNat % 5 := ⟨_, rfl⟩
                      have hq5 : q < 5 := by omega
                      have hK : (y.toNat : Int).tmod 5 = (q : Int) := by rw [Int.tmod_eq_emod_of_nonneg (by omega), hq]; rfl
                      obtain ⟨F2, hF2⟩ : ∃ F2, F2 = (E1.writeM q).2 := ⟨_, rfl⟩
                      have HWK2 : Hid (Ck (k + 1) F2 all1 ds1) := Lib.hid (by rw [hF2]; exact HB1.out.write (by rw [Nat.add_sub_cancel]; exact HV1.out) (by omega) q)
                      have HWR : Hid (∀ (w' : World) (L' : List HP), Own w' (engP e E1 :: L') → Calls Try.prog 9 #[.pointer (some ⟨e, 0, none⟩), .int .i64 q] w' (Ret w' (.tuple #[.int .i64 (E1.writeM q).1.1, .int .i64 (E1.writeM q).1.2]) (engP e F2 :: L'))) := Lib.hid fun w' L' h => by rw [hF2]; exact ewrite_c w' L' e E1 q h HB1.out.ok (by rw [HB1.out.m5]; omega) (fun b hb => by have := HB1.out.vl b hb; omega)
                      clear hy hL3 hq hF2
                      go_upto_region 31 with (first | (refine own_load1_at (ad := ad3.add k) (v := .int .u8 (y.toNat : Int)) rfl rfl rfl row_u8 (HCB.out _ (own_drop (own_drop (own_drop hO)))) ?_) | (go_at_call 9; (with_reducible refine Calls.mono (call_at 2 (fun L' h => HWR.out _ L' h) rfl hO) ?_); clear hO; rintro e u ⟨rfl, hO, hSn⟩; replace hS := hS.trans hSn; clear hSn; simp only [List.set_cons_zero, List.set_cons_succ] at hO))
                      obtain ⟨r3, hr3⟩ : ∃ r3, (y.toNat : Int).tmod 7 = r3 := ⟨_, rfl⟩
                      by_cases h30 : r3 = 0
                      · subst h30
                        have HWK3 : Hid (Ck (k + 1) F2.flushed all1 ds1) := Lib.hid HWK2.out.flushed
                        have HFL2 : Hid (∀ (w' : World) (L' : List HP), Own w' (engP e F2 :: L') → Calls Try.prog 10 #[.pointer (some ⟨e, 0, none⟩)] w' (Ret w' (.int .i64 0) (engP e F2.flushed :: L'))) := Lib.hid fun w' L' h => eflush_c w' L' e F2 h HWK2.out.ok (fun b hb => by have := HWK2.out.vl b hb; omega)
                        go_wp2_with (first | (refine own_load1_at (ad := ad3.add k) (v := .int .u8 (y.toNat : Int)) rfl rfl rfl row_u8 (HCB.out _ (own_drop (own_drop (own_drop hO)))) ?_) | (go_at_call 10; (with_reducible refine Calls.mono (call_at 2 (fun L' h => HFL2.out _ L' h) rfl hO) ?_); clear hO; rintro e u ⟨rfl, hO, hSn⟩; replace hS := hS.trans hSn; clear hSn; simp only [List.set_cons_zero, List.set_cons_succ] at hO))
                        go_roundw
                        case rel => exact ⟨k + 1, F2.flushed, all1, ds1, va, v', by omega, by omega, rfl, rfl, by go_num, HWK3, hO, hS⟩
                        case measure => simp [intOf]; omega
                      · have h31 : (r3 == 0) = false := by simpa using h30
                        go_wp2_with (first | (refine own_load1_at (ad := ad3.add k) (v := .int .u8 (y.toNat : Int)) rfl rfl rfl row_u8 (HCB.out _ (own_drop (own_drop (own_drop hO)))) ?_))
                        go_roundw
                        case rel => exact ⟨k + 1, F2, all1, ds1, va, v', by omega, by omega, rfl, rfl, by go_num, HWK2, hO, hS⟩
                        case measure => simp [intOf]; omega
                    · have hn1 : ¬ ((k : Int) < ws.length) := by omega
                      go_wp2
                      go_roundw
                      case rel => exact ⟨k + 1, E1, all1, ds1, va, v', by omega, by omega, rfl, rfl, by go_num, HB1, hO, hS⟩
                      case measure => simp [intOf]; omega
      · have hex : k = is.length ∨ (k < is.length ∧ k = 14) := by omega
        rcases hex with hke | ⟨hke1, hke2⟩
        · subst hke
          go_wp2
          go_meet
          exact ⟨E, all, ds, _, _, rfl, rfl, HB.out.mono hk14, hO, hS⟩
        · have hk6 : ¬ ((k : Int) < 14) := by omega
          have hk7 : (k : Int) < is.length := by omega
          clear hke1 hke2
          go_wp2
          go_meet
          exact ⟨E, all, ds, _, _, rfl, rfl, HB.out.mono hk14, hO, hS⟩
end
end Go.Proofs.Ytlmkcnkidkoilaa.H
