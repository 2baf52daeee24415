/- DiskVersions: the walk. -/
import Derived.Test.YtjilkbkafigloaaZ12
set_option linter.unusedVariables false
set_option linter.unusedSimpArgs false
set_option maxRecDepth 100000
namespace Go.Proofs.Ytjilkbkafigloaa.H
open Go.RowKit
theorem sec_head {c : UInt8} : (bcs (sec c)).toArray[0]? = some (.int .u8 (c.toNat : Int)) := rfl
theorem u8_lt (c : UInt8) : (c.toNat : Int) < 256 := by have := c.toNat_lt; omega
set_option maxHeartbeats 6400000 in
theorem versions_law (w : World) (A0 : Option Addr) (n0 c0 : Nat) (ds : List DDeed) (h : ArgX w A0 n0 c0 ds) (A1 : Option Addr) (n1 c1 : Nat) (es : List DDeed) (h1 : ArgX w A1 n1 c1 es) (A2 : Option Addr) (n2 c2 : Nat) (pl : List Int) (hl2 : n2 = pl.length) (hr2 : Rd w 1 (.slice A2 n2 c2) n2 (pl.map encZ)) :
    Calls Try.prog 5 #[.slice A0 n0 c0, .slice A1 n1 c1, .slice A2 n2 c2] w (fun e w' => e = .returned (.bool true) ∧ Below w.heap.size w w') := by
  have hl1 := h1.hl1
  subst hl1 hl2
  have HA := Lib.hid h
  have HA1 := Lib.hid h1
  have HR2 : Hid (∀ w' L, Own w' (snap w :: L) → Rd w' 1 (.slice A2 pl.length c2) pl.length (pl.map encZ)) := Lib.hid fun w' L hO => rd_snapD hr2 hO
  have hO : Own w [snap w] := own_snap
  have hS := Same.refl w
  have hmx1 := h1.rd1.max
  clear h h1 hr2
  go_enter Try.func5, Try.ntmps5
  go_upto_region 4 with (first | (go_at_call 16; (with_reducible refine Calls.mono (play_ds _ _ 5 (by decide) _ _ _ ds HA.out _ hO) ?_); clear hO; rintro e u ⟨d, q, m, hm, hl, hu, rfl, hO, hSn⟩; replace hS := hS.trans hSn; clear hSn; have HM : Hid (m.length = 6 ∧ Lim 60 m ∧ Uni m) := ⟨hm, hl, hu⟩; clear hm hl hu) | (go_at_call 13; (with_reducible refine Calls.mono (live4_c _ _ hO) ?_); clear hO; rintro e u ⟨rfl, hO, hSn⟩; replace hS := hS.trans hSn; clear hSn))
  obtain ⟨mf, hmf⟩ : ∃ mf, mf = crashL allV 0 m := ⟨_, rfl⟩
  have HF : Hid (∀ (w : World) (L : List HP), Own w (diskP d m :: L) → Calls Try.prog 17 #[.pointer (some ⟨d, 0, none⟩)] w (Ret w (.int .i64 0) (diskP d mf :: L))) := Lib.hid fun w L h => by rw [hmf]; exact flush_c w L d m h (by have := HM.out.1; omega) (fun b hb => Nat.le_trans (HM.out.2.1 b hb) (by decide))
  have HMF : Hid (mf.length = 6 ∧ Uni mf ∧ ∀ (i : Nat) (b : Blk), mf[i]? = some b → b.vs = []) := by
    show _ ∧ _
    rw [hmf]
    refine ⟨by rw [crashL_len]; exact HM.out.1, (gd_crash allV m).uni HM.out.2.2, fun i b hb => ?_⟩
    obtain ⟨_, _, h2, _⟩ := crashL_at allV m 0 i b hb
    exact h2
  clear hmf
  go_wp2_with (first | (go_at_call 17; (with_reducible refine Calls.mono (call_at 0 (fun L' h => HF.out _ L' h) rfl hO) ?_); clear hO; rintro e u ⟨rfl, hO, hSn⟩; replace hS := hS.trans hSn; clear hSn; simp only [List.set_cons_zero, List.set_cons_succ] at hO) | (refine own_alloc (T := 45) rfl rfl zero_may mayC_zero hO ?_; clear hO; intro gm u hO hSn; replace hS := hS.trans hSn; clear hSn))
  go_loopw [11] (fun iv wr => ∃ (i : Nat) (f : Nat → Bool), i ≤ 6 ∧ iv = .int .i64 i ∧ Cov f i mf ∧ Own wr (pts gm (.cells (mayC f).toArray 45) :: diskP d mf :: rdiskP q m :: [snap w]) ∧ Same w wr) (fun iv _ => 6 - (intOf iv).toNat)
  case atStart => exact ⟨0, _, Nat.zero_le _, rfl, cov_zero, hO, hS⟩
  case round =>
    clear hO hS
    obtain ⟨i, f, hi, rfl, hcov, hO, hS⟩ := hrel
    have HCOV := Lib.hid hcov
    clear hcov
    by_cases hlt : i < 6
    · have hi1 : (i : Int) < 6 := by omega
      obtain ⟨b, hb⟩ : ∃ b, mf[i]? = some b := ⟨_, List.getElem?_eq_getElem (by have := HMF.out.1; omega)⟩
      obtain ⟨⟨c, hc⟩, _⟩ := HMF.out.2.1 b (List.mem_of_getElem? hb)
      have HL : Hid (∀ (w : World) (L : List HP), Own w (diskP d mf :: L) → Calls Try.prog 18 #[.pointer (some ⟨d, 0, none⟩), .int .i64 (i : Int)] w (Ret w (.tuple #[secV (sec c), .int .i64 0]) (diskP d mf :: L))) := Lib.hid fun w L h => by rw [← hc]; exact lasting_ok w L d mf i b h hb
      have HNX := Lib.hid (cov_next HCOV.out hb hc (HMF.out.2.2 i b hb))
      have hc256 := u8_lt c
      have hc0 : ¬ ((c.toNat : Int) < 0) := by omega
      have HSZ : Hid (i * 256 + c.toNat < (mayC f).toArray.size) := by show _ < _; rw [List.size_toArray, mayC_len]; omega
      clear hb hc
      go_upto_region 10 with (first | (go_at_call 18; (with_reducible refine Calls.mono (call_at 1 (fun L' h => HL.out _ L' h) rfl hO) ?_); clear hO; rintro e u ⟨rfl, hO, hSn⟩; replace hS := hS.trans hSn; clear hSn; simp only [List.set_cons_zero, List.set_cons_succ] at hO) | (refine own_alloc (T := 26) rfl rfl zero_sec rfl hO ?_; clear hO; intro g1 u hO hSn; replace hS := hS.trans hSn; clear hSn) | (refine own_store_all (k := 0) rfl rfl rfl rfl sz_sec hO rfl (secA_size (by simp)) (by rfl) (bcs_all _) ?_; clear hO; intro u hO hSn; replace hS := hS.trans hSn; clear hSn; simp only [List.set_cons_zero, List.set_cons_succ] at hO))
      refine wp_region_seq (Cls _ (_)) 5 123 mixed (by kernel_rfl) rfl (cls_drew hO) ?_
      simp only [List.append_eq, List.cons_append, List.nil_append, List.take_succ_cons, List.take_zero]
      repeat (first
        | (apply wv_skip rfl; simp only [Act.put, List.setIfInBounds_toArray, List.set_cons_zero, List.set_cons_succ])
        | (refine wv_load1 (b := g1) (off := 0) (cs := (bcs (sec c)).toArray) (t := 26) (v := .int .u8 (c.toNat : Int)) rfl rfl rfl row_u8D (fun w h => own_get 0 h.1 rfl) sec_head ?_; simp only [Act.put, List.setIfInBounds_toArray, List.set_cons_zero, List.set_cons_succ])
        | (apply wv_load1 rfl rfl rfl; (first | exact row_int | exact row_str | exact row_bool | exact row_u8 | exact row_bys | exact row_pats | exact row_err); (intro w h; (first | exact own_get 0 h.1 rfl | exact own_get 1 h.1 rfl | exact own_get 2 h.1 rfl | exact own_get 3 h.1 rfl | exact own_get 4 h.1 rfl | exact own_get 5 h.1 rfl | exact own_get 6 h.1 rfl | exact own_get 7 h.1 rfl)); (first | (simp only [List.getElem?_toArray, List.getElem?_cons_succ, List.getElem?_cons_zero]; rfl) | rfl); simp only [Act.put, List.setIfInBounds_toArray, List.set_cons_zero, List.set_cons_succ])
        | (apply wv_loadrow rfl rfl rfl; (first | exact row_pat); exact sz_pat; (intro w h; (first | exact own_get 0 h.1 rfl | exact own_get 1 h.1 rfl | exact own_get 2 h.1 rfl | exact own_get 3 h.1 rfl | exact own_get 4 h.1 rfl | exact own_get 5 h.1 rfl | exact own_get 6 h.1 rfl | exact own_get 7 h.1 rfl)); (focus (simp; done)); (first | (simp only [List.drop_zero, List.drop_succ_cons, List.take_succ_cons, List.take_zero]; rfl) | rfl); simp only [Act.put, List.setIfInBounds_toArray, List.set_cons_zero, List.set_cons_succ])
        | (apply wv_run rfl; (focus (intro w h; go_simp; first | done | rfl)); simp only [Act.put, List.setIfInBounds_toArray, List.set_cons_zero, List.set_cons_succ])
        | (apply wv_call rfl; (focus (intro w; go_simp; first | done | exact ⟨rfl, rfl⟩)); (focus (intro w h; apply cls_call h; fail)); simp only [Act.put, List.setIfInBounds_toArray, List.set_cons_zero, List.set_cons_succ]))
      refine wv_nil ?_
      simp only [List.drop_succ_cons, List.drop_zero]
      intro w10 ⟨hO10, hS10⟩
      replace hS := hS.trans hS10
      clear hO hS10
      refine own_store1 (k := 1) (b := gm) (off := i * 256 + c.toNat) (v := .bool true) rfl rfl rfl rfl sz_boolD hO10 rfl rfl HSZ.out (mayC_set f _) ?_
      intro w11 hO hS11
      replace hS := hS.trans hS11
      clear hO10 hS11
      refine wpList_nil ?_
      simp only [Act.put, List.setIfInBounds_toArray, List.set_cons_zero, List.set_cons_succ]
      try simp only [Exit.then]
      have hO := own_drop hO
      go_wp2
      go_roundw
      case rel => exact ⟨i + 1, _, by omega, by go_num, HNX.out, hO, hS⟩
      case measure => simp [intOf]; omega
    · have hie : i = 6 := by omega
      subst hie
      go_wp2
      go_loopw [14] (fun kv wr => ∃ (k : Nat) (f : Nat → Bool) (mk : List Blk), k ≤ es.length ∧ k ≤ 40 ∧ kv = .int .i64 k ∧ mk.length = 6 ∧ Lim k mk ∧ Uni mk ∧ Cov f 6 mk ∧ Own wr (pts gm (.cells (mayC f).toArray 45) :: diskP d mk :: rdiskP q m :: [snap w]) ∧ Same w wr) (fun kv _ => es.length - (intOf kv).toNat)
      case atStart => exact ⟨0, f, mf, Nat.zero_le _, Nat.zero_le _, rfl, HMF.out.1, fun b hb => by obtain ⟨j, hj⟩ := List.getElem?_of_mem hb; rw [HMF.out.2.2 j b hj]; exact Nat.le_refl _, HMF.out.2.1, HCOV.out, hO, hS⟩
      case round =>
        clear hO hS HCOV
        obtain ⟨k, f, mk, hk, hk40, rfl, hm6, hml, hmu, hcov, hO, hS⟩ := hrel
        have HK : Hid (mk.length = 6 ∧ Lim k mk ∧ Uni mk ∧ Cov f 6 mk) := ⟨hm6, hml, hmu, hcov⟩
        clear hm6 hml hmu hcov
        by_cases hgo : k < es.length ∧ k < 40
        · obtain ⟨hlt, h40⟩ := hgo
          have f1 : decide (k < 40) = true := by simpa using h40
          have f2 : (k : Int) < 40 := by omega
          have f3 : (k : Int) < es.length := by omega
          obtain ⟨x, hx⟩ : ∃ x, es[k]? = some x := ⟨_, List.getElem?_eq_getElem hlt⟩
          have hr1 : ∀ w' L, Own w' (snap w :: L) → Rd w' 5 (.slice A1 es.length c1) es.length (cellsX es) := fun w' L h => rd_snapD HA1.out.rd1 h
          obtain ⟨ad, rfl⟩ := (hr1 _ _ (own_at hO (k := 3) rfl)).addr (by rw [cellsX_length]; omega)
          have HC : Hid (∀ w' L, Own w' (snap w :: L) → ∀ (j : Nat) (u : Value), x.cells[j]? = some u → w'.cell? ((ad.add (k * 5)).add j) = some u) := Lib.hid fun w' L h => ddeed_cells (hr1 _ _ h) hx
          have HXI : Hid (∀ L w', Own w' (snap w :: L) → w'.cell? ((ad.add (k * 5)).add 1) = some (.int .i64 x.i)) := Lib.hid fun L w' h => HC.out w' L h 1 _ rfl
          have HXC : Hid (∀ L w', Own w' (snap w :: L) → w'.cell? ((ad.add (k * 5)).add 2) = some (.int .u8 (x.c.toNat : Int))) := Lib.hid fun L w' h => HC.out w' L h 2 _ rfl
          have HSN : Hid (∀ (A B C : HP) (L : List HP) w', Own w' (A :: B :: C :: snap w :: L) → ∃ L', Own w' (snap w :: L')) := Lib.hid fun A B C L w' h => ⟨_, own_at h (k := 3) rfl⟩
          clear hx hr1
          go_upto_region 14 with fail
          rcases dcases mk x.i with ⟨j, b, hj, hb⟩ | hno
          · cases hbad : b.bad with
            | true =>
              have HW : Hid (∀ (w : World) (L : List HP), Own w (diskP d mk :: L) → Calls Try.prog 19 #[.pointer (some ⟨d, 0, none⟩), .int .i64 x.i, secV (sec x.c)] w (Ret w (.int .i64 10) (diskP d mk :: L))) := Lib.hid fun w L h => by rw [hj]; exact write_bad w L d mk j b _ h hb hbad
              clear hj hb hbad
              refine wp_region_seq (Cls _ (_)) 12 123 mixed (by kernel_rfl) rfl (cls_drew hO) ?_
              simp only [List.append_eq, List.cons_append, List.nil_append, List.take_succ_cons, List.take_zero]
              repeat (first
                | (apply wv_skip rfl; simp only [Act.put, List.setIfInBounds_toArray, List.set_cons_zero, List.set_cons_succ])
                | (refine wv_load1_at (ad := (ad.add (k * 5)).add 1) (v := .int .i64 x.i) rfl rfl rfl row_int (fun w h => by obtain ⟨L', h'⟩ := HSN.out _ _ _ _ _ h.1; exact HXI.out _ _ h') ?_; simp only [Act.put, List.setIfInBounds_toArray, List.set_cons_zero, List.set_cons_succ])
                | (refine wv_load1_at (ad := (ad.add (k * 5)).add 2) (v := .int .u8 (x.c.toNat : Int)) rfl rfl rfl row_u8D (fun w h => by obtain ⟨L', h'⟩ := HSN.out _ _ _ _ _ h.1; exact HXC.out _ _ h') ?_; simp only [Act.put, List.setIfInBounds_toArray, List.set_cons_zero, List.set_cons_succ])
                | (apply wv_load1 rfl rfl rfl; (first | exact row_int | exact row_str | exact row_bool | exact row_u8 | exact row_bys | exact row_pats | exact row_err); (intro w h; (first | exact own_get 0 h.1 rfl | exact own_get 1 h.1 rfl | exact own_get 2 h.1 rfl | exact own_get 3 h.1 rfl | exact own_get 4 h.1 rfl | exact own_get 5 h.1 rfl | exact own_get 6 h.1 rfl | exact own_get 7 h.1 rfl)); (first | (simp only [List.getElem?_toArray, List.getElem?_cons_succ, List.getElem?_cons_zero]; rfl) | rfl); simp only [Act.put, List.setIfInBounds_toArray, List.set_cons_zero, List.set_cons_succ])
                | (apply wv_loadrow rfl rfl rfl; (first | exact row_pat); exact sz_pat; (intro w h; (first | exact own_get 0 h.1 rfl | exact own_get 1 h.1 rfl | exact own_get 2 h.1 rfl | exact own_get 3 h.1 rfl | exact own_get 4 h.1 rfl | exact own_get 5 h.1 rfl | exact own_get 6 h.1 rfl | exact own_get 7 h.1 rfl)); (focus (simp; done)); (first | (simp only [List.drop_zero, List.drop_succ_cons, List.take_succ_cons, List.take_zero]; rfl) | rfl); simp only [Act.put, List.setIfInBounds_toArray, List.set_cons_zero, List.set_cons_succ])
                | (apply wv_run rfl; (focus (intro w h; go_simp; first | done | rfl)); simp only [Act.put, List.setIfInBounds_toArray, List.set_cons_zero, List.set_cons_succ])
                | (apply wv_call rfl; (focus (intro w; go_simp; first | done | exact ⟨rfl, rfl⟩)); (focus (intro w h; apply cls_call h; (first | exact sector_c _ _ x.c h.1))); simp only [Act.put, List.setIfInBounds_toArray, List.set_cons_zero, List.set_cons_succ]))
              refine wv_nil ?_
              simp only [List.drop_succ_cons, List.drop_zero]
              intro w10 ⟨hO10, hS10⟩
              replace hS := hS.trans hS10
              clear hO hS10
              refine ev_call rfl (by go_simp; first | done | exact ⟨rfl, rfl⟩) ?_
              refine Calls.mono (call_at 1 (fun L' h => HW.out _ L' h) rfl hO10) ?_
              rintro e2 w11 ⟨rfl, hO, hS11⟩
              refine ⟨_, rfl, ?_⟩
              replace hS := hS.trans hS11
              clear hO10 hS11
              simp only [List.set_cons_zero, List.set_cons_succ] at hO
              simp only [Act.put, List.setIfInBounds_toArray, List.set_cons_zero, List.set_cons_succ]
              refine ev rfl (by go_simp; first | done | exact ⟨rfl, rfl⟩ | rfl) (wpList_nil ?_)
              simp only [Act.put, List.setIfInBounds_toArray, List.set_cons_zero, List.set_cons_succ]
              try simp only [Exit.then]
              go_wp2
              go_roundw
              case rel => exact ⟨k + 1, f, mk, by omega, by omega, by go_num, HK.out.1, fun b hb => Nat.le_succ_of_le (HK.out.2.1 b hb), HK.out.2.2.1, HK.out.2.2.2, hO, hS⟩
              case measure => simp [intOf]; omega
            | false =>
              obtain ⟨mk2, hmk2⟩ : ∃ mk2, mk2 = mk.set j (b.wr (sec x.c)) := ⟨_, rfl⟩
              have hj6 : j < 6 := by have := (List.getElem?_eq_some_iff.1 hb).1; have := HK.out.1; omega
              have HW : Hid (∀ (w : World) (L : List HP), Own w (diskP d mk :: L) → Calls Try.prog 19 #[.pointer (some ⟨d, 0, none⟩), .int .i64 x.i, secV (sec x.c)] w (Ret w (.int .i64 0) (diskP d mk2 :: L))) := Lib.hid fun w L h => by rw [hj, hmk2]; exact write_ok w L d mk j b _ h hb hbad (by simp) (Nat.le_trans (HK.out.2.1 b (List.mem_of_getElem? hb)) (by omega))
              have HK2 : Hid (mk2.length = 6 ∧ Lim (k + 1) mk2 ∧ Uni mk2 ∧ Cov (fun s => f s || decide (s = j * 256 + x.c.toNat)) 6 mk2) := by
                show _ ∧ _
                rw [hmk2]
                have hg := gd_write hb x.c
                exact ⟨by rw [hg.len]; exact HK.out.1, hg.lim k HK.out.2.1, hg.uni HK.out.2.2.1, cov_write HK.out.2.2.2 hb hj6 x.c⟩
              have hji : (j : Int) < 6 := by omega
              have hc256 := u8_lt x.c
              have hc0 : ¬ ((x.c.toNat : Int) < 0) := by omega
              have HSZ : Hid (j * 256 + x.c.toNat < (mayC f).toArray.size) := by show _ < _; rw [List.size_toArray, mayC_len]; omega
              clear hb hbad hmk2
              rw [hj] at HXI HW
              clear hj
              refine wp_region_seq (Cls _ (_)) 12 123 mixed (by kernel_rfl) rfl (cls_drew hO) ?_
              simp only [List.append_eq, List.cons_append, List.nil_append, List.take_succ_cons, List.take_zero]
              repeat (first
                | (apply wv_skip rfl; simp only [Act.put, List.setIfInBounds_toArray, List.set_cons_zero, List.set_cons_succ])
                | (refine wv_load1_at (ad := (ad.add (k * 5)).add 1) (v := .int .i64 (j : Int)) rfl rfl rfl row_int (fun w h => by obtain ⟨L', h'⟩ := HSN.out _ _ _ _ _ h.1; exact HXI.out _ _ h') ?_; simp only [Act.put, List.setIfInBounds_toArray, List.set_cons_zero, List.set_cons_succ])
                | (refine wv_load1_at (ad := (ad.add (k * 5)).add 2) (v := .int .u8 (x.c.toNat : Int)) rfl rfl rfl row_u8D (fun w h => by obtain ⟨L', h'⟩ := HSN.out _ _ _ _ _ h.1; exact HXC.out _ _ h') ?_; simp only [Act.put, List.setIfInBounds_toArray, List.set_cons_zero, List.set_cons_succ])
                | (apply wv_load1 rfl rfl rfl; (first | exact row_int | exact row_str | exact row_bool | exact row_u8 | exact row_bys | exact row_pats | exact row_err); (intro w h; (first | exact own_get 0 h.1 rfl | exact own_get 1 h.1 rfl | exact own_get 2 h.1 rfl | exact own_get 3 h.1 rfl | exact own_get 4 h.1 rfl | exact own_get 5 h.1 rfl | exact own_get 6 h.1 rfl | exact own_get 7 h.1 rfl)); (first | (simp only [List.getElem?_toArray, List.getElem?_cons_succ, List.getElem?_cons_zero]; rfl) | rfl); simp only [Act.put, List.setIfInBounds_toArray, List.set_cons_zero, List.set_cons_succ])
                | (apply wv_loadrow rfl rfl rfl; (first | exact row_pat); exact sz_pat; (intro w h; (first | exact own_get 0 h.1 rfl | exact own_get 1 h.1 rfl | exact own_get 2 h.1 rfl | exact own_get 3 h.1 rfl | exact own_get 4 h.1 rfl | exact own_get 5 h.1 rfl | exact own_get 6 h.1 rfl | exact own_get 7 h.1 rfl)); (focus (simp; done)); (first | (simp only [List.drop_zero, List.drop_succ_cons, List.take_succ_cons, List.take_zero]; rfl) | rfl); simp only [Act.put, List.setIfInBounds_toArray, List.set_cons_zero, List.set_cons_succ])
                | (apply wv_run rfl; (focus (intro w h; go_simp; first | done | rfl)); simp only [Act.put, List.setIfInBounds_toArray, List.set_cons_zero, List.set_cons_succ])
                | (apply wv_call rfl; (focus (intro w; go_simp; first | done | exact ⟨rfl, rfl⟩)); (focus (intro w h; apply cls_call h; (first | exact sector_c _ _ x.c h.1))); simp only [Act.put, List.setIfInBounds_toArray, List.set_cons_zero, List.set_cons_succ]))
              refine wv_nil ?_
              simp only [List.drop_succ_cons, List.drop_zero]
              intro w10 ⟨hO10, hS10⟩
              replace hS := hS.trans hS10
              clear hO hS10
              refine ev_call rfl (by go_simp; first | done | exact ⟨rfl, rfl⟩) ?_
              refine Calls.mono (call_at 1 (fun L' h => HW.out _ L' h) rfl hO10) ?_
              rintro e2 w11 ⟨rfl, hO, hS11⟩
              refine ⟨_, rfl, ?_⟩
              replace hS := hS.trans hS11
              clear hO10 hS11
              simp only [List.set_cons_zero, List.set_cons_succ] at hO
              simp only [Act.put, List.setIfInBounds_toArray, List.set_cons_zero, List.set_cons_succ]
              refine ev rfl (by go_simp; first | done | exact ⟨rfl, rfl⟩ | rfl) (wpList_nil ?_)
              simp only [Act.put, List.setIfInBounds_toArray, List.set_cons_zero, List.set_cons_succ]
              try simp only [Exit.then]
              go_upto_region 15 with fail
              refine wp_region_seq (Cls _ (_)) 12 123 mixed (by kernel_rfl) rfl (cls_drew hO) ?_
              simp only [List.append_eq, List.cons_append, List.nil_append, List.take_succ_cons, List.take_zero]
              repeat (first
                | (apply wv_skip rfl; simp only [Act.put, List.setIfInBounds_toArray, List.set_cons_zero, List.set_cons_succ])
                | (refine wv_load1_at (ad := (ad.add (k * 5)).add 1) (v := .int .i64 (j : Int)) rfl rfl rfl row_int (fun w h => by obtain ⟨L', h'⟩ := HSN.out _ _ _ _ _ h.1; exact HXI.out _ _ h') ?_; simp only [Act.put, List.setIfInBounds_toArray, List.set_cons_zero, List.set_cons_succ])
                | (refine wv_load1_at (ad := (ad.add (k * 5)).add 2) (v := .int .u8 (x.c.toNat : Int)) rfl rfl rfl row_u8D (fun w h => by obtain ⟨L', h'⟩ := HSN.out _ _ _ _ _ h.1; exact HXC.out _ _ h') ?_; simp only [Act.put, List.setIfInBounds_toArray, List.set_cons_zero, List.set_cons_succ])
                | (apply wv_load1 rfl rfl rfl; (first | exact row_int | exact row_str | exact row_bool | exact row_u8 | exact row_bys | exact row_pats | exact row_err); (intro w h; (first | exact own_get 0 h.1 rfl | exact own_get 1 h.1 rfl | exact own_get 2 h.1 rfl | exact own_get 3 h.1 rfl | exact own_get 4 h.1 rfl | exact own_get 5 h.1 rfl | exact own_get 6 h.1 rfl | exact own_get 7 h.1 rfl)); (first | (simp only [List.getElem?_toArray, List.getElem?_cons_succ, List.getElem?_cons_zero]; rfl) | rfl); simp only [Act.put, List.setIfInBounds_toArray, List.set_cons_zero, List.set_cons_succ])
                | (apply wv_loadrow rfl rfl rfl; (first | exact row_pat); exact sz_pat; (intro w h; (first | exact own_get 0 h.1 rfl | exact own_get 1 h.1 rfl | exact own_get 2 h.1 rfl | exact own_get 3 h.1 rfl | exact own_get 4 h.1 rfl | exact own_get 5 h.1 rfl | exact own_get 6 h.1 rfl | exact own_get 7 h.1 rfl)); (focus (simp; done)); (first | (simp only [List.drop_zero, List.drop_succ_cons, List.take_succ_cons, List.take_zero]; rfl) | rfl); simp only [Act.put, List.setIfInBounds_toArray, List.set_cons_zero, List.set_cons_succ])
                | (apply wv_run rfl; (focus (intro w h; go_simp; first | done | rfl)); simp only [Act.put, List.setIfInBounds_toArray, List.set_cons_zero, List.set_cons_succ])
                | (apply wv_call rfl; (focus (intro w; go_simp; first | done | exact ⟨rfl, rfl⟩)); (focus (intro w h; apply cls_call h; fail)); simp only [Act.put, List.setIfInBounds_toArray, List.set_cons_zero, List.set_cons_succ]))
              refine wv_nil ?_
              simp only [List.drop_succ_cons, List.drop_zero]
              intro w10 ⟨hO10, hS10⟩
              replace hS := hS.trans hS10
              clear hO hS10
              refine own_store1 (k := 0) (b := gm) (off := j * 256 + x.c.toNat) (v := .bool true) rfl rfl rfl rfl sz_boolD hO10 rfl rfl HSZ.out (mayC_set f _) ?_
              intro w11 hO hS11
              replace hS := hS.trans hS11
              clear hO10 hS11
              refine wpList_nil ?_
              simp only [Act.put, List.setIfInBounds_toArray, List.set_cons_zero, List.set_cons_succ]
              try simp only [Exit.then]
              simp only [List.set_cons_zero, List.set_cons_succ] at hO
              go_wp2
              go_roundw
              case rel => exact ⟨k + 1, _, mk2, by omega, by omega, by go_num, HK2.out.1, HK2.out.2.1, HK2.out.2.2.1, HK2.out.2.2.2, hO, hS⟩
              case measure => simp [intOf]; omega
          · have HW : Hid (∀ (w : World) (L : List HP), Own w (diskP d mk :: L) → Calls Try.prog 19 #[.pointer (some ⟨d, 0, none⟩), .int .i64 x.i, secV (sec x.c)] w (Ret w (.int .i64 2) (diskP d mk :: L))) := Lib.hid fun w L h => write_no w L d mk _ _ h hno
            clear hno
            refine wp_region_seq (Cls _ (_)) 12 123 mixed (by kernel_rfl) rfl (cls_drew hO) ?_
            simp only [List.append_eq, List.cons_append, List.nil_append, List.take_succ_cons, List.take_zero]
            repeat (first
              | (apply wv_skip rfl; simp only [Act.put, List.setIfInBounds_toArray, List.set_cons_zero, List.set_cons_succ])
              | (refine wv_load1_at (ad := (ad.add (k * 5)).add 1) (v := .int .i64 x.i) rfl rfl rfl row_int (fun w h => by obtain ⟨L', h'⟩ := HSN.out _ _ _ _ _ h.1; exact HXI.out _ _ h') ?_; simp only [Act.put, List.setIfInBounds_toArray, List.set_cons_zero, List.set_cons_succ])
              | (refine wv_load1_at (ad := (ad.add (k * 5)).add 2) (v := .int .u8 (x.c.toNat : Int)) rfl rfl rfl row_u8D (fun w h => by obtain ⟨L', h'⟩ := HSN.out _ _ _ _ _ h.1; exact HXC.out _ _ h') ?_; simp only [Act.put, List.setIfInBounds_toArray, List.set_cons_zero, List.set_cons_succ])
              | (apply wv_load1 rfl rfl rfl; (first | exact row_int | exact row_str | exact row_bool | exact row_u8 | exact row_bys | exact row_pats | exact row_err); (intro w h; (first | exact own_get 0 h.1 rfl | exact own_get 1 h.1 rfl | exact own_get 2 h.1 rfl | exact own_get 3 h.1 rfl | exact own_get 4 h.1 rfl | exact own_get 5 h.1 rfl | exact own_get 6 h.1 rfl | exact own_get 7 h.1 rfl)); (first | (simp only [List.getElem?_toArray, List.getElem?_cons_succ, List.getElem?_cons_zero]; rfl) | rfl); simp only [Act.put, List.setIfInBounds_toArray, List.set_cons_zero, List.set_cons_succ])
              | (apply wv_loadrow rfl rfl rfl; (first | exact row_pat); exact sz_pat; (intro w h; (first | exact own_get 0 h.1 rfl | exact own_get 1 h.1 rfl | exact own_get 2 h.1 rfl | exact own_get 3 h.1 rfl | exact own_get 4 h.1 rfl | exact own_get 5 h.1 rfl | exact own_get 6 h.1 rfl | exact own_get 7 h.1 rfl)); (focus (simp; done)); (first | (simp only [List.drop_zero, List.drop_succ_cons, List.take_succ_cons, List.take_zero]; rfl) | rfl); simp only [Act.put, List.setIfInBounds_toArray, List.set_cons_zero, List.set_cons_succ])
              | (apply wv_run rfl; (focus (intro w h; go_simp; first | done | rfl)); simp only [Act.put, List.setIfInBounds_toArray, List.set_cons_zero, List.set_cons_succ])
              | (apply wv_call rfl; (focus (intro w; go_simp; first | done | exact ⟨rfl, rfl⟩)); (focus (intro w h; apply cls_call h; (first | exact sector_c _ _ x.c h.1))); simp only [Act.put, List.setIfInBounds_toArray, List.set_cons_zero, List.set_cons_succ]))
            refine wv_nil ?_
            simp only [List.drop_succ_cons, List.drop_zero]
            intro w10 ⟨hO10, hS10⟩
            replace hS := hS.trans hS10
            clear hO hS10
            refine ev_call rfl (by go_simp; first | done | exact ⟨rfl, rfl⟩) ?_
            refine Calls.mono (call_at 1 (fun L' h => HW.out _ L' h) rfl hO10) ?_
            rintro e2 w11 ⟨rfl, hO, hS11⟩
            refine ⟨_, rfl, ?_⟩
            replace hS := hS.trans hS11
            clear hO10 hS11
            simp only [List.set_cons_zero, List.set_cons_succ] at hO
            simp only [Act.put, List.setIfInBounds_toArray, List.set_cons_zero, List.set_cons_succ]
            refine ev rfl (by go_simp; first | done | exact ⟨rfl, rfl⟩ | rfl) (wpList_nil ?_)
            simp only [Act.put, List.setIfInBounds_toArray, List.set_cons_zero, List.set_cons_succ]
            try simp only [Exit.then]
            go_wp2
            go_roundw
            case rel => exact ⟨k + 1, f, mk, by omega, by omega, by go_num, HK.out.1, fun b hb => Nat.le_succ_of_le (HK.out.2.1 b hb), HK.out.2.2.1, HK.out.2.2.2, hO, hS⟩
            case measure => simp [intOf]; omega
        · obtain ⟨mc, hmc⟩ : ∃ mc, mc = crashL (pickV pl) 0 mk := ⟨_, rfl⟩
          have HCR : Hid (∀ (w' : World) (L L2 : List HP), Own w' (diskP d mk :: L) → (∀ w2, Own w2 L → Own w2 (snap w :: L2)) → Calls Try.prog 20 #[.pointer (some ⟨d, 0, none⟩), .slice A2 pl.length c2] w' (Ret w' (.int .i64 0) (diskP d mc :: L))) := Lib.hid fun w' L L2 h hs => by
            rw [hmc]
            exact crash_c w' L d mk _ pl h (by have := HK.out.1; omega) (fun b hb => Nat.le_trans (HK.out.2.1 b hb) (by omega)) (fun w2 h2 => HR2.out w2 _ (hs w2 h2))
          have HMC : Hid (mc.length = 6 ∧ Uni mc ∧ Cov f 6 mc ∧ ∀ (i : Nat) (b : Blk), mc[i]? = some b → b.vs = []) := by
            show _ ∧ _
            rw [hmc]
            refine ⟨by rw [crashL_len]; exact HK.out.1, (gd_crash _ mk).uni HK.out.2.2.1, cov_crash _ HK.out.2.2.2, fun i b hb => ?_⟩
            obtain ⟨_, _, h2, _⟩ := crashL_at (pickV pl) mk 0 i b hb
            exact h2
          clear hmc
          have hO : Own wr (diskP d mk :: pts gm (.cells (mayC f).toArray 45) :: rdiskP q m :: [snap w]) := own_perm hO (List.Perm.swap _ _ _)
          have HSW : Hid (∀ w2, Own w2 (pts gm (.cells (mayC f).toArray 45) :: rdiskP q m :: [snap w]) → Own w2 (snap w :: [])) := Lib.hid fun w2 h => own_drop (own_drop h)
          by_cases hlt : k < es.length
          · have hk3 : k = 40 := by omega
            subst hk3
            have f3 : (40 : Int) < es.length := by omega
            clear hgo hlt
            go_wp2_with (first | (go_at_call 20; (with_reducible refine Calls.mono (HCR.out _ _ _ hO HSW.out) ?_); clear hO; rintro e u ⟨rfl, hO, hSn⟩; replace hS := hS.trans hSn; clear hSn))
            go_loopw [16] (fun iv wr => ∃ i : Nat, i ≤ 6 ∧ iv = .int .i64 i ∧ Own wr (diskP d mc :: pts gm (.cells (mayC f).toArray 45) :: rdiskP q m :: [snap w]) ∧ Same w wr) (fun iv _ => 6 - (intOf iv).toNat)
            case atStart => exact ⟨0, Nat.zero_le _, rfl, hO, hS⟩
            case round =>
              clear hO hS
              obtain ⟨i, hi, rfl, hO, hS⟩ := hrel
              by_cases hlt : i < 6
              · have hi1 : (i : Int) < 6 := by omega
                obtain ⟨b, hb⟩ : ∃ b, mc[i]? = some b := ⟨_, List.getElem?_eq_getElem (by have := HMC.out.1; omega)⟩
                obtain ⟨⟨c, hc⟩, _⟩ := HMC.out.2.1 b (List.mem_of_getElem? hb)
                have hv := HMC.out.2.2.2 i b hb
                have hnow : b.now = sec c := by rw [← hc]; simp [Blk.now, hv]
                have HRD : Hid (∀ (w : World) (L : List HP), Own w (diskP d mc :: L) → Calls Try.prog 21 #[.pointer (some ⟨d, 0, none⟩), .int .i64 (i : Int)] w (Ret w (.tuple #[secV (sec c), .int .i64 0]) (diskP d mc :: L))) := Lib.hid fun w L h => by rw [← hnow]; exact read_ok w L d mc i b h hb
                have HVE : Hid (∀ (w : World) (L : List HP), Own w (diskP d mc :: L) → Calls Try.prog 22 #[.pointer (some ⟨d, 0, none⟩), .int .i64 (i : Int)] w (Ret w (.int .i64 0) (diskP d mc :: L))) := Lib.hid fun w L h => by
                  have := versions_c w L d mc i h
                  rw [vsAt_yes hb, hv] at this
                  exact this
                have HMAY : Hid ((mayC f).toArray[i * 256 + c.toNat]? = some (.bool true)) := by
                  show _ = _
                  rw [mayC_at f (by have := c.toNat_lt; omega), HMC.out.2.2.1 i b hlt hb b.s (.inl rfl) c hc]
                obtain ⟨i0, hi0⟩ := u8_info
                have HE2 : Hid (∀ w', (Op.equalIn 10000 26 (secV (sec c)) (secV (sec c))).run Try.prog w' = .ok true w') := Lib.hid fun w' => by
                  have h := eq_sec w' (n := 0) und_sec hi0 9998 (a := sec c) (b := sec c) (by simp) (by simp)
                  simpa using h
                have hc256 := u8_lt c
                have hc0 : ¬ ((c.toNat : Int) < 0) := by omega
                clear hb hc hv hnow hi0
                go_upto_region 21 with (first | (go_at_call 21; (with_reducible refine Calls.mono (call_at 0 (fun L' h => HRD.out _ L' h) rfl hO) ?_); clear hO; rintro e u ⟨rfl, hO, hSn⟩; replace hS := hS.trans hSn; clear hSn; simp only [List.set_cons_zero, List.set_cons_succ] at hO) | (refine own_alloc (T := 26) rfl rfl zero_sec rfl hO ?_; clear hO; intro g1 u hO hSn; replace hS := hS.trans hSn; clear hSn) | (refine own_store_all (k := 0) rfl rfl rfl rfl sz_sec hO rfl (secA_size (by simp)) (by rfl) (bcs_all _) ?_; clear hO; intro u hO hSn; replace hS := hS.trans hSn; clear hSn; simp only [List.set_cons_zero, List.set_cons_succ] at hO))
                refine wp_region_seq (Cls _ (_)) 24 123 mixed (by kernel_rfl) rfl (cls_drew hO) ?_
                simp only [List.append_eq, List.cons_append, List.nil_append, List.take_succ_cons, List.take_zero]
                repeat (first
                  | (apply wv_skip rfl; simp only [Act.put, List.setIfInBounds_toArray, List.set_cons_zero, List.set_cons_succ])
                  | (refine wv_load1 (b := g1) (off := 0) (cs := (bcs (sec c)).toArray) (t := 26) (v := .int .u8 (c.toNat : Int)) rfl rfl rfl row_u8D (fun w h => own_get 0 h.1 rfl) sec_head ?_; simp only [Act.put, List.setIfInBounds_toArray, List.set_cons_zero, List.set_cons_succ])
                  | (refine wv_load1 (b := gm) (off := i * 256 + c.toNat) (cs := (mayC f).toArray) (t := 45) (v := .bool true) rfl rfl rfl row_boolD (fun w h => own_get 2 h.1 rfl) HMAY.out ?_; simp only [Act.put, List.setIfInBounds_toArray, List.set_cons_zero, List.set_cons_succ])
                  | (refine wv_loadrow (b := g1) (off := 0) (cs := (bcs (sec c)).toArray) (t := 26) (vs := bcs (sec c)) rfl rfl rfl row_sec sz_sec (fun w h => own_get 0 h.1 rfl) (by simp [bcs_length]) (by rw [List.drop_zero]; exact List.take_of_length_le (by simp [bcs_length])) ?_; simp only [Act.put, List.setIfInBounds_toArray, List.set_cons_zero, List.set_cons_succ])
                  | (apply wv_run rfl; (focus (intro w h; go_simp; simp only [HE2.out w]; first | done | rfl)); simp only [Act.put, List.setIfInBounds_toArray, List.set_cons_zero, List.set_cons_succ])
                  | (apply wv_load1 rfl rfl rfl; (first | exact row_int | exact row_str | exact row_bool | exact row_u8 | exact row_bys | exact row_pats | exact row_err); (intro w h; (first | exact own_get 0 h.1 rfl | exact own_get 1 h.1 rfl | exact own_get 2 h.1 rfl | exact own_get 3 h.1 rfl | exact own_get 4 h.1 rfl | exact own_get 5 h.1 rfl | exact own_get 6 h.1 rfl | exact own_get 7 h.1 rfl)); (first | (simp only [List.getElem?_toArray, List.getElem?_cons_succ, List.getElem?_cons_zero]; rfl) | rfl); simp only [Act.put, List.setIfInBounds_toArray, List.set_cons_zero, List.set_cons_succ])
                  | (apply wv_loadrow rfl rfl rfl; (first | exact row_pat); exact sz_pat; (intro w h; (first | exact own_get 0 h.1 rfl | exact own_get 1 h.1 rfl | exact own_get 2 h.1 rfl | exact own_get 3 h.1 rfl | exact own_get 4 h.1 rfl | exact own_get 5 h.1 rfl | exact own_get 6 h.1 rfl | exact own_get 7 h.1 rfl)); (focus (simp; done)); (first | (simp only [List.drop_zero, List.drop_succ_cons, List.take_succ_cons, List.take_zero]; rfl) | rfl); simp only [Act.put, List.setIfInBounds_toArray, List.set_cons_zero, List.set_cons_succ])
                  | (apply wv_run rfl; (focus (intro w h; go_simp; first | done | rfl)); simp only [Act.put, List.setIfInBounds_toArray, List.set_cons_zero, List.set_cons_succ])
                  | (apply wv_call rfl; (focus (intro w; go_simp; first | done | exact ⟨rfl, rfl⟩)); (focus (intro w h; apply cls_call h; (first | exact sector_c _ _ c h.1 | exact call_at 1 (fun L' h => HVE.out _ L' h) rfl h.1))); simp only [Act.put, List.setIfInBounds_toArray, List.set_cons_zero, List.set_cons_succ]))
                refine wv_nil ?_
                simp only [List.drop_succ_cons, List.drop_zero]
                intro w9 ⟨hO9, hS9⟩
                clear hO
                have hO := own_drop hO9
                replace hS := hS.trans hS9
                clear hO9 hS9
                go_wp2
                go_roundw
                case rel => exact ⟨i + 1, by omega, by go_num, hO, hS⟩
                case measure => simp [intOf]; omega
              · have hie : i = 6 := by omega
                subst hie
                go_wp2
                go_ret
                exact ⟨rfl, below_of (own_at hO (k := 3) rfl) hS⟩
          · have hke : k = es.length := by omega
            subst hke
            clear hgo hlt
            go_wp2_with (first | (go_at_call 20; (with_reducible refine Calls.mono (HCR.out _ _ _ hO HSW.out) ?_); clear hO; rintro e u ⟨rfl, hO, hSn⟩; replace hS := hS.trans hSn; clear hSn))
            go_loopw [16] (fun iv wr => ∃ i : Nat, i ≤ 6 ∧ iv = .int .i64 i ∧ Own wr (diskP d mc :: pts gm (.cells (mayC f).toArray 45) :: rdiskP q m :: [snap w]) ∧ Same w wr) (fun iv _ => 6 - (intOf iv).toNat)
            case atStart => exact ⟨0, Nat.zero_le _, rfl, hO, hS⟩
            case round =>
              clear hO hS
              obtain ⟨i, hi, rfl, hO, hS⟩ := hrel
              by_cases hlt : i < 6
              · have hi1 : (i : Int) < 6 := by omega
                obtain ⟨b, hb⟩ : ∃ b, mc[i]? = some b := ⟨_, List.getElem?_eq_getElem (by have := HMC.out.1; omega)⟩
                obtain ⟨⟨c, hc⟩, _⟩ := HMC.out.2.1 b (List.mem_of_getElem? hb)
                have hv := HMC.out.2.2.2 i b hb
                have hnow : b.now = sec c := by rw [← hc]; simp [Blk.now, hv]
                have HRD : Hid (∀ (w : World) (L : List HP), Own w (diskP d mc :: L) → Calls Try.prog 21 #[.pointer (some ⟨d, 0, none⟩), .int .i64 (i : Int)] w (Ret w (.tuple #[secV (sec c), .int .i64 0]) (diskP d mc :: L))) := Lib.hid fun w L h => by rw [← hnow]; exact read_ok w L d mc i b h hb
                have HVE : Hid (∀ (w : World) (L : List HP), Own w (diskP d mc :: L) → Calls Try.prog 22 #[.pointer (some ⟨d, 0, none⟩), .int .i64 (i : Int)] w (Ret w (.int .i64 0) (diskP d mc :: L))) := Lib.hid fun w L h => by
                  have := versions_c w L d mc i h
                  rw [vsAt_yes hb, hv] at this
                  exact this
                have HMAY : Hid ((mayC f).toArray[i * 256 + c.toNat]? = some (.bool true)) := by
                  show _ = _
                  rw [mayC_at f (by have := c.toNat_lt; omega), HMC.out.2.2.1 i b hlt hb b.s (.inl rfl) c hc]
                obtain ⟨i0, hi0⟩ := u8_info
                have HE2 : Hid (∀ w', (Op.equalIn 10000 26 (secV (sec c)) (secV (sec c))).run Try.prog w' = .ok true w') := Lib.hid fun w' => by
                  have h := eq_sec w' (n := 0) und_sec hi0 9998 (a := sec c) (b := sec c) (by simp) (by simp)
                  simpa using h
                have hc256 := u8_lt c
                have hc0 : ¬ ((c.toNat : Int) < 0) := by omega
                clear hb hc hv hnow hi0
                go_upto_region 21 with (first | (go_at_call 21; (with_reducible refine Calls.mono (call_at 0 (fun L' h => HRD.out _ L' h) rfl hO) ?_); clear hO; rintro e u ⟨rfl, hO, hSn⟩; replace hS := hS.trans hSn; clear hSn; simp only [List.set_cons_zero, List.set_cons_succ] at hO) | (refine own_alloc (T := 26) rfl rfl zero_sec rfl hO ?_; clear hO; intro g1 u hO hSn; replace hS := hS.trans hSn; clear hSn) | (refine own_store_all (k := 0) rfl rfl rfl rfl sz_sec hO rfl (secA_size (by simp)) (by rfl) (bcs_all _) ?_; clear hO; intro u hO hSn; replace hS := hS.trans hSn; clear hSn; simp only [List.set_cons_zero, List.set_cons_succ] at hO))
                refine wp_region_seq (Cls _ (_)) 24 123 mixed (by kernel_rfl) rfl (cls_drew hO) ?_
                simp only [List.append_eq, List.cons_append, List.nil_append, List.take_succ_cons, List.take_zero]
                repeat (first
                  | (apply wv_skip rfl; simp only [Act.put, List.setIfInBounds_toArray, List.set_cons_zero, List.set_cons_succ])
                  | (refine wv_load1 (b := g1) (off := 0) (cs := (bcs (sec c)).toArray) (t := 26) (v := .int .u8 (c.toNat : Int)) rfl rfl rfl row_u8D (fun w h => own_get 0 h.1 rfl) sec_head ?_; simp only [Act.put, List.setIfInBounds_toArray, List.set_cons_zero, List.set_cons_succ])
                  | (refine wv_load1 (b := gm) (off := i * 256 + c.toNat) (cs := (mayC f).toArray) (t := 45) (v := .bool true) rfl rfl rfl row_boolD (fun w h => own_get 2 h.1 rfl) HMAY.out ?_; simp only [Act.put, List.setIfInBounds_toArray, List.set_cons_zero, List.set_cons_succ])
                  | (refine wv_loadrow (b := g1) (off := 0) (cs := (bcs (sec c)).toArray) (t := 26) (vs := bcs (sec c)) rfl rfl rfl row_sec sz_sec (fun w h => own_get 0 h.1 rfl) (by simp [bcs_length]) (by rw [List.drop_zero]; exact List.take_of_length_le (by simp [bcs_length])) ?_; simp only [Act.put, List.setIfInBounds_toArray, List.set_cons_zero, List.set_cons_succ])
                  | (apply wv_run rfl; (focus (intro w h; go_simp; simp only [HE2.out w]; first | done | rfl)); simp only [Act.put, List.setIfInBounds_toArray, List.set_cons_zero, List.set_cons_succ])
                  | (apply wv_load1 rfl rfl rfl; (first | exact row_int | exact row_str | exact row_bool | exact row_u8 | exact row_bys | exact row_pats | exact row_err); (intro w h; (first | exact own_get 0 h.1 rfl | exact own_get 1 h.1 rfl | exact own_get 2 h.1 rfl | exact own_get 3 h.1 rfl | exact own_get 4 h.1 rfl | exact own_get 5 h.1 rfl | exact own_get 6 h.1 rfl | exact own_get 7 h.1 rfl)); (first | (simp only [List.getElem?_toArray, List.getElem?_cons_succ, List.getElem?_cons_zero]; rfl) | rfl); simp only [Act.put, List.setIfInBounds_toArray, List.set_cons_zero, List.set_cons_succ])
                  | (apply wv_loadrow rfl rfl rfl; (first | exact row_pat); exact sz_pat; (intro w h; (first | exact own_get 0 h.1 rfl | exact own_get 1 h.1 rfl | exact own_get 2 h.1 rfl | exact own_get 3 h.1 rfl | exact own_get 4 h.1 rfl | exact own_get 5 h.1 rfl | exact own_get 6 h.1 rfl | exact own_get 7 h.1 rfl)); (focus (simp; done)); (first | (simp only [List.drop_zero, List.drop_succ_cons, List.take_succ_cons, List.take_zero]; rfl) | rfl); simp only [Act.put, List.setIfInBounds_toArray, List.set_cons_zero, List.set_cons_succ])
                  | (apply wv_run rfl; (focus (intro w h; go_simp; first | done | rfl)); simp only [Act.put, List.setIfInBounds_toArray, List.set_cons_zero, List.set_cons_succ])
                  | (apply wv_call rfl; (focus (intro w; go_simp; first | done | exact ⟨rfl, rfl⟩)); (focus (intro w h; apply cls_call h; (first | exact sector_c _ _ c h.1 | exact call_at 1 (fun L' h => HVE.out _ L' h) rfl h.1))); simp only [Act.put, List.setIfInBounds_toArray, List.set_cons_zero, List.set_cons_succ]))
                refine wv_nil ?_
                simp only [List.drop_succ_cons, List.drop_zero]
                intro w9 ⟨hO9, hS9⟩
                clear hO
                have hO := own_drop hO9
                replace hS := hS.trans hS9
                clear hO9 hS9
                go_wp2
                go_roundw
                case rel => exact ⟨i + 1, by omega, by go_num, hO, hS⟩
                case measure => simp [intOf]; omega
              · have hie : i = 6 := by omega
                subst hie
                go_wp2
                go_ret
                exact ⟨rfl, below_of (own_at hO (k := 3) rfl) hS⟩
end Go.Proofs.Ytjilkbkafigloaa.H
