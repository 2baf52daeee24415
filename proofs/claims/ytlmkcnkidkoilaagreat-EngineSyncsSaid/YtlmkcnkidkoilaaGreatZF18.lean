/- EngineSyncs: the walk. -/
import Derived.Test.YtlmkcnkidkoilaaGreatZ38
set_option linter.unusedVariables false
set_option linter.unusedSimpArgs false
set_option maxRecDepth 100000
namespace Go.Proofs.YtlmkcnkidkoilaaGreat.H
open Go.RowKit
/-- The first k blocks are not bad. -/
structure Sp (k : Nat) (F : Eng) : Prop where
  pk : Pk 24 F
  ok : ∀ (i : Nat) (b : Blk), i < k → F.m[i]? = some b → b.bad = false
theorem Sp.next {k : Nat} {F : Eng} (h : Sp k F) {b : Blk} (hb : F.m[k]? = some b) : Sp (k + 1) ⟨F.m.set k ⟨b.s, b.vs, false⟩, F.l, F.s, F.next⟩ :=
  ⟨h.pk.spoil false hb, fun i c hi hc => by
    have hc : (F.m.set k ⟨b.s, b.vs, false⟩)[i]? = some c := hc
    by_cases e : k = i
    · subst e
      rw [List.getElem?_set, if_pos rfl, if_pos (List.getElem?_eq_some_iff.1 hb).1] at hc
      cases hc
      rfl
    · rw [List.getElem?_set, if_neg e] at hc
      exact h.ok i c (by omega) hc⟩
/-- What a Sync of a hale engine leaves. -/
structure Dn (F : Eng) : Prop where
  ok : F.Ok
  m5 : F.m.length = 5
  l : F.l = []
  vs : ∀ b ∈ F.m, b.vs = []
  s32 : ∀ b ∈ F.m, b.s.length = 32
theorem Sp.sync {F : Eng} (h : Sp 5 F) : F.sync.1 = 0 ∧ Dn F.sync.2 := by
  have hh : Hale F := fun b hb => by
    obtain ⟨i, hi⟩ := List.getElem?_of_mem hb
    exact h.ok i b (by have := (List.getElem?_eq_some_iff.1 hi).1; have := h.pk.m5; omega) hi
  obtain ⟨h1, h2⟩ := sync_all _ F rfl h.pk.ok hh
  have h3 := h.pk.sync
  exact ⟨h1, h3.ok, h3.m5, h2, none_vs h3.inv h3.sne h2, h3.inv.s32⟩
set_option maxHeartbeats 6400000 in
theorem esyncs_law (w : World) (A0 : Option Addr) (n0 c0 : Nat) (ds : List EDeed) (h : ArgY w A0 n0 c0 ds) (A1 : Option Addr) (n1 c1 : Nat) (pl : List Int) (hn1 : n1 = pl.length) (hr : Rd w 1 (.slice A1 n1 c1) n1 (pl.map encZ)) (hi : ∀ x ∈ pl, inI x) :
    Calls Tryz.prog 4 #[.slice A0 n0 c0, .slice A1 n1 c1] w (fun e w' => e = .returned (.bool true) ∧ Below w.heap.size w w') := by
  subst hn1
  have HA := Lib.hid h
  have HR := Lib.hid hr
  have hO : Own w [snap w] := own_snap
  have hS := Same.refl w
  clear h hr hi
  go_enter Tryz.func4, Tryz.ntmps4
  go_wp2_with (first | (go_at_call 8; (with_reducible refine Calls.mono (play_es _ _ _ _ _ ds HA.out _ hO) ?_); clear hO; rintro e u ⟨p, q, E, hpk, rfl, hO, hSn⟩; replace hS := hS.trans hSn; clear hSn; have HPK := Lib.hid hpk; clear hpk) | (go_at_call 9; (with_reducible refine Calls.mono (elive_c _ _ hO) ?_); clear hO; rintro e u ⟨rfl, hO, hSn⟩; replace hS := hS.trans hSn; clear hSn))
  have hO := own_skip hO
  go_loopw [8] (fun iv wr => ∃ (k : Nat) (F : Eng), k ≤ 5 ∧ iv = .int .i64 k ∧ Hid (Sp k F) ∧ Own wr (engP p F :: [snap w]) ∧ Same w wr) (fun iv _ => 5 - (intOf iv).toNat)
  case atStart => exact ⟨0, E, Nat.zero_le _, rfl, ⟨HPK.out, fun i b hi => by omega⟩, hO, hS⟩
  case round =>
    clear hO hS
    obtain ⟨k, F, hk, rfl, HSP, hO, hS⟩ := hrel
    by_cases hlt : k < 5
    · have hm1 : (k : Int) < 5 := by omega
      obtain ⟨b, hb⟩ : ∃ b, F.m[k]? = some b := ⟨_, List.getElem?_eq_getElem (by have := HSP.out.pk.m5; omega)⟩
      have HSN := Lib.hid (HSP.out.next hb)
      have HSC : Hid (∀ (w' : World) (L' : List HP), Own w' (engP p F :: L') → Calls Tryz.prog 15 #[.pointer (some ⟨p, 0, none⟩), .int .i64 k, .bool false] w' (Ret w' (.int .i64 0) (engP p ⟨F.m.set k ⟨b.s, b.vs, false⟩, F.l, F.s, F.next⟩ :: L'))) := Lib.hid fun w' L' h => espoil_c w' L' p F k false 0 (F.m.set k ⟨b.s, b.vs, false⟩) h (by simp) (fun w L d hO => spoil_ok w L d F.m k b false hO hb)
      clear hb
      go_wp2_with (first | (go_at_call 15; (with_reducible refine Calls.mono (call_at 0 (fun L' h => HSC.out _ L' h) rfl hO) ?_); clear hO; rintro e u ⟨rfl, hO, hSn⟩; replace hS := hS.trans hSn; clear hSn; simp only [List.set_cons_zero, List.set_cons_succ] at hO))
      go_roundw
      case rel => exact ⟨k + 1, _, by omega, by go_num, HSN, hO, hS⟩
      case measure => simp [intOf]; omega
    · have HS5 : Hid (Sp 5 F) := by rw [show k = 5 by omega] at HSP; exact HSP
      have hnl : ¬ ((k : Int) < 5) := by omega
      obtain ⟨G, hG⟩ : ∃ G, G = F.sync.2 := ⟨_, rfl⟩
      have HSY : Hid (∀ (w' : World) (L' : List HP), Own w' (engP p F :: L') → Calls Tryz.prog 16 #[.pointer (some ⟨p, 0, none⟩)] w' (Ret w' (.int .i64 0) (engP p G :: L'))) := Lib.hid fun w' L' h => by
        have h1 := esync_c w' L' p F h HS5.out.pk.ok (HS5.out.pk.vl.mono (by decide)) (by have := HS5.out.pk.m5; omega)
        rw [HS5.out.sync.1] at h1
        rw [hG]
        exact h1
      have HDN : Hid (Dn G) := by show Dn G; rw [hG]; exact HS5.out.sync.2
      have HCR : Hid (∀ (w' : World) (L' : List HP), Own w' (engP p G :: snap w :: L') → Calls Tryz.prog 17 #[.pointer (some ⟨p, 0, none⟩), .slice A1 pl.length c1] w' (RetX w' (fun f : Nat => .pointer (some ⟨f, 0, none⟩)) (fun f => diskP f G.m :: engP p G :: snap w :: L'))) := Lib.hid fun w' L' h => by
        have h1 := ecrash_c w' (snap w :: L') p G (.slice A1 pl.length c1) pl h HDN.out.ok (fun b hb => by rw [HDN.out.vs b hb]; exact Nat.zero_le _) (fun w2 h2 => rd_snapE HR.out h2)
        rw [crashL_no _ _ _ HDN.out.vs] at h1
        exact h1
      clear hG hlt
      go_wp2_with (first | (go_at_call 16; (with_reducible refine Calls.mono (call_at 0 (fun L' h => HSY.out _ L' h) rfl hO) ?_); clear hO; rintro e u ⟨rfl, hO, hSn⟩; replace hS := hS.trans hSn; clear hSn; simp only [List.set_cons_zero, List.set_cons_succ] at hO) | (go_at_call 17; (with_reducible refine Calls.mono (HCR.out _ _ hO) ?_); clear hO; rintro e u ⟨f, rfl, hO, hSn⟩; replace hS := hS.trans hSn; clear hSn))
      go_loopw [11] (fun iv wr => ∃ j : Nat, j ≤ 5 ∧ iv = .int .i64 j ∧ Own wr (diskP f G.m :: engP p G :: [snap w]) ∧ Same w wr) (fun iv _ => 5 - (intOf iv).toNat)
      case atStart => exact ⟨0, Nat.zero_le _, rfl, hO, hS⟩
      case round =>
        clear hO hS
        obtain ⟨j, hj, rfl, hO, hS⟩ := hrel
        by_cases hlt : j < 5
        · have hm1 : (j : Int) < 5 := by omega
          obtain ⟨b, hb⟩ : ∃ b, G.m[j]? = some b := ⟨_, List.getElem?_eq_getElem (by have := HDN.out.m5; omega)⟩
          obtain ⟨s, hs⟩ : ∃ s, s = b.s := ⟨_, rfl⟩
          have HL1 : Hid (s.length = 32) := by show _ = _; rw [hs]; exact HDN.out.s32 b (List.mem_of_getElem? hb)
          have HN : Hid (32 = s.length) := HL1.out.symm
          have HBP : Hid (∀ (w' : World) (L' : List HP), Own w' (engP p G :: L') → Calls Tryz.prog 13 #[.pointer (some ⟨p, 0, none⟩), .int .i64 j] w' (RetX w' (fun g : Nat => .tuple #[.slice (some ⟨g, 0, none⟩) 32 32, .int .i64 0]) (fun g => pts g (.cells (bcs s).toArray 43) :: engP p G :: L'))) := Lib.hid fun w' L' h => by
            have h1 := eblock_ok w' L' p G j b h HDN.out.ok hb
            rw [bytes_none HDN.out.l, ← hs] at h1
            exact h1
          have HLD : Hid (∀ (w : World) (L : List HP), Own w (diskP f G.m :: L) → Calls Tryz.prog 18 #[.pointer (some ⟨f, 0, none⟩), .int .i64 (j : Int)] w (Ret w (.tuple #[secV s, .int .i64 0]) (diskP f G.m :: L))) := Lib.hid fun w L h => by rw [hs]; exact lasting_ok w L f G.m j b h hb
          clear hb hs
          go_upto_region 14 with (first | (go_at_call 13; (with_reducible refine Calls.mono (HBP.out _ _ (own_swap hO)) ?_); clear hO; rintro e u ⟨ga, rfl, hO, hSn⟩; replace hS := hS.trans hSn; clear hSn))
          go_upto_region 15 with (first | (go_at_call 18; (with_reducible refine Calls.mono (call_at 2 (fun L' h => HLD.out _ L' h) rfl hO) ?_); clear hO; rintro e u ⟨rfl, hO, hSn⟩; replace hS := hS.trans hSn; clear hSn; simp only [List.set_cons_zero, List.set_cons_succ] at hO) | (refine own_alloc (T := 43) rfl rfl zero_sec rfl hO ?_; clear hO; intro gx u hO hSn; replace hS := hS.trans hSn; clear hSn) | (refine own_store_all (k := 0) rfl rfl rfl rfl sz_sec hO rfl (secA_size HL1.out) (by rfl) (bcs_all _) ?_; clear hO; intro u hO hSn; replace hS := hS.trans hSn; clear hSn; simp only [List.set_cons_zero, List.set_cons_succ] at hO))
          have hO : Own _ [pts gx (.cells (bcs s).toArray 43), pts ga (.cells (bcs s).toArray 43), engP p G, diskP f G.m, snap w] := hO
          refine wp_region_seq (Cls _ ([pts gx (.cells (bcs s).toArray 43), pts ga (.cells (bcs s).toArray 43), engP p G, diskP f G.m, snap w])) 13 83 mixed (by kernel_rfl) rfl (cls_drew hO) ?_
          simp only [List.append_eq, List.cons_append, List.nil_append, List.take_succ_cons, List.take_zero]
          repeat (first
            | (apply wv_skip rfl; simp only [Act.put, List.setIfInBounds_toArray, List.set_cons_zero, List.set_cons_succ])
            | (refine wv_string (v := .slice (some ⟨ga, 0, none⟩) 32 32) (n := 32) (bs := s) rfl rfl rfl Tryz.underlying23 Tryz.underlying5 Tryz.underlying9 HN.out (fun w h => rd_block (own_get 1 h.1 rfl) (by rw [Nat.mul_one]; exact List.take_of_length_le (by simp [bcs_length, HL1.out])) (by simp [bcs_length, HL1.out]) (Nat.le_refl _) (by decide)) ?_; simp only [Act.put, List.setIfInBounds_toArray, List.set_cons_zero, List.set_cons_succ])
            | (refine wv_string (v := .slice (some ⟨gx, 0, none⟩) 32 32) (n := 32) (bs := s) rfl rfl rfl Tryz.underlying23 Tryz.underlying5 Tryz.underlying9 HN.out (fun w h => rd_block (own_get 0 h.1 rfl) (by rw [Nat.mul_one]; exact List.take_of_length_le (by simp [bcs_length, HL1.out])) (by simp [bcs_length, HL1.out]) (Nat.le_refl _) (by decide)) ?_; simp only [Act.put, List.setIfInBounds_toArray, List.set_cons_zero, List.set_cons_succ])
            | (apply wv_load1 rfl rfl rfl; (first | exact row_int | exact row_str | exact row_bool | exact row_u8 | exact row_bys | exact row_pats | exact row_err); (intro w h; (first | exact own_get 0 h.1 rfl | exact own_get 1 h.1 rfl | exact own_get 2 h.1 rfl | exact own_get 3 h.1 rfl | exact own_get 4 h.1 rfl | exact own_get 5 h.1 rfl | exact own_get 6 h.1 rfl | exact own_get 7 h.1 rfl)); (first | (simp only [List.getElem?_toArray, List.getElem?_cons_succ, List.getElem?_cons_zero]; rfl) | rfl); simp only [Act.put, List.setIfInBounds_toArray, List.set_cons_zero, List.set_cons_succ])
            | (apply wv_loadrow rfl rfl rfl; (first | exact row_pat); exact sz_pat; (intro w h; (first | exact own_get 0 h.1 rfl | exact own_get 1 h.1 rfl | exact own_get 2 h.1 rfl | exact own_get 3 h.1 rfl | exact own_get 4 h.1 rfl | exact own_get 5 h.1 rfl | exact own_get 6 h.1 rfl | exact own_get 7 h.1 rfl)); (focus (simp; done)); (first | (simp only [List.drop_zero, List.drop_succ_cons, List.take_succ_cons, List.take_zero]; rfl) | rfl); simp only [Act.put, List.setIfInBounds_toArray, List.set_cons_zero, List.set_cons_succ])
            | (apply wv_run rfl; (focus (intro w h; go_simp; first | done | rfl)); simp only [Act.put, List.setIfInBounds_toArray, List.set_cons_zero, List.set_cons_succ])
            | (apply wv_call rfl; (focus (intro w; go_simp; first | done | exact ⟨rfl, rfl⟩)); (focus (intro w h; apply cls_call h; fail)); simp only [Act.put, List.setIfInBounds_toArray, List.set_cons_zero, List.set_cons_succ]))
          refine wv_nil ?_
          simp only [List.drop_succ_cons, List.drop_zero]
          intro w9 ⟨hO9, hS9⟩
          clear hO
          have hO : Own w9 [diskP f G.m, engP p G, snap w] := own_swap (own_drop (own_drop hO9))
          replace hS := hS.trans hS9
          clear hO9 hS9
          go_wp2
          go_roundw
          case rel => exact ⟨j + 1, by omega, by go_num, hO, hS⟩
          case measure => simp [intOf]; omega
        · have hnl2 : ¬ ((j : Int) < 5) := by omega
          have hO := own_drop hO
          have HWC : Hid (∀ (w' : World) (L' : List HP), Own w' (engP p G :: L') → Calls Tryz.prog 19 #[.pointer (some ⟨p, 0, none⟩)] w' (RetX w' (fun v : Value => v) (fun v => owns 3 1 v 0 [] :: engP p G :: L'))) := Lib.hid fun w' L' h => by
            have h1 := ewaiting_c w' L' p G h HDN.out.ok
            unfold Eng.waiting at h1
            rw [HDN.out.l] at h1
            exact h1
          have HDC : Hid (∀ (w' : World) (L' : List HP), Own w' (engP p G :: L') → Calls Tryz.prog 20 #[.pointer (some ⟨p, 0, none⟩)] w' (RetX w' (fun v : Value => v) (fun v => owns 3 1 v 0 [] :: engP p G :: L'))) := Lib.hid fun w' L' h => by
            have h1 := edirty_c w' L' p G h HDN.out.ok
            have e : G.dirty = [] := by
              refine List.eq_nil_iff_forall_not_mem.2 (fun x hx => ?_)
              rw [dirty_mem HDN.out.ok] at hx
              unfold blksW at hx
              rw [HDN.out.l] at hx
              cases hx
            rw [e] at h1
            exact h1
          go_wp2_with (first | (go_at_call 19; (with_reducible refine Calls.mono (HWC.out _ _ hO) ?_); clear hO; rintro e u ⟨v, rfl, hO, hSn⟩; replace hS := hS.trans hSn; clear hSn; obtain ⟨VA, vc, rfl⟩ := (owns_rd hO).slice; replace hO := own_drop hO) | (go_at_call 20; (with_reducible refine Calls.mono (HDC.out _ _ hO) ?_); clear hO; rintro e u ⟨v, rfl, hO, hSn⟩; replace hS := hS.trans hSn; clear hSn; obtain ⟨VA, vc, rfl⟩ := (owns_rd hO).slice; replace hO := own_drop hO))
          go_ret
          exact ⟨rfl, below_of (own_at hO (k := 1) rfl) hS⟩
end Go.Proofs.YtlmkcnkidkoilaaGreat.H
