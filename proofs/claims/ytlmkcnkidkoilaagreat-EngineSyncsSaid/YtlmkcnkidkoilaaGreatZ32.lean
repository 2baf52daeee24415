/- Crash and Sync of the program's engine. The reference's engine: New, Round, Sync. -/
import Derived.Test.YtlmkcnkidkoilaaGreatZ22
import Derived.Test.YtlmkcnkidkoilaaGreatZ31
import Derived.Test.YtlmkcnkidkoilaaGreatZ28
set_option linter.unusedVariables false
set_option linter.unusedSimpArgs false
set_option maxRecDepth 100000
namespace Go.Proofs.YtlmkcnkidkoilaaGreat.H
open Go.RowKit
theorem writes_next (E : Eng) (k : Nat) : E.writes (k + 1) = ((E.writes k).writeM k).2 := by
  unfold Eng.writes
  rw [List.range_succ, List.foldl_append]
  rfl
theorem writes_l (E : Eng) : ∀ k, (E.writes k).l = E.l
  | 0 => rfl
  | k + 1 => by rw [writes_next, write_l, writes_l E k]
theorem writes_len (E : Eng) : ∀ k, (E.writes k).m.length = E.m.length
  | 0 => rfl
  | k + 1 => by rw [writes_next, write_len, writes_len E k]
theorem writes_nx (E : Eng) : ∀ k, (E.writes k).next = E.next
  | 0 => rfl
  | k + 1 => by rw [writes_next, write_next, writes_nx E k]
theorem writes_ok {E : Eng} (h : E.Ok) : ∀ k, (E.writes k).Ok
  | 0 => h
  | k + 1 => by rw [writes_next]; exact (writes_ok h k).write k
theorem writes_inv {E : Eng} (hI : E.Inv) (h : E.Ok) : ∀ k, (E.writes k).Inv
  | 0 => hI
  | k + 1 => by rw [writes_next]; exact (writes_inv hI h k).write (writes_ok h k) k
theorem writes_vl {n : Nat} {E : Eng} (h : Vl n E) : ∀ k, Vl (n + k) (E.writes k)
  | 0 => h
  | k + 1 => by rw [writes_next]; exact (writes_vl h k).write k
theorem round_len (E : Eng) : E.round.l.length ≤ E.l.length := by
  show ((E.writes E.m.length).l.filter _).length ≤ _
  rw [writes_l]
  exact List.length_filter_le _ _
theorem round_ok {E : Eng} (h : E.Ok) : E.round.Ok := (writes_ok h _).flushed
theorem round_inv {E : Eng} (hI : E.Inv) (h : E.Ok) : E.round.Inv := (writes_inv hI h _).flushed (writes_ok h _)
theorem round_m (E : Eng) : E.round.m.length = E.m.length := by
  show (Eng.flushed _).m.length = _
  rw [flushed_len, writes_len]
theorem syncGo_more : ∀ (k k' : Nat) (E : Eng), E.l.length ≤ k → k ≤ k' → Eng.syncGo k' E = Eng.syncGo k E
  | 0, k', E, h, _ => by
    have h0 : E.l.length = 0 := by omega
    cases k' with
    | zero => rfl
    | succ k' => unfold Eng.syncGo; rw [if_pos h0]
  | k + 1, 0, E, h, hk => by omega
  | k + 1, k' + 1, E, h, hk => by
    unfold Eng.syncGo
    by_cases h0 : E.l.length = 0
    · rw [if_pos h0, if_pos h0]
    · rw [if_neg h0, if_neg h0]
      by_cases h1 : E.round.l.length = E.l.length
      · rw [if_pos h1, if_pos h1]
      · rw [if_neg h1, if_neg h1]
        have := round_len E
        exact syncGo_more k k' E.round (by omega) (by omega)
theorem syncGo_succ (k : Nat) (E : Eng) : Eng.syncGo (k + 1) E = if E.l.length = 0 then (0, E) else if E.round.l.length = E.l.length then (10, E.round) else Eng.syncGo k E.round := rfl
theorem sync_none {E : Eng} (h : E.l.length = 0) : E.sync = (0, E) := by
  unfold Eng.sync
  rw [h]
  rfl
theorem sync_stuck {E : Eng} (h : E.l.length ≠ 0) (h1 : E.round.l.length = E.l.length) : E.sync = (10, E.round) := by
  unfold Eng.sync
  obtain ⟨k, hk⟩ : ∃ k, E.l.length = k + 1 := ⟨E.l.length - 1, by omega⟩
  rw [hk, syncGo_succ, if_neg h, if_pos h1]
theorem sync_on {E : Eng} (h : E.l.length ≠ 0) (h1 : E.round.l.length ≠ E.l.length) : E.sync = E.round.sync := by
  have h2 := round_len E
  unfold Eng.sync
  obtain ⟨k, hk⟩ : ∃ k, E.l.length = k + 1 := ⟨E.l.length - 1, by omega⟩
  rw [hk, syncGo_succ, if_neg h, if_neg h1]
  exact syncGo_more _ _ _ (Nat.le_refl _) (by omega)
section
variable (w : World) (L : List HP) (e : Nat) (E : Eng)
theorem ecrash_c (v : Value) (l : List Int) (hO : Own w (engP e E :: L)) (hk : E.Ok) (hv : Vl 1000000 E) (hr : ∀ w', Own w' L → Rd w' 1 v l.length (l.map encZ)) : Calls Tryz.prog 17 #[.pointer (some ⟨e, 0, none⟩), v] w (RetX w (fun f : Nat => .pointer (some ⟨f, 0, none⟩)) (fun f => diskP f (crashL (pickV l) 0 E.m) :: engP e E :: L)) := by
  obtain ⟨d, wv, bs, fs, we, g, hkk, hO⟩ := eng_open.1 hO
  have HK := Lib.hid hkk
  have H0 : Hid (0 < E.m.length) := hk.pos
  have HV : Hid (∀ b ∈ E.m, b.vs.length ≤ 1000000) := hv
  have HR := Lib.hid hr
  have hS := Same.refl w
  clear hkk hk hv hr
  have hO := own_order [1] hO rfl
  simp only [List.eraseIdx_cons_succ, List.eraseIdx_zero, List.tail_cons] at hO
  go_enter Tryz.func17, Tryz.ntmps17
  go_wp2_with (first | (apply own_load1 rfl rfl rfl; (first | exact row_dptr | exact row_ents | exact row_mint | exact row_int); (first | exact own_get 0 hO rfl | exact own_get 1 hO rfl | exact own_get 2 hO rfl | exact own_get 3 hO rfl | exact own_get 4 hO rfl | exact own_get 5 hO rfl | exact own_get 6 hO rfl | exact own_get 7 hO rfl); (first | (simp only [List.getElem?_toArray, List.getElem?_cons_succ, List.getElem?_cons_zero]; rfl) | rfl)) | (go_at_call 31; (with_reducible refine Calls.mono (fork_ok _ _ d E.m hO H0.out HV.out) ?_); clear hO; rintro e1 u ⟨f, rfl, hO, hSn⟩; replace hS := hS.trans hSn; clear hSn) | (go_at_call 46; (with_reducible refine Calls.mono (crash_c _ _ f E.m v l hO H0.out HV.out (fun w' h => HR.out w' (own_drop (own_drop (own_drop (own_drop h)))))) ?_); clear hO; rintro e u ⟨rfl, hO, hSn⟩; replace hS := hS.trans hSn; clear hSn))
  go_ret
  refine ⟨f, rfl, ?_, hS⟩
  exact own_swap (eng_open.2 ⟨d, wv, bs, fs, we, g, HK.out, own_order [2, 1, 1, 1] hO rfl⟩)
set_option maxHeartbeats 1600000 in
theorem esync_c (hO : Own w (engP e E :: L)) (hk : E.Ok) (hv : Vl 900000 E) (hm : E.m.length ≤ 1000) : Calls Tryz.prog 16 #[.pointer (some ⟨e, 0, none⟩)] w (Ret w (.int .i64 E.sync.1) (engP e E.sync.2 :: L)) := by
  have hS := Same.refl w
  have HM := Lib.hid hm
  have HK0 := Lib.hid (And.intro hk hv)
  obtain ⟨d, wv, bs, fs, we, g, hkk, hO⟩ := eng_open.1 hO
  obtain ⟨A, c, rfl, _⟩ := hkk.2.1.rd
  have HK := Lib.hid hkk
  have HWL : Hid (we.length = E.l.length) := by show _ = _; rw [← hkk.1, List.length_map]
  clear hkk hk hv hm
  go_enter Tryz.func16, Tryz.ntmps16
  go_wp2_with (first | (apply own_load1 rfl rfl rfl; (first | exact row_dptr | exact row_ents | exact row_mint | exact row_int); (first | exact own_get 0 hO rfl | exact own_get 1 hO rfl | exact own_get 2 hO rfl | exact own_get 3 hO rfl | exact own_get 4 hO rfl | exact own_get 5 hO rfl | exact own_get 6 hO rfl | exact own_get 7 hO rfl); (first | (simp only [List.getElem?_toArray, List.getElem?_cons_succ, List.getElem?_cons_zero]; rfl) | rfl)))
  have hO := eng_open.2 ⟨d, _, bs, fs, we, g, HK.out, hO⟩
  clear HK
  rw [HWL.out]
  go_loopw [3] (fun iv wr => ∃ F : Eng, iv = .int .i64 F.l.length ∧ Hid (E.sync = F.sync ∧ F.Ok ∧ Vl 900000 F ∧ F.m.length = E.m.length) ∧ Own wr (engP e F :: L) ∧ Same w wr) (fun iv _ => (intOf iv).toNat)
  case atStart => exact ⟨E, rfl, ⟨rfl, HK0.out.1, HK0.out.2, rfl⟩, hO, hS⟩
  case round =>
    clear hO hS HK0
    obtain ⟨F, rfl, HF, hO, hS⟩ := hrel
    by_cases h0 : F.l.length = 0
    · have h1 : ¬ (0 < (F.l.length : Int)) := by omega
      have HX : Hid (E.sync = (0, F)) := by show _ = _; rw [HF.out.1, sync_none h0]
      clear h0
      go_wp2
      go_ret
      exact ⟨by rw [HX.out]; rfl, by rw [HX.out]; exact hO, hS⟩
    · have h1 : 0 < (F.l.length : Int) := by omega
      have hFl := HF.out.2.1.len
      have hml := HF.out.2.2.2
      have HFM : Hid (F.m.length ≤ 1000) := by show _ ≤ _; rw [hml]; exact HM.out
      have hfm := HFM.out
      have HN0 := Lib.hid h0
      clear h0 hml
      have HDS : Hid (∀ (w' : World) (L' : List HP) (d : Nat), Own w' (diskP d F.m :: L') → Calls Tryz.prog 45 #[.pointer (some ⟨d, 0, none⟩)] w' (Ret w' (.int .i64 F.m.length) (diskP d F.m :: L'))) := Lib.hid fun w' L' d h => size_c w' L' d F.m h
      obtain ⟨d, wv, bs, fs, we, g, hkk, hO⟩ := eng_open.1 hO
      have HK := Lib.hid hkk
      clear hkk
      go_wp2_with (first | (apply own_load1 rfl rfl rfl; (first | exact row_dptr | exact row_ents | exact row_mint | exact row_int); (first | exact own_get 0 hO rfl | exact own_get 1 hO rfl | exact own_get 2 hO rfl | exact own_get 3 hO rfl | exact own_get 4 hO rfl | exact own_get 5 hO rfl | exact own_get 6 hO rfl | exact own_get 7 hO rfl); (first | (simp only [List.getElem?_toArray, List.getElem?_cons_succ, List.getElem?_cons_zero]; rfl) | rfl)) | (go_at_call 45; (with_reducible refine Calls.mono (call_at 1 (fun L' h => HDS.out _ L' d h) rfl hO) ?_); clear hO; rintro e u ⟨rfl, hO, hSn⟩; replace hS := hS.trans hSn; clear hSn; simp only [List.set_cons_zero, List.set_cons_succ] at hO))
      have hO := eng_open.2 ⟨d, _, bs, fs, we, g, HK.out, hO⟩
      clear HK
      go_loopw [25] (fun jv wr => ∃ j : Nat, j ≤ F.m.length ∧ jv = .int .i64 j ∧ Own wr (engP e (F.writes j) :: L) ∧ Same w wr) (fun jv _ => F.m.length - (intOf jv).toNat)
      case atStart => exact ⟨0, Nat.zero_le _, rfl, hO, hS⟩
      case round =>
        clear hO hS
        obtain ⟨j, hj, rfl, hO, hS⟩ := hrel
        by_cases hlt : j < F.m.length
        · have hm1 : (j : Int) < F.m.length := by omega
          have HWR : Hid (∀ w', Own w' (engP e (F.writes j) :: L) → Calls Tryz.prog 11 #[.pointer (some ⟨e, 0, none⟩), .int .i64 j] w' (Ret w' (.tuple #[.int .i64 ((F.writes j).writeM j).1.1, .int .i64 ((F.writes j).writeM j).1.2]) (engP e (F.writes (j + 1)) :: L))) := Lib.hid fun w' h => by
            rw [writes_next]
            exact ewrite_c w' L e (F.writes j) j h (writes_ok HF.out.2.1 j) (by rw [writes_len]; exact hlt) (fun b hb => by have := writes_vl HF.out.2.2.1 j b hb; omega)
          go_wp2_with (first | (go_at_call 11; (with_reducible refine Calls.mono (HWR.out _ hO) ?_); clear hO; rintro e u ⟨rfl, hO, hSn⟩; replace hS := hS.trans hSn; clear hSn))
          go_roundw
          case rel => exact ⟨j + 1, by omega, by go_num, hO, hS⟩
          case measure => simp [intOf]; omega
        · have hje : j = F.m.length := by omega
          subst hje
          have HVW : Hid (∀ b ∈ (F.writes F.m.length).m, b.vs.length ≤ 1000000) := Lib.hid fun b hb => by have := writes_vl HF.out.2.2.1 F.m.length b hb; omega
          have HOW := Lib.hid (writes_ok HF.out.2.1 F.m.length)
          have HFLU : Hid (∀ w', Own w' (engP e (F.writes F.m.length) :: L) → Calls Tryz.prog 12 #[.pointer (some ⟨e, 0, none⟩)] w' (Ret w' (.int .i64 0) (engP e F.round :: L))) := Lib.hid fun w' h => eflush_c w' L e _ h HOW.out HVW.out
          go_upto_region 12 with (first | (go_at_call 12; (with_reducible refine Calls.mono (HFLU.out _ hO) ?_); clear hO; rintro e u ⟨rfl, hO, hSn⟩; replace hS := hS.trans hSn; clear hSn))
          clear HFLU HVW HOW
          obtain ⟨d2, wv2, bs2, fs2, we2, g2, hkk, hO⟩ := eng_open.1 hO
          obtain ⟨A2, c2, rfl, _⟩ := hkk.2.1.rd
          have HK := Lib.hid hkk
          have hw2 : we2.length = F.round.l.length := by rw [← hkk.1, List.length_map]
          have hle := round_len F
          clear hkk
          by_cases heq : F.round.l.length = F.l.length
          · have h5 : (we2.length : Int) = (F.l.length : Int) := by omega
            have HX : Hid (E.sync = (10, F.round)) := by show _ = _; rw [HF.out.1, sync_stuck HN0.out heq]
            clear heq hw2 hle
            go_wp2_with (first | (apply own_load1 rfl rfl rfl; (first | exact row_dptr | exact row_ents | exact row_mint | exact row_int); (first | exact own_get 0 hO rfl | exact own_get 1 hO rfl | exact own_get 2 hO rfl | exact own_get 3 hO rfl | exact own_get 4 hO rfl | exact own_get 5 hO rfl | exact own_get 6 hO rfl | exact own_get 7 hO rfl); (first | (simp only [List.getElem?_toArray, List.getElem?_cons_succ, List.getElem?_cons_zero]; rfl) | rfl)))
            go_ret
            exact ⟨by rw [HX.out]; rfl, by rw [HX.out]; exact eng_open.2 ⟨_, _, _, _, _, _, HK.out, hO⟩, hS⟩
          · have h5 : ((we2.length : Int) == (F.l.length : Int)) = false := by rw [beq_eq_false_iff_ne]; omega
            have HX : Hid (E.sync = F.round.sync ∧ F.round.Ok ∧ Vl 900000 F.round ∧ F.round.m.length = E.m.length) := ⟨by rw [HF.out.1, sync_on HN0.out heq], round_ok HF.out.2.1, Vl.flushed _, by rw [round_m]; exact HF.out.2.2.2⟩
            have hlt2 : F.round.l.length < F.l.length := by omega
            clear heq hle
            go_wp2_with (first | (apply own_load1 rfl rfl rfl; (first | exact row_dptr | exact row_ents | exact row_mint | exact row_int); (first | exact own_get 0 hO rfl | exact own_get 1 hO rfl | exact own_get 2 hO rfl | exact own_get 3 hO rfl | exact own_get 4 hO rfl | exact own_get 5 hO rfl | exact own_get 6 hO rfl | exact own_get 7 hO rfl); (first | (simp only [List.getElem?_toArray, List.getElem?_cons_succ, List.getElem?_cons_zero]; rfl) | rfl)))
            go_roundw
            case rel => exact ⟨F.round, by rw [← hw2], HX, eng_open.2 ⟨_, _, _, _, _, _, HK.out, hO⟩, hS⟩
            case measure => simp [intOf]; omega
end
end Go.Proofs.YtlmkcnkidkoilaaGreat.H
set_option linter.unusedVariables false
set_option linter.unusedSimpArgs false
set_option maxRecDepth 100000
namespace Go.Proofs.YtlmkcnkidkoilaaGreat.H
open Go.RowKit
theorem rsok_nil {n : Nat} {g : List RdI} (h : (⟨2, .slice none 0 0, 0, []⟩ : RdI) ∈ g) : RSOk n (fun _ => []) [] (.slice none 0 0) g :=
  ⟨⟨none, 0, rfl, h⟩, fun y hy => (by cases hy), fun y hy => (by cases hy), List.nodup_nil, fun _ => rfl⟩
theorem rnew_e (w : World) (L : List HP) (q : Nat) (m : List Blk) (hO : Own w (rdiskP q m :: L)) (hlim : ∀ b ∈ m, b.vs.length ≤ 1000000) : Calls Tryz.prog 29 #[.pointer (some ⟨q, 0, none⟩)] w (RetX w (fun r : Nat => .pointer (some ⟨r, 0, none⟩)) (fun r => rengP r ⟨crashL allV 0 m, [], fun _ => [], 0⟩ :: rdiskP q m :: L)) := by
  have HLIM := Lib.hid hlim
  have hS := Same.refl w
  clear hlim
  go_enter Tryz.func29, Tryz.ntmps29
  go_wp2_with (first | (apply own_load1 rfl rfl rfl; (first | exact row_rdptr | exact row_wts | exact row_wrs | exact row_int); (first | exact own_get 0 hO rfl | exact own_get 1 hO rfl | exact own_get 2 hO rfl | exact own_get 3 hO rfl | exact own_get 4 hO rfl | exact own_get 5 hO rfl | exact own_get 6 hO rfl | exact own_get 7 hO rfl); (first | (simp only [List.getElem?_toArray, List.getElem?_cons_succ, List.getElem?_cons_zero]; rfl) | rfl)) | (go_at_call 66; (with_reducible refine Calls.mono (rfork_d _ _ q m hO HLIM.out) ?_); clear hO; rintro e u ⟨f, rfl, hO, hSn⟩; replace hS := hS.trans hSn; clear hSn) | (go_at_call 73; (with_reducible refine Calls.mono (call_at 1 (fun L' h => rflush_c _ L' f m h) rfl hO) ?_); clear hO; rintro e u ⟨rfl, hO, hSn⟩; replace hS := hS.trans hSn; clear hSn; simp only [List.set_cons_zero, List.set_cons_succ] at hO) | (refine own_box_agg (x := .tmp 8) rfl rfl rfl hO ?_; clear hO; intro ee u hO hSn; replace hS := hS.trans hSn; clear hSn))
  go_ret
  have hO := rdG_nil (rdG_nil (rdG_none hO) 2) 5
  exact ⟨ee, rfl, reng_open.2 ⟨f, .slice none 0 0, .slice none 0 0, [], [], _, ⟨rfl, wok_nil (List.mem_cons_self ..), rsok_nil (List.mem_cons_of_mem _ (List.mem_cons_self ..))⟩, own_order [1, 1, 0] hO rfl⟩, hS⟩
section
variable (w : World) (L : List HP) (r : Nat) (E : Eng)
theorem rround_e (hO : Own w (rengP r E :: L)) (hk : E.Ok) (hv : Vl 900000 E) (hm : E.m.length ≤ 1000) : Calls Tryz.prog 100 #[.pointer (some ⟨r, 0, none⟩)] w (Ret w (.bool (decide (E.round.l.length < E.l.length))) (rengP r E.round :: L)) := by
  have hS := Same.refl w
  have HM := Lib.hid hm
  have hEl := hk.len
  have HK0 := Lib.hid (And.intro hk hv)
  obtain ⟨q, lv, wv, we, ws, g, hkk, hO⟩ := reng_open.1 hO
  obtain ⟨A, c, rfl, _⟩ := hkk.2.1.rd
  have HK := Lib.hid hkk
  have HWL : Hid (we.length = E.l.length) := by show _ = _; rw [← hkk.1, List.length_map]
  clear hkk hk hv hm
  go_enter Tryz.func100, Tryz.ntmps100
  go_wp2_with (first | (apply own_load1 rfl rfl rfl; (first | exact row_rdptr | exact row_wts | exact row_wrs | exact row_int); (first | exact own_get 0 hO rfl | exact own_get 1 hO rfl | exact own_get 2 hO rfl | exact own_get 3 hO rfl | exact own_get 4 hO rfl | exact own_get 5 hO rfl | exact own_get 6 hO rfl | exact own_get 7 hO rfl); (first | (simp only [List.getElem?_toArray, List.getElem?_cons_succ, List.getElem?_cons_zero]; rfl) | rfl)))
  have hO := reng_open.2 ⟨q, _, wv, we, ws, g, HK.out, hO⟩
  clear HK
  rw [HWL.out]
  go_loopw [4] (fun iv wr => ∃ j : Nat, j ≤ E.m.length ∧ iv = .int .i64 j ∧ Own wr (rengP r (E.writes j) :: L) ∧ Same w wr) (fun iv _ => E.m.length - (intOf iv).toNat)
  case atStart => exact ⟨0, Nat.zero_le _, rfl, hO, hS⟩
  case round =>
    clear hO hS
    obtain ⟨j, hj, rfl, hO, hS⟩ := hrel
    obtain ⟨q, lv, wv, we, ws, g, hkk, hO⟩ := reng_open.1 hO
    have HK := Lib.hid hkk
    have HDS : Hid (∀ (w' : World) (L' : List HP), Own w' (rdiskP q (E.writes j).m :: L') → Calls Tryz.prog 86 #[.pointer (some ⟨q, 0, none⟩)] w' (Ret w' (.int .i64 E.m.length) (rdiskP q (E.writes j).m :: L'))) := Lib.hid fun w' L' h => by
      have h1 := rsize_c w' L' q (E.writes j).m h
      rwa [writes_len] at h1
    have hml := HM.out
    clear hkk
    by_cases hlt : j < E.m.length
    · have hm1 : (j : Int) < E.m.length := by omega
      have HWR : Hid (∀ w', Own w' (rengP r (E.writes j) :: L) → Calls Tryz.prog 68 #[.pointer (some ⟨r, 0, none⟩), .int .i64 j] w' (Ret w' (.tuple #[.int .i64 ((E.writes j).writeM j).1.1, .int .i64 ((E.writes j).writeM j).1.2]) (rengP r (E.writes (j + 1)) :: L))) := Lib.hid fun w' h => by
        rw [writes_next]
        exact rwrite_e w' L r (E.writes j) j h (writes_ok HK0.out.1 j) (by rw [writes_len]; exact hlt) (fun b hb => by have := writes_vl HK0.out.2 j b hb; omega)
      go_wp2_with (first | (apply own_load1 rfl rfl rfl; (first | exact row_rdptr | exact row_wts | exact row_wrs | exact row_int); (first | exact own_get 0 hO rfl | exact own_get 1 hO rfl | exact own_get 2 hO rfl | exact own_get 3 hO rfl | exact own_get 4 hO rfl | exact own_get 5 hO rfl | exact own_get 6 hO rfl | exact own_get 7 hO rfl); (first | (simp only [List.getElem?_toArray, List.getElem?_cons_succ, List.getElem?_cons_zero]; rfl) | rfl)) | (go_at_call 86; (with_reducible refine Calls.mono (call_at 1 (fun L' h => HDS.out _ L' h) rfl hO) ?_); clear hO; rintro e u ⟨rfl, hO, hSn⟩; replace hS := hS.trans hSn; clear hSn; simp only [List.set_cons_zero, List.set_cons_succ] at hO) | (go_at_call 68; (with_reducible refine Calls.mono (HWR.out _ (reng_open.2 ⟨_, _, _, _, _, _, HK.out, hO⟩)) ?_); clear hO; rintro e u ⟨rfl, hO, hSn⟩; replace hS := hS.trans hSn; clear hSn))
      go_roundw
      case rel => exact ⟨j + 1, by omega, by go_num, hO, hS⟩
      case measure => simp [intOf]; omega
    · have hje : j = E.m.length := by omega
      subst hje
      have HFL : Hid (∀ w', Own w' (rengP r (E.writes E.m.length) :: L) → Calls Tryz.prog 69 #[.pointer (some ⟨r, 0, none⟩)] w' (Ret w' (.int .i64 0) (rengP r E.round :: L))) := Lib.hid fun w' h => rflush_e w' L r _ h (by rw [writes_l]; exact HK0.out.1.len)
      go_upto_region 7 with (first | (apply own_load1 rfl rfl rfl; (first | exact row_rdptr | exact row_wts | exact row_wrs | exact row_int); (first | exact own_get 0 hO rfl | exact own_get 1 hO rfl | exact own_get 2 hO rfl | exact own_get 3 hO rfl | exact own_get 4 hO rfl | exact own_get 5 hO rfl | exact own_get 6 hO rfl | exact own_get 7 hO rfl); (first | (simp only [List.getElem?_toArray, List.getElem?_cons_succ, List.getElem?_cons_zero]; rfl) | rfl)) | (go_at_call 86; (with_reducible refine Calls.mono (call_at 1 (fun L' h => HDS.out _ L' h) rfl hO) ?_); clear hO; rintro e u ⟨rfl, hO, hSn⟩; replace hS := hS.trans hSn; clear hSn; simp only [List.set_cons_zero, List.set_cons_succ] at hO) | (go_at_call 69; (with_reducible refine Calls.mono (HFL.out _ (reng_open.2 ⟨_, _, _, _, _, _, HK.out, hO⟩)) ?_); clear hO; rintro e u ⟨rfl, hO, hSn⟩; replace hS := hS.trans hSn; clear hSn))
      clear HK HDS HFL
      obtain ⟨q2, lv2, wv2, we2, ws2, g2, hkk, hO⟩ := reng_open.1 hO
      obtain ⟨A2, c2, rfl, _⟩ := hkk.2.1.rd
      have HK := Lib.hid hkk
      have hw2 : we2.length = E.round.l.length := by rw [← hkk.1, List.length_map]
      have hle := round_len E
      clear hkk
      obtain ⟨b, hb⟩ : ∃ b, decide (E.round.l.length < E.l.length) = b := ⟨_, rfl⟩
      have HB := Lib.hid hb
      have HB2 : Hid (decide (we2.length < E.l.length) = b) := by show _ = _; rw [← hb, hw2]
      clear hb hw2 hle
      go_wp2_with (first | (apply own_load1 rfl rfl rfl; (first | exact row_rdptr | exact row_wts | exact row_wrs | exact row_int); (first | exact own_get 0 hO rfl | exact own_get 1 hO rfl | exact own_get 2 hO rfl | exact own_get 3 hO rfl | exact own_get 4 hO rfl | exact own_get 5 hO rfl | exact own_get 6 hO rfl | exact own_get 7 hO rfl); (first | (simp only [List.getElem?_toArray, List.getElem?_cons_succ, List.getElem?_cons_zero]; rfl) | rfl)))
      go_ret
      exact ⟨by rw [HB.out, ← HB2.out]; rfl, reng_open.2 ⟨_, _, _, _, _, _, HK.out, hO⟩, hS⟩
/-- How many wait, as the memory tells. -/
def lenV : Value → Nat
  | .slice _ n _ => n
  | _ => 0
def lenO (i : Nat) : Obj → Nat
  | .cells cs _ _ => lenV (cs.getD i (.bool false))
  | _ => 0
def manyR (r : Nat) (w : World) : Nat := ((w.heap[r]?).map (lenO 1)).getD 0
theorem many_of {w : World} {L : List HP} {r : Nat} {E : Eng} (h : Own w (rengP r E :: L)) : manyR r w = E.l.length := by
  obtain ⟨q, lv, wv, we, ws, g, hkk, hO⟩ := reng_open.1 h
  obtain ⟨A, c, rfl, _⟩ := hkk.2.1.rd
  have h1 := own_get 0 hO rfl
  unfold manyR
  rw [h1, ← hkk.1, List.length_map]
  rfl
theorem rsync_e (hO : Own w (rengP r E :: L)) (hk : E.Ok) (hv : Vl 900000 E) (hm : E.m.length ≤ 1000) : Calls Tryz.prog 70 #[.pointer (some ⟨r, 0, none⟩)] w (Ret w (.int .i64 E.sync.1) (rengP r E.sync.2 :: L)) := by
  have hS := Same.refl w
  have HM := Lib.hid hm
  have HK0 := Lib.hid (And.intro hk hv)
  clear hk hv hm
  go_enter Tryz.func70, Tryz.ntmps70
  go_wp2
  go_loopw [] (fun wr => ∃ F : Eng, Hid (E.sync = F.sync ∧ F.Ok ∧ Vl 900000 F ∧ F.m.length = E.m.length) ∧ Own wr (rengP r F :: L) ∧ Same w wr) (fun wr => manyR r wr)
  case atStart => exact ⟨E, ⟨rfl, HK0.out.1, HK0.out.2, rfl⟩, hO, hS⟩
  case round =>
    clear hO hS HK0
    obtain ⟨F, HF, hO, hS⟩ := hrel
    have HMR := Lib.hid (many_of hO)
    have hFl := HF.out.2.1.len
    obtain ⟨q, lv, wv, we, ws, g, hkk, hO⟩ := reng_open.1 hO
    obtain ⟨A, c, rfl, _⟩ := hkk.2.1.rd
    have HK := Lib.hid hkk
    have HWL : Hid (we.length = F.l.length) := by show _ = _; rw [← hkk.1, List.length_map]
    have hwl := HWL.out
    clear hkk
    by_cases h0 : F.l.length = 0
    · have h1 : ¬ (0 < (we.length : Int)) := by omega
      have HX : Hid (E.sync = (0, F)) := by show _ = _; rw [HF.out.1, sync_none h0]
      clear h0 hwl
      go_wp2_with (first | (apply own_load1 rfl rfl rfl; (first | exact row_rdptr | exact row_wts | exact row_wrs | exact row_int); (first | exact own_get 0 hO rfl | exact own_get 1 hO rfl | exact own_get 2 hO rfl | exact own_get 3 hO rfl | exact own_get 4 hO rfl | exact own_get 5 hO rfl | exact own_get 6 hO rfl | exact own_get 7 hO rfl); (first | (simp only [List.getElem?_toArray, List.getElem?_cons_succ, List.getElem?_cons_zero]; rfl) | rfl)))
      go_ret
      exact ⟨by rw [HX.out]; rfl, by rw [HX.out]; exact reng_open.2 ⟨_, _, _, _, _, _, HK.out, hO⟩, hS⟩
    · have h1 : 0 < (we.length : Int) := by omega
      have HN0 := Lib.hid h0
      have hle := round_len F
      by_cases heq : F.round.l.length = F.l.length
      · have HRD : Hid (∀ w', Own w' (rengP r F :: L) → Calls Tryz.prog 100 #[.pointer (some ⟨r, 0, none⟩)] w' (Ret w' (.bool false) (rengP r F.round :: L))) := Lib.hid fun w' h => by
          have h2 := rround_e w' L r F h HF.out.2.1 HF.out.2.2.1 (by rw [HF.out.2.2.2]; exact HM.out)
          rwa [decide_eq_false (by omega)] at h2
        have HX : Hid (E.sync = (10, F.round)) := by show _ = _; rw [HF.out.1, sync_stuck HN0.out heq]
        clear heq hle h0 hwl
        go_wp2_with (first | (apply own_load1 rfl rfl rfl; (first | exact row_rdptr | exact row_wts | exact row_wrs | exact row_int); (first | exact own_get 0 hO rfl | exact own_get 1 hO rfl | exact own_get 2 hO rfl | exact own_get 3 hO rfl | exact own_get 4 hO rfl | exact own_get 5 hO rfl | exact own_get 6 hO rfl | exact own_get 7 hO rfl); (first | (simp only [List.getElem?_toArray, List.getElem?_cons_succ, List.getElem?_cons_zero]; rfl) | rfl)) | (go_at_call 100; (with_reducible refine Calls.mono (HRD.out _ (reng_open.2 ⟨_, _, _, _, _, _, HK.out, hO⟩)) ?_); clear hO; rintro e u ⟨rfl, hO, hSn⟩; replace hS := hS.trans hSn; clear hSn))
        go_ret
        exact ⟨by rw [HX.out]; rfl, by rw [HX.out]; exact hO, hS⟩
      · have HRD : Hid (∀ w', Own w' (rengP r F :: L) → Calls Tryz.prog 100 #[.pointer (some ⟨r, 0, none⟩)] w' (Ret w' (.bool true) (rengP r F.round :: L))) := Lib.hid fun w' h => by
          have h2 := rround_e w' L r F h HF.out.2.1 HF.out.2.2.1 (by rw [HF.out.2.2.2]; exact HM.out)
          rwa [decide_eq_true (by omega)] at h2
        have HX : Hid (E.sync = F.round.sync ∧ F.round.Ok ∧ Vl 900000 F.round ∧ F.round.m.length = E.m.length) := ⟨by rw [HF.out.1, sync_on HN0.out heq], round_ok HF.out.2.1, Vl.flushed _, by rw [round_m]; exact HF.out.2.2.2⟩
        have HLT : Hid (F.round.l.length < F.l.length) := by show _ < _; omega
        clear heq hle h0 hwl
        go_wp2_with (first | (apply own_load1 rfl rfl rfl; (first | exact row_rdptr | exact row_wts | exact row_wrs | exact row_int); (first | exact own_get 0 hO rfl | exact own_get 1 hO rfl | exact own_get 2 hO rfl | exact own_get 3 hO rfl | exact own_get 4 hO rfl | exact own_get 5 hO rfl | exact own_get 6 hO rfl | exact own_get 7 hO rfl); (first | (simp only [List.getElem?_toArray, List.getElem?_cons_succ, List.getElem?_cons_zero]; rfl) | rfl)) | (go_at_call 100; (with_reducible refine Calls.mono (HRD.out _ (reng_open.2 ⟨_, _, _, _, _, _, HK.out, hO⟩)) ?_); clear hO; rintro e u ⟨rfl, hO, hSn⟩; replace hS := hS.trans hSn; clear hSn))
        have HM2 := Lib.hid (many_of hO)
        go_roundw
        case rel => exact ⟨F.round, HX, hO, hS⟩
        case measure => rw [HMR.out, HM2.out]; exact HLT.out
end
end Go.Proofs.YtlmkcnkidkoilaaGreat.H
