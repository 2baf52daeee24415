/- Crash and Sync of the program's engine. The plain law behind EngineSyncs: without bad blocks a Sync lets all last. The plain law behind TopStacked: a stack and an engine say the same of a block. The plain law behind TopChain: a row of patches, each on its own block, each behind the one ahead. TopChain: adding one of the row. TopStacked: contracts of a stack and an engine side by side. -/
import Derived.Test.YtonohjhmnlfakaaZ26
import Derived.Test.YtonohjhmnlfakaaZ08
set_option linter.unusedVariables false
set_option linter.unusedSimpArgs false
set_option maxRecDepth 100000
namespace Go.Proofs.Ytonohjhmnlfakaa.H
open Go.RowKit
theorem writes_next (E : Eng) (k : Nat) : E.writes (k + 1) = ((E.writes k).writeM k).2 := by
  unfold Eng.writes
  rw [List.range_succ, List.foldl_append]
  rfl
theorem writes_l (E : Eng) : ∀ k, (E.writes k).l = E.l
  | 0 => rfl
  | k + 1 => by rw [writes_next, write_l, writes_l E k]
theorem writes_len (E : Eng) : ∀ k, (E.writes k).m.length = E.m.length
  | 0 => rfl
  | k + 1 => by rw [writes_next, write_len, writes_len E k]
theorem writes_nx (E : Eng) : ∀ k, (E.writes k).next = E.next
  | 0 => rfl
  | k + 1 => by rw [writes_next, write_next, writes_nx E k]
theorem writes_ok {E : Eng} (h : E.Ok) : ∀ k, (E.writes k).Ok
  | 0 => h
  | k + 1 => by rw [writes_next]; exact (writes_ok h k).write k
theorem writes_inv {E : Eng} (hI : E.Inv) (h : E.Ok) : ∀ k, (E.writes k).Inv
  | 0 => hI
  | k + 1 => by rw [writes_next]; exact (writes_inv hI h k).write (writes_ok h k) k
theorem writes_vl {n : Nat} {E : Eng} (h : Vl n E) : ∀ k, Vl (n + k) (E.writes k)
  | 0 => h
  | k + 1 => by rw [writes_next]; exact (writes_vl h k).write k
theorem round_len (E : Eng) : E.round.l.length ≤ E.l.length := by
  show ((E.writes E.m.length).l.filter _).length ≤ _
  rw [writes_l]
  exact List.length_filter_le _ _
theorem round_ok {E : Eng} (h : E.Ok) : E.round.Ok := (writes_ok h _).flushed
theorem round_inv {E : Eng} (hI : E.Inv) (h : E.Ok) : E.round.Inv := (writes_inv hI h _).flushed (writes_ok h _)
theorem round_m (E : Eng) : E.round.m.length = E.m.length := by
  show (Eng.flushed _).m.length = _
  rw [flushed_len, writes_len]
theorem syncGo_more : ∀ (k k' : Nat) (E : Eng), E.l.length ≤ k → k ≤ k' → Eng.syncGo k' E = Eng.syncGo k E
  | 0, k', E, h, _ => by
    have h0 : E.l.length = 0 := by omega
    cases k' with
    | zero => rfl
    | succ k' => unfold Eng.syncGo; rw [if_pos h0]
  | k + 1, 0, E, h, hk => by omega
  | k + 1, k' + 1, E, h, hk => by
    unfold Eng.syncGo
    by_cases h0 : E.l.length = 0
    · rw [if_pos h0, if_pos h0]
    · rw [if_neg h0, if_neg h0]
      by_cases h1 : E.round.l.length = E.l.length
      · rw [if_pos h1, if_pos h1]
      · rw [if_neg h1, if_neg h1]
        have := round_len E
        exact syncGo_more k k' E.round (by omega) (by omega)
theorem syncGo_succ (k : Nat) (E : Eng) : Eng.syncGo (k + 1) E = if E.l.length = 0 then (0, E) else if E.round.l.length = E.l.length then (10, E.round) else Eng.syncGo k E.round := rfl
theorem sync_none {E : Eng} (h : E.l.length = 0) : E.sync = (0, E) := by
  unfold Eng.sync
  rw [h]
  rfl
theorem sync_stuck {E : Eng} (h : E.l.length ≠ 0) (h1 : E.round.l.length = E.l.length) : E.sync = (10, E.round) := by
  unfold Eng.sync
  obtain ⟨k, hk⟩ : ∃ k, E.l.length = k + 1 := ⟨E.l.length - 1, by omega⟩
  rw [hk, syncGo_succ, if_neg h, if_pos h1]
theorem sync_on {E : Eng} (h : E.l.length ≠ 0) (h1 : E.round.l.length ≠ E.l.length) : E.sync = E.round.sync := by
  have h2 := round_len E
  unfold Eng.sync
  obtain ⟨k, hk⟩ : ∃ k, E.l.length = k + 1 := ⟨E.l.length - 1, by omega⟩
  rw [hk, syncGo_succ, if_neg h, if_neg h1]
  exact syncGo_more _ _ _ (Nat.le_refl _) (by omega)
section
variable (w : World) (L : List HP) (e : Nat) (E : Eng)
theorem ecrash_c (v : Value) (l : List Int) (hO : Own w (engP e E :: L)) (hk : E.Ok) (hv : Vl 1000000 E) (hr : ∀ w', Own w' L → Rd w' 1 v l.length (l.map encZ)) : Calls Try.prog 19 #[.pointer (some ⟨e, 0, none⟩), v] w (RetX w (fun f : Nat => .pointer (some ⟨f, 0, none⟩)) (fun f => diskP f (crashL (pickV l) 0 E.m) :: engP e E :: L)) := by
  obtain ⟨d, wv, bs, fs, we, g, hkk, hO⟩ := eng_open.1 hO
  have HK := Lib.hid hkk
  have H0 : Hid (0 < E.m.length) := hk.pos
  have HV : Hid (∀ b ∈ E.m, b.vs.length ≤ 1000000) := hv
  have HR := Lib.hid hr
  have hS := Same.refl w
  clear hkk hk hv hr
  have hO := own_order [1] hO rfl
  simp only [List.eraseIdx_cons_succ, List.eraseIdx_zero, List.tail_cons] at hO
  go_enter Try.func19, Try.ntmps19
  go_wp2_with (first | (apply own_load1 rfl rfl rfl; (first | exact row_dptr | exact row_ents | exact row_mint | exact row_int); (first | exact own_get 0 hO rfl | exact own_get 1 hO rfl | exact own_get 2 hO rfl | exact own_get 3 hO rfl | exact own_get 4 hO rfl | exact own_get 5 hO rfl | exact own_get 6 hO rfl | exact own_get 7 hO rfl); (first | (simp only [List.getElem?_toArray, List.getElem?_cons_succ, List.getElem?_cons_zero]; rfl) | rfl)) | (go_at_call 31; (with_reducible refine Calls.mono (fork_ok _ _ d E.m hO H0.out HV.out) ?_); clear hO; rintro e1 u ⟨f, rfl, hO, hSn⟩; replace hS := hS.trans hSn; clear hSn) | (go_at_call 60; (with_reducible refine Calls.mono (crash_c _ _ f E.m v l hO H0.out HV.out (fun w' h => HR.out w' (own_drop (own_drop (own_drop (own_drop h)))))) ?_); clear hO; rintro e u ⟨rfl, hO, hSn⟩; replace hS := hS.trans hSn; clear hSn))
  go_ret
  refine ⟨f, rfl, ?_, hS⟩
  exact own_swap (eng_open.2 ⟨d, wv, bs, fs, we, g, HK.out, own_order [2, 1, 1, 1] hO rfl⟩)
set_option maxHeartbeats 1600000 in
theorem esync_c (hO : Own w (engP e E :: L)) (hk : E.Ok) (hv : Vl 900000 E) (hm : E.m.length ≤ 1000) : Calls Try.prog 21 #[.pointer (some ⟨e, 0, none⟩)] w (Ret w (.int .i64 E.sync.1) (engP e E.sync.2 :: L)) := by
  have hS := Same.refl w
  have HM := Lib.hid hm
  have HK0 := Lib.hid (And.intro hk hv)
  obtain ⟨d, wv, bs, fs, we, g, hkk, hO⟩ := eng_open.1 hO
  obtain ⟨A, c, rfl, _⟩ := hkk.2.1.rd
  have HK := Lib.hid hkk
  have HWL : Hid (we.length = E.l.length) := by show _ = _; rw [← hkk.1, List.length_map]
  clear hkk hk hv hm
  go_enter Try.func21, Try.ntmps21
  go_wp2_with (first | (apply own_load1 rfl rfl rfl; (first | exact row_dptr | exact row_ents | exact row_mint | exact row_int); (first | exact own_get 0 hO rfl | exact own_get 1 hO rfl | exact own_get 2 hO rfl | exact own_get 3 hO rfl | exact own_get 4 hO rfl | exact own_get 5 hO rfl | exact own_get 6 hO rfl | exact own_get 7 hO rfl); (first | (simp only [List.getElem?_toArray, List.getElem?_cons_succ, List.getElem?_cons_zero]; rfl) | rfl)))
  have hO := eng_open.2 ⟨d, _, bs, fs, we, g, HK.out, hO⟩
  clear HK
  rw [HWL.out]
  go_loopw [3] (fun iv wr => ∃ F : Eng, iv = .int .i64 F.l.length ∧ Hid (E.sync = F.sync ∧ F.Ok ∧ Vl 900000 F ∧ F.m.length = E.m.length) ∧ Own wr (engP e F :: L) ∧ Same w wr) (fun iv _ => (intOf iv).toNat)
  case atStart => exact ⟨E, rfl, ⟨rfl, HK0.out.1, HK0.out.2, rfl⟩, hO, hS⟩
  case round =>
    clear hO hS HK0
    obtain ⟨F, rfl, HF, hO, hS⟩ := hrel
    by_cases h0 : F.l.length = 0
    · have h1 : ¬ (0 < (F.l.length : Int)) := by omega
      have HX : Hid (E.sync = (0, F)) := by show _ = _; rw [HF.out.1, sync_none h0]
      clear h0
      go_wp2
      go_ret
      exact ⟨by rw [HX.out]; rfl, by rw [HX.out]; exact hO, hS⟩
    · have h1 : 0 < (F.l.length : Int) := by omega
      have hFl := HF.out.2.1.len
      have hml := HF.out.2.2.2
      have HFM : Hid (F.m.length ≤ 1000) := by show _ ≤ _; rw [hml]; exact HM.out
      have hfm := HFM.out
      have HN0 := Lib.hid h0
      clear h0 hml
      have HDS : Hid (∀ (w' : World) (L' : List HP) (d : Nat), Own w' (diskP d F.m :: L') → Calls Try.prog 37 #[.pointer (some ⟨d, 0, none⟩)] w' (Ret w' (.int .i64 F.m.length) (diskP d F.m :: L'))) := Lib.hid fun w' L' d h => size_c w' L' d F.m h
      obtain ⟨d, wv, bs, fs, we, g, hkk, hO⟩ := eng_open.1 hO
      have HK := Lib.hid hkk
      clear hkk
      go_wp2_with (first | (apply own_load1 rfl rfl rfl; (first | exact row_dptr | exact row_ents | exact row_mint | exact row_int); (first | exact own_get 0 hO rfl | exact own_get 1 hO rfl | exact own_get 2 hO rfl | exact own_get 3 hO rfl | exact own_get 4 hO rfl | exact own_get 5 hO rfl | exact own_get 6 hO rfl | exact own_get 7 hO rfl); (first | (simp only [List.getElem?_toArray, List.getElem?_cons_succ, List.getElem?_cons_zero]; rfl) | rfl)) | (go_at_call 37; (with_reducible refine Calls.mono (call_at 1 (fun L' h => HDS.out _ L' d h) rfl hO) ?_); clear hO; rintro e u ⟨rfl, hO, hSn⟩; replace hS := hS.trans hSn; clear hSn; simp only [List.set_cons_zero, List.set_cons_succ] at hO))
      have hO := eng_open.2 ⟨d, _, bs, fs, we, g, HK.out, hO⟩
      clear HK
      go_loopw [25] (fun jv wr => ∃ j : Nat, j ≤ F.m.length ∧ jv = .int .i64 j ∧ Own wr (engP e (F.writes j) :: L) ∧ Same w wr) (fun jv _ => F.m.length - (intOf jv).toNat)
      case atStart => exact ⟨0, Nat.zero_le _, rfl, hO, hS⟩
      case round =>
        clear hO hS
        obtain ⟨j, hj, rfl, hO, hS⟩ := hrel
        by_cases hlt : j < F.m.length
        · have hm1 : (j : Int) < F.m.length := by omega
          have HWR : Hid (∀ w', Own w' (engP e (F.writes j) :: L) → Calls Try.prog 17 #[.pointer (some ⟨e, 0, none⟩), .int .i64 j] w' (Ret w' (.tuple #[.int .i64 ((F.writes j).writeM j).1.1, .int .i64 ((F.writes j).writeM j).1.2]) (engP e (F.writes (j + 1)) :: L))) := Lib.hid fun w' h => by
            rw [writes_next]
            exact ewrite_c w' L e (F.writes j) j h (writes_ok HF.out.2.1 j) (by rw [writes_len]; exact hlt) (fun b hb => by have := writes_vl HF.out.2.2.1 j b hb; omega)
          go_wp2_with (first | (go_at_call 17; (with_reducible refine Calls.mono (HWR.out _ hO) ?_); clear hO; rintro e u ⟨rfl, hO, hSn⟩; replace hS := hS.trans hSn; clear hSn))
          go_roundw
          case rel => exact ⟨j + 1, by omega, by go_num, hO, hS⟩
          case measure => simp [intOf]; omega
        · have hje : j = F.m.length := by omega
          subst hje
          have HVW : Hid (∀ b ∈ (F.writes F.m.length).m, b.vs.length ≤ 1000000) := Lib.hid fun b hb => by have := writes_vl HF.out.2.2.1 F.m.length b hb; omega
          have HOW := Lib.hid (writes_ok HF.out.2.1 F.m.length)
          have HFLU : Hid (∀ w', Own w' (engP e (F.writes F.m.length) :: L) → Calls Try.prog 18 #[.pointer (some ⟨e, 0, none⟩)] w' (Ret w' (.int .i64 0) (engP e F.round :: L))) := Lib.hid fun w' h => eflush_c w' L e _ h HOW.out HVW.out
          go_upto_region 12 with (first | (go_at_call 18; (with_reducible refine Calls.mono (HFLU.out _ hO) ?_); clear hO; rintro e u ⟨rfl, hO, hSn⟩; replace hS := hS.trans hSn; clear hSn))
          clear HFLU HVW HOW
          obtain ⟨d2, wv2, bs2, fs2, we2, g2, hkk, hO⟩ := eng_open.1 hO
          obtain ⟨A2, c2, rfl, _⟩ := hkk.2.1.rd
          have HK := Lib.hid hkk
          have hw2 : we2.length = F.round.l.length := by rw [← hkk.1, List.length_map]
          have hle := round_len F
          clear hkk
          by_cases heq : F.round.l.length = F.l.length
          · have h5 : (we2.length : Int) = (F.l.length : Int) := by omega
            have HX : Hid (E.sync = (10, F.round)) := by show _ = _; rw [HF.out.1, sync_stuck HN0.out heq]
            clear heq hw2 hle
            go_wp2_with (first | (apply own_load1 rfl rfl rfl; (first | exact row_dptr | exact row_ents | exact row_mint | exact row_int); (first | exact own_get 0 hO rfl | exact own_get 1 hO rfl | exact own_get 2 hO rfl | exact own_get 3 hO rfl | exact own_get 4 hO rfl | exact own_get 5 hO rfl | exact own_get 6 hO rfl | exact own_get 7 hO rfl); (first | (simp only [List.getElem?_toArray, List.getElem?_cons_succ, List.getElem?_cons_zero]; rfl) | rfl)))
            go_ret
            exact ⟨by rw [HX.out]; rfl, by rw [HX.out]; exact eng_open.2 ⟨_, _, _, _, _, _, HK.out, hO⟩, hS⟩
          · have h5 : ((we2.length : Int) == (F.l.length : Int)) = false := by rw [beq_eq_false_iff_ne]; omega
            have HX : Hid (E.sync = F.round.sync ∧ F.round.Ok ∧ Vl 900000 F.round ∧ F.round.m.length = E.m.length) := ⟨by rw [HF.out.1, sync_on HN0.out heq], round_ok HF.out.2.1, Vl.flushed _, by rw [round_m]; exact HF.out.2.2.2⟩
            have hlt2 : F.round.l.length < F.l.length := by omega
            clear heq hle
            go_wp2_with (first | (apply own_load1 rfl rfl rfl; (first | exact row_dptr | exact row_ents | exact row_mint | exact row_int); (first | exact own_get 0 hO rfl | exact own_get 1 hO rfl | exact own_get 2 hO rfl | exact own_get 3 hO rfl | exact own_get 4 hO rfl | exact own_get 5 hO rfl | exact own_get 6 hO rfl | exact own_get 7 hO rfl); (first | (simp only [List.getElem?_toArray, List.getElem?_cons_succ, List.getElem?_cons_zero]; rfl) | rfl)))
            go_roundw
            case rel => exact ⟨F.round, by rw [← hw2], HX, eng_open.2 ⟨_, _, _, _, _, _, HK.out, hO⟩, hS⟩
            case measure => simp [intOf]; omega
end
end Go.Proofs.Ytonohjhmnlfakaa.H
set_option linter.unusedVariables false
set_option linter.unusedSimpArgs false
namespace Go.Proofs.Ytonohjhmnlfakaa.H
open Go.RowKit
/-- A block that has versions was written. -/
def Sne (E : Eng) : Prop := ∀ (i : Nat) (b : Blk), E.m[i]? = some b → b.vs ≠ [] → E.s i ≠ []
/-- No block is bad. -/
def Hale (E : Eng) : Prop := ∀ b ∈ E.m, b.bad = false
theorem Sne.write {E : Eng} (h : Sne E) (i : Nat) : Sne (E.writeM i).2 := by
  rcases write_cases E i with e | ⟨b, hb, _, hr, _, e⟩
  · rw [e]; exact h
  · rw [e]
    intro j c hc hv
    show (if j = i then readyL E.l i else E.s j) ≠ []
    by_cases ej : j = i
    · rw [if_pos ej]; exact hr
    · rw [if_neg ej]
      have hc : (E.m.set i (b.wr (E.bytes i b fun x => (readyL E.l i).contains (x.n : Int))))[j]? = some c := hc
      rw [List.getElem?_set, if_neg (fun h => ej h.symm)] at hc
      exact h j c hc hv
theorem flushed_vs {E : Eng} : ∀ b ∈ E.flushed.m, b.vs = [] := fun b hb => by
  have hb : b ∈ crashL allV 0 E.m := hb
  rw [crashL_all] at hb
  obtain ⟨c, _, rfl⟩ := List.mem_map.1 hb
  rfl
theorem Sne.flushed {E : Eng} : Sne E.flushed := fun i b hb hv => absurd (flushed_vs b (List.mem_of_getElem? hb)) hv
theorem addM_s (E : Eng) (l : List It) : (E.addM l).2.s = E.s := by
  unfold Eng.addM
  split
  · rfl
  · split
    · rfl
    · split
      · rfl
      · exact Eng.addK_s E E.next l
theorem Sne.add {E : Eng} (h : Sne E) (l : List It) : Sne (E.addM l).2 := by
  unfold Sne
  rw [addM_m, addM_s]
  exact h
theorem Sne.spoil {E : Eng} (h : Sne E) {i : Nat} {b : Blk} (bad : Bool) (hb : E.m[i]? = some b) : Sne ⟨E.m.set i ⟨b.s, b.vs, bad⟩, E.l, E.s, E.next⟩ := by
  intro j c hc hv
  have hc : (E.m.set i ⟨b.s, b.vs, bad⟩)[j]? = some c := hc
  by_cases e : i = j
  · subst e
    rw [List.getElem?_set, if_pos rfl, if_pos (List.getElem?_eq_some_iff.1 hb).1] at hc
    cases hc
    exact h i b hb hv
  · rw [List.getElem?_set, if_neg e] at hc
    exact h j c hc hv
theorem Sne.fresh (n : Nat) : Sne (eng0 n) := fun i b hb hv => by
  have hb := List.mem_of_getElem? hb
  have hb : b ∈ crashL allV 0 _ := hb
  rw [crashL_all] at hb
  obtain ⟨c, _, rfl⟩ := List.mem_map.1 hb
  exact absurd rfl hv
theorem writes_keep {P : Eng → Prop} (hw : ∀ F i, P F → P (F.writeM i).2) {E : Eng} (h : P E) : ∀ k, P (E.writes k)
  | 0 => h
  | k + 1 => by rw [writes_next]; exact hw _ _ (writes_keep hw h k)
theorem syncGo_keep {P : Eng → Prop} (hr : ∀ F, P F → P F.round) : ∀ (k : Nat) (E : Eng), P E → P (Eng.syncGo k E).2
  | 0, E, h => h
  | k + 1, E, h => by
    rw [syncGo_succ]
    split
    · exact h
    · split
      · exact hr E h
      · exact syncGo_keep hr k E.round (hr E h)
theorem sync_keep {P : Eng → Prop} (hr : ∀ F, P F → P F.round) {E : Eng} (h : P E) : P E.sync.2 := syncGo_keep hr _ E h
theorem sync_ok {E : Eng} (h : E.Ok) (hI : E.Inv) : E.sync.2.Ok ∧ E.sync.2.Inv := sync_keep (P := fun F => F.Ok ∧ F.Inv) (fun F h => ⟨round_ok h.1, round_inv h.2 h.1⟩) ⟨h, hI⟩
theorem Sne.sync {E : Eng} (h : Sne E) : Sne E.sync.2 := sync_keep (P := Sne) (fun F h => Sne.flushed) h
theorem sync_vl {n : Nat} {E : Eng} (h : Vl n E) : Vl n E.sync.2 := sync_keep (P := Vl n) (fun F h => Vl.flushed n) h
theorem sync_m (E : Eng) : E.sync.2.m.length = E.m.length := sync_keep (P := fun F => F.m.length = E.m.length) (fun F h => by rw [round_m]; exact h) rfl
theorem sync_nx (E : Eng) : E.sync.2.next = E.next := sync_keep (P := fun F => F.next = E.next) (fun F h => by show (F.writes F.m.length).next = E.next; rw [writes_nx]; exact h) rfl
theorem Hale.write {E : Eng} (h : Hale E) (i : Nat) : Hale (E.writeM i).2 := by
  rcases write_cases E i with e | ⟨b, hb, hbad, hr, _, e⟩
  · rw [e]; exact h
  · rw [e]
    intro c hc
    rcases List.mem_or_eq_of_mem_set hc with hc | rfl
    · exact h c hc
    · exact hbad
theorem Hale.flushed {E : Eng} (h : Hale E) : Hale E.flushed := fun b hb => by
  have hb : b ∈ crashL allV 0 E.m := hb
  rw [crashL_all] at hb
  obtain ⟨c, hc, rfl⟩ := List.mem_map.1 hb
  exact h c hc
theorem Hale.round {E : Eng} (h : Hale E) : Hale E.round := (writes_keep (P := Hale) (fun F i h => h.write i) h _).flushed
/-- The first one that waits could be written. -/
theorem ready_first {E : Eng} (hA : E.Ok) {x : Wt} {r : List Wt} (hl : E.l = x :: r) : (x.n : Int) ∈ readyL E.l x.p.blk := by
  have hx : x ∈ E.l := by rw [hl]; exact List.mem_cons_self ..
  refine (ready_iff hA.asc hx).2 ⟨rfl, fun d hd hw => ?_⟩
  exfalso
  have h1 := hA.asc.beh x hx d hd
  obtain ⟨y, hy, e⟩ := List.mem_map.1 hw
  have e : ((y.n : Nat) : Int) = d := e
  have h2 := hA.asc.asc
  rw [hl] at hy h2
  rcases List.mem_cons.1 hy with rfl | hy
  · omega
  · have := (List.pairwise_cons.1 h2).1 y hy
    omega
theorem write_s {E : Eng} {i : Nat} (j : Nat) (h : j ≠ i) : (E.writeM i).2.s j = E.s j := by
  rcases write_cases E i with e | ⟨b, hb, _, hr, _, e⟩
  · rw [e]
  · rw [e]
    show (if j = i then readyL E.l i else E.s j) = _
    rw [if_neg h]
theorem write_at {E : Eng} {i : Nat} {b : Blk} (hb : E.m[i]? = some b) (hbad : b.bad = false) (hr : readyL E.l i ≠ []) : (E.writeM i).2.s i = readyL E.l i := by
  unfold Eng.writeM
  rw [hb]
  simp only
  by_cases h2 : readyL E.l i = E.s i
  · rw [if_pos (.inr h2)]; exact h2.symm
  · rw [if_neg (fun h => h.elim hr h2), if_neg (by rw [hbad]; decide)]
    show (if i = i then readyL E.l i else E.s i) = _
    rw [if_pos rfl]
theorem writes_at {E : Eng} (hH : Hale E) {i : Nat} (hi : i < E.m.length) (hr : readyL E.l i ≠ []) : ∀ k, i < k → (E.writes k).s i = readyL E.l i
  | 0, h => by omega
  | k + 1, h => by
    rw [writes_next]
    by_cases e : i = k
    · subst e
      obtain ⟨b, hb⟩ : ∃ b, (E.writes i).m[i]? = some b := ⟨_, List.getElem?_eq_getElem (by rw [writes_len]; exact hi)⟩
      have h1 := write_at hb (writes_keep (P := Hale) (fun F i h => h.write i) hH i b (List.mem_of_getElem? hb)) (by rw [writes_l]; exact hr)
      rw [h1, writes_l]
    · rw [write_s i e]
      exact writes_at hH hi hr k (by omega)
theorem round_less {E : Eng} (hA : E.Ok) (hH : Hale E) (h0 : E.l ≠ []) : E.round.l.length < E.l.length := by
  obtain ⟨x, r, hl⟩ : ∃ x r, E.l = x :: r := by
    cases h : E.l with
    | nil => exact absurd h h0
    | cons x r => exact ⟨x, r, rfl⟩
  have hx : x ∈ E.l := by rw [hl]; exact List.mem_cons_self ..
  have hf := ready_first hA hl
  obtain ⟨hr1, hr2⟩ := hA.right x hx
  obtain ⟨p1, p2, p3, p4, p5, p6⟩ := rightB_iff.1 hr1
  obtain ⟨i, hi⟩ : ∃ i : Nat, x.p.blk = (i : Int) := ⟨x.p.blk.toNat, by omega⟩
  rw [hi] at hf hr2
  have h1 := writes_at hH (i := i) (by omega) (List.ne_nil_of_mem hf) E.m.length (by omega)
  show ((E.writes E.m.length).l.filter _).length < _
  rw [writes_l]
  rw [List.length_filter_lt_length_iff_exists]
  refine ⟨x, hx, ?_⟩
  have : inAny (E.writes E.m.length).m.length (E.writes E.m.length).s (x.n : Int) = true := by
    unfold inAny
    rw [List.any_eq_true]
    refine ⟨i, List.mem_range.2 (by rw [writes_len]; omega), ?_⟩
    rw [h1]
    simpa using hf
  rw [this]
  decide
/-- Without bad blocks a Sync lets all last. -/
theorem sync_all : ∀ (n : Nat) (E : Eng), E.l.length = n → E.Ok → Hale E → E.sync.1 = 0 ∧ E.sync.2.l = [] := by
  intro n
  induction n using Nat.strongRecOn with
  | _ n ih =>
    intro E hn hA hH
    by_cases h0 : E.l.length = 0
    · rw [sync_none h0]
      exact ⟨rfl, List.eq_nil_of_length_eq_zero h0⟩
    · have h1 := round_less hA hH (fun h => h0 (by rw [h]; rfl))
      rw [sync_on h0 (by omega)]
      exact ih _ (by omega) E.round rfl (round_ok hA) hH.round
/-- Where nothing waits, no block has versions. -/
theorem none_vs {E : Eng} (hI : E.Inv) (hs : Sne E) (hl : E.l = []) : ∀ b ∈ E.m, b.vs = [] := fun b hb => by
  obtain ⟨i, hi⟩ := List.getElem?_of_mem hb
  rcases hI.vers i b hi with h | ⟨h, _⟩
  · exact h.1
  · exfalso
    have h1 := hs i b hi h
    cases h2 : E.s i with
    | nil => exact h1 h2
    | cons d t =>
      obtain ⟨x, hx, _⟩ := hI.blk i d (by rw [h2]; exact List.mem_cons_self ..)
      rw [hl] at hx
      cases hx
theorem crashL_no (pk : Nat → Nat → Int) : ∀ (m : List Blk) (k : Nat), (∀ b ∈ m, b.vs = []) → crashL pk k m = m
  | [], k, h => rfl
  | b :: r, k, h => by
    unfold crashL
    rw [if_pos (h b (List.mem_cons_self ..)), crashL_no pk r k (fun c hc => h c (List.mem_cons_of_mem _ hc))]
theorem bytes_none {E : Eng} (hl : E.l = []) (i : Nat) (b : Blk) (f : Wt → Bool) : E.bytes i b f = b.s := by
  unfold Eng.bytes
  rw [hl]
  rfl
end Go.Proofs.Ytonohjhmnlfakaa.H
set_option linter.unusedVariables false
set_option linter.unusedSimpArgs false
namespace Go.Proofs.Ytonohjhmnlfakaa.H
open Go.RowKit
theorem selL_rightG {l : List On} {s : List Int} (h : ∀ o ∈ l, rightB o.p = true) : ∀ p ∈ selL l s, rightB p = true := by
  intro p hp
  obtain ⟨o, ho, rfl⟩ := List.mem_map.1 hp
  exact h o (List.mem_filter.1 ho).1
theorem over_meetG {p q : Pat} (hp : rightB p = true) (hq : rightB q = true) : overB p ⟨p.blk, q.off, q.dat⟩ = meetB p q := by
  have h : rightB ⟨p.blk, q.off, q.dat⟩ = true := by
    rw [rightB_iff] at hp hq ⊢
    exact ⟨hp.1, hp.2.1, hq.2.2.1, hq.2.2.2.1, hq.2.2.2.2.1, hq.2.2.2.2.2⟩
  unfold overB meetB
  rw [hp, h]
  simp
theorem meet_commG {b : List UInt8} {p q : Pat} (hb : b.length = 32) (hp : rightB p = true) (hq : rightB q = true) (h : meetB p q = false) : app (app b p) q = app (app b q) p := by
  have h2 : rightB ⟨p.blk, q.off, q.dat⟩ = true := by
    rw [rightB_iff] at hp hq ⊢
    exact ⟨hp.1, hp.2.1, hq.2.2.1, hq.2.2.2.1, hq.2.2.2.2.1, hq.2.2.2.2.2⟩
  exact app_comm b p ⟨p.blk, q.off, q.dat⟩ hb hp h2 rfl (by rw [over_meetG hp hq]; exact h)
theorem push_throughG {x : Pat} (hx : rightB x = true) : ∀ (ds : List Pat) (b : List UInt8), b.length = 32 → (∀ d ∈ ds, rightB d = true ∧ meetB x d = false) → appAll (app b x) ds = app (appAll b ds) x
  | [], b, _, _ => rfl
  | d :: ds, b, hb, h => by
    have hd := h d (List.mem_cons_self ..)
    show appAll (app (app b x) d) ds = app (appAll (app b d) ds) x
    rw [meet_commG hb hx hd.1 hd.2]
    exact push_throughG hx ds _ (app_length _ _ hb hd.1) (fun d' hd' => h d' (List.mem_cons_of_mem _ hd'))
theorem sel_appendG (l l' : List On) (s : List Int) : selL (l ++ l') s = selL l s ++ selL l' s := by simp [selL]
theorem left_appendG (l l' : List On) (s : List Int) : leftL (l ++ l') s = leftL l s ++ leftL l' s := by simp [leftL]
theorem settle_bytesG (base : List UInt8) (s : List Int) (hb : base.length = 32) : ∀ (r : List On), (∀ o ∈ r, rightB o.p = true) → ¬ BusyL r.reverse s → appAll (appAll base (selL r.reverse s)) ((leftL r.reverse s).map On.p) = appAll base (r.reverse.map On.p)
  | [], _, _ => rfl
  | x :: r, hr, hbusy => by
    have hr' : ∀ o ∈ r, rightB o.p = true := fun o ho => hr o (List.mem_cons_of_mem _ ho)
    have hrr : ∀ o ∈ r.reverse, rightB o.p = true := fun o ho => hr' o (List.mem_reverse.1 ho)
    have hx := hr x (List.mem_cons_self ..)
    rw [List.reverse_cons] at hbusy ⊢
    have hbusy' : ¬ BusyL r.reverse s := fun ⟨i, k, hki, c, d, hc, hd, h⟩ => hbusy ⟨i, k, hki, c, d, by rw [List.getElem?_append_left (List.getElem?_eq_some_iff.1 hc).1]; exact hc, by rw [List.getElem?_append_left (List.getElem?_eq_some_iff.1 hd).1]; exact hd, h⟩
    have ih := settle_bytesG base s hb r hr' hbusy'
    have hsl : (appAll base (selL r.reverse s)).length = 32 := appAll_length _ _ hb (selL_rightG hrr)
    rw [sel_appendG, left_appendG, List.map_append, List.map_append]
    cases hsel : s.contains (x.n : Int) with
    | false =>
      have e1 : selL [x] s = [] := by simp only [selL, List.filter_cons, hsel, List.filter_nil]; rfl
      have e2 : leftL [x] s = [x] := by simp only [leftL, List.filter_cons, hsel, List.filter_nil]; rfl
      rw [e1, e2, List.append_nil, List.map_cons, List.map_nil, appAll_snoc, appAll_snoc, ih]
    | true =>
      have e1 : selL [x] s = [x.p] := by simp only [selL, List.filter_cons, hsel, List.filter_nil]; rfl
      have e2 : leftL [x] s = [] := by simp only [leftL, List.filter_cons, hsel, List.filter_nil]; rfl
      rw [e1, e2, List.map_nil, List.append_nil, List.map_cons, List.map_nil, appAll_snoc, appAll_snoc, ← ih]
      refine push_throughG hx _ _ hsl (fun d hd => ?_)
      obtain ⟨o, ho, rfl⟩ := List.mem_map.1 hd
      obtain ⟨ho1, ho2⟩ := List.mem_filter.1 ho
      refine ⟨hrr o ho1, ?_⟩
      obtain ⟨k, hk⟩ := List.getElem?_of_mem ho1
      have hkl := (List.getElem?_eq_some_iff.1 hk).1
      cases hm : meetB x.p o.p with
      | false => rfl
      | true =>
        exfalso
        refine hbusy ⟨r.reverse.length, k, hkl, x, o, ?_, ?_, hsel, by simpa using ho2, hm⟩
        · rw [List.getElem?_append_right (Nat.le_refl _), Nat.sub_self]; rfl
        · rw [List.getElem?_append_left hkl]; exact hk
theorem settled_bytesG {m : Stk} (hk : m.Ok) {s : List Int} (hb : ¬ BusyL m.l s) : (m.settled s).bytes = m.bytes := by
  have h := settle_bytesG m.base s hk.base m.l.reverse (fun o ho => hk.right o (List.mem_reverse.1 ho)) (by rw [List.reverse_reverse]; exact hb)
  rw [List.reverse_reverse] at h
  exact h

/-- A stack and an engine with the same patches. -/
structure Sk (k : Nat) (m : Stk) (E : Eng) : Prop where
  mok : m.Ok
  base : m.base = sec0
  ok : E.Ok
  inv : E.Inv
  em : E.m = [⟨sec0, [], false⟩]
  pats : m.pats = E.l.map (·.p)
  blk : ∀ x ∈ E.l, x.p.blk = 0
  len : m.l.length ≤ k
  nx : m.next ≤ k
  enx : E.next ≤ k
theorem Sk.start : Sk 0 ⟨sec0, [], 0⟩ (eng0 1) :=
  ⟨⟨rfl, fun x hx => (by cases hx), List.Pairwise.nil, fun x hx => (by cases hx), Nat.zero_le _, Nat.zero_le _⟩, rfl, eng0_ok 1 (by decide), eng0_inv 1, rfl, rfl, fun x hx => (by cases hx), Nat.zero_le _, Nat.zero_le _, Nat.zero_le _⟩
theorem Sk.elen {k : Nat} {m : Stk} {E : Eng} (h : Sk k m E) : E.l.length = m.l.length := by
  have h1 := congrArg List.length h.pats
  unfold Stk.pats at h1
  rw [List.length_map, List.length_map] at h1
  exact h1.symm
theorem Sk.bytes {k : Nat} {m : Stk} {E : Eng} (h : Sk k m E) : E.bytes 0 ⟨sec0, [], false⟩ (fun _ => true) = m.bytes := by
  unfold Eng.bytes Stk.bytes
  rw [h.base, h.pats]
  congr 2
  exact List.filter_eq_self.2 fun x hx => by rw [h.blk x hx]; rfl
theorem Sk.mono {k k' : Nat} {m : Stk} {E : Eng} (h : Sk k m E) (hk : k ≤ k') : Sk k' m E := ⟨h.mok, h.base, h.ok, h.inv, h.em, h.pats, h.blk, Nat.le_trans h.len hk, Nat.le_trans h.nx hk, Nat.le_trans h.enx hk⟩
theorem Sk.no {k : Nat} {m : Stk} {E : Eng} (h : Sk k m E) {p : Pat} (hr : rightB p = false) : E.addM [⟨p, []⟩] = ((0, 3), E) := by
  unfold Eng.addM
  rw [if_pos]
  unfold Eng.formB
  simp [hr]
theorem Sk.yes {k : Nat} {m : Stk} {E : Eng} (h : Sk k m E) (hk : k ≤ 100) {p : Pat} (hr : rightB p = true) (hb : p.blk = 0) : ∃ E', E.addM [⟨p, []⟩] = (((E.next : Int), 0), E') ∧ Sk (k + 1) (m.pushed p) E' := by
  have h1 := h.elen
  have h2 := h.len
  have hf : E.formB [⟨p, []⟩] = false := by
    unfold Eng.formB
    rw [h.em]
    simp [hr, hb]
  have hg : E.rangeB [⟨p, []⟩] = false := by
    unfold Eng.rangeB Eng.depB
    simp
  have he : E.addM [⟨p, []⟩] = (((E.next : Int), 0), E.add1 E.next ⟨p, []⟩) := by
    unfold Eng.addM
    rw [if_neg (by rw [hf]; decide), if_neg (by rw [hg]; decide), if_neg (by simp; omega)]
    rfl
  have ho := addM_ok h.ok h.inv (l := [⟨p, []⟩]) (fun x hx => by rw [List.mem_singleton.1 hx]; exact Nat.zero_le _) (by have := h.enx; simp; omega)
  rw [he] at ho
  refine ⟨_, he, h.mok.pushed hr (by omega) (by have := h.nx; omega), h.base, ho.1, ho.2, h.em, ?_, fun x hx => ?_, ?_, ?_, ?_⟩
  · show (m.l ++ [_]).map On.p = (E.l ++ [_]).map _
    rw [List.map_append, List.map_append]
    have := h.pats
    unfold Stk.pats at this
    rw [this]
    rfl
  · rcases List.mem_append.1 hx with hx | hx
    · exact h.blk x hx
    · rw [List.mem_singleton.1 hx]; exact hb
  · show (m.l ++ [_]).length ≤ k + 1
    rw [List.length_append, List.length_singleton]; omega
  · show m.next + 1 ≤ k + 1
    have := h.nx
    omega
  · show E.next + 1 ≤ k + 1
    have := h.enx
    omega
end Go.Proofs.Ytonohjhmnlfakaa.H
set_option linter.unusedVariables false
set_option linter.unusedSimpArgs false
set_option maxRecDepth 100000
namespace Go.Proofs.Ytonohjhmnlfakaa.H
open Go.RowKit
def chP (i : Nat) : Pat := ⟨i, 0, ⟨#[120]⟩⟩
def chD (i : Nat) : List Int := if i = 0 then [] else [(i : Int) - 1]
def chI (i : Nat) : It := ⟨chP i, chD i⟩
def chW (i : Nat) : Wt := ⟨i, chP i, chD i⟩
def xsec : Sec := 120 :: List.replicate 31 0
/-- The engine while the row is added. -/
def chA (j : Nat) : Eng := ⟨crashL allV 0 (fresh (List.replicate 8 sec0)), (List.range j).map chW, fun _ => [], j⟩
theorem chA_zero : chA 0 = eng0 8 := rfl
theorem chA_next : ∀ j, j < 8 → (chA j).addM [chI j] = (((j : Int), 0), chA (j + 1))
  | 0, _ => by kernel_rfl
  | 1, _ => by kernel_rfl
  | 2, _ => by kernel_rfl
  | 3, _ => by kernel_rfl
  | 4, _ => by kernel_rfl
  | 5, _ => by kernel_rfl
  | 6, _ => by kernel_rfl
  | 7, _ => by kernel_rfl
  | n + 8, h => by omega
/-- Behind Writes and Flushes: k of them last, and maybe the next one was written. -/
def chS (k : Nat) (b : Bool) : Eng := ⟨(List.range 8).map fun i => ⟨if i < k then xsec else sec0, if b && i == k then [xsec] else [], false⟩, (List.range' k (8 - k)).map chW, fun j => if b && j == k then [(k : Int)] else [], 8⟩
theorem chS_zero : chA 8 = chS 0 false := by
  unfold chA chS
  congr 1
theorem ch_ready : ∀ k : Nat, k < 9 → ∀ i : Nat, i < 8 → readyL ((List.range' k (8 - k)).map chW) (i : Int) = if i = k then [(k : Int)] else [] := by decide +kernel
theorem chS_m {k : Nat} {b : Bool} {i : Nat} (hi : i < 8) : (chS k b).m[i]? = some ⟨if i < k then xsec else sec0, if b && i == k then [xsec] else [], false⟩ := by
  unfold chS
  rw [List.getElem?_map, List.getElem?_range hi]
  rfl
theorem ch_wrote : ∀ k, k < 8 → ((chS k false).m.set k ((⟨sec0, [], false⟩ : Blk).wr ((chS k false).bytes k ⟨sec0, [], false⟩ fun x => [(k : Int)].contains (x.n : Int)))) = (chS k true).m
  | 0, _ => by kernel_rfl
  | 1, _ => by kernel_rfl
  | 2, _ => by kernel_rfl
  | 3, _ => by kernel_rfl
  | 4, _ => by kernel_rfl
  | 5, _ => by kernel_rfl
  | 6, _ => by kernel_rfl
  | 7, _ => by kernel_rfl
  | n + 8, h => by omega
theorem chS_write {k i : Nat} (b : Bool) (hk : k ≤ 8) (hi : i < 8) : ((chS k b).writeM i).2 = chS k (b || i == k) := by
  have hr : readyL (chS k b).l i = if i = k then [(k : Int)] else [] := ch_ready k (by omega) i hi
  unfold Eng.writeM
  rw [chS_m hi]
  simp only
  by_cases e : i = k
  · subst e
    rw [if_pos rfl] at hr
    cases b with
    | true =>
      have hs : (chS i true).s i = [(i : Int)] := by show (if true && i == i then [(i : Int)] else []) = _; simp
      rw [if_pos (.inr (by rw [hr, hs]))]
      rfl
    | false =>
      have hs : (chS i false).s i = [] := rfl
      rw [if_neg (by rw [hr, hs]; simp), if_neg (by simp), hr]
      have e1 : (false || i == i) = true := by simp
      have hm := ch_wrote i hi
      show Eng.mk _ _ _ _ = chS i (false || i == i)
      rw [e1]
      have e2 : (if i < i then xsec else sec0) = sec0 := if_neg (Nat.lt_irrefl _)
      simp only [e2, Bool.false_and, Bool.false_eq_true, if_false]
      rw [hm]
      unfold chS
      congr 1
      funext j
      by_cases ej : j = i
      · subst ej; simp
      · simp [ej]
  · rw [if_neg e] at hr
    rw [if_pos (.inl hr)]
    have e1 : (i == k) = false := by simpa using e
    rw [e1, Bool.or_false]
theorem chS_flush : ∀ k, k ≤ 8 → ∀ b : Bool, (b = true → k < 8) → (chS k b).flushed = chS (if b then k + 1 else k) false
  | 0, _, true, _ => by kernel_rfl
  | 1, _, true, _ => by kernel_rfl
  | 2, _, true, _ => by kernel_rfl
  | 3, _, true, _ => by kernel_rfl
  | 4, _, true, _ => by kernel_rfl
  | 5, _, true, _ => by kernel_rfl
  | 6, _, true, _ => by kernel_rfl
  | 7, _, true, _ => by kernel_rfl
  | 0, _, false, _ => by kernel_rfl
  | 1, _, false, _ => by kernel_rfl
  | 2, _, false, _ => by kernel_rfl
  | 3, _, false, _ => by kernel_rfl
  | 4, _, false, _ => by kernel_rfl
  | 5, _, false, _ => by kernel_rfl
  | 6, _, false, _ => by kernel_rfl
  | 7, _, false, _ => by kernel_rfl
  | 8, _, false, _ => by kernel_rfl
  | 8, _, true, h => by have := h rfl; omega
  | n + 9, h, _, _ => by omega
theorem sett_memF (v : Int) (b : Blk) : sett v b = b.s ∨ sett v b ∈ b.vs := by
  unfold sett
  split
  · cases h : b.vs[(v - 1).toNat]? with
    | none => exact .inl rfl
    | some s => exact .inr (List.mem_of_getElem? h)
  · exact .inl rfl
/-- What a crash leaves is a beginning of the row. -/
theorem ch_crash (pk : Nat → Nat → Int) (k : Nat) (hk : k ≤ 8) (b : Bool) (hb : b = true → k < 8) : ∃ t, t ≤ 8 ∧ ∀ i, i < 8 → ∃ c, (crashL pk 0 (chS k b).m)[i]? = some c ∧ c.s = if i < t then xsec else sec0 := by
  cases b with
  | false =>
    refine ⟨k, hk, fun i hi => ?_⟩
    have hv : ∀ c ∈ (chS k false).m, c.vs = [] := fun c hc => by
      obtain ⟨j, _, rfl⟩ := List.mem_map.1 hc
      rfl
    rw [crashL_no pk _ 0 hv]
    exact ⟨_, chS_m hi, rfl⟩
  | true =>
    have h8 := hb rfl
    obtain ⟨v, hv⟩ : ∃ v, v = pk 0 1 := ⟨_, rfl⟩
    have key : ∀ k, k < 8 → crashL pk 0 (chS k true).m = (List.range 8).map fun i => ⟨if i < k then xsec else if i = k then sett v ⟨sec0, [xsec], false⟩ else sec0, [], false⟩ := by
      intro k hk
      rw [hv]
      match k, hk with
      | 0, _ => rfl
      | 1, _ => rfl
      | 2, _ => rfl
      | 3, _ => rfl
      | 4, _ => rfl
      | 5, _ => rfl
      | 6, _ => rfl
      | 7, _ => rfl
    rcases sett_memF v ⟨sec0, [xsec], false⟩ with h1 | h1
    · have h1 : sett v ⟨sec0, [xsec], false⟩ = sec0 := h1
      refine ⟨k, hk, fun i hi => ?_⟩
      rw [key k h8, List.getElem?_map, List.getElem?_range hi]
      refine ⟨_, rfl, ?_⟩
      show (if i < k then xsec else if i = k then _ else sec0) = _
      rw [h1]
      split
      · rfl
      · split <;> rfl
    · have h1 : sett v ⟨sec0, [xsec], false⟩ = xsec := List.mem_singleton.1 h1
      refine ⟨k + 1, by omega, fun i hi => ?_⟩
      rw [key k h8, List.getElem?_map, List.getElem?_range hi]
      refine ⟨_, rfl, ?_⟩
      show (if i < k then xsec else if i = k then _ else sec0) = _
      rw [h1]
      by_cases h2 : i < k
      · rw [if_pos h2, if_pos (by omega)]
      · rw [if_neg h2]
        by_cases h3 : i = k
        · rw [if_pos h3, if_pos (by omega)]
        · rw [if_neg h3, if_neg (by omega)]
/-- The state of the walk. -/
structure Ch (k : Nat) (b : Bool) (E : Eng) : Prop where
  eq : E = chS k b
  ok : E.Ok
  inv : E.Inv
  k8 : k ≤ 8
  b8 : b = true → k < 8
theorem Ch.m8 {k : Nat} {b : Bool} {E : Eng} (h : Ch k b E) : E.m.length = 8 := by rw [h.eq]; simp [chS]
theorem Ch.vl {k : Nat} {b : Bool} {E : Eng} (h : Ch k b E) : Vl 1 E := by
  rw [h.eq]
  intro c hc
  obtain ⟨j, _, rfl⟩ := List.mem_map.1 hc
  show (if b && j == k then [xsec] else []).length ≤ 1
  split <;> simp
theorem Ch.hale {k : Nat} {b : Bool} {E : Eng} (h : Ch k b E) : Hale E := by
  rw [h.eq]
  intro c hc
  obtain ⟨j, _, rfl⟩ := List.mem_map.1 hc
  rfl
theorem Ch.write {k : Nat} {b : Bool} {E : Eng} (h : Ch k b E) {i : Nat} (hi : i < 8) : Ch k (b || i == k) (E.writeM i).2 :=
  ⟨by rw [h.eq]; exact chS_write b h.k8 hi, h.ok.write i, h.inv.write h.ok i, h.k8, fun hb => by
    simp only [Bool.or_eq_true, beq_iff_eq] at hb
    rcases hb with hb | hb
    · exact h.b8 hb
    · omega⟩
theorem Ch.flushed {k : Nat} {b : Bool} {E : Eng} (h : Ch k b E) : Ch (if b then k + 1 else k) false E.flushed :=
  ⟨by rw [h.eq]; exact chS_flush k h.k8 b h.b8, h.ok.flushed, h.inv.flushed h.ok, by
    have := h.k8
    have := h.b8
    split
    · rename_i e; have := h.b8 e; omega
    · exact h.k8, fun hb => by cases hb⟩
end Go.Proofs.Ytonohjhmnlfakaa.H
set_option linter.unusedVariables false
set_option linter.unusedSimpArgs false
set_option maxRecDepth 100000
namespace Go.Proofs.Ytonohjhmnlfakaa.H
open Go.RowKit
theorem chA_ok : ∀ i, i ≤ 8 → (chA i).Ok ∧ (chA i).Inv
  | 0, _ => ⟨eng0_ok 8 (by decide), eng0_inv 8⟩
  | i + 1, h => by
    obtain ⟨h1, h2⟩ := chA_ok i (by omega)
    have h3 := addM_ok h1 h2 (l := [chI i]) (fun x hx => by
      rw [List.mem_singleton.1 hx]
      show (chD i).length ≤ 1000
      unfold chD
      split <;> simp) (by show i + 1 ≤ 1000000; omega)
    rw [chA_next i (by omega)] at h3
    exact h3
theorem ch_start : Ch 0 false (chA 8) := ⟨chS_zero, (chA_ok 8 (Nat.le_refl _)).1, (chA_ok 8 (Nat.le_refl _)).2, Nat.zero_le _, fun h => by cases h⟩
theorem chadd_c (w : World) (L : List HP) (e i g2 : Nat) (dv : Value) (hi : i < 8) (A : Option Addr) (c : Nat) (hdv : dv = .slice A (chD i).length c) (hd : ∀ w', Own w' L → Rd w' 1 (.slice A (chD i).length c) (chD i).length (zs (chD i)))
    (hO : Own w (engP e (chA i) :: pts g2 (.cells (cellsI [(chI i, dv)]).toArray 36) :: L)) :
    Calls Try.prog 9 #[.pointer (some ⟨e, 0, none⟩), .slice (some ⟨g2, 0, none⟩) 1 1] w (Ret w (.tuple #[.int .i64 i, .int .i64 0]) (engP e (chA (i + 1)) :: pts g2 (.cells (cellsI [(chI i, dv)]).toArray 36) :: L)) := by
  have h := eadd_c w _ e (chA i) (.slice (some ⟨g2, 0, none⟩) 1 1) 1 [(chI i, dv)] hO (chA_ok i (by omega)).1 rfl (by decide) (fun w1 h => rd_items (is := [(chI i, dv)]) h (by show 1 ≤ 1000000; decide)) (fun x hx => by
    rw [List.mem_singleton.1 hx]
    exact ⟨A, c, hdv, fun w' h => hd w' (own_drop h)⟩) (fun x hx d hdd => by
    rw [List.mem_singleton.1 hx] at hdd
    have hdd : d ∈ chD i := hdd
    unfold chD at hdd
    split at hdd
    · cases hdd
    · rw [List.mem_singleton.1 hdd]; omega) (fun x hx => by
    rw [List.mem_singleton.1 hx]
    show (chD i).length ≤ 1000000
    unfold chD
    split <;> simp)
  have e1 : (chA i).addM ([(chI i, dv)].map (·.1)) = (((i : Int), 0), chA (i + 1)) := chA_next i hi
  rw [e1] at h
  exact h
theorem chadd_0 (w : World) (L : List HP) (e g2 : Nat) (hO : Own w (engP e (chA 0) :: pts g2 (.cells #[.int .i64 (0 : Nat), .int .i64 0, .string ⟨#[120]⟩, .slice none 0 0] 36) :: L)) :
    Calls Try.prog 9 #[.pointer (some ⟨e, 0, none⟩), .slice (some ⟨g2, 0, none⟩) 1 1] w (Ret w (.tuple #[.int .i64 (0 : Nat), .int .i64 0]) (engP e (chA (0 + 1)) :: L)) := by
  refine (chadd_c w L e 0 g2 (.slice none 0 0) (by decide) none 0 rfl (fun w' _ => rd_nil _ _) hO).mono ?_
  rintro e w' ⟨rfl, h1, h2⟩
  exact ⟨rfl, own_skip h1, h2⟩
theorem chadd_s (w : World) (L : List HP) (e i g1 g2 : Nat) (h0 : i ≠ 0) (hi : i < 8) (hr : ∀ w', Own w' L → Rd w' 1 (.slice (some ⟨g1, 0, none⟩) 1 1) 1 (zs [(i : Int) - 1])) (hO : Own w (engP e (chA i) :: pts g2 (.cells #[.int .i64 i, .int .i64 0, .string ⟨#[120]⟩, .slice (some ⟨g1, 0, none⟩) 1 1] 36) :: L)) :
    Calls Try.prog 9 #[.pointer (some ⟨e, 0, none⟩), .slice (some ⟨g2, 0, none⟩) 1 1] w (Ret w (.tuple #[.int .i64 i, .int .i64 0]) (engP e (chA (i + 1)) :: L)) := by
  have hD : chD i = [(i : Int) - 1] := by unfold chD; rw [if_neg h0]
  refine (chadd_c w L e i g2 (.slice (some ⟨g1, 0, none⟩) 1 1) hi (some ⟨g1, 0, none⟩) 1 (by rw [hD]; rfl) (fun w' h => by rw [hD]; exact hr w' h) hO).mono ?_
  rintro e w' ⟨rfl, h1, h2⟩
  exact ⟨rfl, own_skip h1, h2⟩
/-- One item without deps is added. -/
theorem sadd_c (w : World) (L : List HP) (e g2 : Nat) (E : Eng) (p : Pat) (hk : E.Ok) (hO : Own w (engP e E :: pts g2 (.cells #[.int .i64 p.blk, .int .i64 p.off, .string p.dat, .slice none 0 0] 36) :: L)) :
    Calls Try.prog 9 #[.pointer (some ⟨e, 0, none⟩), .slice (some ⟨g2, 0, none⟩) 1 1] w (Ret w (.tuple #[.int .i64 (E.addM [⟨p, []⟩]).1.1, .int .i64 (E.addM [⟨p, []⟩]).1.2]) (engP e (E.addM [⟨p, []⟩]).2 :: L)) := by
  have h := eadd_c w _ e E (.slice (some ⟨g2, 0, none⟩) 1 1) 1 [(⟨p, []⟩, .slice none 0 0)] hO hk rfl (by decide) (fun w1 h => rd_items (is := [(⟨p, []⟩, .slice none 0 0)]) h (by show 1 ≤ 1000000; decide)) (fun x hx => by
    rw [List.mem_singleton.1 hx]
    exact ⟨none, 0, rfl, fun w' _ => rd_nil _ _⟩) (fun x hx d hdd => by
    rw [List.mem_singleton.1 hx] at hdd
    cases hdd) (fun x hx => by
    rw [List.mem_singleton.1 hx]
    exact Nat.zero_le _)
  refine h.mono ?_
  rintro e1 w' ⟨rfl, h1, h2⟩
  exact ⟨rfl, own_skip h1, h2⟩
/-- Its first byte tells whether a sector has the patch. -/
theorem ch_first (i t : Nat) : ∃ r : List UInt8, (if i < t then xsec else sec0) = (if i < t then 120 else 0) :: r ∧ r.length = 31 := by
  split
  · exact ⟨_, rfl, rfl⟩
  · exact ⟨_, rfl, rfl⟩
end Go.Proofs.Ytonohjhmnlfakaa.H
set_option linter.unusedVariables false
set_option linter.unusedSimpArgs false
set_option maxRecDepth 100000
namespace Go.Proofs.Ytonohjhmnlfakaa.H
open Go.RowKit
theorem pl_stkXG {α : Type} {w : World} {L : List HP} {p : Nat} {m : Stk} {f : FuncId} {ag : Array Value} {V : α → Value} {A : α → HP} (hk : m.Ok) (hO : Own w (stk p m :: L)) (h : ∀ v cs S, Reps m cs → Own w S → (∀ w', Own w' S → StkAt w' p v cs m.bytes m.next) → Calls Try.prog f ag w (RetX w V (fun v => A v :: S))) : Calls Try.prog f ag w (RetX w V (fun v => A v :: stk p m :: L)) := by
  obtain ⟨v, cs, hrep, hO⟩ := stk_open.1 hO
  refine (h v cs _ hrep hO (fun w' h => stkAt_of h)).mono ?_
  rintro e w' ⟨x, rfl, hO', hS⟩
  exact ⟨x, rfl, own_perm (stk_open.2 ⟨v, cs, hrep, own_perm hO' (List.perm_middle.symm)⟩) (List.Perm.swap _ _ _), hS⟩
theorem dA_ofG {w : World} {L : List HP} {f : FuncId} {args : Array Value} {e : TypeId} {V : Value → Value} {sz n : Nat} {xs : List Value} (h : Calls Try.prog f args w (RetX w V (fun v => owns e sz v n xs :: L))) : Calls Try.prog f args w (RetX w V (fun v => rdA sz v n xs :: L)) := by
  refine h.mono ?_
  rintro e w' ⟨v, rfl, h1, h2⟩
  exact ⟨v, rfl, rdA_owns h1, h2⟩
section
variable (w : World) (L : List HP) (p : Nat) (m : Stk)
theorem sbytes_v (hO : Own w (stk p m :: L)) (hk : m.Ok) : Calls Try.prog 26 #[.pointer (some ⟨p, 0, none⟩)] w (RetX w (fun v : Value => v) (fun v => rdA 1 v 32 (bcs m.bytes) :: stk p m :: L)) := by
  refine pl_stkXG hk hO (fun v cs S hrep hOS hr => ?_)
  have h32 : m.bytes.length = 32 := (hrep.csok hk).byt
  have h := bytes_c w S p v cs m.bytes m.next hOS hr h32
  rw [h32] at h
  exact dA_ofG h
theorem swaiting_v (hO : Own w (stk p m :: L)) (hk : m.Ok) : Calls Try.prog 27 #[.pointer (some ⟨p, 0, none⟩)] w (RetX w (fun v : Value => v) (fun v => rdA 1 v m.l.length (m.l.map fun o => .int .i64 o.n) :: stk p m :: L)) := by
  refine pl_stkXG hk hO (fun v cs S hrep hOS hr => ?_)
  have h := waiting_c w S p v cs m.bytes m.next hOS hr (hrep.csok hk)
  have e1 : cs.length = m.l.length := hrep.length
  have e2 : (cs.map fun c => Value.int .i64 c.n) = m.l.map fun o => .int .i64 o.n := by
    rw [← hrep.on, List.map_map]
    rfl
  rw [e1, e2] at h
  exact dA_ofG h
theorem sbase_v (hO : Own w (stk p m :: L)) (hk : m.Ok) : Calls Try.prog 30 #[.pointer (some ⟨p, 0, none⟩)] w (RetX w (fun v : Value => v) (fun v => rdA 1 v 32 (bcs m.base) :: stk p m :: L)) := by
  refine (base_c w L p m hO hk).mono ?_
  rintro e w' ⟨g, rfl, h1, h2⟩
  exact ⟨_, rfl, rdA_pts hk.base (own_perm h1 (List.Perm.swap _ _ _)), h2⟩
end
theorem ewaiting_2 (w : World) (L : List HP) (B : HP) (e : Nat) (E : Eng) (hO : Own w (B :: engP e E :: L)) (hk : E.Ok) : Calls Try.prog 22 #[.pointer (some ⟨e, 0, none⟩)] w (RetX w (fun v : Value => v) (fun v => rdA 1 v E.l.length (zs E.waiting) :: B :: engP e E :: L)) := by
  refine (ewaiting_c w (B :: L) e E (own_perm hO (List.Perm.swap _ _ _)) hk).mono ?_
  rintro e1 w' ⟨v, rfl, h1, h2⟩
  exact ⟨v, rfl, rdA_owns (own_perm h1 (List.Perm.cons _ (List.Perm.swap _ _ _))), h2⟩
theorem settledG_ok {m : Stk} (hk : m.Ok) (s : List Int) : (m.settled s).Ok where
  base := appAll_length _ _ hk.base (selL_rightG fun o ho => hk.right o ho)
  right := fun x hx => hk.right x (List.filter_sublist.subset hx)
  asc := hk.asc.sublist List.filter_sublist
  lt := fun x hx => hk.lt x (List.filter_sublist.subset hx)
  len := Nat.le_trans (List.length_filter_le _ _) hk.len
  lim := hk.lim
/-- What Roll tells. -/
theorem roll_cases {m : Stk} (s : List Int) : (∃ e : Int, e ≠ 0 ∧ ((OutL m.l s ∧ e = 2) ∨ (¬ OutL m.l s ∧ BusyL m.l s ∧ e = 12))) ∨ (¬ OutL m.l s ∧ ¬ BusyL m.l s) := by
  by_cases h1 : OutL m.l s
  · exact .inl ⟨2, by decide, .inl ⟨h1, rfl⟩⟩
  · by_cases h2 : BusyL m.l s
    · exact .inl ⟨12, by decide, .inr ⟨h1, h2, rfl⟩⟩
    · exact .inr ⟨h1, h2⟩
/-- Push, of whatever patch. -/
theorem spush_c (w : World) (L : List HP) (p : Nat) (m : Stk) (q : Pat) (hO : Own w (stk p m :: L)) (hk : m.Ok) (hl : m.l.length < 200) (hn : m.next < 1000000) : ∃ a x : Int, x = (if rightB q then 0 else 3) ∧ Calls Try.prog 24 #[.pointer (some ⟨p, 0, none⟩), .agg #[.int .i64 q.blk, .int .i64 q.off, .string q.dat]] w (Ret w (.tuple #[.int .i64 a, .int .i64 x]) (stk p (if rightB q then m.pushed q else m) :: L)) := by
  cases hR : rightB q with
  | true => exact ⟨_, 0, rfl, push_ok w L p m q.blk q.off q.dat hO hk hR hl hn⟩
  | false => exact ⟨0, 3, rfl, push_form w L p m q.blk q.off q.dat hO hk hR⟩
end Go.Proofs.Ytonohjhmnlfakaa.H
