/- Crash and Sync of the program's engine. The reference's graph: Close; the law's lasting. The plain law behind EngineClosed: what a crash leaves is a closed set of patches, in order. -/
import Derived.Test.YtlmkcnkidkoilaaZ21
import Derived.Test.YtlmkcnkidkoilaaZ22
set_option linter.unusedVariables false
set_option linter.unusedSimpArgs false
set_option maxRecDepth 100000
namespace Go.Proofs.Ytlmkcnkidkoilaa.H
open Go.RowKit
theorem writes_next (E : Eng) (k : Nat) : E.writes (k + 1) = ((E.writes k).writeM k).2 := by
  unfold Eng.writes
  rw [List.range_succ, List.foldl_append]
  rfl
theorem writes_l (E : Eng) : ∀ k, (E.writes k).l = E.l
  | 0 => rfl
  | k + 1 => by rw [writes_next, write_l, writes_l E k]
theorem writes_len (E : Eng) : ∀ k, (E.writes k).m.length = E.m.length
  | 0 => rfl
  | k + 1 => by rw [writes_next, write_len, writes_len E k]
theorem writes_nx (E : Eng) : ∀ k, (E.writes k).next = E.next
  | 0 => rfl
  | k + 1 => by rw [writes_next, write_next, writes_nx E k]
theorem writes_ok {E : Eng} (h : E.Ok) : ∀ k, (E.writes k).Ok
  | 0 => h
  | k + 1 => by rw [writes_next]; exact (writes_ok h k).write k
theorem writes_inv {E : Eng} (hI : E.Inv) (h : E.Ok) : ∀ k, (E.writes k).Inv
  | 0 => hI
  | k + 1 => by rw [writes_next]; exact (writes_inv hI h k).write (writes_ok h k) k
theorem writes_vl {n : Nat} {E : Eng} (h : Vl n E) : ∀ k, Vl (n + k) (E.writes k)
  | 0 => h
  | k + 1 => by rw [writes_next]; exact (writes_vl h k).write k
theorem round_len (E : Eng) : E.round.l.length ≤ E.l.length := by
  show ((E.writes E.m.length).l.filter _).length ≤ _
  rw [writes_l]
  exact List.length_filter_le _ _
theorem round_ok {E : Eng} (h : E.Ok) : E.round.Ok := (writes_ok h _).flushed
theorem round_inv {E : Eng} (hI : E.Inv) (h : E.Ok) : E.round.Inv := (writes_inv hI h _).flushed (writes_ok h _)
theorem round_m (E : Eng) : E.round.m.length = E.m.length := by
  show (Eng.flushed _).m.length = _
  rw [flushed_len, writes_len]
theorem syncGo_more : ∀ (k k' : Nat) (E : Eng), E.l.length ≤ k → k ≤ k' → Eng.syncGo k' E = Eng.syncGo k E
  | 0, k', E, h, _ => by
    have h0 : E.l.length = 0 := by omega
    cases k' with
    | zero => rfl
    | succ k' => unfold Eng.syncGo; rw [if_pos h0]
  | k + 1, 0, E, h, hk => by omega
  | k + 1, k' + 1, E, h, hk => by
    unfold Eng.syncGo
    by_cases h0 : E.l.length = 0
    · rw [if_pos h0, if_pos h0]
    · rw [if_neg h0, if_neg h0]
      by_cases h1 : E.round.l.length = E.l.length
      · rw [if_pos h1, if_pos h1]
      · rw [if_neg h1, if_neg h1]
        have := round_len E
        exact syncGo_more k k' E.round (by omega) (by omega)
theorem syncGo_succ (k : Nat) (E : Eng) : Eng.syncGo (k + 1) E = if E.l.length = 0 then (0, E) else if E.round.l.length = E.l.length then (10, E.round) else Eng.syncGo k E.round := rfl
theorem sync_none {E : Eng} (h : E.l.length = 0) : E.sync = (0, E) := by
  unfold Eng.sync
  rw [h]
  rfl
theorem sync_stuck {E : Eng} (h : E.l.length ≠ 0) (h1 : E.round.l.length = E.l.length) : E.sync = (10, E.round) := by
  unfold Eng.sync
  obtain ⟨k, hk⟩ : ∃ k, E.l.length = k + 1 := ⟨E.l.length - 1, by omega⟩
  rw [hk, syncGo_succ, if_neg h, if_pos h1]
theorem sync_on {E : Eng} (h : E.l.length ≠ 0) (h1 : E.round.l.length ≠ E.l.length) : E.sync = E.round.sync := by
  have h2 := round_len E
  unfold Eng.sync
  obtain ⟨k, hk⟩ : ∃ k, E.l.length = k + 1 := ⟨E.l.length - 1, by omega⟩
  rw [hk, syncGo_succ, if_neg h, if_neg h1]
  exact syncGo_more _ _ _ (Nat.le_refl _) (by omega)
section
variable (w : World) (L : List HP) (e : Nat) (E : Eng)
theorem ecrash_c (v : Value) (l : List Int) (hO : Own w (engP e E :: L)) (hk : E.Ok) (hv : Vl 1000000 E) (hr : ∀ w', Own w' L → Rd w' 1 v l.length (l.map encZ)) : Calls Try.prog 18 #[.pointer (some ⟨e, 0, none⟩), v] w (RetX w (fun f : Nat => .pointer (some ⟨f, 0, none⟩)) (fun f => diskP f (crashL (pickV l) 0 E.m) :: engP e E :: L)) := by
  obtain ⟨d, wv, bs, fs, we, g, hkk, hO⟩ := eng_open.1 hO
  have HK := Lib.hid hkk
  have H0 : Hid (0 < E.m.length) := hk.pos
  have HV : Hid (∀ b ∈ E.m, b.vs.length ≤ 1000000) := hv
  have HR := Lib.hid hr
  have hS := Same.refl w
  clear hkk hk hv hr
  have hO := own_order [1] hO rfl
  simp only [List.eraseIdx_cons_succ, List.eraseIdx_zero, List.tail_cons] at hO
  go_enter Try.func18, Try.ntmps18
  go_wp2_with (first | (apply own_load1 rfl rfl rfl; (first | exact row_dptr | exact row_ents | exact row_mint | exact row_int); (first | exact own_get 0 hO rfl | exact own_get 1 hO rfl | exact own_get 2 hO rfl | exact own_get 3 hO rfl | exact own_get 4 hO rfl | exact own_get 5 hO rfl | exact own_get 6 hO rfl | exact own_get 7 hO rfl); (first | (simp only [List.getElem?_toArray, List.getElem?_cons_succ, List.getElem?_cons_zero]; rfl) | rfl)) | (go_at_call 27; (with_reducible refine Calls.mono (fork_ok _ _ d E.m hO H0.out HV.out) ?_); clear hO; rintro e1 u ⟨f, rfl, hO, hSn⟩; replace hS := hS.trans hSn; clear hSn) | (go_at_call 51; (with_reducible refine Calls.mono (crash_c _ _ f E.m v l hO H0.out HV.out (fun w' h => HR.out w' (own_drop (own_drop (own_drop (own_drop h)))))) ?_); clear hO; rintro e u ⟨rfl, hO, hSn⟩; replace hS := hS.trans hSn; clear hSn))
  go_ret
  refine ⟨f, rfl, ?_, hS⟩
  exact own_swap (eng_open.2 ⟨d, wv, bs, fs, we, g, HK.out, own_order [2, 1, 1, 1] hO rfl⟩)
set_option maxHeartbeats 1600000 in
theorem esync_c (hO : Own w (engP e E :: L)) (hk : E.Ok) (hv : Vl 900000 E) (hm : E.m.length ≤ 1000) : Calls Try.prog 21 #[.pointer (some ⟨e, 0, none⟩)] w (Ret w (.int .i64 E.sync.1) (engP e E.sync.2 :: L)) := by
  have hS := Same.refl w
  have HM := Lib.hid hm
  have HK0 := Lib.hid (And.intro hk hv)
  obtain ⟨d, wv, bs, fs, we, g, hkk, hO⟩ := eng_open.1 hO
  obtain ⟨A, c, rfl, _⟩ := hkk.2.1.rd
  have HK := Lib.hid hkk
  have HWL : Hid (we.length = E.l.length) := by show _ = _; rw [← hkk.1, List.length_map]
  clear hkk hk hv hm
  go_enter Try.func21, Try.ntmps21
  go_wp2_with (first | (apply own_load1 rfl rfl rfl; (first | exact row_dptr | exact row_ents | exact row_mint | exact row_int); (first | exact own_get 0 hO rfl | exact own_get 1 hO rfl | exact own_get 2 hO rfl | exact own_get 3 hO rfl | exact own_get 4 hO rfl | exact own_get 5 hO rfl | exact own_get 6 hO rfl | exact own_get 7 hO rfl); (first | (simp only [List.getElem?_toArray, List.getElem?_cons_succ, List.getElem?_cons_zero]; rfl) | rfl)))
  have hO := eng_open.2 ⟨d, _, bs, fs, we, g, HK.out, hO⟩
  clear HK
  rw [HWL.out]
  go_loopw [3] (fun iv wr => ∃ F : Eng, iv = .int .i64 F.l.length ∧ Hid (E.sync = F.sync ∧ F.Ok ∧ Vl 900000 F ∧ F.m.length = E.m.length) ∧ Own wr (engP e F :: L) ∧ Same w wr) (fun iv _ => (intOf iv).toNat)
  case atStart => exact ⟨E, rfl, ⟨rfl, HK0.out.1, HK0.out.2, rfl⟩, hO, hS⟩
  case round =>
    clear hO hS HK0
    obtain ⟨F, rfl, HF, hO, hS⟩ := hrel
    by_cases h0 : F.l.length = 0
    · have h1 : ¬ (0 < (F.l.length : Int)) := by omega
      have HX : Hid (E.sync = (0, F)) := by show _ = _; rw [HF.out.1, sync_none h0]
      clear h0
      go_wp2
      go_ret
      exact ⟨by rw [HX.out]; rfl, by rw [HX.out]; exact hO, hS⟩
    · have h1 : 0 < (F.l.length : Int) := by omega
      have hFl := HF.out.2.1.len
      have hml := HF.out.2.2.2
      have HFM : Hid (F.m.length ≤ 1000) := by show _ ≤ _; rw [hml]; exact HM.out
      have hfm := HFM.out
      have HN0 := Lib.hid h0
      clear h0 hml
      have HDS : Hid (∀ (w' : World) (L' : List HP) (d : Nat), Own w' (diskP d F.m :: L') → Calls Try.prog 33 #[.pointer (some ⟨d, 0, none⟩)] w' (Ret w' (.int .i64 F.m.length) (diskP d F.m :: L'))) := Lib.hid fun w' L' d h => size_c w' L' d F.m h
      obtain ⟨d, wv, bs, fs, we, g, hkk, hO⟩ := eng_open.1 hO
      have HK := Lib.hid hkk
      clear hkk
      go_wp2_with (first | (apply own_load1 rfl rfl rfl; (first | exact row_dptr | exact row_ents | exact row_mint | exact row_int); (first | exact own_get 0 hO rfl | exact own_get 1 hO rfl | exact own_get 2 hO rfl | exact own_get 3 hO rfl | exact own_get 4 hO rfl | exact own_get 5 hO rfl | exact own_get 6 hO rfl | exact own_get 7 hO rfl); (first | (simp only [List.getElem?_toArray, List.getElem?_cons_succ, List.getElem?_cons_zero]; rfl) | rfl)) | (go_at_call 33; (with_reducible refine Calls.mono (call_at 1 (fun L' h => HDS.out _ L' d h) rfl hO) ?_); clear hO; rintro e u ⟨rfl, hO, hSn⟩; replace hS := hS.trans hSn; clear hSn; simp only [List.set_cons_zero, List.set_cons_succ] at hO))
      have hO := eng_open.2 ⟨d, _, bs, fs, we, g, HK.out, hO⟩
      clear HK
      go_loopw [25] (fun jv wr => ∃ j : Nat, j ≤ F.m.length ∧ jv = .int .i64 j ∧ Own wr (engP e (F.writes j) :: L) ∧ Same w wr) (fun jv _ => F.m.length - (intOf jv).toNat)
      case atStart => exact ⟨0, Nat.zero_le _, rfl, hO, hS⟩
      case round =>
        clear hO hS
        obtain ⟨j, hj, rfl, hO, hS⟩ := hrel
        by_cases hlt : j < F.m.length
        · have hm1 : (j : Int) < F.m.length := by omega
          have HWR : Hid (∀ w', Own w' (engP e (F.writes j) :: L) → Calls Try.prog 9 #[.pointer (some ⟨e, 0, none⟩), .int .i64 j] w' (Ret w' (.tuple #[.int .i64 ((F.writes j).writeM j).1.1, .int .i64 ((F.writes j).writeM j).1.2]) (engP e (F.writes (j + 1)) :: L))) := Lib.hid fun w' h => by
            rw [writes_next]
            exact ewrite_c w' L e (F.writes j) j h (writes_ok HF.out.2.1 j) (by rw [writes_len]; exact hlt) (fun b hb => by have := writes_vl HF.out.2.2.1 j b hb; omega)
          go_wp2_with (first | (go_at_call 9; (with_reducible refine Calls.mono (HWR.out _ hO) ?_); clear hO; rintro e u ⟨rfl, hO, hSn⟩; replace hS := hS.trans hSn; clear hSn))
          go_roundw
          case rel => exact ⟨j + 1, by omega, by go_num, hO, hS⟩
          case measure => simp [intOf]; omega
        · have hje : j = F.m.length := by omega
          subst hje
          have HVW : Hid (∀ b ∈ (F.writes F.m.length).m, b.vs.length ≤ 1000000) := Lib.hid fun b hb => by have := writes_vl HF.out.2.2.1 F.m.length b hb; omega
          have HOW := Lib.hid (writes_ok HF.out.2.1 F.m.length)
          have HFLU : Hid (∀ w', Own w' (engP e (F.writes F.m.length) :: L) → Calls Try.prog 10 #[.pointer (some ⟨e, 0, none⟩)] w' (Ret w' (.int .i64 0) (engP e F.round :: L))) := Lib.hid fun w' h => eflush_c w' L e _ h HOW.out HVW.out
          go_upto_region 12 with (first | (go_at_call 10; (with_reducible refine Calls.mono (HFLU.out _ hO) ?_); clear hO; rintro e u ⟨rfl, hO, hSn⟩; replace hS := hS.trans hSn; clear hSn))
          clear HFLU HVW HOW
          obtain ⟨d2, wv2, bs2, fs2, we2, g2, hkk, hO⟩ := eng_open.1 hO
          obtain ⟨A2, c2, rfl, _⟩ := hkk.2.1.rd
          have HK := Lib.hid hkk
          have hw2 : we2.length = F.round.l.length := by rw [← hkk.1, List.length_map]
          have hle := round_len F
          clear hkk
          by_cases heq : F.round.l.length = F.l.length
          · have h5 : (we2.length : Int) = (F.l.length : Int) := by omega
            have HX : Hid (E.sync = (10, F.round)) := by show _ = _; rw [HF.out.1, sync_stuck HN0.out heq]
            clear heq hw2 hle
            go_wp2_with (first | (apply own_load1 rfl rfl rfl; (first | exact row_dptr | exact row_ents | exact row_mint | exact row_int); (first | exact own_get 0 hO rfl | exact own_get 1 hO rfl | exact own_get 2 hO rfl | exact own_get 3 hO rfl | exact own_get 4 hO rfl | exact own_get 5 hO rfl | exact own_get 6 hO rfl | exact own_get 7 hO rfl); (first | (simp only [List.getElem?_toArray, List.getElem?_cons_succ, List.getElem?_cons_zero]; rfl) | rfl)))
            go_ret
            exact ⟨by rw [HX.out]; rfl, by rw [HX.out]; exact eng_open.2 ⟨_, _, _, _, _, _, HK.out, hO⟩, hS⟩
          · have h5 : ((we2.length : Int) == (F.l.length : Int)) = false := by rw [beq_eq_false_iff_ne]; omega
            have HX : Hid (E.sync = F.round.sync ∧ F.round.Ok ∧ Vl 900000 F.round ∧ F.round.m.length = E.m.length) := ⟨by rw [HF.out.1, sync_on HN0.out heq], round_ok HF.out.2.1, Vl.flushed _, by rw [round_m]; exact HF.out.2.2.2⟩
            have hlt2 : F.round.l.length < F.l.length := by omega
            clear heq hle
            go_wp2_with (first | (apply own_load1 rfl rfl rfl; (first | exact row_dptr | exact row_ents | exact row_mint | exact row_int); (first | exact own_get 0 hO rfl | exact own_get 1 hO rfl | exact own_get 2 hO rfl | exact own_get 3 hO rfl | exact own_get 4 hO rfl | exact own_get 5 hO rfl | exact own_get 6 hO rfl | exact own_get 7 hO rfl); (first | (simp only [List.getElem?_toArray, List.getElem?_cons_succ, List.getElem?_cons_zero]; rfl) | rfl)))
            go_roundw
            case rel => exact ⟨F.round, by rw [← hw2], HX, eng_open.2 ⟨_, _, _, _, _, _, HK.out, hO⟩, hS⟩
            case measure => simp [intOf]; omega
end
end Go.Proofs.Ytlmkcnkidkoilaa.H
set_option linter.unusedVariables false
set_option linter.unusedSimpArgs false
set_option maxRecDepth 100000
namespace Go.Proofs.Ytlmkcnkidkoilaa.H
open Go.RowKit
theorem own_flq {w : World} {L : List HP} {A : HP} {v : Value} {fl : List Int} {q : Int} (h : Own w (owns 3 1 v (fl.length + 1) (zs fl ++ [.int .i64 q]) :: A :: L)) : Own w (owns 3 1 v (fl ++ [q]).length (zs (fl ++ [q])) :: L) := by
  have e1 : (fl ++ [q]).length = fl.length + 1 := by simp
  have e2 : zs (fl ++ [q]) = zs fl ++ [.int .i64 q] := by simp [zs, encZ]
  rw [e1, e2]
  exact own_drop (own_swap h)
/-- The numbers of marks. -/
def thoseZ (l : List Bool) (j : Nat) : List Int := ((List.range j).filter fun i : Nat => (l[i]?).getD false).map fun i : Nat => (i : Int)
theorem thoseZ_next {l : List Bool} {j : Nat} {b : Bool} (h : l[j]? = some b) : thoseZ l (j + 1) = thoseZ l j ++ (if b then [(j : Int)] else []) := by
  unfold thoseZ
  rw [List.range_succ, List.filter_append, List.map_append]
  have e : List.filter (fun i : Nat => (l[i]?).getD false) [j] = if b then [j] else [] := by
    rw [List.filter_cons, h]
    cases b <;> rfl
  rw [e]
  cases b <;> rfl
theorem thoseZ_len (l : List Bool) (j : Nat) : (thoseZ l j).length ≤ j := by
  unfold thoseZ
  rw [List.length_map]
  have := List.length_filter_le (fun i : Nat => (l[i]?).getD false) (List.range j)
  rwa [List.length_range] at this
/-- What Close finds: has these, and no more than each closed set that has them. -/
structure ClS (ds : List (List Int)) (seen : List Int) (M : List Bool) : Prop where
  len : M.length = ds.length
  has : ∀ d ∈ seen, M[d.toNat]? = some true
  low : ∀ T : Nat → Prop, (∀ d ∈ seen, T d.toNat) → (∀ (n : Nat) (l : List Int), ds[n]? = some l → T n → ∀ d ∈ l, T d.toNat) → ∀ n, M[n]? = some true → T n
theorem cls_start {ds : List (List Int)} {seen : List Int} (h : ∀ d ∈ seen, 0 ≤ d ∧ d < (ds.length : Int)) : ClS ds seen (marksL ds.length seen) := by
  refine ⟨marks_len _ _, fun d hd => ?_, fun T h1 h2 n hn => ?_⟩
  · have := h d hd
    have e : ((d.toNat : Nat) : Int) = d := Int.toNat_of_nonneg this.1
    rw [marks_at (by omega), e]
    simpa using hd
  · have hlt : n < ds.length := by have := (List.getElem?_eq_some_iff.1 hn).1; rwa [marks_len] at this
    rw [marks_at hlt] at hn
    have hm : (n : Int) ∈ seen := by simpa using hn
    have := h1 _ hm
    rwa [Int.toNat_natCast] at this
theorem cls_set {ds : List (List Int)} {seen : List Int} {M : List Bool} (h : ClS ds seen M) {k j : Nat} {l : List Int} (hk : M[k]? = some true) (hl : ds[k]? = some l) (hj : (j : Int) ∈ l) : ClS ds seen (M.set j true) := by
  refine ⟨by rw [List.length_set]; exact h.len, fun d hd => ?_, fun T h1 h2 n hn => ?_⟩
  · rw [List.getElem?_set]
    by_cases e : j = d.toNat
    · rw [if_pos e, if_pos (by rw [e]; exact (List.getElem?_eq_some_iff.1 (h.has d hd)).1)]
    · rw [if_neg e]; exact h.has d hd
  · rw [List.getElem?_set] at hn
    by_cases e : j = n
    · subst e
      have := h2 k l hl (h.low T h1 h2 k hk) _ hj
      rwa [Int.toNat_natCast] at this
    · rw [if_neg e] at hn
      exact h.low T h1 h2 n hn
section
variable (w : World) (L : List HP)
theorem gthose_c (v : Value) (n : Nat) (l : List Bool) (hn : n = l.length) (h6 : l.length ≤ 1000) (hO : Own w L) (hr : ∀ w', Own w' L → Rd w' 1 v n (bvs l)) : Calls Try.prog 52 #[v] w (RetX w (fun o : Value => o) (fun o => owns 3 1 o (thoseZ l l.length).length (zs (thoseZ l l.length)) :: L)) := by
  subst hn
  have HR := Lib.hid hr
  have H6 := Lib.hid h6
  have hS := Same.refl w
  obtain ⟨A, c, rfl⟩ := (hr w hO).slice
  have hmx := (hr w hO).max
  clear hr
  go_enter Try.func52, Try.ntmps52
  go_wp2
  go_loopw [3, 4] (fun pv i wr => ∃ (k : Nat) (o : Value), k ≤ l.length ∧ o = pv ∧ i = .int .i64 k ∧ Own wr (owns 3 1 o (thoseZ l k).length (zs (thoseZ l k)) :: L) ∧ Same w wr) (fun _ i _ => l.length - (intOf i).toNat)
  case atStart => exact ⟨0, _, Nat.zero_le _, rfl, rfl, owns_nil hO, hS⟩
  case round =>
    clear hO hS
    obtain ⟨k, o, hk, ho, rfl, hO, hS⟩ := hrel
    subst ho
    by_cases hlt : k < l.length
    · obtain ⟨x, hx⟩ : ∃ y, l[k]? = some y := ⟨_, List.getElem?_eq_getElem hlt⟩
      obtain ⟨ad, e1⟩ := (HR.out _ (own_drop hO)).addr (by rw [bvs_length]; omega)
      subst e1
      have HC : Hid (∀ w', Own w' L → w'.cell? (ad.add k) = some (.bool x)) := Lib.hid fun w' h => by
        have h1 : w'.cell? ((ad.add (k * 1)).add 0) = some (.bool x) := (HR.out w' h).cell (by rw [Nat.mul_one, Nat.add_zero]; unfold bvs; rw [List.getElem?_map, hx]; rfl)
        rwa [addr_add, Nat.mul_one, Nat.add_zero] at h1
      have hm1 : (k : Int) < l.length := by omega
      have HNX := Lib.hid (thoseZ_next hx)
      have HBL : Hid ((thoseZ l k).length ≤ 1000) := by have := thoseZ_len l k; have := H6.out; show _ ≤ _; omega
      clear hx
      cases x with
      | true =>
        go_wp2_with (first | (refine own_load1_at (ad := ad.add k) (v := .bool true) rfl rfl rfl row_bl (HC.out _ (own_drop hO)) ?_) | (refine own_append (m := 1) (n := (thoseZ l k).length) (xs := (zs (thoseZ l k))) (news := [.int .i64 (k : Int)]) rfl rfl rfl rfl Try.underlying31 info_z3 rfl (by decide) (own_perm (own_alloc_new hO (.cells #[.int .i64 (k : Int)] 3)) (List.Perm.swap _ _ _)) ?_ (by intro u hu; rw [List.mem_singleton.1 hu]; rfl) ?_ ?_ ?_; (exact rd_block (own_get 1 (own_perm (own_alloc_new hO (.cells #[.int .i64 (k : Int)] 3)) (List.Perm.swap _ _ _)) rfl) rfl (by simp) (by simp) (by simp)); (have := HBL.out; unfold maxLen; omega); (have := HBL.out; omega); clear hO; intro v' w9 hO hS9 hv'))
        go_roundw
        case rel => exact ⟨k + 1, v', by omega, rfl, by go_num, by rw [HNX.out]; exact own_flq hO, hS.trans ((Same.alloc _ _).trans hS9)⟩
        case measure => simp [intOf]; omega
      | false =>
        go_wp2_with (first | (refine own_load1_at (ad := ad.add k) (v := .bool false) rfl rfl rfl row_bl (HC.out _ (own_drop hO)) ?_))
        go_roundw
        case rel => exact ⟨k + 1, o, by omega, rfl, by go_num, by rw [HNX.out]; simpa using hO, hS⟩
        case measure => simp [intOf]; omega
    · have hke : k = l.length := by omega
      subst hke
      go_wp2
      go_ret
      exact ⟨o, rfl, hO, hS⟩
set_option maxHeartbeats 1600000 in
theorem gclose_c (v : Value) (vs : List Value) (ds : List (List Int)) (sv : Value) (n : Nat) (seen : List Int) (hn : n = seen.length) (hO : Own w L) (hr : ∀ w', Own w' L → DRd w' v vs ds) (hs : ∀ w', Own w' L → Rd w' 1 sv n (zs seen)) (h256 : ds.length ≤ 256) (hl : ∀ l ∈ ds, l.length ≤ 256) (hin : ∀ (k : Nat) (l : List Int), ds[k]? = some l → ∀ d ∈ l, 0 ≤ d ∧ d < (k : Int)) (hseen : ∀ d ∈ seen, 0 ≤ d ∧ d < (ds.length : Int)) :
    Calls Try.prog 19 #[v, sv] w (RetX w (fun y : Value × List Bool => y.1) (fun y => pur (ClS ds seen y.2) :: owns 3 1 y.1 (thoseZ y.2 ds.length).length (zs (thoseZ y.2 ds.length)) :: L)) := by
  subst hn
  have HR := Lib.hid hr
  have HSR := Lib.hid hs
  have HL := Lib.hid hl
  have HIN := Lib.hid hin
  have HSEEN := Lib.hid hseen
  have H256 := Lib.hid h256
  have hS := Same.refl w
  obtain ⟨VA, vc, rfl⟩ := (hr w hO).rd.slice
  have hmx := (hr w hO).rd.max
  obtain ⟨SA, sc, rfl⟩ := (hs w hO).slice
  have hmx2 := (hs w hO).max
  clear hr hs hl hin hseen
  go_enter Try.func19, Try.ntmps19
  go_wp2_with (first | (go_at_call 47; (with_reducible refine Calls.mono (gright_c _ _ (.slice VA ds.length vc) vs ds hO HR.out H256.out HL.out HIN.out) ?_); clear hO; rintro e u ⟨rfl, hO, hSn⟩; replace hS := hS.trans hSn; clear hSn) | (at_make; refine own_make (n := ds.length) rfl rfl rfl rfl Try.underlying85 info_bl3 (by have := H256.out; omega) (by have := H256.out; omega) (made_bvs1 ds.length) hO ?_; clear hO; intro g u hO hSn; replace hS := hS.trans hSn; clear hSn))
  rw [← marks_none] at hO
  go_loopw [6] (fun i wr => ∃ k : Nat, k ≤ seen.length ∧ i = .int .i64 k ∧ Own wr (pts g (.cells (bvs (marksL ds.length (seen.take k))).toArray 4) :: L) ∧ Same w wr) (fun i _ => seen.length - (intOf i).toNat)
  case atStart => exact ⟨0, Nat.zero_le _, rfl, hO, hS⟩
  case round =>
    clear hO hS
    obtain ⟨k, hk, rfl, hO, hS⟩ := hrel
    by_cases hlt : k < seen.length
    · obtain ⟨x, hx⟩ : ∃ y, seen[k]? = some y := ⟨_, List.getElem?_eq_getElem hlt⟩
      obtain ⟨ad, e1⟩ := (HSR.out _ (own_drop hO)).addr (by unfold zs; rw [List.length_map]; omega)
      subst e1
      have hx0 := (HSEEN.out x (List.mem_of_getElem? hx)).1
      have hxn := (HSEEN.out x (List.mem_of_getElem? hx)).2
      obtain ⟨j, rfl⟩ : ∃ j : Nat, x = (j : Int) := ⟨x.toNat, by omega⟩
      have HC := Lib.hid (zs_cell (HSR.out _ (own_drop hO)) hx)
      have hm1 : (k : Int) < seen.length := by omega
      have HNX : Hid (bvs ((marksL ds.length (seen.take k)).set j true) = bvs (marksL ds.length (seen.take (k + 1)))) := by
        show _ = _
        rw [marks_set, List.take_add_one, hx]
        rfl
      have HFIT : Hid (j < (bvs (marksL ds.length (seen.take k))).toArray.size) := by
        show _ < _
        rw [List.size_toArray, bvs_length, marks_len]
        omega
      clear hx
      go_wp2_with (first | (refine own_load1_at (ad := ad.add k) (v := .int .i64 j) rfl rfl rfl row_int HC.out ?_) | (refine own_store1 (k := 0) (b := g) (off := j) rfl rfl rfl rfl sz_bl hO rfl rfl HFIT.out (bvs_set _ _ _) ?_; clear hO; intro u hO hSn; replace hS := hS.trans hSn; clear hSn; simp only [List.set_cons_zero] at hO))
      go_roundw
      case rel => exact ⟨k + 1, by omega, by go_num, by rw [← HNX.out]; exact hO, hS⟩
      case measure => simp [intOf]; omega
    · have hke : k = seen.length := by omega
      subst hke
      rw [List.take_length] at hO
      have hmn : ds.length ≤ 256 := H256.out
      have HST := Lib.hid (cls_start HSEEN.out)
      go_wp2
      go_loopw [7] (fun iv wr => ∃ (i : Int) (M : List Bool), -1 ≤ i ∧ i < ds.length ∧ iv = .int .i64 i ∧ Hid (ClS ds seen M) ∧ Own wr (pts g (.cells (bvs M).toArray 4) :: L) ∧ Same w wr) (fun iv _ => (intOf iv + 1).toNat)
      case atStart => exact ⟨(ds.length : Int) - 1, _, by omega, by omega, by go_num, HST.out, hO, hS⟩
      case round =>
        clear hO hS HST
        obtain ⟨i, M, hi1, hi2, rfl, HM, hO, hS⟩ := hrel
        by_cases hi0 : 0 ≤ i
        · obtain ⟨k, rfl⟩ : ∃ k : Nat, i = (k : Int) := ⟨i.toNat, by omega⟩
          have hkl : k < ds.length := by omega
          obtain ⟨l, hx⟩ : ∃ y, ds[k]? = some y := ⟨_, List.getElem?_eq_getElem hkl⟩
          obtain ⟨ad, A1, c1, e1, hat⟩ := drd_at HR.out (own_drop hO) hx
          subst e1
          have HAT := Lib.hid hat
          have hll : l.length ≤ 256 := HL.out l (List.mem_of_getElem? hx)
          have HI := Lib.hid (HIN.out k l hx)
          have HLK := Lib.hid hx
          clear hx hat
          go_wp2
          go_loopw [8] (fun j wr => ∃ (m : Nat) (M : List Bool), m ≤ l.length ∧ j = .int .i64 m ∧ Hid (ClS ds seen M) ∧ Own wr (pts g (.cells (bvs M).toArray 4) :: L) ∧ Same w wr) (fun j _ => l.length - (intOf j).toNat)
          case atStart => exact ⟨0, M, Nat.zero_le _, rfl, HM, hO, hS⟩
          case round =>
            clear hO hS HM
            obtain ⟨m, M, hm, rfl, HM, hO, hS⟩ := hrel
            by_cases hlt2 : m < l.length
            · obtain ⟨x, hx⟩ : ∃ y, l[m]? = some y := ⟨_, List.getElem?_eq_getElem hlt2⟩
              obtain ⟨ad2, e2⟩ := (HAT.out _ (own_drop hO)).2.addr (by unfold zs; rw [List.length_map]; omega)
              subst e2
              have hx0 := (HI.out x (List.mem_of_getElem? hx)).1
              have hxk := (HI.out x (List.mem_of_getElem? hx)).2
              obtain ⟨j, rfl⟩ : ∃ j : Nat, x = (j : Int) := ⟨x.toNat, by omega⟩
              have HC : Hid (∀ w', Own w' L → w'.cell? (ad2.add m) = some (.int .i64 (j : Int))) := Lib.hid fun w' h => zs_cell (HAT.out _ h).2 hx
              have hm2 : (m : Int) < l.length := by omega
              obtain ⟨b, hb⟩ : ∃ b, M[k]? = some b := ⟨_, List.getElem?_eq_getElem (by rw [HM.out.len]; exact hkl)⟩
              have HBK : Hid ((bvs M).toArray[k]? = some (.bool b)) := bvs_at hb
              have HJL := Lib.hid (List.mem_of_getElem? hx)
              have HFIT : Hid (j < (bvs M).toArray.size) := by
                show _ < _
                rw [List.size_toArray, bvs_length, HM.out.len]
                omega
              clear hx
              cases b with
              | true =>
                have HMN := Lib.hid (cls_set HM.out hb HLK.out HJL.out)
                clear hb
                go_wp2_with (first | (refine own_load1_at (ad := ad.add k) (v := .slice (some ad2) l.length c1) rfl rfl rfl row_zs (HAT.out _ (own_drop hO)).1 ?_) | (refine own_load1_at (ad := ad2.add m) (v := .int .i64 j) rfl rfl rfl row_int (HC.out _ (own_drop hO)) ?_) | (refine own_load1 (b := g) (off := k) (t := 4) (v := .bool true) rfl rfl rfl row_bl (own_get 0 hO rfl) HBK.out ?_) | (refine own_store1 (k := 0) (b := g) (off := j) rfl rfl rfl rfl sz_bl hO rfl rfl HFIT.out (bvs_set _ _ _) ?_; clear hO; intro u hO hSn; replace hS := hS.trans hSn; clear hSn; simp only [List.set_cons_zero] at hO))
                go_roundw
                case rel => exact ⟨m + 1, _, by omega, by go_num, HMN, hO, hS⟩
                case measure => simp [intOf]; omega
              | false =>
                clear hb
                go_wp2_with (first | (refine own_load1_at (ad := ad.add k) (v := .slice (some ad2) l.length c1) rfl rfl rfl row_zs (HAT.out _ (own_drop hO)).1 ?_) | (refine own_load1 (b := g) (off := k) (t := 4) (v := .bool false) rfl rfl rfl row_bl (own_get 0 hO rfl) HBK.out ?_))
                go_roundw
                case rel => exact ⟨m + 1, M, by omega, by go_num, HM, hO, hS⟩
                case measure => simp [intOf]; omega
            · have hme : m = l.length := by omega
              subst hme
              go_wp2_with (first | (refine own_load1_at (ad := ad.add k) (v := .slice A1 l.length c1) rfl rfl rfl row_zs (HAT.out _ (own_drop hO)).1 ?_))
              go_roundw
              case rel => exact ⟨(k : Int) - 1, M, by omega, by omega, by go_num, HM, hO, hS⟩
              case measure => simp [intOf] <;> omega
        · have HML := HM.out.len
          have HTH : Hid (∀ w', Own w' (pts g (.cells (bvs M).toArray 4) :: L) → Calls Try.prog 52 #[.slice (some ⟨g, 0, none⟩) ds.length ds.length] w' (RetX w' (fun o : Value => o) (fun o => owns 3 1 o (thoseZ M ds.length).length (zs (thoseZ M ds.length)) :: pts g (.cells (bvs M).toArray 4) :: L))) := Lib.hid fun w' h => by
            have h2 := gthose_c w' _ (.slice (some ⟨g, 0, none⟩) ds.length ds.length) ds.length M HML.symm (by omega) h (fun w2 h2 => rd_block (own_get 0 h2 rfl) (by rw [Nat.mul_one, ← HML, ← bvs_length M]; exact List.take_length) (by simp [bvs_length, HML]) (Nat.le_refl _) (by omega))
            rw [HML] at h2
            exact h2
          clear HML
          go_wp2_with (first | (go_at_call 52; (with_reducible refine Calls.mono (HTH.out _ hO) ?_); clear hO; rintro e u ⟨o, rfl, hO, hSn⟩; replace hS := hS.trans hSn; clear hSn))
          go_ret
          exact ⟨(o, M), rfl, own_pur.2 ⟨HM.out, own_drop (own_swap hO)⟩, hS⟩
end
section
variable (w : World) (L : List HP)
set_option maxHeartbeats 800000 in
theorem elasting_c (d : Nat) (m : List Blk) (hO : Own w (diskP d m :: L)) (h96 : m.length ≤ 1000) : Calls Try.prog 17 #[.pointer (some ⟨d, 0, none⟩)] w (RetX w (fun o : Value => o) (fun o => owns 5 1 o (m.length * 32) (bcs (m.flatMap fun b => b.s)) :: diskP d m :: L)) := by
  have H32 : Hid (∀ b ∈ m, b.s.length = 32) := Lib.hid fun b hb => (disk_s32 hO b hb).1
  have hS := Same.refl w
  go_enter Try.func17, Try.ntmps17
  go_wp2
  go_loopw [3, 4] (fun pv i wr => ∃ (k : Nat) (o : Value), k ≤ m.length ∧ o = pv ∧ i = .int .i64 k ∧ Own wr (owns 5 1 o (k * 32) (bcs ((m.take k).flatMap fun b => b.s)) :: diskP d m :: L) ∧ Same w wr) (fun _ i _ => m.length - (intOf i).toNat)
  case atStart => exact ⟨0, _, Nat.zero_le _, rfl, rfl, owns_nil hO, hS⟩
  case round =>
    clear hO hS
    obtain ⟨k, o, hk, ho, rfl, hO, hS⟩ := hrel
    subst ho
    by_cases hlt : k < m.length
    · obtain ⟨b, hb⟩ : ∃ b, m[k]? = some b := ⟨_, List.getElem?_eq_getElem hlt⟩
      have HB := Lib.hid hb
      have HL : Hid (b.s.length = 32) := H32.out b (List.mem_of_getElem? hb)
      have hm1 : (k : Int) < m.length := by omega
      have HNX : Hid (bcs ((m.take (k + 1)).flatMap fun b => b.s) = bcs ((m.take k).flatMap fun b => b.s) ++ bcs b.s) := by
        show _ = _
        rw [List.take_add_one, hb, List.flatMap_append]
        simp [bcs]
      clear hb
      go_upto_region 6 with (first | (go_at_call 33; (with_reducible refine Calls.mono (call_at 1 (fun L' h => size_c _ L' d m h) rfl hO) ?_); clear hO; rintro e u ⟨rfl, hO, hSn⟩; replace hS := hS.trans hSn; clear hSn; simp only [List.set_cons_zero, List.set_cons_succ] at hO) | (go_at_call 50; (with_reducible refine Calls.mono (call_at 1 (fun L' h => lasting_ok _ L' d m k b h HB.out) rfl hO) ?_); clear hO; rintro e u ⟨rfl, hO, hSn⟩; replace hS := hS.trans hSn; clear hSn; simp only [List.set_cons_zero, List.set_cons_succ] at hO) | (refine own_alloc (T := 79) (cs := (bcs sec0).toArray) rfl rfl zero_sec rfl hO ?_; clear hO; intro gs u hO hSn; replace hS := hS.trans hSn; clear hSn) | (refine own_store_all (k := 0) rfl rfl rfl rfl sz_sec hO rfl (secA_size HL.out) (by rfl) (bcs_all _) ?_; clear hO; intro u hO hSn; replace hS := hS.trans hSn; clear hSn; simp only [List.set_cons_zero, List.set_cons_succ] at hO))
      have hO := own_swap hO
      refine wp_plain_seq (Cls _ (owns 5 1 o (k * 32) (bcs ((m.take k).flatMap fun b => b.s)) :: pts gs (.cells (bcs b.s).toArray 79) :: diskP d m :: L)) 2 (cls_here hO) ?_
      simp only [List.append_eq, List.cons_append, List.nil_append, List.take_succ_cons, List.take_zero]
      repeat (first
        | (apply wv_skip rfl; simp only [Act.put, List.setIfInBounds_toArray, List.set_cons_zero, List.set_cons_succ])
        | (apply wv_load1 rfl rfl rfl; (first | exact row_int | exact row_str | exact row_bool | exact row_u8 | exact row_bys | exact row_pats | exact row_err); (intro w h; (first | exact own_get 0 h.1 rfl | exact own_get 1 h.1 rfl | exact own_get 2 h.1 rfl | exact own_get 3 h.1 rfl | exact own_get 4 h.1 rfl | exact own_get 5 h.1 rfl | exact own_get 6 h.1 rfl | exact own_get 7 h.1 rfl)); (first | (simp only [List.getElem?_toArray, List.getElem?_cons_succ, List.getElem?_cons_zero]; rfl) | rfl); simp only [Act.put, List.setIfInBounds_toArray, List.set_cons_zero, List.set_cons_succ])
        | (apply wv_loadrow rfl rfl rfl; (first | exact row_pat); exact sz_pat; (intro w h; (first | exact own_get 0 h.1 rfl | exact own_get 1 h.1 rfl | exact own_get 2 h.1 rfl | exact own_get 3 h.1 rfl | exact own_get 4 h.1 rfl | exact own_get 5 h.1 rfl | exact own_get 6 h.1 rfl | exact own_get 7 h.1 rfl)); (focus (simp; done)); (first | (simp only [List.drop_zero, List.drop_succ_cons, List.take_succ_cons, List.take_zero]; rfl) | rfl); simp only [Act.put, List.setIfInBounds_toArray, List.set_cons_zero, List.set_cons_succ])
        | (apply wv_run rfl; (focus (intro w h; go_simp; first | done | rfl)); simp only [Act.put, List.setIfInBounds_toArray, List.set_cons_zero, List.set_cons_succ])
        | (apply wv_call rfl; (focus (intro w; go_simp; first | done | exact ⟨rfl, rfl⟩)); (focus (intro w h; apply cls_call h; fail)); simp only [Act.put, List.setIfInBounds_toArray, List.set_cons_zero, List.set_cons_succ]))
      refine wv_nil ?_
      simp only [List.drop_succ_cons, List.drop_zero]
      intro w5 ⟨hO5, hS5⟩
      clear hO
      refine own_append (v := o) (m := 32) (n := k * 32) (news := bcs b.s) rfl rfl rfl rfl Try.underlying23 info_u8 (by simp [Value.cells]) (by decide) hO5 (rd_block (own_get 1 hO5 rfl) (List.take_of_length_le (by simp [bcs_length, HL.out])) (by simp [bcs_length, HL.out]) (by decide) (by decide)) (bcs_one _) (by simp only [maxLen]; omega) (by omega) ?_
      intro v' w9 hO hS9 hv'
      clear hO5
      go_wp2
      go_roundw
      case rel => exact ⟨k + 1, v', by omega, rfl, by go_num, by rw [HNX.out, show (k + 1) * 32 = k * 32 + 32 by omega]; exact own_drop (own_swap hO), hS.trans (hS5.trans hS9)⟩
      case measure => simp [intOf]; omega
    · have hke : k = m.length := by omega
      subst hke
      rw [List.take_length] at hO
      go_wp2_with (first | (go_at_call 33; (with_reducible refine Calls.mono (call_at 1 (fun L' h => size_c _ L' d m h) rfl hO) ?_); clear hO; rintro e u ⟨rfl, hO, hSn⟩; replace hS := hS.trans hSn; clear hSn; simp only [List.set_cons_zero, List.set_cons_succ] at hO))
      go_ret
      exact ⟨o, rfl, hO, hS⟩
end
end Go.Proofs.Ytlmkcnkidkoilaa.H
set_option linter.unusedVariables false
set_option linter.unusedSimpArgs false
namespace Go.Proofs.Ytlmkcnkidkoilaa.H
open Go.RowKit
/-- A patch covers byte q of block i. -/
def cov (p : Pat) (i q : Nat) : Prop := p.blk = (i : Int) ∧ p.off ≤ (q : Int) ∧ (q : Int) < p.off + p.dat.size
/-- Of those of a set that cover a byte the last one has number r - 1; r is 0 where none does. -/
def Lastf (all : List Pat) (T : Nat → Prop) (i q r : Nat) : Prop :=
  (r = 0 ∧ ∀ (n : Nat) (p : Pat), all[n]? = some p → T n → ¬ cov p i q) ∨ ∃ (n : Nat) (p : Pat), r = n + 1 ∧ all[n]? = some p ∧ T n ∧ cov p i q ∧ ∀ (m : Nat) (p' : Pat), n < m → all[m]? = some p' → T m → ¬ cov p' i q
theorem Lastf.unique {all : List Pat} {T : Nat → Prop} {i q r r' : Nat} (h : Lastf all T i q r) (h' : Lastf all T i q r') : r = r' := by
  rcases h with ⟨e, h⟩ | ⟨n, p, e, h1, h2, h3, h4⟩
  · rcases h' with ⟨e', _⟩ | ⟨n', p', _, h1', h2', h3', _⟩
    · rw [e, e']
    · exact absurd h3' (h n' p' h1' h2')
  · rcases h' with ⟨e', h'⟩ | ⟨n', p', e', h1', h2', h3', h4'⟩
    · exact absurd h3 (h' n p h1 h2)
    · rcases Nat.lt_trichotomy n n' with hh | hh | hh
      · exact absurd h3' (h4 n' p' hh h1' h2')
      · rw [e, e', hh]
      · exact absurd h3 (h4' n p hh h1 h2)
theorem Lastf.congr {all : List Pat} {T T' : Nat → Prop} {i q r : Nat} (h : Lastf all T i q r) (hc : ∀ (n : Nat) (p : Pat), all[n]? = some p → cov p i q → (T n ↔ T' n)) : Lastf all T' i q r := by
  rcases h with ⟨e, h⟩ | ⟨n, p, e, h1, h2, h3, h4⟩
  · exact .inl ⟨e, fun n p hn ht hv => h n p hn ((hc n p hn hv).2 ht) hv⟩
  · exact .inr ⟨n, p, e, h1, (hc n p h1 h3).1 h2, h3, fun m p' hm hp ht hv => h4 m p' hm hp ((hc m p' hp hv).2 ht) hv⟩
/-- A smaller set that is closed, and has all that can be seen: the same. -/
theorem Lastf.seen {all : List Pat} {T S : Nat → Prop} {i q r : Nat} (h : Lastf all T i q r) (hs : ∀ n, S n → T n) (hr : ∀ n, r = n + 1 → S n) : Lastf all S i q r := by
  rcases h with ⟨e, h⟩ | ⟨n, p, e, h1, h2, h3, h4⟩
  · exact .inl ⟨e, fun n p hn ht => h n p hn (hs n ht)⟩
  · exact .inr ⟨n, p, e, h1, hr n e, h3, fun m p' hm hp ht => h4 m p' hm hp (hs m ht)⟩
theorem lastf_lt {all : List Pat} {T : Nat → Prop} {i q r : Nat} (h : Lastf all T i q r) : r ≤ all.length := by
  rcases h with ⟨e, _⟩ | ⟨n, p, e, h1, _⟩
  · omega
  · have := (List.getElem?_eq_some_iff.1 h1).1; omega
/-- The bytes of a patch are its number and one. -/
def Own1 (n : Nat) (p : Pat) : Prop := ∀ (j : Nat) (b : UInt8), p.dat.data.toList[j]? = some b → b = UInt8.ofNat (n + 1)
theorem app_cov {b : List UInt8} {p : Pat} {i q n : Nat} (hb : b.length = 32) (hp : rightB p = true) (hi : p.blk = (i : Int)) (ho : Own1 n p) : (cov p i q → (app b p)[q]? = some (UInt8.ofNat (n + 1))) ∧ (¬ cov p i q → (app b p)[q]? = b[q]?) := by
  obtain ⟨p1, p2, p3, p4, p5, p6⟩ := rightB_iff.1 hp
  have hs : p.dat.size = p.dat.data.toList.length := by rw [Array.length_toList]; rfl
  unfold app
  rw [over_get _ _ _ _ (by omega)]
  constructor
  · rintro ⟨_, h2, h3⟩
    rw [if_pos (by omega)]
    have hlt : q - p.off.toNat < p.dat.data.toList.length := by omega
    rw [List.getElem?_eq_getElem hlt, ho _ _ (List.getElem?_eq_getElem hlt)]
  · intro h
    rw [if_neg (fun h2 => h ⟨hi, by omega, by omega⟩)]
/-- The bytes behind some patches of one block, in order. -/
theorem appAll_last {i q : Nat} {b : List UInt8} (hb : b.length = 32) : ∀ (l : List Wt), (∀ x ∈ l, rightB x.p = true ∧ x.p.blk = (i : Int) ∧ Own1 x.n x.p) → l.Pairwise (fun a b => a.n < b.n) →
    ((∀ x ∈ l, ¬ cov x.p i q) ∧ (appAll b (l.map (·.p)))[q]? = b[q]?) ∨ ∃ x ∈ l, cov x.p i q ∧ (appAll b (l.map (·.p)))[q]? = some (UInt8.ofNat (x.n + 1)) ∧ ∀ y ∈ l, x.n < y.n → ¬ cov y.p i q := by
  intro l hl ha
  obtain ⟨k, hk⟩ : ∃ k, k = l.length := ⟨_, rfl⟩
  induction k generalizing l with
  | zero =>
    have e : l = [] := List.eq_nil_of_length_eq_zero hk.symm
    subst e
    exact .inl ⟨fun x hx => (by cases hx), rfl⟩
  | succ k ih =>
    obtain ⟨l', x, rfl⟩ : ∃ l' x, l = l' ++ [x] := ⟨l.dropLast, l.getLast (fun e => by rw [e] at hk; cases hk), (List.dropLast_concat_getLast _).symm⟩
    rw [List.pairwise_append] at ha
    have hl' : ∀ y ∈ l', rightB y.p = true ∧ y.p.blk = (i : Int) ∧ Own1 y.n y.p := fun y hy => hl y (List.mem_append_left _ hy)
    obtain ⟨h1, h2, h3⟩ := hl x (List.mem_append_right _ (List.mem_singleton.2 rfl))
    have h32 : (appAll b (l'.map (·.p))).length = 32 := appAll_32 hb (fun p hp => by
      obtain ⟨y, hy, rfl⟩ := List.mem_map.1 hp
      exact (hl' y hy).1)
    have e : appAll b ((l' ++ [x]).map (·.p)) = app (appAll b (l'.map (·.p))) x.p := by rw [List.map_append]; exact appAll_snoc _ _ _
    have hc := app_cov (q := q) h32 h1 h2 h3
    rw [e]
    by_cases hx : cov x.p i q
    · refine .inr ⟨x, List.mem_append_right _ (List.mem_singleton.2 rfl), hx, hc.1 hx, fun y hy hlt => ?_⟩
      rcases List.mem_append.1 hy with hy | hy
      · have := ha.2.2 y hy x (List.mem_singleton.2 rfl); omega
      · rw [List.mem_singleton.1 hy] at hlt; omega
    · rw [hc.2 hx]
      rcases ih l' hl' ha.1 (by rw [List.length_append, List.length_singleton] at hk; omega) with ⟨g1, g2⟩ | ⟨y, hy, g1, g2, g3⟩
      · refine .inl ⟨fun y hy => ?_, g2⟩
        rcases List.mem_append.1 hy with hy | hy
        · exact g1 y hy
        · rw [List.mem_singleton.1 hy]; exact hx
      · refine .inr ⟨y, List.mem_append_left _ hy, g1, g2, fun z hz hlt => ?_⟩
        rcases List.mem_append.1 hz with hz | hz
        · exact g3 z hz hlt
        · rw [List.mem_singleton.1 hz]; exact hx
/-- What is true of all patches that were added, what each comes behind, and the engine. -/
structure Cl (all : List Pat) (ds : List (List Int)) (E : Eng) : Prop where
  next : E.next = all.length
  len : ds.length = all.length
  hist : ∀ x ∈ E.l, all[x.n]? = some x.p
  pat : ∀ (n : Nat) (p : Pat), all[n]? = some p → rightB p = true ∧ p.blk < (E.m.length : Int) ∧ Own1 n p
  right : ∀ (n : Nat) (l : List Int), ds[n]? = some l → ∀ d ∈ l, 0 ≤ d ∧ d < (n : Int)
  up : ∀ (n : Nat) (l : List Int), ds[n]? = some l → (n : Int) ∉ wnums E.l → ∀ d ∈ l, d ∉ wnums E.l
  link : ∀ x ∈ E.l, ∀ l, ds[x.n]? = some l → ∀ d ∈ l, d ∈ wnums E.l → d ∈ x.beh
  lap : ∀ (m n : Nat) (p p' : Pat) (l : List Int), m < n → all[m]? = some p → all[n]? = some p' → overB p p' = true → ds[n]? = some l → (m : Int) ∈ l
  base : ∀ (i : Nat) (b : Blk), E.m[i]? = some b → ∀ q, q < 32 → ∃ r, b.s[q]? = some (UInt8.ofNat r) ∧ Lastf all (fun n => (n : Int) ∉ wnums E.l) i q r
  vers : ∀ (i : Nat) (b : Blk) (v : Sec), E.m[i]? = some b → v ∈ b.vs → ∃ V : List Int, (∀ d ∈ V, ∃ x ∈ E.l, (x.n : Int) = d ∧ x.p.blk = (i : Int)) ∧ (∀ x ∈ E.l, (x.n : Int) ∈ V → ∀ d ∈ x.beh, d ∈ wnums E.l → d ∈ V) ∧ v = E.bytes i b fun x => V.contains (x.n : Int)
theorem Cl.ds_at {all : List Pat} {ds : List (List Int)} {E : Eng} (h : Cl all ds E) {n : Nat} {p : Pat} (hp : all[n]? = some p) : ∃ l, ds[n]? = some l := ⟨_, List.getElem?_eq_getElem (by rw [h.len]; exact (List.getElem?_eq_some_iff.1 hp).1)⟩
theorem cov_over {p p' : Pat} {i q : Nat} (h1 : rightB p = true) (h2 : rightB p' = true) (c1 : cov p i q) (c2 : cov p' i q) : overB p p' = true := by
  obtain ⟨a1, a2, a3⟩ := c1
  obtain ⟨b1, b2, b3⟩ := c2
  unfold overB
  rw [h1, h2]
  simp only [Bool.true_and, Bool.and_eq_true, decide_eq_true_eq]
  exact ⟨⟨by omega, by omega⟩, by omega⟩
/-- A block with a closed set that waits over what lasts. -/
theorem Cl.pic {all : List Pat} {ds : List (List Int)} {E : Eng} (h : Cl all ds E) (hI : E.Inv) (hA : E.Ok) {i : Nat} {b : Blk} (hb : E.m[i]? = some b) {V : List Int} (hV : ∀ d ∈ V, ∃ x ∈ E.l, (x.n : Int) = d ∧ x.p.blk = (i : Int)) {q : Nat} (hq : q < 32) :
    ∃ r, (E.bytes i b fun x => V.contains (x.n : Int))[q]? = some (UInt8.ofNat r) ∧ Lastf all (fun n => (n : Int) ∉ wnums E.l ∨ (n : Int) ∈ V) i q r := by
  have h32 := hI.s32 b (List.mem_of_getElem? hb)
  obtain ⟨r0, hr0, hl0⟩ := h.base i b hb q hq
  have hmem : ∀ x ∈ E.l.filter (fun x => decide (x.p.blk = (i : Int)) && V.contains (x.n : Int)), x ∈ E.l ∧ x.p.blk = (i : Int) ∧ (x.n : Int) ∈ V := fun x hx => by
    have h1 := List.mem_filter.1 hx
    simp only [Bool.and_eq_true, decide_eq_true_eq, List.contains_eq_mem] at h1
    exact ⟨h1.1, h1.2.1, h1.2.2⟩
  have hin : ∀ (n : Nat) (p : Pat), all[n]? = some p → (n : Int) ∈ V → ∃ x ∈ E.l.filter (fun x => decide (x.p.blk = (i : Int)) && V.contains (x.n : Int)), x.n = n ∧ x.p = p := fun n p hp hn => by
    obtain ⟨x, hx, e1, e2⟩ := hV _ hn
    have e3 : x.n = n := by omega
    have h1 := h.hist x hx
    rw [e3, hp] at h1
    refine ⟨x, List.mem_filter.2 ⟨hx, ?_⟩, e3, by cases h1; rfl⟩
    simp only [Bool.and_eq_true, decide_eq_true_eq, List.contains_eq_mem]
    exact ⟨e2, by rw [e1]; exact hn⟩
  rcases appAll_last (i := i) (q := q) h32 (E.l.filter fun x => decide (x.p.blk = (i : Int)) && V.contains (x.n : Int)) (fun x hx => by
      obtain ⟨h1, h2, _⟩ := hmem x hx
      exact ⟨(hA.right x h1).1, h2, (h.pat x.n x.p (h.hist x h1)).2.2⟩) (hA.asc.asc.filter _) with ⟨g1, g2⟩ | ⟨x, hx, g1, g2, g3⟩
  · refine ⟨r0, by unfold Eng.bytes; rw [g2]; exact hr0, ?_⟩
    rcases hl0 with ⟨e, h0⟩ | ⟨n, p, e, h1, h2, h3, h4⟩
    · refine .inl ⟨e, fun n p hp ht hc => ?_⟩
      rcases ht with ht | ht
      · exact h0 n p hp ht hc
      · obtain ⟨x, hx, e1, e2⟩ := hin n p hp ht
        exact g1 x hx (by rw [e2]; exact hc)
    · refine .inr ⟨n, p, e, h1, .inl h2, h3, fun m p' hm hp ht hc => ?_⟩
      rcases ht with ht | ht
      · exact h4 m p' hm hp ht hc
      · obtain ⟨x, hx, e1, e2⟩ := hin m p' hp ht
        exact g1 x hx (by rw [e2]; exact hc)
  · obtain ⟨hxl, hxb, hxV⟩ := hmem x hx
    have hxa := h.hist x hxl
    refine ⟨x.n + 1, by unfold Eng.bytes; exact g2, .inr ⟨x.n, x.p, rfl, hxa, .inr hxV, g1, fun m p' hm hp ht hc => ?_⟩⟩
    rcases ht with ht | ht
    · obtain ⟨l, hl⟩ := h.ds_at hp
      have ho := cov_over (h.pat _ _ hxa).1 (h.pat _ _ hp).1 g1 hc
      exact h.up m l hl ht _ (h.lap x.n m x.p p' l hm hxa hp ho hl) (List.mem_map.2 ⟨x, hxl, rfl⟩)
    · obtain ⟨y, hy, e1, e2⟩ := hin m p' hp ht
      exact g3 y hy (by omega) (by rw [e2]; exact hc)
end Go.Proofs.Ytlmkcnkidkoilaa.H
