/- StackSettles: the walk. -/
import Derived.Test.YtdcbfdepkbplbaaZT21
set_option linter.unusedVariables false
set_option linter.unusedSimpArgs false
set_option maxRecDepth 100000
namespace Go.Proofs.Ytdcbfdepkbplbaa.H
open Go.RowKit
theorem first_needs {m : Stk} (hk : m.Ok) {o : On} {r : List On} (hl : m.l = o :: r) : needsN m o.n = [] := by
  have ho : m.l[0]? = some o := by rw [hl]; rfl
  rw [needsN_yes hk ho]
  have h := needs_take hk ho
  unfold needsM
  rw [← h]
  rfl
theorem first_settle {m : Stk} (hk : m.Ok) {o : On} {r : List On} (hl : m.l = o :: r) : ¬ OutL m.l [(o.n : Int)] ∧ ¬ BusyL m.l [(o.n : Int)] ∧ (m.settled [(o.n : Int)]).l = r := by
  have ho : m.l[0]? = some o := by rw [hl]; rfl
  refine ⟨fun ⟨x, hx, h⟩ => ?_, fun ⟨i, k, hki, c, d, hc, hd, h1, _⟩ => ?_, ?_⟩
  · simp at hx
    subst hx
    exact h o (by rw [hl]; simp) rfl
  · have hcn : c.n = o.n := by
      have := List.contains_iff_mem.1 h1
      simp at this
      omega
    obtain ⟨h0, _⟩ := asc_at hk.asc hc ho hcn
    omega
  · show leftL m.l _ = r
    rw [hl]
    unfold leftL
    have hasc := hk.asc
    rw [hl, List.pairwise_cons] at hasc
    rw [List.filter_cons, if_neg (by simp), List.filter_eq_self.2]
    intro x hx
    have := hasc.1 x hx
    simp
    omega
set_option maxHeartbeats 3200000 in
theorem settles_c (w : World) (A0 : Option Addr) (n0 c0 : Nat) (l0 : List UInt8) (A1 : Option Addr) (n1 c1 : Nat) (ds : List Dd) (h : Arg w A0 n0 c0 l0 A1 n1 c1 ds) :
    Calls Try.prog 8 #[.slice A0 n0 c0, .slice A1 n1 c1] w (fun e w' => e = .returned (.bool true) ∧ Below w.heap.size w w') := by
  have HA := Lib.hid h
  have hO : Own w [snap w] := own_snap
  have hS := Same.refl w
  clear h
  go_enter Try.func8, Try.ntmps8
  go_upto_region 2 with (first | (go_at_call 11; (with_reducible refine Calls.mono (play_s _ _ _ _ _ l0 _ _ _ ds HA.out _ hO) ?_); clear hO; rintro e u ⟨p, q, m, hm, hl, hn, rfl, hO, hSn⟩; replace hS := hS.trans hSn; clear hSn; have HM := Lib.hid hm; have HML : Hid (m.l.length ≤ 30 ∧ m.next ≤ 30) := ⟨hl, hn⟩; clear hm hl hn))
  have HBY := Lib.hid (bytes_both m HM.out m.next HM.out)
  have HB32 : Hid ((bcs m.bytes).length = m.bytes.length) := bcs_length _
  obtain ⟨N, hN⟩ : ∃ N, N = m.l.length := ⟨_, rfl⟩
  have HNN := Lib.hid hN
  have hW : AskX 18 44 m m.next (fun y => #[y]) (fun v => v) (ints (numsM m)) := waiting_both m HM.out m.next HM.out
  unfold AskX at hW
  have hnl : (ints (numsM m)).length = N := by rw [ints_len, hN]; simp [numsM]
  rw [hnl] at hW
  have HW2 := Lib.hid hW.1
  have HNL := Lib.hid hnl
  have hN200 : N ≤ 200 := by have := HM.out.len; omega
  clear hW hnl hN
  go_wp2_with (first | (go_at_call 12; (with_reducible refine Calls.mono (live_c _ _ hO) ?_); clear hO; rintro e u ⟨rfl, hO, hSn⟩; replace hS := hS.trans hSn; clear hSn) | (go_at_call 19; (with_reducible refine Calls.mono (call_atX 0 (fun L' h => HBY.out.1 _ L' p h) rfl hO) ?_); clear hO; rintro e u ⟨vw, rfl, hO, hSn⟩; replace hS := hS.trans hSn; clear hSn; simp only [List.set_cons_zero, List.set_cons_succ] at hO) | (go_at_call 18; (with_reducible refine Calls.mono (call_atX 1 (fun L' h => HW2.out _ L' p h) rfl hO) ?_); clear hO; rintro e u ⟨vn, rfl, hO, hSn⟩; replace hS := hS.trans hSn; clear hSn; simp only [List.set_cons_zero, List.set_cons_succ] at hO; obtain ⟨An, cn, rfl⟩ := (rdA_rd hO).slice))
  go_loopw [10] (fun i wr => ∃ (k : Nat) (mk : Stk), k ≤ N ∧ i = .int .i64 k ∧ mk.Ok ∧ mk.l = m.l.drop k ∧ mk.bytes = m.bytes ∧ Own wr [stk p mk, rdA 1 (.slice An N cn) N (ints (numsM m)), rdA 1 vw (bcs m.bytes).length (bcs m.bytes), snap w] ∧ Same w wr) (fun i _ => N - (intOf i).toNat)
  case atStart => exact ⟨0, m, Nat.zero_le _, rfl, HM.out, rfl, rfl, own_perm (own_sub hO (List.Sublist.cons_cons _ (.cons_cons _ (.cons_cons _ (.cons _ (.cons_cons _ (List.nil_sublist _))))))) (List.Perm.trans (List.Perm.cons _ (List.Perm.swap _ _ _)) (List.Perm.swap _ _ _)), hS⟩
  case round =>
    clear hO hS
    obtain ⟨k, mk, hk, rfl, hmk, hmkl, hmkb, hO, hS⟩ := hrel
    by_cases hlt : k < N
    · obtain ⟨o, ho⟩ : ∃ o, m.l[k]? = some o := ⟨_, List.getElem?_eq_getElem (by have := HNN.out; omega)⟩
      obtain ⟨hol, hoe⟩ := List.getElem?_eq_some_iff.1 ho
      have hcons : mk.l = o :: m.l.drop (k + 1) := by rw [hmkl, List.drop_eq_getElem_cons hol, hoe]
      have hfs := first_settle hmk hcons
      have hon : i64 (o.n : Int) := by
        have := HM.out.lt o (List.mem_of_getElem? ho)
        have := HM.out.lim
        exact ⟨by omega, by omega⟩
      obtain ⟨e2, m2, hset, hm2, hx1, hx2, hmay, hm2e⟩ := settle_both mk hmk [(o.n : Int)] (fun x hx => by simp at hx; subst hx; exact hon)
      have e0 : e2 = 0 := by
        rcases hmay with ⟨h1, _⟩ | ⟨_, h1, _⟩ | ⟨_, _, h1⟩
        · exact absurd h1 hfs.1
        · exact absurd h1 hfs.2.1
        · exact h1
      subst e0
      rw [if_pos rfl] at hm2e
      have HM2 : Hid (m2.Ok ∧ m2.l = m.l.drop (k + 1) ∧ m2.bytes = m.bytes) := ⟨hm2, by rw [hm2e]; exact hfs.2.2, by rw [hm2e, settled_bytes hmk hfs.2.1]; exact hmkb⟩
      have HSET := Lib.hid hset.1
      have hne := needs_both mk hmk mk.next hmk (o.n : Int) hon
      rw [first_needs hmk hcons] at hne
      have HN := Lib.hid hne.1
      obtain ⟨ad, rfl⟩ := (rdA_rd (own_drop hO)).addr (by rw [HNL.out]; omega)
      have HC : Hid (∀ w' R, Own w' (rdA 1 (.slice (some ad) N cn) N (ints (numsM m)) :: R) → w'.cell? (ad.add k) = some (.int .i64 (o.n : Int))) := fun w' R h => by
        have h2 := rdA_rd h
        have h3 : N = (numsM m).length := by rw [← HNL.out, ints_len]
        rw [h3] at h2
        exact rdI_cell h2 (by unfold numsM; rw [List.getElem?_map, ho]; rfl)
      have hm1 : (k : Int) < N := by omega
      have HLT : Hid (k < N) := hlt
      clear ho hol hoe hcons hfs hon hset hm2 hx1 hx2 hmay hm2e hne hmk hmkl hmkb
      go_wp2_with (first | (refine own_load1_at (ad := ad.add k) (v := .int .i64 (o.n : Int)) rfl rfl rfl row_int (by first | exact HC.out _ _ (own_drop hO) | exact HC.out _ _ (own_drop (own_drop hO))) ?_) | (go_at_call 15; (with_reducible refine Calls.mono (call_atX 0 (fun L' h => HN.out _ L' p h) rfl hO) ?_); clear hO; rintro e u ⟨vn, rfl, hO, hSn⟩; replace hS := hS.trans hSn; clear hSn; simp only [List.set_cons_zero, List.set_cons_succ] at hO; obtain ⟨Ax, cx, rfl⟩ := (rdA_rd hO).slice) | (go_at_call 22; (with_reducible refine Calls.mono (HSET.out _ [pts u.heap.size (.cells #[.int .i64 (o.n : Int)] 3), rdA 1 (.slice (some ad) N cn) N (ints (numsM m)), rdA 1 vw (bcs m.bytes).length (bcs m.bytes), snap w] p _ ?_ ?_) ?_); (exact own_perm (own_sub (own_alloc_new hO (.cells #[.int .i64 (o.n : Int)] 3)) (List.Sublist.cons_cons _ (.cons _ (List.Sublist.refl _)))) (List.Perm.swap _ _ _)); (exact fun w' h => rd_block (own_get 0 h rfl) rfl (by simp) (by simp) (by simp)); clear hO; rintro e u2 ⟨rfl, hO, hSn⟩; replace hS := (hS.trans (Same.alloc _ _)).trans hSn; clear hSn))
      go_roundw
      case rel => exact ⟨k + 1, m2, by have := HLT.out; omega, by go_num, HM2.out.1, HM2.out.2.1, HM2.out.2.2, own_sub hO (List.Sublist.cons_cons _ (.cons _ (List.Sublist.refl _))), hS⟩
      case measure => have := HLT.out; simp [intOf]; omega
    · have hke : k = N := by omega
      subst hke
      have hnil : mk.l = [] := by rw [hmkl, HNN.out, List.drop_length]
      have hbb : mk.base = m.bytes := by rw [← hmkb]; unfold Stk.bytes Stk.pats; rw [hnil]; rfl
      have hWk : AskX 18 44 mk mk.next (fun y => #[y]) (fun v => v) (ints (numsM mk)) := waiting_both mk hmk mk.next hmk
      have hn0 : numsM mk = [] := by unfold numsM; rw [hnil]; rfl
      rw [hn0] at hWk
      have HWK := Lib.hid hWk.1
      have hBk := bytes_both mk hmk mk.next hmk
      rw [hmkb] at hBk
      have HBK := Lib.hid hBk.1
      have hAk := base_both mk hmk mk.next hmk
      rw [hbb] at hAk
      have HAK := Lib.hid hAk.1
      clear hnil hbb hWk hn0 hBk hAk hmk hmkl hmkb
      go_upto_region 11 with fail
      refine wp_region_own (α := Nat → Value) (fun x => .pointer (some ⟨p, 0, none⟩) :: x 1 :: .int .i64 0 :: .bool true :: .bool true :: .pointer (some ⟨p, 0, none⟩) :: x 6 :: .string (bstr m.bytes) :: vw :: .string (bstr m.bytes) :: .bool true :: .bool true :: .bool true :: .pointer (some ⟨p, 0, none⟩) :: x 14 :: .string (bstr m.bytes) :: vw :: .string (bstr m.bytes) :: .bool true :: .bool true :: .bool true :: []) (fun D x => ([stk p mk, rdA 1 (.slice An k cn) k (ints (numsM m)), rdA 1 vw (bcs m.bytes).length (bcs m.bytes), snap w]) ++ owL ([(1, none, fun v => rdA 1 v (ints []).length (ints [])), (6, none, fun v => rdA 1 v (bcs m.bytes).length (bcs m.bytes)), (14, none, fun v => rdA 1 v (bcs m.bytes).length (bcs m.bytes))]) D x) wr (fun _ => undef) 72 (fun _ => rfl) mixed (by kernel_rfl) rfl (by rw [owL_none, List.append_nil]; exact own_heap hO (fun _ _ h => h)) (Same.drew _) (fun _ _ _ _ hd h => ⟨hd ▸ h.1, h.2⟩) ?_ ?_
      · refine ⟨?_, ?_, ?_, ?_, ?_, ?_, ?_, ?_, ?_, ?_, ?_, ?_, ?_, ?_, ?_, ?_, ?_, ?_, ?_, ?_, ?_, trivial⟩
        · (refine @fs_pureO _ _ _ _ _ _ _ _ _ _ (by kernel_rfl) (fun D x hD hcl hp => ?_); simp only [putO]; simp only [Act.put, List.setIfInBounds_toArray, List.set_cons_zero, List.set_cons_succ]; first | exact y_run rfl (by intro w h; go_simp; first | done | rfl))
        · (refine @fs_new _ _ _ _ _ _ _ _ _ _ _ _ [] (fun v => v) rfl rfl (by kernel_rfl) (by kernel_rfl) (by intro j; rcases j with _ | j; (focus (first | exact .inr fun _ _ => rfl | exact .inl (by kernel_rfl))); rcases j with _ | j; (focus (first | exact .inr fun _ _ => rfl | exact .inl (by kernel_rfl))); rcases j with _ | j; (focus (first | exact .inr fun _ _ => rfl | exact .inl (by kernel_rfl))); rcases j with _ | j; (focus (first | exact .inr fun _ _ => rfl | exact .inl (by kernel_rfl))); rcases j with _ | j; (focus (first | exact .inr fun _ _ => rfl | exact .inl (by kernel_rfl))); rcases j with _ | j; (focus (first | exact .inr fun _ _ => rfl | exact .inl (by kernel_rfl))); rcases j with _ | j; (focus (first | exact .inr fun _ _ => rfl | exact .inl (by kernel_rfl))); rcases j with _ | j; (focus (first | exact .inr fun _ _ => rfl | exact .inl (by kernel_rfl))); rcases j with _ | j; (focus (first | exact .inr fun _ _ => rfl | exact .inl (by kernel_rfl))); rcases j with _ | j; (focus (first | exact .inr fun _ _ => rfl | exact .inl (by kernel_rfl))); rcases j with _ | j; (focus (first | exact .inr fun _ _ => rfl | exact .inl (by kernel_rfl))); rcases j with _ | j; (focus (first | exact .inr fun _ _ => rfl | exact .inl (by kernel_rfl))); rcases j with _ | j; (focus (first | exact .inr fun _ _ => rfl | exact .inl (by kernel_rfl))); rcases j with _ | j; (focus (first | exact .inr fun _ _ => rfl | exact .inl (by kernel_rfl))); rcases j with _ | j; (focus (first | exact .inr fun _ _ => rfl | exact .inl (by kernel_rfl))); rcases j with _ | j; (focus (first | exact .inr fun _ _ => rfl | exact .inl (by kernel_rfl))); rcases j with _ | j; (focus (first | exact .inr fun _ _ => rfl | exact .inl (by kernel_rfl))); rcases j with _ | j; (focus (first | exact .inr fun _ _ => rfl | exact .inl (by kernel_rfl))); rcases j with _ | j; (focus (first | exact .inr fun _ _ => rfl | exact .inl (by kernel_rfl))); rcases j with _ | j; (focus (first | exact .inr fun _ _ => rfl | exact .inl (by kernel_rfl))); rcases j with _ | j; (focus (first | exact .inr fun _ _ => rfl | exact .inl (by kernel_rfl))); exact .inr fun _ _ => rfl) (fun _ _ => rfl) ?_; intro D x u hD hcl hp hO hS N hN; simp only [putO]; simp only [Act.put, List.setIfInBounds_toArray, List.set_cons_zero, List.set_cons_succ]; refine ev_call rfl (by go_simp; first | done | exact ⟨rfl, rfl⟩) ?_; refine Calls.mono (call_atX 0 (fun L' h => HWK.out _ L' p h) rfl hO) ?_; rintro e u' ⟨v, rfl, hO', hS'⟩; exact ⟨_, rfl, hN _ v u' rfl rfl hO' hS'⟩)
        · (refine @fs_pureO _ _ _ _ _ _ _ _ _ _ (by kernel_rfl) (fun D x hD hcl hp => ?_); simp only [putO]; simp only [Act.put, List.setIfInBounds_toArray, List.set_cons_zero, List.set_cons_succ]; first | exact (y_run rfl (by intro w h; obtain ⟨L', o⟩ := ow_get 0 h.1 rfl (dep_yes hp rfl); obtain ⟨A, c, e⟩ := (rdA_rd o).slice; simp only [e]; go_simp; first | done | rfl)) | exact y_run rfl (by intro w h; go_simp; first | done | rfl))
        · (refine @fs_pureO _ _ _ _ _ _ _ _ _ _ (by kernel_rfl) (fun D x hD hcl hp => ?_); simp only [putO]; simp only [Act.put, List.setIfInBounds_toArray, List.set_cons_zero, List.set_cons_succ]; first | exact y_run rfl (by intro w h; go_simp; first | done | rfl))
        · (refine @fs_pureO _ _ _ _ _ _ _ _ _ _ (by kernel_rfl) (fun D x hD hcl hp => ?_); simp only [putO]; simp only [Act.put, List.setIfInBounds_toArray, List.set_cons_zero, List.set_cons_succ]; first | exact y_run rfl (by intro w h; go_simp; first | done | rfl))
        · (refine @fs_pureO _ _ _ _ _ _ _ _ _ _ (by kernel_rfl) (fun D x hD hcl hp => ?_); simp only [putO]; simp only [Act.put, List.setIfInBounds_toArray, List.set_cons_zero, List.set_cons_succ]; first | exact y_run rfl (by intro w h; go_simp; first | done | rfl))
        · (refine @fs_new _ _ _ _ _ _ _ _ _ _ _ _ [] (fun v => v) rfl rfl (by kernel_rfl) (by kernel_rfl) (by intro j; rcases j with _ | j; (focus (first | exact .inr fun _ _ => rfl | exact .inl (by kernel_rfl))); rcases j with _ | j; (focus (first | exact .inr fun _ _ => rfl | exact .inl (by kernel_rfl))); rcases j with _ | j; (focus (first | exact .inr fun _ _ => rfl | exact .inl (by kernel_rfl))); rcases j with _ | j; (focus (first | exact .inr fun _ _ => rfl | exact .inl (by kernel_rfl))); rcases j with _ | j; (focus (first | exact .inr fun _ _ => rfl | exact .inl (by kernel_rfl))); rcases j with _ | j; (focus (first | exact .inr fun _ _ => rfl | exact .inl (by kernel_rfl))); rcases j with _ | j; (focus (first | exact .inr fun _ _ => rfl | exact .inl (by kernel_rfl))); rcases j with _ | j; (focus (first | exact .inr fun _ _ => rfl | exact .inl (by kernel_rfl))); rcases j with _ | j; (focus (first | exact .inr fun _ _ => rfl | exact .inl (by kernel_rfl))); rcases j with _ | j; (focus (first | exact .inr fun _ _ => rfl | exact .inl (by kernel_rfl))); rcases j with _ | j; (focus (first | exact .inr fun _ _ => rfl | exact .inl (by kernel_rfl))); rcases j with _ | j; (focus (first | exact .inr fun _ _ => rfl | exact .inl (by kernel_rfl))); rcases j with _ | j; (focus (first | exact .inr fun _ _ => rfl | exact .inl (by kernel_rfl))); rcases j with _ | j; (focus (first | exact .inr fun _ _ => rfl | exact .inl (by kernel_rfl))); rcases j with _ | j; (focus (first | exact .inr fun _ _ => rfl | exact .inl (by kernel_rfl))); rcases j with _ | j; (focus (first | exact .inr fun _ _ => rfl | exact .inl (by kernel_rfl))); rcases j with _ | j; (focus (first | exact .inr fun _ _ => rfl | exact .inl (by kernel_rfl))); rcases j with _ | j; (focus (first | exact .inr fun _ _ => rfl | exact .inl (by kernel_rfl))); rcases j with _ | j; (focus (first | exact .inr fun _ _ => rfl | exact .inl (by kernel_rfl))); rcases j with _ | j; (focus (first | exact .inr fun _ _ => rfl | exact .inl (by kernel_rfl))); rcases j with _ | j; (focus (first | exact .inr fun _ _ => rfl | exact .inl (by kernel_rfl))); exact .inr fun _ _ => rfl) (fun _ _ => rfl) ?_; intro D x u hD hcl hp hO hS N hN; simp only [putO]; simp only [Act.put, List.setIfInBounds_toArray, List.set_cons_zero, List.set_cons_succ]; refine ev_call rfl (by go_simp; first | done | exact ⟨rfl, rfl⟩) ?_; refine Calls.mono (call_atX 0 (fun L' h => HAK.out _ L' p h) rfl hO) ?_; rintro e u' ⟨v, rfl, hO', hS'⟩; exact ⟨_, rfl, hN _ v u' rfl rfl hO' hS'⟩)
        · (refine @fs_pureO _ _ _ _ _ _ _ _ _ _ (by kernel_rfl) (fun D x hD hcl hp => ?_); simp only [putO]; simp only [Act.put, List.setIfInBounds_toArray, List.set_cons_zero, List.set_cons_succ]; first | exact (y_string rfl rfl rfl Try.underlying22 Try.underlying5 Try.underlying9 HB32.out (fun w h => by obtain ⟨L', o⟩ := ow_get 1 h.1 rfl (dep_yes hp rfl); exact rdA_rd o)) | exact y_run rfl (by intro w h; go_simp; first | done | rfl))
        · (refine @fs_pureO _ _ _ _ _ _ _ _ _ _ (by kernel_rfl) (fun D x hD hcl hp => ?_); simp only [putO]; simp only [Act.put, List.setIfInBounds_toArray, List.set_cons_zero, List.set_cons_succ]; first | exact y_run rfl (by intro w h; go_simp; first | done | rfl))
        · (refine @fs_pureO _ _ _ _ _ _ _ _ _ _ (by kernel_rfl) (fun D x hD hcl hp => ?_); simp only [putO]; simp only [Act.put, List.setIfInBounds_toArray, List.set_cons_zero, List.set_cons_succ]; first | exact (y_string rfl rfl rfl Try.underlying22 Try.underlying5 Try.underlying9 HB32.out (fun w h => rdA_rd (own_drop (own_drop h.1)))) | exact y_run rfl (by intro w h; go_simp; first | done | rfl))
        · (refine @fs_pureO _ _ _ _ _ _ _ _ _ _ (by kernel_rfl) (fun D x hD hcl hp => ?_); simp only [putO]; simp only [Act.put, List.setIfInBounds_toArray, List.set_cons_zero, List.set_cons_succ]; first | exact y_run rfl (by intro w h; go_simp; first | done | rfl))
        · (refine @fs_pureO _ _ _ _ _ _ _ _ _ _ (by kernel_rfl) (fun D x hD hcl hp => ?_); simp only [putO]; simp only [Act.put, List.setIfInBounds_toArray, List.set_cons_zero, List.set_cons_succ]; first | exact y_run rfl (by intro w h; go_simp; first | done | rfl))
        · (refine @fs_pureO _ _ _ _ _ _ _ _ _ _ (by kernel_rfl) (fun D x hD hcl hp => ?_); simp only [putO]; simp only [Act.put, List.setIfInBounds_toArray, List.set_cons_zero, List.set_cons_succ]; first | exact y_run rfl (by intro w h; go_simp; first | done | rfl))
        · (refine @fs_pureO _ _ _ _ _ _ _ _ _ _ (by kernel_rfl) (fun D x hD hcl hp => ?_); simp only [putO]; simp only [Act.put, List.setIfInBounds_toArray, List.set_cons_zero, List.set_cons_succ]; first | exact y_run rfl (by intro w h; go_simp; first | done | rfl))
        · (refine @fs_new _ _ _ _ _ _ _ _ _ _ _ _ [] (fun v => v) rfl rfl (by kernel_rfl) (by kernel_rfl) (by intro j; rcases j with _ | j; (focus (first | exact .inr fun _ _ => rfl | exact .inl (by kernel_rfl))); rcases j with _ | j; (focus (first | exact .inr fun _ _ => rfl | exact .inl (by kernel_rfl))); rcases j with _ | j; (focus (first | exact .inr fun _ _ => rfl | exact .inl (by kernel_rfl))); rcases j with _ | j; (focus (first | exact .inr fun _ _ => rfl | exact .inl (by kernel_rfl))); rcases j with _ | j; (focus (first | exact .inr fun _ _ => rfl | exact .inl (by kernel_rfl))); rcases j with _ | j; (focus (first | exact .inr fun _ _ => rfl | exact .inl (by kernel_rfl))); rcases j with _ | j; (focus (first | exact .inr fun _ _ => rfl | exact .inl (by kernel_rfl))); rcases j with _ | j; (focus (first | exact .inr fun _ _ => rfl | exact .inl (by kernel_rfl))); rcases j with _ | j; (focus (first | exact .inr fun _ _ => rfl | exact .inl (by kernel_rfl))); rcases j with _ | j; (focus (first | exact .inr fun _ _ => rfl | exact .inl (by kernel_rfl))); rcases j with _ | j; (focus (first | exact .inr fun _ _ => rfl | exact .inl (by kernel_rfl))); rcases j with _ | j; (focus (first | exact .inr fun _ _ => rfl | exact .inl (by kernel_rfl))); rcases j with _ | j; (focus (first | exact .inr fun _ _ => rfl | exact .inl (by kernel_rfl))); rcases j with _ | j; (focus (first | exact .inr fun _ _ => rfl | exact .inl (by kernel_rfl))); rcases j with _ | j; (focus (first | exact .inr fun _ _ => rfl | exact .inl (by kernel_rfl))); rcases j with _ | j; (focus (first | exact .inr fun _ _ => rfl | exact .inl (by kernel_rfl))); rcases j with _ | j; (focus (first | exact .inr fun _ _ => rfl | exact .inl (by kernel_rfl))); rcases j with _ | j; (focus (first | exact .inr fun _ _ => rfl | exact .inl (by kernel_rfl))); rcases j with _ | j; (focus (first | exact .inr fun _ _ => rfl | exact .inl (by kernel_rfl))); rcases j with _ | j; (focus (first | exact .inr fun _ _ => rfl | exact .inl (by kernel_rfl))); rcases j with _ | j; (focus (first | exact .inr fun _ _ => rfl | exact .inl (by kernel_rfl))); exact .inr fun _ _ => rfl) (fun _ _ => rfl) ?_; intro D x u hD hcl hp hO hS N hN; simp only [putO]; simp only [Act.put, List.setIfInBounds_toArray, List.set_cons_zero, List.set_cons_succ]; refine ev_call rfl (by go_simp; first | done | exact ⟨rfl, rfl⟩) ?_; refine Calls.mono (call_atX 0 (fun L' h => HBK.out _ L' p h) rfl hO) ?_; rintro e u' ⟨v, rfl, hO', hS'⟩; exact ⟨_, rfl, hN _ v u' rfl rfl hO' hS'⟩)
        · (refine @fs_pureO _ _ _ _ _ _ _ _ _ _ (by kernel_rfl) (fun D x hD hcl hp => ?_); simp only [putO]; simp only [Act.put, List.setIfInBounds_toArray, List.set_cons_zero, List.set_cons_succ]; first | exact (y_string rfl rfl rfl Try.underlying22 Try.underlying5 Try.underlying9 HB32.out (fun w h => by obtain ⟨L', o⟩ := ow_get 2 h.1 rfl (dep_yes hp rfl); exact rdA_rd o)) | exact y_run rfl (by intro w h; go_simp; first | done | rfl))
        · (refine @fs_pureO _ _ _ _ _ _ _ _ _ _ (by kernel_rfl) (fun D x hD hcl hp => ?_); simp only [putO]; simp only [Act.put, List.setIfInBounds_toArray, List.set_cons_zero, List.set_cons_succ]; first | exact y_run rfl (by intro w h; go_simp; first | done | rfl))
        · (refine @fs_pureO _ _ _ _ _ _ _ _ _ _ (by kernel_rfl) (fun D x hD hcl hp => ?_); simp only [putO]; simp only [Act.put, List.setIfInBounds_toArray, List.set_cons_zero, List.set_cons_succ]; first | exact (y_string rfl rfl rfl Try.underlying22 Try.underlying5 Try.underlying9 HB32.out (fun w h => rdA_rd (own_drop (own_drop h.1)))) | exact y_run rfl (by intro w h; go_simp; first | done | rfl))
        · (refine @fs_pureO _ _ _ _ _ _ _ _ _ _ (by kernel_rfl) (fun D x hD hcl hp => ?_); simp only [putO]; simp only [Act.put, List.setIfInBounds_toArray, List.set_cons_zero, List.set_cons_succ]; first | exact y_run rfl (by intro w h; go_simp; first | done | rfl))
        · (refine @fs_pureO _ _ _ _ _ _ _ _ _ _ (by kernel_rfl) (fun D x hD hcl hp => ?_); simp only [putO]; simp only [Act.put, List.setIfInBounds_toArray, List.set_cons_zero, List.set_cons_succ]; first | exact y_run rfl (by intro w h; go_simp; first | done | rfl))
        · (refine @fs_pureO _ _ _ _ _ _ _ _ _ _ (by kernel_rfl) (fun D x hD hcl hp => ?_); simp only [putO]; simp only [Act.put, List.setIfInBounds_toArray, List.set_cons_zero, List.set_cons_succ]; first | exact y_run rfl (by intro w h; go_simp; first | done | rfl))
      · intro x w10 D hD hO10 hS10
        have h9 : Own w10 ([stk p mk, rdA 1 (.slice An k cn) k (ints (numsM m)), rdA 1 vw (bcs m.bytes).length (bcs m.bytes)] ++ snap w :: owL _ D x) := hO10
        clear hO hO10
        simp only [putO]
        simp only [Act.put, List.setIfInBounds_toArray, List.set_cons_zero, List.set_cons_succ]
        simp only [Exit.then]
        clear hD
        go_wp2
        go_ret
        exact ⟨rfl, below_of (own_at h9 (k := 3) rfl) (hS.trans hS10)⟩
end Go.Proofs.Ytdcbfdepkbplbaa.H
