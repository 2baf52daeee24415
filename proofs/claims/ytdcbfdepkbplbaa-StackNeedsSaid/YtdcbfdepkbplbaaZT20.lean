/- StackPops: the walk. -/
import Derived.Test.YtdcbfdepkbplbaaZ27
set_option linter.unusedVariables false
set_option linter.unusedSimpArgs false
set_option maxRecDepth 100000
namespace Go.Proofs.Ytdcbfdepkbplbaa.H
open Go.RowKit
theorem same_any (w : World) (X L : List HP) (p q : Nat) (m : Stk) (n2 : Nat) (hO : Own w (X ++ stk p m :: rstk q (m.at n2) :: L)) (hk : m.Ok) (hk2 : (m.at n2).Ok) :
    Calls Try.prog 23 #[.pointer (some ⟨p, 0, none⟩), .pointer (some ⟨q, 0, none⟩)] w (Ret w (.bool true) (X ++ stk p m :: rstk q (m.at n2) :: L)) := by
  have hp : (X ++ stk p m :: rstk q (m.at n2) :: L).Perm (stk p m :: rstk q (m.at n2) :: (X ++ L)) := perm_count fun x => by simp only [List.count_append, List.count_cons]; omega
  refine (same_c2 w (X ++ L) p q m n2 (own_perm hO hp) hk hk2).mono ?_
  rintro e w' ⟨rfl, hO', hS⟩
  exact ⟨rfl, own_perm hO' hp.symm, hS⟩
theorem bytes_w (w : World) (L : List HP) (p : Nat) (m : Stk) (B : List UInt8) (hO : Own w (stk p m :: L)) (hk : m.Ok) (hB : m.bytes = B) :
    Calls Try.prog 19 #[.pointer (some ⟨p, 0, none⟩)] w (RetX w (fun x : Nat × Nat × List Value => .slice (some ⟨x.1, 0, none⟩) 32 x.2.1) (fun x => sep (pur (32 ≤ x.2.1 ∧ x.2.1 ≤ 9223372036854775807)) (pts x.1 (.cells (bcs B ++ x.2.2).toArray 5)) :: stk p m :: L)) := by
  refine (bytes_m w L p m hO hk).mono ?_
  rintro e w' ⟨x, rfl, hO', hS⟩
  have h32 := bytes_ok hk
  rw [h32, hB] at hO'
  rw [hB] at h32
  have hne : x ≠ .slice none 0 0 := by
    rintro rfl
    obtain ⟨_, hr⟩ := owns_row hO'
    rcases hr with ⟨_, h0⟩ | ⟨g, cap, cur, h0, _⟩
    · cases h0
    · cases h0
  obtain ⟨g, cap, rest, rfl, h1, h2, h3, h4, h5⟩ := owns_open hO' hne
  exact ⟨(g, cap, rest), rfl, own_sep.2 (own_pur.2 ⟨⟨h1, by simpa [maxLen] using h2⟩, h5⟩), hS⟩
theorem over_rest (X U : List UInt8) (rest : List Value) (o : Nat) (h : o + U.length ≤ X.length) : (bcs X ++ rest).take o ++ bcs U ++ (bcs X ++ rest).drop (o + U.length) = bcs (over X o U) ++ rest := by
  rw [List.take_append_of_le_length (by rw [bcs_length]; omega), List.drop_append_of_le_length (by rw [bcs_length]; exact h)]
  simp [over, bcs, List.map_take, List.map_drop]
theorem rd_front {w : World} {L : List HP} {g cap : Nat} {B : List UInt8} {rest : List Value} {T : TypeId} (hB : B.length = 32) (hc : 32 ≤ cap ∧ cap ≤ 9223372036854775807) (h : Own w (pts g (.cells (bcs B ++ rest).toArray T) :: L)) : Rd w 1 (.slice (some ⟨g, 0, none⟩) 32 cap) 32 (bcs B) :=
  rd_block (own_pts h) (by rw [Nat.mul_one, List.take_left' (by rw [bcs_length, hB])]) (by simp [bcs_length, hB]) hc.1 hc.2
set_option maxHeartbeats 3200000 in
theorem pops_c (w : World) (A0 : Option Addr) (n0 c0 : Nat) (l0 : List UInt8) (A1 : Option Addr) (n1 c1 : Nat) (ds : List Dd) (a2 o2 : Int) (s2 : ByteArray) (h : Arg w A0 n0 c0 l0 A1 n1 c1 ds) :
    Calls Try.prog 7 #[.slice A0 n0 c0, .slice A1 n1 c1, .agg #[.int .i64 a2, .int .i64 o2, .string s2]] w (fun e w' => e = .returned (.bool true) ∧ Below w.heap.size w w') := by
  have HA := Lib.hid h
  have hO : Own w [snap w] := own_snap
  have hS := Same.refl w
  clear h
  go_enter Try.func7, Try.ntmps7
  go_upto_region 2 with (first | (refine own_box_agg (x := .tmp 2) rfl rfl rfl hO ?_; clear hO; intro b u hO hSn; replace hS := hS.trans hSn; clear hSn) | (go_at_call 11; (with_reducible refine Calls.mono (play_s _ _ _ _ _ l0 _ _ _ ds HA.out _ (own_perm hO (List.Perm.swap _ _ _))) ?_); clear hO; rintro e u ⟨p, q, m, hm, hl, hn, rfl, hO, hSn⟩; replace hS := hS.trans hSn; clear hSn; have HM := Lib.hid hm; have HML : Hid (m.l.length ≤ 30 ∧ m.next ≤ 30) := ⟨hl, hn⟩; clear hm hl hn))
  obtain ⟨r, er, m', hpb, hm', hx1, hx2, hcase⟩ := push_both m a2 o2 s2 HM.out (by have := HML.out; omega) (by have := HML.out; omega)
  have HPB := Lib.hid hpb
  have HM' := Lib.hid hm'
  have HBY := Lib.hid (bytes_both m HM.out m.next HM.out)
  clear hpb hx1 hx2 hm'
  have HB32 : Hid ((bcs m.bytes).length = m.bytes.length) := bcs_length _
  have HCASE := Lib.hid hcase
  clear hcase
  go_upto_region 6 with (first | (go_at_call 12; (with_reducible refine Calls.mono (live_c _ _ hO) ?_); clear hO; rintro e u ⟨rfl, hO, hSn⟩; replace hS := hS.trans hSn; clear hSn) | (go_at_call 19; (with_reducible refine Calls.mono (call_atX 0 (fun L' h => HBY.out.1 _ L' p h) rfl hO) ?_); clear hO; rintro e u ⟨vw, rfl, hO, hSn⟩; replace hS := hS.trans hSn; clear hSn; simp only [List.set_cons_zero, List.set_cons_succ] at hO) | (apply own_loadrow rfl rfl rfl; (first | exact row_pat); exact sz_pat; (first | exact own_get 0 hO rfl | exact own_get 1 hO rfl | exact own_get 2 hO rfl | exact own_get 3 hO rfl | exact own_get 4 hO rfl | exact own_get 5 hO rfl | exact own_get 6 hO rfl | exact own_get 7 hO rfl); (focus (simp; done)); (first | (simp only [List.drop_zero, List.drop_succ_cons, List.take_succ_cons, List.take_zero]; rfl) | rfl)) | (go_at_call 25; (with_reducible refine Calls.mono (call_at 1 (fun L' h => HPB.out.1 _ L' p h) rfl hO) ?_); clear hO; rintro e u ⟨rfl, hO, hSn⟩; replace hS := hS.trans hSn; clear hSn; simp only [List.set_cons_zero, List.set_cons_succ] at hO))
  rcases HCASE.out with ⟨rfl, rfl⟩ | ⟨rfl, hR, rfl, rfl⟩
  · go_upto_region 7 with fail
    refine wp_region_own (α := Nat → Value) (fun x => .pointer (some ⟨p, 0, none⟩) :: x 1 :: .string (bstr m'.bytes) :: vw :: .string (bstr m'.bytes) :: .bool true :: .bool true :: .pointer (some ⟨p, 0, none⟩) :: .pointer (some ⟨q, 0, none⟩) :: .bool true :: .bool true :: .bool true :: []) (fun D x => ([rdA 1 vw (bcs m'.bytes).length (bcs m'.bytes), stk p m', rstk q m', snap w, pts b (.cells #[.int .i64 a2, .int .i64 o2, .string s2] 33)]) ++ owL ([(1, none, fun v => rdA 1 v (bcs m'.bytes).length (bcs m'.bytes))]) D x) u (fun _ => undef) 102 (fun _ => rfl) mixed (by kernel_rfl) rfl (by rw [owL_none, List.append_nil]; exact own_heap hO (fun _ _ h => h)) (Same.drew _) (fun _ _ _ _ hd h => ⟨hd ▸ h.1, h.2⟩) ?_ ?_
    · refine ⟨?_, ?_, ?_, ?_, ?_, ?_, ?_, ?_, ?_, ?_, ?_, ?_, trivial⟩
      · (refine @fs_pureO _ _ _ _ _ _ _ _ _ _ (by kernel_rfl) (fun D x hD hcl hp => ?_); simp only [putO]; simp only [Act.put, List.setIfInBounds_toArray, List.set_cons_zero, List.set_cons_succ]; first | exact y_run rfl (by intro w h; go_simp; first | done | rfl))
      · (refine @fs_new _ _ _ _ _ _ _ _ _ _ _ _ [] (fun v => v) rfl rfl (by kernel_rfl) (by kernel_rfl) (by intro j; rcases j with _ | j; (focus (first | exact .inr fun _ _ => rfl | exact .inl (by kernel_rfl))); rcases j with _ | j; (focus (first | exact .inr fun _ _ => rfl | exact .inl (by kernel_rfl))); rcases j with _ | j; (focus (first | exact .inr fun _ _ => rfl | exact .inl (by kernel_rfl))); rcases j with _ | j; (focus (first | exact .inr fun _ _ => rfl | exact .inl (by kernel_rfl))); rcases j with _ | j; (focus (first | exact .inr fun _ _ => rfl | exact .inl (by kernel_rfl))); rcases j with _ | j; (focus (first | exact .inr fun _ _ => rfl | exact .inl (by kernel_rfl))); rcases j with _ | j; (focus (first | exact .inr fun _ _ => rfl | exact .inl (by kernel_rfl))); rcases j with _ | j; (focus (first | exact .inr fun _ _ => rfl | exact .inl (by kernel_rfl))); rcases j with _ | j; (focus (first | exact .inr fun _ _ => rfl | exact .inl (by kernel_rfl))); rcases j with _ | j; (focus (first | exact .inr fun _ _ => rfl | exact .inl (by kernel_rfl))); rcases j with _ | j; (focus (first | exact .inr fun _ _ => rfl | exact .inl (by kernel_rfl))); rcases j with _ | j; (focus (first | exact .inr fun _ _ => rfl | exact .inl (by kernel_rfl))); exact .inr fun _ _ => rfl) (fun _ _ => rfl) ?_; intro D x u hD hcl hp hO hS N hN; simp only [putO]; simp only [Act.put, List.setIfInBounds_toArray, List.set_cons_zero, List.set_cons_succ]; refine ev_call rfl (by go_simp; first | done | exact ⟨rfl, rfl⟩) ?_; refine Calls.mono (call_atX 1 (fun L' h => HBY.out.1 _ L' p h) rfl hO) ?_; rintro e u' ⟨v, rfl, hO', hS'⟩; exact ⟨_, rfl, hN _ v u' rfl rfl hO' hS'⟩)
      · (refine @fs_pureO _ _ _ _ _ _ _ _ _ _ (by kernel_rfl) (fun D x hD hcl hp => ?_); simp only [putO]; simp only [Act.put, List.setIfInBounds_toArray, List.set_cons_zero, List.set_cons_succ]; first | exact (y_string rfl rfl rfl Try.underlying22 Try.underlying5 Try.underlying9 HB32.out (fun w h => by obtain ⟨L', o⟩ := ow_get 0 h.1 rfl (dep_yes hp rfl); exact rdA_rd o)) | exact y_run rfl (by intro w h; go_simp; first | done | rfl))
      · (refine @fs_pureO _ _ _ _ _ _ _ _ _ _ (by kernel_rfl) (fun D x hD hcl hp => ?_); simp only [putO]; simp only [Act.put, List.setIfInBounds_toArray, List.set_cons_zero, List.set_cons_succ]; first | exact y_run rfl (by intro w h; go_simp; first | done | rfl))
      · (refine @fs_pureO _ _ _ _ _ _ _ _ _ _ (by kernel_rfl) (fun D x hD hcl hp => ?_); simp only [putO]; simp only [Act.put, List.setIfInBounds_toArray, List.set_cons_zero, List.set_cons_succ]; first | exact (y_string rfl rfl rfl Try.underlying22 Try.underlying5 Try.underlying9 HB32.out (fun w h => rdA_rd h.1)) | exact y_run rfl (by intro w h; go_simp; first | done | rfl))
      · (refine @fs_pureO _ _ _ _ _ _ _ _ _ _ (by kernel_rfl) (fun D x hD hcl hp => ?_); simp only [putO]; simp only [Act.put, List.setIfInBounds_toArray, List.set_cons_zero, List.set_cons_succ]; first | exact y_run rfl (by intro w h; go_simp; first | done | rfl))
      · (refine @fs_pureO _ _ _ _ _ _ _ _ _ _ (by kernel_rfl) (fun D x hD hcl hp => ?_); simp only [putO]; simp only [Act.put, List.setIfInBounds_toArray, List.set_cons_zero, List.set_cons_succ]; first | exact y_run rfl (by intro w h; go_simp; first | done | rfl))
      · (refine @fs_pureO _ _ _ _ _ _ _ _ _ _ (by kernel_rfl) (fun D x hD hcl hp => ?_); simp only [putO]; simp only [Act.put, List.setIfInBounds_toArray, List.set_cons_zero, List.set_cons_succ]; first | exact y_run rfl (by intro w h; go_simp; first | done | rfl))
      · (refine @fs_pureO _ _ _ _ _ _ _ _ _ _ (by kernel_rfl) (fun D x hD hcl hp => ?_); simp only [putO]; simp only [Act.put, List.setIfInBounds_toArray, List.set_cons_zero, List.set_cons_succ]; first | exact y_run rfl (by intro w h; go_simp; first | done | rfl))
      · (refine @fs_pureO _ _ _ _ _ _ _ _ _ _ (by kernel_rfl) (fun D x hD hcl hp => ?_); simp only [putO]; simp only [Act.put, List.setIfInBounds_toArray, List.set_cons_zero, List.set_cons_succ]; first | exact (y_call rfl (by intro w h; go_simp; first | done | exact ⟨rfl, rfl⟩) (by intro w h; apply cls_call h; exact same_any _ [_] _ p q m' m'.next h.1 HM.out HM.out)) | exact y_run rfl (by intro w h; go_simp; first | done | rfl))
      · (refine @fs_pureO _ _ _ _ _ _ _ _ _ _ (by kernel_rfl) (fun D x hD hcl hp => ?_); simp only [putO]; simp only [Act.put, List.setIfInBounds_toArray, List.set_cons_zero, List.set_cons_succ]; first | exact y_run rfl (by intro w h; go_simp; first | done | rfl))
      · (refine @fs_pureO _ _ _ _ _ _ _ _ _ _ (by kernel_rfl) (fun D x hD hcl hp => ?_); simp only [putO]; simp only [Act.put, List.setIfInBounds_toArray, List.set_cons_zero, List.set_cons_succ]; first | exact y_run rfl (by intro w h; go_simp; first | done | rfl))
    · intro x w10 D hD hO10 hS10
      have h9 : Own w10 (([rdA 1 vw (bcs m'.bytes).length (bcs m'.bytes), stk p m', rstk q m'] ++ snap w :: ([pts b (.cells #[.int .i64 a2, .int .i64 o2, .string s2] 33)] ++ owL _ D x))) := hO10
      clear hO hO10
      simp only [putO]
      simp only [Act.put, List.setIfInBounds_toArray, List.set_cons_zero, List.set_cons_succ]
      simp only [Exit.then]
      clear hD
      go_wp2
      go_ret
      exact ⟨rfl, below_of (own_at h9 (k := 3) rfl) (hS.trans hS10)⟩
  · obtain ⟨p1, p2, p3, p4, p5, p6⟩ := rightB_iff.1 hR
    simp only at p1 p2 p3 p4 p5 p6
    obtain ⟨P, hP⟩ : ∃ P : Pat, P = ⟨a2, o2, s2⟩ := ⟨_, rfl⟩
    have HR : Hid (rightB P = true) := by rw [hP]; exact hR
    have HMB := Lib.hid (bytes_ok HM.out)
    have hPe : m.pushed ⟨a2, o2, s2⟩ = m.pushed P := by rw [hP]
    rw [hPe] at hO HM'
    have HU : Hid (∀ (w : World) (L : List HP), Own w (stk p (m.pushed P) :: L) → Calls Try.prog 26 #[.pointer (some ⟨p, 0, none⟩), .int .i64 m.next] w (Ret w (.tuple #[.string (bstr (cutP m.bytes P)), .int .i64 0]) (stk p (m.pushed P) :: L))) := fun w L h => by
      have h2 := under_m w L p (m.pushed P) m.l.length ⟨m.next, P⟩ h HM'.out (by simp [Stk.pushed])
      have e : appAll (m.pushed P).base ((m.pushed P).pats.take m.l.length) = m.bytes := by
        unfold Stk.bytes Stk.pats Stk.pushed
        simp [List.map_append]
      rw [e] at h2
      exact h2
    have HBP : Hid ((m.pushed P).bytes = app m.bytes P) := by
      show _ = _
      unfold Stk.bytes Stk.pats Stk.pushed
      rw [List.map_append, List.map_cons, List.map_nil, appAll_snoc]
    have HPOP : Hid (∀ (w : World) (L : List HP), Own w (stk p (m.pushed P) :: L) → Calls Try.prog 27 #[.pointer (some ⟨p, 0, none⟩)] w (Ret w (.tuple #[.agg #[.int .i64 a2, .int .i64 o2, .string s2], .int .i64 0]) (stk p (m.at (m.next + 1)) :: L))) := fun w L h => by
      have h2 := pop_ok w L p (m.pushed P) m.l ⟨m.next, P⟩ h HM'.out rfl
      have e : (m.pushed P).popped = m.at (m.next + 1) := by simp [Stk.popped, Stk.pushed]
      rw [e, hP] at h2
      exact h2
    have HM1 : Hid (m.at (m.next + 1)).Ok := by
      have h2 := popped_ok HM'.out
      have e : (m.pushed P).popped = m.at (m.next + 1) := by simp [Stk.popped, Stk.pushed]
      rw [e] at h2
      exact h2
    have HAL : Hid ((app m.bytes P).length = 32) := app_length _ _ HMB.out HR.out
    have HCL : Hid ((cutP m.bytes P).length = s2.size) := by
      have := cutP_length HMB.out HR.out
      rw [hP] at this ⊢
      exact this
    have HLL : Hid (over (app m.bytes P) o2.toNat (cutP m.bytes P) = m.bytes) := by
      have := lift_lay HMB.out HR.out
      rw [hP] at this ⊢
      exact this
    have HPS : Hid (0 ≤ o2 ∧ o2 + s2.size ≤ 32 ∧ 0 < s2.size) := ⟨by omega, by omega, by omega⟩
    have HCS : Hid ((bstr (cutP m.bytes P)).size = s2.size) := by show _ = _; rw [bstr_size]; exact HCL.out
    clear hP hPe hR
    go_upto_region 10 with (first | (go_at_call 26; (with_reducible refine Calls.mono (call_at 1 (fun L' h => HU.out _ L' h) rfl hO) ?_); clear hO; rintro e u ⟨rfl, hO, hSn⟩; replace hS := hS.trans hSn; clear hSn; simp only [List.set_cons_zero, List.set_cons_succ] at hO) | (go_at_call 19; (with_reducible refine Calls.mono (call_atX 1 (fun L' h => bytes_w _ L' p (m.pushed P) (app m.bytes P) h HM'.out HBP.out) rfl hO) ?_); clear hO; rintro e u ⟨⟨g, cap, rest⟩, rfl, hO, hSn⟩; replace hS := hS.trans hSn; clear hSn; simp only [List.set_cons_zero, List.set_cons_succ] at hO))
    rw [own_sep, own_pur] at hO
    obtain ⟨hcap, hO⟩ := hO
    have HCAP := Lib.hid hcap
    have q0 : 0 ≤ o2 := by omega
    have q1 : o2 ≤ 32 := by omega
    have q2 : (cap = o2.toNat) = False := eq_false (by omega)
    have q3 : o2 ≤ cap := by omega
    clear hcap
    go_upto_region 11 with (first | (apply own_load1 rfl rfl rfl; (first | exact row_int | exact row_str | exact row_bool | exact row_u8 | exact row_bys | exact row_pats | exact row_err); (first | exact own_get 0 hO rfl | exact own_get 1 hO rfl | exact own_get 2 hO rfl | exact own_get 3 hO rfl | exact own_get 4 hO rfl | exact own_get 5 hO rfl | exact own_get 6 hO rfl | exact own_get 7 hO rfl); (first | (simp only [List.getElem?_toArray, List.getElem?_cons_succ, List.getElem?_cons_zero]; rfl) | rfl)) | (refine own_copy_str (g := g) (off := o2.toNat) (k := 0) (str := bstr (cutP m.bytes P)) (new := bcs m.bytes ++ rest) rfl rfl rfl rfl Try.underlying22 sz_u8 hO rfl ?_ ?_ ?_ ?_; (rw [HCS.out]; have := HPS.out; omega); (rw [HCS.out]; simp [bcs_length, HAL.out]; have := HPS.out; omega); (rw [bstr_size, bstr_toList, List.toList_toArray, over_rest _ _ _ _ (by rw [HCL.out, HAL.out]; have := HPS.out; omega), HLL.out]); clear hO; intro u hO hSn; replace hS := hS.trans hSn; clear hSn; simp only [List.set_cons_zero, List.set_cons_succ] at hO))
    go_upto_region 12 with (first | (go_at_call 27; (with_reducible refine Calls.mono (call_at 2 (fun L' h => HPOP.out _ L' h) rfl hO) ?_); clear hO; rintro e u ⟨rfl, hO, hSn⟩; replace hS := hS.trans hSn; clear hSn; simp only [List.set_cons_zero, List.set_cons_succ] at hO) | (refine own_alloc (T := 33) rfl rfl zero_pat rfl hO ?_; clear hO; intro gq u hO hSn; replace hS := hS.trans hSn; clear hSn) | (apply own_store_all (k := 0) rfl rfl rfl rfl sz_pat hO rfl; (focus rfl); (focus rfl); (focus rfl); clear hO; intro u hO hSn; replace hS := hS.trans hSn; clear hSn; simp only [List.set_cons_zero, List.set_cons_succ] at hO))
    have f9 : ((bstr (cutP m.bytes P)).size : Int) = s2.size := by rw [HCS.out]
    clear q0 q1 q2 q3
    have hO : Own u ([pts gq (.cells #[.int .i64 a2, .int .i64 o2, .string s2] 33), pts g (.cells (bcs m.bytes ++ rest).toArray 5), rdA 1 vw (bcs m.bytes).length (bcs m.bytes)] ++ stk p (m.at (m.next + 1)) :: rstk q m :: [snap w, pts b (.cells #[.int .i64 a2, .int .i64 o2, .string s2] 33)]) := hO
    refine wp_plain_seq (Cls u (_)) 31 (cls_here hO) ?_
    simp only [List.append_eq, List.cons_append, List.nil_append, List.take_succ_cons, List.take_zero]
    repeat (first
      | (apply wv_skip rfl; simp only [Act.put, List.setIfInBounds_toArray, List.set_cons_zero, List.set_cons_succ])
      | (apply wv_load1 rfl rfl rfl; (first | exact row_int | exact row_str | exact row_bool | exact row_u8 | exact row_bys | exact row_pats | exact row_err); (intro w h; (first | exact own_get 0 h.1 rfl | exact own_get 1 h.1 rfl | exact own_get 2 h.1 rfl | exact own_get 3 h.1 rfl | exact own_get 4 h.1 rfl | exact own_get 5 h.1 rfl | exact own_get 6 h.1 rfl | exact own_get 7 h.1 rfl)); (first | (simp only [List.getElem?_toArray, List.getElem?_cons_succ, List.getElem?_cons_zero]; rfl) | rfl); simp only [Act.put, List.setIfInBounds_toArray, List.set_cons_zero, List.set_cons_succ])
      | (apply wv_loadrow rfl rfl rfl; (first | exact row_pat); exact sz_pat; (intro w h; (first | exact own_get 0 h.1 rfl | exact own_get 1 h.1 rfl | exact own_get 2 h.1 rfl | exact own_get 3 h.1 rfl | exact own_get 4 h.1 rfl | exact own_get 5 h.1 rfl | exact own_get 6 h.1 rfl | exact own_get 7 h.1 rfl)); (focus (simp; done)); (first | (simp only [List.drop_zero, List.drop_succ_cons, List.take_succ_cons, List.take_zero]; rfl) | rfl); simp only [Act.put, List.setIfInBounds_toArray, List.set_cons_zero, List.set_cons_succ])
      | (refine wv_string (v := .slice (some ⟨g, 0, none⟩) 32 cap) (n := 32) (bs := m.bytes) rfl rfl rfl Try.underlying22 Try.underlying5 Try.underlying9 HMB.out.symm (fun w h => rd_front HMB.out HCAP.out (own_drop h.1)) ?_; simp only [Act.put, List.setIfInBounds_toArray, List.set_cons_zero, List.set_cons_succ])
      | (refine wv_string (v := vw) (n := (bcs m.bytes).length) (bs := m.bytes) rfl rfl rfl Try.underlying22 Try.underlying5 Try.underlying9 HB32.out (fun w h => rdA_rd (own_drop (own_drop h.1))) ?_; simp only [Act.put, List.setIfInBounds_toArray, List.set_cons_zero, List.set_cons_succ])
      | (apply wv_run rfl; (focus (intro w h; go_simp; first | done | rfl)); simp only [Act.put, List.setIfInBounds_toArray, List.set_cons_zero, List.set_cons_succ])
      | (apply wv_call rfl; (focus (intro w; go_simp; first | done | exact ⟨rfl, rfl⟩)); (focus (intro w h; apply cls_call h; exact same_any _ [_, _, _] _ p q (m.at (m.next + 1)) m.next h.1 HM1.out HM.out)); simp only [Act.put, List.setIfInBounds_toArray, List.set_cons_zero, List.set_cons_succ]))
    refine wv_nil ?_
    simp only [List.drop_succ_cons, List.drop_zero]
    intro w11 ⟨hO11, hS11⟩
    clear hO
    go_wp2
    go_ret
    exact ⟨rfl, below_of (own_at hO11 (k := 5) rfl) (hS.trans hS11)⟩
end Go.Proofs.Ytdcbfdepkbplbaa.H
