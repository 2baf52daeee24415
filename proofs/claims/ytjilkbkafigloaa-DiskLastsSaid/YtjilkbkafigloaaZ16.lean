/- Fork of the reference's disk. -/
import Derived.Test.YtjilkbkafigloaaZ11
set_option linter.unusedVariables false
set_option linter.unusedSimpArgs false
set_option maxRecDepth 100000
namespace Go.Proofs.Ytjilkbkafigloaa.H
open Go.RowKit
theorem sz_blkD : (Try.prog.info? 69).map (·.size) = some 34 := by kernel_rfl
theorem rbs_one {l : List RB} (h : ∀ x ∈ l, ∃ A n c, x.1 = .slice A n c) : ∀ u ∈ rbs l, u.oneCell' = true := by
  intro u hu
  obtain ⟨x, hx, h2⟩ := List.mem_flatMap.1 hu
  unfold rblk at h2
  rcases List.mem_append.1 h2 with h2 | h2
  · exact bcs_one _ u h2
  · obtain ⟨A, n, c, e⟩ := h x hx
    simp at h2
    rcases h2 with rfl | rfl
    · rw [e]; rfl
    · rfl
theorem rbs_app (a b : List RB) : rbs (a ++ b) = rbs a ++ rbs b := List.flatMap_append
/-- The first i blocks have new slices. -/
structure FrOk (m : List Blk) (rb fi : List RB) (i : Nat) (lf : List (Value × List Sec)) : Prop where
  eq : fi.map (·.2) = m.take i
  vers : ∀ x ∈ fi, ∃ A c, x.1 = .slice A x.2.vs.length c ∧ ((.slice A x.2.vs.length c, x.2.vs) ∈ lf)
theorem fr_s32 {m : List Blk} {rb fi : List RB} {i : Nat} {l lf : List (Value × List Sec)} (hk : ROk m rb l) (h : FrOk m rb fi i lf) : ∀ x ∈ fi ++ rb.drop i, x.2.s.length = 32 := fun x hx => by
  rcases List.mem_append.1 hx with hx | hx
  · have h1 : x.2 ∈ m.take i := by rw [← h.eq]; exact List.mem_map_of_mem hx
    have h2 := List.mem_of_mem_take h1
    rw [← hk.eq] at h2
    obtain ⟨y, hy, e⟩ := List.mem_map.1 h2
    rw [← e]; exact hk.s32 y hy
  · exact hk.s32 x (List.mem_of_mem_drop hx)
theorem fr_len {m : List Blk} {rb fi : List RB} {i : Nat} {lf : List (Value × List Sec)} (h : FrOk m rb fi i lf) (hi : i ≤ m.length) : fi.length = i := by
  have := congrArg List.length h.eq
  rw [List.length_map, List.length_take] at this
  omega
section
variable (w : World) (L : List HP) (q : Nat) (m : List Blk)
/-- What is owned in Fork's loop. -/
abbrev frL (p g2 cap2 q g cap n : Nat) (rbi rb : List RB) (rest2 rest : List Value) (lf l : List (Value × List Sec)) (L : List HP) : List HP := pts p (.cells #[.slice (some ⟨g2, 0, none⟩) n cap2] 72) :: pts g2 (.cells (rbs rbi ++ rest2).toArray 69) :: rdV lf :: pts q (.cells #[.slice (some ⟨g, 0, none⟩) n cap] 72) :: pts g (.cells (rbs rb ++ rest).toArray 69) :: rdV l :: L
set_option maxHeartbeats 6400000 in
theorem rfork_d (hO : Own w (rdiskP q m :: L)) (hlim : ∀ b ∈ m, b.vs.length ≤ 1000000) : Calls Try.prog 25 #[.pointer (some ⟨q, 0, none⟩)] w (RetX w (fun p : Nat => .pointer (some ⟨p, 0, none⟩)) (fun p => rdiskP p m :: rdiskP q m :: L)) := by
  have HLIM := Lib.hid hlim
  have hS := Same.refl w
  obtain ⟨g, cap, rest, rb, l, ⟨hk, hroom⟩, hO⟩ := rdisk_open.1 hO
  have HK := Lib.hid hk
  have HROOM := Lib.hid hroom
  have hml := hk.len
  have hpos := hk.pos
  have hrl : (rbs rb).length = m.length * 34 := by rw [rbs_length hk.s32, hk.rlen]
  have HRL := Lib.hid hrl
  have HONE : Hid (∀ u ∈ rbs rb, u.oneCell' = true) := Lib.hid (rbs_one fun x hx => by obtain ⟨A, c, e, _⟩ := hk.vers x hx; exact ⟨A, _, c, e⟩)
  have hcm := hroom.le
  have hcx := hroom.max
  clear hk hroom hlim
  have HRD : Hid (∀ (A B : HP) w', Own w' (A :: B :: pts g (.cells (rbs rb ++ rest).toArray 69) :: rdV l :: L) → Rd w' 34 (.slice (some ⟨g, 0, none⟩) m.length cap) m.length (rbs rb)) := Lib.hid fun A B w' h => rd_block (own_get 2 h rfl) (by
    show (rbs rb ++ rest).take (m.length * 34) = rbs rb
    rw [← hrl, List.take_left]) (by rw [List.size_toArray, List.length_append, hrl]; omega) hcm (by unfold maxLen at hcx; omega)
  have HML : Hid (m.length ≤ 96) := hml
  clear hrl hcx
  go_enter Try.func25, Try.ntmps25
  go_upto_region 4 with (first | (refine own_lit0 rfl rfl Try.underlying70 sz_blkD hO ?_; clear hO; intro g0 u hO hSn; replace hS := hS.trans hSn; clear hSn) | (apply own_load1 rfl rfl rfl; (first | exact row_blks); (first | exact own_get 0 hO rfl | exact own_get 1 hO rfl | exact own_get 2 hO rfl | exact own_get 3 hO rfl | exact own_get 4 hO rfl | exact own_get 5 hO rfl | exact own_get 6 hO rfl | exact own_get 7 hO rfl); (first | (simp only [List.getElem?_toArray, List.getElem?_cons_succ, List.getElem?_cons_zero]; rfl) | rfl)) | (refine own_append (m := m.length) (n := 0) (xs := []) (news := rbs rb) rfl rfl rfl rfl Try.underlying70 info_blk3 (by simp [Value.cells, rblk, bcs_length]) (by decide) hO (HRD.out _ _ _ hO) HONE.out ?_ ?_ ?_; (have := HML.out; simp only [maxLen]; omega); (have := HML.out; omega); clear hO; intro v' u hO hSn hv'; clear hv'; replace hS := hS.trans hSn; clear hSn; rw [Nat.zero_add, List.nil_append] at hO; obtain ⟨Av, cv, rfl⟩ := (owns_rd hO).slice) | (refine own_box_agg (x := .tmp 13) rfl rfl rfl hO ?_; clear hO; intro p u hO hSn; replace hS := hS.trans hSn; clear hSn))
  have hvn : Value.slice Av m.length cv ≠ .slice none 0 0 := fun e => by
    injection e with _ e3 _
    omega
  obtain ⟨g2, cap2, rest2, e2, hc1, hc2, hc3, hc4, hO⟩ := owns_open (own_perm hO (List.Perm.swap _ _ _)) hvn
  injection e2 with e21 _ e22
  have e21 := e21.symm
  have e22 := e22.symm
  subst e21
  subst e22
  have HC : Hid (m.length ≤ cap2 ∧ cap2 ≤ maxLen ∧ rest2.length + m.length * 34 = cap2 * 34) := by
    refine ⟨hc1, hc2, ?_⟩
    rw [List.length_append, HRL.out] at hc3
    omega
  clear hvn hc1 hc2 hc3 hc4 HRD HONE
  have hO : Own u (frL p g2 cap2 q g cap m.length ([] ++ rb.drop 0) rb rest2 rest [] l L) := by
    have h := rdV_nil hO
    exact own_perm h (by
      refine List.Perm.trans (perm_at (k := 2) rfl) (List.Perm.cons _ ?_)
      exact perm_at (k := 1) rfl)
  go_wp2
  go_loopw [4] (fun iv wr => ∃ (i : Nat) (fi : List RB) (lf : List (Value × List Sec)), i ≤ m.length ∧ iv = .int .i64 i ∧ FrOk m rb fi i lf ∧ Own wr (frL p g2 cap2 q g cap m.length (fi ++ rb.drop i) rb rest2 rest lf l L) ∧ Same w wr) (fun iv _ => m.length - (intOf iv).toNat)
  case atStart => exact ⟨0, [], [], Nat.zero_le _, rfl, ⟨rfl, fun x hx => by simp at hx⟩, hO, hS⟩
  case round =>
    clear hO hS
    obtain ⟨i, fi, lf, hi, rfl, hfr, hO, hS⟩ := hrel
    have hs32 := fr_s32 HK.out hfr
    have hfl := fr_len hfr hi
    by_cases hlt : i < m.length
    · obtain ⟨b, hb⟩ : ∃ b, m[i]? = some b := ⟨_, List.getElem?_eq_getElem hlt⟩
      obtain ⟨A, c, hrb, hmem⟩ := HK.out.at_ hb
      have hat : (fi ++ rb.drop i)[i]? = some (.slice A b.vs.length c, b) := by
        rw [List.getElem?_append_right (by omega), hfl, Nat.sub_self, List.getElem?_drop, Nat.add_zero, hrb]
      have hset : ∀ y : RB, (fi ++ rb.drop i).set i y = (fi ++ [y]) ++ rb.drop (i + 1) := fun y => by
        have hdr : rb.drop i = (.slice A b.vs.length c, b) :: rb.drop (i + 1) := by
          have h := (List.getElem?_eq_some_iff.1 hrb)
          rw [List.drop_eq_getElem_cons h.1, h.2]
        rw [List.set_append_right _ _ (by omega), hfl, Nat.sub_self, hdr, List.set_cons_zero, List.append_assoc]
        rfl
      have HSET := Lib.hid hset
      have HV := Lib.hid (rb_v (rest := rest2) hs32 hat)
      have HF := Lib.hid (rb_fit (rest := rest2) hs32 hat)
      have HSV := Lib.hid (fun v => rb_setv (rest := rest2) hs32 hat v b.vs)
      have HMEM := Lib.hid hmem
      have HVL : Hid (b.vs.length ≤ 1000000) := HLIM.out b (List.mem_of_getElem? hb)
      have hi1 : (i : Int) < m.length := by omega
      have HFN : Hid (∀ (A' : Option Addr) (c' : Nat), FrOk m rb (fi ++ [(.slice A' b.vs.length c', b)]) (i + 1) ((.slice A' b.vs.length c', b.vs) :: lf)) := Lib.hid fun A' c' => by
        refine ⟨?_, fun x hx => ?_⟩
        · rw [List.map_append, hfr.eq, take_next hb]; rfl
        · rcases List.mem_append.1 hx with hx | hx
          · obtain ⟨A2, c2, e1, e2⟩ := hfr.vers x hx
            exact ⟨A2, c2, e1, List.mem_cons_of_mem _ e2⟩
          · rw [List.mem_singleton.1 hx]; exact ⟨A', c', rfl, List.mem_cons_self ..⟩
      obtain ⟨rbi, hrbi⟩ : ∃ rbi, rbi = fi ++ rb.drop i := ⟨_, rfl⟩
      rw [← hrbi] at HV HF HSV hO HSET
      clear hat hset hmem hrb hb hfr hs32 hfl hrbi
      have hO : Own wr (pts p (.cells #[.slice (some ⟨g2, 0, none⟩) m.length cap2] 72) :: pts g2 (.cells (rbs rbi ++ rest2).toArray 69) :: rdV l :: rdV lf :: pts q (.cells #[.slice (some ⟨g, 0, none⟩) m.length cap] 72) :: pts g (.cells (rbs rb ++ rest).toArray 69) :: L) := own_perm hO (List.Perm.cons _ (List.Perm.cons _ (perm_at (k := 3) rfl)))
      go_upto_region 7 with (first | (apply own_load1 rfl rfl rfl; (first | exact row_blks); (first | exact own_get 0 hO rfl | exact own_get 1 hO rfl | exact own_get 2 hO rfl | exact own_get 3 hO rfl | exact own_get 4 hO rfl | exact own_get 5 hO rfl | exact own_get 6 hO rfl | exact own_get 7 hO rfl); (first | (simp only [List.getElem?_toArray, List.getElem?_cons_succ, List.getElem?_cons_zero]; rfl) | rfl)))
      refine wp_region_own (α := Nat → Value) (fun x => .pointer (some ⟨p, 0, none⟩) :: .pointer (some ⟨p, 0, none⟩) :: .pointer (some ⟨p, 0, none⟩) :: .slice (some ⟨g2, 0, none⟩) m.length cap2 :: .int .i64 i :: x 5 :: .pointer (some ⟨p, 0, none⟩) :: .pointer (some ⟨p, 0, none⟩) :: .pointer (some ⟨p, 0, none⟩) :: .slice (some ⟨g2, 0, none⟩) m.length cap2 :: .int .i64 i :: .pointer (some ⟨g2, i * 34, none⟩) :: .pointer (some ⟨g2, i * 34 + 32, none⟩) :: .slice A b.vs.length c :: x 14 :: .pointer (some ⟨g2, i * 34, none⟩) :: .pointer (some ⟨g2, i * 34 + 32, none⟩) :: undef :: []) (stB 17 ([pts p (.cells #[.slice (some ⟨g2, 0, none⟩) m.length cap2] 72), pts g2 (.cells (rbs rbi ++ rest2).toArray 69), rdV l, rdV lf, pts q (.cells #[.slice (some ⟨g, 0, none⟩) m.length cap] 72), pts g (.cells (rbs rb ++ rest).toArray 69)] ++ L) (fun x => ([pts p (.cells #[.slice (some ⟨g2, 0, none⟩) m.length cap2] 72), pts g2 (.cells (rbs (rbi.set i (x 14, b)) ++ rest2).toArray 69), rdV l, rdV lf, pts q (.cells #[.slice (some ⟨g, 0, none⟩) m.length cap] 72), pts g (.cells (rbs rb ++ rest).toArray 69)] ++ L)) [(5, some 14, fun v => owns 28 32 v 0 []), (14, none, fun v => owns 28 32 v b.vs.length (secs b.vs))]) wr (fun _ => undef) 42 (fun _ => rfl) mixed (by kernel_rfl) rfl (by rw [stB_no rfl, owL_none, List.append_nil]; exact own_heap hO (fun _ _ h => h)) (Same.drew _) (fun _ _ _ _ hd h => ⟨hd ▸ h.1, h.2⟩) ?_ ?_
      · refine ⟨?_, ?_, ?_, ?_, ?_, ?_, ?_, ?_, ?_, ?_, ?_, ?_, ?_, ?_, ?_, ?_, ?_, ?_, trivial⟩
        · refine fs_lift 17 (by decide) (by kernel_rfl) ?_; (refine fs_pure (fun _ _ => rfl) (fun D x hD hcl hp => ?_); simp only [putO]; simp only [Act.put, List.setIfInBounds_toArray, List.set_cons_zero, List.set_cons_succ]; first | exact y_skip rfl | exact y_run rfl (by intro w h; go_simp; first | done | rfl))
        · refine fs_lift 17 (by decide) (by kernel_rfl) ?_; (refine fs_pure (fun _ _ => rfl) (fun D x hD hcl hp => ?_); simp only [putO]; simp only [Act.put, List.setIfInBounds_toArray, List.set_cons_zero, List.set_cons_succ]; first | exact y_skip rfl | exact y_run rfl (by intro w h; go_simp; first | done | rfl))
        · refine fs_lift 17 (by decide) (by kernel_rfl) ?_; (refine fs_pure (fun _ _ => rfl) (fun D x hD hcl hp => ?_); simp only [putO]; simp only [Act.put, List.setIfInBounds_toArray, List.set_cons_zero, List.set_cons_succ]; first | exact y_skip rfl | exact y_run rfl (by intro w h; go_simp; first | done | rfl))
        · refine fs_lift 17 (by decide) (by kernel_rfl) ?_; (refine fs_pure (fun _ _ => rfl) (fun D x hD hcl hp => ?_); simp only [putO]; simp only [Act.put, List.setIfInBounds_toArray, List.set_cons_zero, List.set_cons_succ]; first | exact y_skip rfl | exact (y_load1 (b := p) (off := 0) (cs := #[.slice (some ⟨g2, 0, none⟩) m.length cap2]) (t := 72) (v := .slice (some ⟨g2, 0, none⟩) m.length cap2) rfl rfl rfl row_blks (fun w h => own_get 0 h.1 rfl) rfl) | exact y_run rfl (by intro w h; go_simp; first | done | rfl))
        · refine fs_lift 17 (by decide) (by kernel_rfl) ?_; (refine fs_pure (fun _ _ => rfl) (fun D x hD hcl hp => ?_); simp only [putO]; simp only [Act.put, List.setIfInBounds_toArray, List.set_cons_zero, List.set_cons_succ]; first | exact y_skip rfl | exact y_run rfl (by intro w h; go_simp; first | done | rfl))
        · refine fs_lift 17 (by decide) (by kernel_rfl) ?_; (refine @fs_new _ _ _ _ _ _ _ _ _ _ _ _ [] (fun v => v) rfl rfl (by kernel_rfl) (by kernel_rfl) (by intro j; rcases j with _ | j; (focus (first | exact .inr fun _ _ => rfl | exact .inl (by kernel_rfl))); rcases j with _ | j; (focus (first | exact .inr fun _ _ => rfl | exact .inl (by kernel_rfl))); rcases j with _ | j; (focus (first | exact .inr fun _ _ => rfl | exact .inl (by kernel_rfl))); rcases j with _ | j; (focus (first | exact .inr fun _ _ => rfl | exact .inl (by kernel_rfl))); rcases j with _ | j; (focus (first | exact .inr fun _ _ => rfl | exact .inl (by kernel_rfl))); rcases j with _ | j; (focus (first | exact .inr fun _ _ => rfl | exact .inl (by kernel_rfl))); rcases j with _ | j; (focus (first | exact .inr fun _ _ => rfl | exact .inl (by kernel_rfl))); rcases j with _ | j; (focus (first | exact .inr fun _ _ => rfl | exact .inl (by kernel_rfl))); rcases j with _ | j; (focus (first | exact .inr fun _ _ => rfl | exact .inl (by kernel_rfl))); rcases j with _ | j; (focus (first | exact .inr fun _ _ => rfl | exact .inl (by kernel_rfl))); rcases j with _ | j; (focus (first | exact .inr fun _ _ => rfl | exact .inl (by kernel_rfl))); rcases j with _ | j; (focus (first | exact .inr fun _ _ => rfl | exact .inl (by kernel_rfl))); rcases j with _ | j; (focus (first | exact .inr fun _ _ => rfl | exact .inl (by kernel_rfl))); rcases j with _ | j; (focus (first | exact .inr fun _ _ => rfl | exact .inl (by kernel_rfl))); rcases j with _ | j; (focus (first | exact .inr fun _ _ => rfl | exact .inl (by kernel_rfl))); rcases j with _ | j; (focus (first | exact .inr fun _ _ => rfl | exact .inl (by kernel_rfl))); rcases j with _ | j; (focus (first | exact .inr fun _ _ => rfl | exact .inl (by kernel_rfl))); rcases j with _ | j; (focus (first | exact .inr fun _ _ => rfl | exact .inl (by kernel_rfl))); exact .inr fun _ _ => rfl) (fun _ _ => rfl) ?_; intro D x u hD hcl hp hO hS N hN; simp only [putO]; simp only [Act.put, List.setIfInBounds_toArray, List.set_cons_zero, List.set_cons_succ]; refine own_lit0 rfl rfl Try.underlying24 sz_rsec hO (fun b w3 hO3 hS3 => hN _ _ _ rfl rfl hO3 hS3))
        · refine fs_lift 17 (by decide) (by kernel_rfl) ?_; (refine fs_pure (fun _ _ => rfl) (fun D x hD hcl hp => ?_); simp only [putO]; simp only [Act.put, List.setIfInBounds_toArray, List.set_cons_zero, List.set_cons_succ]; first | exact y_skip rfl | exact y_run rfl (by intro w h; go_simp; first | done | rfl))
        · refine fs_lift 17 (by decide) (by kernel_rfl) ?_; (refine fs_pure (fun _ _ => rfl) (fun D x hD hcl hp => ?_); simp only [putO]; simp only [Act.put, List.setIfInBounds_toArray, List.set_cons_zero, List.set_cons_succ]; first | exact y_skip rfl | exact y_run rfl (by intro w h; go_simp; first | done | rfl))
        · refine fs_lift 17 (by decide) (by kernel_rfl) ?_; (refine fs_pure (fun _ _ => rfl) (fun D x hD hcl hp => ?_); simp only [putO]; simp only [Act.put, List.setIfInBounds_toArray, List.set_cons_zero, List.set_cons_succ]; first | exact y_skip rfl | exact y_run rfl (by intro w h; go_simp; first | done | rfl))
        · refine fs_lift 17 (by decide) (by kernel_rfl) ?_; (refine fs_pure (fun _ _ => rfl) (fun D x hD hcl hp => ?_); simp only [putO]; simp only [Act.put, List.setIfInBounds_toArray, List.set_cons_zero, List.set_cons_succ]; first | exact y_skip rfl | exact (y_load1 (b := p) (off := 0) (cs := #[.slice (some ⟨g2, 0, none⟩) m.length cap2]) (t := 72) (v := .slice (some ⟨g2, 0, none⟩) m.length cap2) rfl rfl rfl row_blks (fun w h => own_get 0 h.1 rfl) rfl) | exact y_run rfl (by intro w h; go_simp; first | done | rfl))
        · refine fs_lift 17 (by decide) (by kernel_rfl) ?_; (refine fs_pure (fun _ _ => rfl) (fun D x hD hcl hp => ?_); simp only [putO]; simp only [Act.put, List.setIfInBounds_toArray, List.set_cons_zero, List.set_cons_succ]; first | exact y_skip rfl | exact y_run rfl (by intro w h; go_simp; first | done | rfl))
        · refine fs_lift 17 (by decide) (by kernel_rfl) ?_; (refine fs_pure (fun _ _ => rfl) (fun D x hD hcl hp => ?_); simp only [putO]; simp only [Act.put, List.setIfInBounds_toArray, List.set_cons_zero, List.set_cons_succ]; first | exact y_skip rfl | exact y_run rfl (by intro w h; go_simp; first | done | rfl))
        · refine fs_lift 17 (by decide) (by kernel_rfl) ?_; (refine fs_pure (fun _ _ => rfl) (fun D x hD hcl hp => ?_); simp only [putO]; simp only [Act.put, List.setIfInBounds_toArray, List.set_cons_zero, List.set_cons_succ]; first | exact y_skip rfl | exact y_run rfl (by intro w h; go_simp; first | done | rfl))
        · refine fs_lift 17 (by decide) (by kernel_rfl) ?_; (refine fs_pure (fun _ _ => rfl) (fun D x hD hcl hp => ?_); simp only [putO]; simp only [Act.put, List.setIfInBounds_toArray, List.set_cons_zero, List.set_cons_succ]; first | exact y_skip rfl | exact (y_load1 (b := g2) (off := i * 34 + 32) (cs := (rbs rbi ++ rest2).toArray) (t := 69) (v := .slice A b.vs.length c) rfl rfl rfl row_rsecs (fun w h => own_get 1 h.1 rfl) HV.out) | exact y_run rfl (by intro w h; go_simp; first | done | rfl))
        · refine fs_lift 17 (by decide) (by kernel_rfl) ?_; (refine @fs_new _ _ _ _ _ _ _ _ _ _ _ _ [(5, some 14, fun v => owns 28 32 v 0 [])] (fun v => v) rfl rfl (by kernel_rfl) (by kernel_rfl) (by intro j; rcases j with _ | j; (focus (first | exact .inr fun _ _ => rfl | exact .inl (by kernel_rfl))); rcases j with _ | j; (focus (first | exact .inr fun _ _ => rfl | exact .inl (by kernel_rfl))); rcases j with _ | j; (focus (first | exact .inr fun _ _ => rfl | exact .inl (by kernel_rfl))); rcases j with _ | j; (focus (first | exact .inr fun _ _ => rfl | exact .inl (by kernel_rfl))); rcases j with _ | j; (focus (first | exact .inr fun _ _ => rfl | exact .inl (by kernel_rfl))); rcases j with _ | j; (focus (first | exact .inr fun _ _ => rfl | exact .inl (by kernel_rfl))); rcases j with _ | j; (focus (first | exact .inr fun _ _ => rfl | exact .inl (by kernel_rfl))); rcases j with _ | j; (focus (first | exact .inr fun _ _ => rfl | exact .inl (by kernel_rfl))); rcases j with _ | j; (focus (first | exact .inr fun _ _ => rfl | exact .inl (by kernel_rfl))); rcases j with _ | j; (focus (first | exact .inr fun _ _ => rfl | exact .inl (by kernel_rfl))); rcases j with _ | j; (focus (first | exact .inr fun _ _ => rfl | exact .inl (by kernel_rfl))); rcases j with _ | j; (focus (first | exact .inr fun _ _ => rfl | exact .inl (by kernel_rfl))); rcases j with _ | j; (focus (first | exact .inr fun _ _ => rfl | exact .inl (by kernel_rfl))); rcases j with _ | j; (focus (first | exact .inr fun _ _ => rfl | exact .inl (by kernel_rfl))); rcases j with _ | j; (focus (first | exact .inr fun _ _ => rfl | exact .inl (by kernel_rfl))); rcases j with _ | j; (focus (first | exact .inr fun _ _ => rfl | exact .inl (by kernel_rfl))); rcases j with _ | j; (focus (first | exact .inr fun _ _ => rfl | exact .inl (by kernel_rfl))); rcases j with _ | j; (focus (first | exact .inr fun _ _ => rfl | exact .inl (by kernel_rfl))); exact .inr fun _ _ => rfl) (fun _ _ => rfl) ?_; intro D x u hD hcl hp hO hS N hN; simp only [putO]; simp only [Act.put, List.setIfInBounds_toArray, List.set_cons_zero, List.set_cons_succ]; refine own_append (m := b.vs.length) (n := 0) (xs := []) (news := secs b.vs) rfl rfl rfl rfl Try.underlying24 info_rsec3 (by simp [Value.cells]) (by decide) hO (rdV_rd (own_at hO (k := 3) rfl) HMEM.out) secs_one ?_ ?_ (fun v3 w3 hO3 hS3 _ => hN _ _ _ rfl rfl (by rw [Nat.zero_add] at hO3; exact hO3) hS3); (have := HVL.out; simp only [maxLen]; omega); (have := HVL.out; omega))
        · refine fs_lift 17 (by decide) (by kernel_rfl) ?_; (refine fs_pure (fun _ _ => rfl) (fun D x hD hcl hp => ?_); simp only [putO]; simp only [Act.put, List.setIfInBounds_toArray, List.set_cons_zero, List.set_cons_succ]; first | exact y_skip rfl | exact y_run rfl (by intro w h; go_simp; first | done | rfl))
        · refine fs_lift 17 (by decide) (by kernel_rfl) ?_; (refine fs_pure (fun _ _ => rfl) (fun D x hD hcl hp => ?_); simp only [putO]; simp only [Act.put, List.setIfInBounds_toArray, List.set_cons_zero, List.set_cons_succ]; first | exact y_skip rfl | exact y_run rfl (by intro w h; go_simp; first | done | rfl))
        · refine fs_end rfl rfl (by kernel_rfl) (by kernel_rfl) ?_
          intro x w7 hO hS N hN
          simp only [putO]
          simp only [Act.put, List.setIfInBounds_toArray, List.set_cons_zero, List.set_cons_succ]
          have hv : Value.oneCell' (x 14) = true := by
            obtain ⟨A7, c7, e7⟩ := (owns_rd (own_perm hO List.perm_append_comm)).slice
            rw [e7]; rfl
          refine own_store1 (k := 1) (b := g2) (off := i * 34 + 32) rfl rfl rfl rfl sz_rsecs1 hO rfl hv (by have := HF.out; omega) (HSV.out (x 14)) (fun w8 hO8 hS8 => hN _ _ rfl hO8 hS8)
      intro x w12 D hD hO hS12
      rw [stB_yes (hD 17 (by decide)), owL_end hD (by kernel_rfl)] at hO
      have hO := own_perm hO List.perm_append_comm
      obtain ⟨A6, c6, e6⟩ := (owns_rd hO).slice
      have hO : Own w12 (owns 28 32 (x 14) b.vs.length (secs b.vs) :: pts p (.cells #[.slice (some ⟨g2, 0, none⟩) m.length cap2] 72) :: pts g2 (.cells (rbs (rbi.set i (x 14, b)) ++ rest2).toArray 69) :: rdV l :: rdV lf :: pts q (.cells #[.slice (some ⟨g, 0, none⟩) m.length cap] 72) :: pts g (.cells (rbs rb ++ rest).toArray 69) :: L) := hO
      rw [e6, HSET.out] at hO
      have hO := rdV_cons (l := lf) (v := .slice A6 b.vs.length c6) (ss := b.vs) (own_perm (rdA_owns hO) (List.Perm.cons _ (perm_at (k := 3) rfl)))
      have hO : Own w12 (frL p g2 cap2 q g cap m.length ((fi ++ [(.slice A6 b.vs.length c6, b)]) ++ rb.drop (i + 1)) rb rest2 rest ((.slice A6 b.vs.length c6, b.vs) :: lf) l L) := own_perm hO (by
        refine List.Perm.trans (perm_at (k := 1) rfl) (List.Perm.cons _ ?_)
        refine List.Perm.trans (perm_at (k := 1) rfl) (List.Perm.cons _ ?_)
        refine List.Perm.cons _ ?_
        refine List.Perm.trans (perm_at (k := 1) rfl) (List.Perm.cons _ ?_)
        exact perm_at (k := 1) rfl)
      simp only [putO]
      simp only [Act.put, List.setIfInBounds_toArray, List.set_cons_zero, List.set_cons_succ]
      try simp only [Exit.then]
      replace hS := hS.trans hS12
      clear hD hS12
      go_wp2
      go_roundw
      case rel => exact ⟨i + 1, _, _, by omega, by go_num, HFN.out A6 c6, hO, hS⟩
      case measure => simp [intOf]; omega
    · have hie : i = m.length := by omega
      have hfi : fi.map (·.2) = m := by rw [hfr.eq, hie, List.take_length]
      have hdr : rb.drop i = [] := List.drop_eq_nil_of_le (by rw [HK.out.rlen]; omega)
      rw [hdr, List.append_nil] at hO hs32
      have HOK : Hid (ROk m fi lf ∧ Room m fi rest2 cap2) := by
        have hfs : ∀ x ∈ fi, x.2 ∈ m := fun x hx => by rw [← hfi]; exact List.mem_map_of_mem hx
        refine ⟨⟨hfi, HK.out.pos, HK.out.len, hs32, fun x hx => ?_, hfr.vers⟩, ⟨HC.out.1, HC.out.2.1, ?_⟩⟩
        · have h2 := hfs x hx
          rw [← HK.out.eq] at h2
          obtain ⟨y, hy, e⟩ := List.mem_map.1 h2
          rw [← e]; exact HK.out.v32 y hy
        · rw [List.length_append, rbs_length hs32, hfl, hie, ← HC.out.2.2]; omega
      clear hfr hs32 hfl hfi hdr
      subst hie
      go_wp2_with (first | (apply own_load1 rfl rfl rfl; (first | exact row_blks); (first | exact own_get 0 hO rfl | exact own_get 1 hO rfl | exact own_get 2 hO rfl | exact own_get 3 hO rfl | exact own_get 4 hO rfl | exact own_get 5 hO rfl | exact own_get 6 hO rfl | exact own_get 7 hO rfl); (first | (simp only [List.getElem?_toArray, List.getElem?_cons_succ, List.getElem?_cons_zero]; rfl) | rfl)))
      go_ret
      refine ⟨p, rfl, rdisk_open.2 ⟨g2, cap2, rest2, fi, lf, HOK.out, ?_⟩, hS⟩
      refine own_perm (L := rdiskP q m :: pts p (.cells #[.slice (some ⟨g2, 0, none⟩) m.length cap2] 72) :: pts g2 (.cells (rbs fi ++ rest2).toArray 69) :: rdV lf :: L) (rdisk_open.2 ⟨g, cap, rest, rb, l, ⟨HK.out, HROOM.out⟩, ?_⟩) ?_
      · exact own_perm hO (by
          refine List.Perm.trans (perm_at (k := 3) rfl) (List.Perm.cons _ ?_)
          refine List.Perm.trans (perm_at (k := 3) rfl) (List.Perm.cons _ ?_)
          exact perm_at (k := 3) rfl)
      · refine List.Perm.symm ?_
        exact perm_at (k := 3) rfl
end
end Go.Proofs.Ytjilkbkafigloaa.H
