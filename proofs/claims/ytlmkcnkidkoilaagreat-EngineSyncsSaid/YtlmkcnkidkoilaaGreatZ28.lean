/- Fork of the reference's disk. The reference's engine: Block, Waiting, Crash. The reference's engine: Waiting, Dirty. -/
import Derived.Test.YtlmkcnkidkoilaaGreatZ27
import Derived.Test.YtlmkcnkidkoilaaGreatZ25
import Derived.Test.YtlmkcnkidkoilaaGreatZ22
set_option linter.unusedVariables false
set_option linter.unusedSimpArgs false
set_option maxRecDepth 100000
namespace Go.Proofs.YtlmkcnkidkoilaaGreat.H
open Go.RowKit
theorem sz_blkD : (Tryz.prog.info? 128).map (·.size) = some 34 := by kernel_rfl
theorem rbs_one {l : List RB} (h : ∀ x ∈ l, ∃ A n c, x.1 = .slice A n c) : ∀ u ∈ rbs l, u.oneCell' = true := by
  intro u hu
  obtain ⟨x, hx, h2⟩ := List.mem_flatMap.1 hu
  unfold rblk at h2
  rcases List.mem_append.1 h2 with h2 | h2
  · exact bcs_one _ u h2
  · obtain ⟨A, n, c, e⟩ := h x hx
    simp at h2
    rcases h2 with rfl | rfl
    · rw [e]; rfl
    · rfl
theorem rbs_app (a b : List RB) : rbs (a ++ b) = rbs a ++ rbs b := List.flatMap_append
/-- The first i blocks have new slices. -/
structure FrOk (m : List Blk) (rb fi : List RB) (i : Nat) (lf : List (Value × List Sec)) : Prop where
  eq : fi.map (·.2) = m.take i
  vers : ∀ x ∈ fi, ∃ A c, x.1 = .slice A x.2.vs.length c ∧ ((.slice A x.2.vs.length c, x.2.vs) ∈ lf)
theorem fr_s32 {m : List Blk} {rb fi : List RB} {i : Nat} {l lf : List (Value × List Sec)} (hk : ROk m rb l) (h : FrOk m rb fi i lf) : ∀ x ∈ fi ++ rb.drop i, x.2.s.length = 32 := fun x hx => by
  rcases List.mem_append.1 hx with hx | hx
  · have h1 : x.2 ∈ m.take i := by rw [← h.eq]; exact List.mem_map_of_mem hx
    have h2 := List.mem_of_mem_take h1
    rw [← hk.eq] at h2
    obtain ⟨y, hy, e⟩ := List.mem_map.1 h2
    rw [← e]; exact hk.s32 y hy
  · exact hk.s32 x (List.mem_of_mem_drop hx)
theorem fr_len {m : List Blk} {rb fi : List RB} {i : Nat} {lf : List (Value × List Sec)} (h : FrOk m rb fi i lf) (hi : i ≤ m.length) : fi.length = i := by
  have := congrArg List.length h.eq
  rw [List.length_map, List.length_take] at this
  omega
section
variable (w : World) (L : List HP) (q : Nat) (m : List Blk)
/-- What is owned in Fork's loop. -/
abbrev frL (p g2 cap2 q g cap n : Nat) (rbi rb : List RB) (rest2 rest : List Value) (lf l : List (Value × List Sec)) (L : List HP) : List HP := pts p (.cells #[.slice (some ⟨g2, 0, none⟩) n cap2] 112) :: pts g2 (.cells (rbs rbi ++ rest2).toArray 128) :: rdV lf :: pts q (.cells #[.slice (some ⟨g, 0, none⟩) n cap] 112) :: pts g (.cells (rbs rb ++ rest).toArray 128) :: rdV l :: L
set_option maxHeartbeats 6400000 in
theorem rfork_d (hO : Own w (rdiskP q m :: L)) (hlim : ∀ b ∈ m, b.vs.length ≤ 1000000) : Calls Tryz.prog 66 #[.pointer (some ⟨q, 0, none⟩)] w (RetX w (fun p : Nat => .pointer (some ⟨p, 0, none⟩)) (fun p => rdiskP p m :: rdiskP q m :: L)) := by
  have HLIM := Lib.hid hlim
  have hS := Same.refl w
  obtain ⟨g, cap, rest, rb, l, ⟨hk, hroom⟩, hO⟩ := rdisk_open.1 hO
  have HK := Lib.hid hk
  have HROOM := Lib.hid hroom
  have hml := hk.len
  have hpos := hk.pos
  have hrl : (rbs rb).length = m.length * 34 := by rw [rbs_length hk.s32, hk.rlen]
  have HRL := Lib.hid hrl
  have HONE : Hid (∀ u ∈ rbs rb, u.oneCell' = true) := Lib.hid (rbs_one fun x hx => by obtain ⟨A, c, e, _⟩ := hk.vers x hx; exact ⟨A, _, c, e⟩)
  have hcm := hroom.le
  have hcx := hroom.max
  clear hk hroom hlim
  have HRD : Hid (∀ (A B : HP) w', Own w' (A :: B :: pts g (.cells (rbs rb ++ rest).toArray 128) :: rdV l :: L) → Rd w' 34 (.slice (some ⟨g, 0, none⟩) m.length cap) m.length (rbs rb)) := Lib.hid fun A B w' h => rd_block (own_get 2 h rfl) (by
    show (rbs rb ++ rest).take (m.length * 34) = rbs rb
    rw [← hrl, List.take_left]) (by rw [List.size_toArray, List.length_append, hrl]; omega) hcm (by unfold maxLen at hcx; omega)
  have HML : Hid (m.length ≤ 96) := hml
  clear hrl hcx
  go_enter Tryz.func66, Tryz.ntmps66
  go_upto_region 4 with (first | (refine own_lit0 rfl rfl Tryz.underlying110 sz_blkD hO ?_; clear hO; intro g0 u hO hSn; replace hS := hS.trans hSn; clear hSn) | (apply own_load1 rfl rfl rfl; (first | exact row_blks); (first | exact own_get 0 hO rfl | exact own_get 1 hO rfl | exact own_get 2 hO rfl | exact own_get 3 hO rfl | exact own_get 4 hO rfl | exact own_get 5 hO rfl | exact own_get 6 hO rfl | exact own_get 7 hO rfl); (first | (simp only [List.getElem?_toArray, List.getElem?_cons_succ, List.getElem?_cons_zero]; rfl) | rfl)) | (refine own_append (m := m.length) (n := 0) (xs := []) (news := rbs rb) rfl rfl rfl rfl Tryz.underlying110 info_blk3 (by simp [Value.cells, rblk, bcs_length]) (by decide) hO (HRD.out _ _ _ hO) HONE.out ?_ ?_ ?_; (have := HML.out; simp only [maxLen]; omega); (have := HML.out; omega); clear hO; intro v' u hO hSn hv'; clear hv'; replace hS := hS.trans hSn; clear hSn; rw [Nat.zero_add, List.nil_append] at hO; obtain ⟨Av, cv, rfl⟩ := (owns_rd hO).slice) | (refine own_box_agg (x := .tmp 13) rfl rfl rfl hO ?_; clear hO; intro p u hO hSn; replace hS := hS.trans hSn; clear hSn))
  have hvn : Value.slice Av m.length cv ≠ .slice none 0 0 := fun e => by
    injection e with _ e3 _
    omega
  obtain ⟨g2, cap2, rest2, e2, hc1, hc2, hc3, hc4, hO⟩ := owns_open (own_perm hO (List.Perm.swap _ _ _)) hvn
  injection e2 with e21 _ e22
  have e21 := e21.symm
  have e22 := e22.symm
  subst e21
  subst e22
  have HC : Hid (m.length ≤ cap2 ∧ cap2 ≤ maxLen ∧ rest2.length + m.length * 34 = cap2 * 34) := by
    refine ⟨hc1, hc2, ?_⟩
    rw [List.length_append, HRL.out] at hc3
    omega
  clear hvn hc1 hc2 hc3 hc4 HRD HONE
  have hO : Own u (frL p g2 cap2 q g cap m.length ([] ++ rb.drop 0) rb rest2 rest [] l L) := by
    have h := rdV_nil hO
    exact own_perm h (by
      refine List.Perm.trans (perm_at (k := 2) rfl) (List.Perm.cons _ ?_)
      exact perm_at (k := 1) rfl)
  go_wp2
  go_loopw [4] (fun iv wr => ∃ (i : Nat) (fi : List RB) (lf : List (Value × List Sec)), i ≤ m.length ∧ iv = .int .i64 i ∧ FrOk m rb fi i lf ∧ Own wr (frL p g2 cap2 q g cap m.length (fi ++ rb.drop i) rb rest2 rest lf l L) ∧ Same w wr) (fun iv _ => m.length - (intOf iv).toNat)
  case atStart => exact ⟨0, [], [], Nat.zero_le _, rfl, ⟨rfl, fun x hx => by simp at hx⟩, hO, hS⟩
  case round =>
    clear hO hS
    obtain ⟨i, fi, lf, hi, rfl, hfr, hO, hS⟩ := hrel
    have hs32 := fr_s32 HK.out hfr
    have hfl := fr_len hfr hi
    by_cases hlt : i < m.length
    · obtain ⟨b, hb⟩ : ∃ b, m[i]? = some b := ⟨_, List.getElem?_eq_getElem hlt⟩
      obtain ⟨A, c, hrb, hmem⟩ := HK.out.at_ hb
      have hat : (fi ++ rb.drop i)[i]? = some (.slice A b.vs.length c, b) := by
        rw [List.getElem?_append_right (by omega), hfl, Nat.sub_self, List.getElem?_drop, Nat.add_zero, hrb]
      have hset : ∀ y : RB, (fi ++ rb.drop i).set i y = (fi ++ [y]) ++ rb.drop (i + 1) := fun y => by
        have hdr : rb.drop i = (.slice A b.vs.length c, b) :: rb.drop (i + 1) := by
          have h := (List.getElem?_eq_some_iff.1 hrb)
          rw [List.drop_eq_getElem_cons h.1, h.2]
        rw [List.set_append_right _ _ (by omega), hfl, Nat.sub_self, hdr, List.set_cons_zero, List.append_assoc]
        rfl
      have HSET := Lib.hid hset
      have HV := Lib.hid (rb_v (rest := rest2) hs32 hat)
      have HF := Lib.hid (rb_fit (rest := rest2) hs32 hat)
      have HSV := Lib.hid (fun v => rb_setv (rest := rest2) hs32 hat v b.vs)
      have HMEM := Lib.hid hmem
      have HVL : Hid (b.vs.length ≤ 1000000) := HLIM.out b (List.mem_of_getElem? hb)
      have hi1 : (i : Int) < m.length := by omega
      have HFN : Hid (∀ (A' : Option Addr) (c' : Nat), FrOk m rb (fi ++ [(.slice A' b.vs.length c', b)]) (i + 1) ((.slice A' b.vs.length c', b.vs) :: lf)) := Lib.hid fun A' c' => by
        refine ⟨?_, fun x hx => ?_⟩
        · rw [List.map_append, hfr.eq, take_next hb]; rfl
        · rcases List.mem_append.1 hx with hx | hx
          · obtain ⟨A2, c2, e1, e2⟩ := hfr.vers x hx
            exact ⟨A2, c2, e1, List.mem_cons_of_mem _ e2⟩
          · rw [List.mem_singleton.1 hx]; exact ⟨A', c', rfl, List.mem_cons_self ..⟩
      obtain ⟨rbi, hrbi⟩ : ∃ rbi, rbi = fi ++ rb.drop i := ⟨_, rfl⟩
      rw [← hrbi] at HV HF HSV hO HSET
      clear hat hset hmem hrb hb hfr hs32 hfl hrbi
      have hO : Own wr (pts p (.cells #[.slice (some ⟨g2, 0, none⟩) m.length cap2] 112) :: pts g2 (.cells (rbs rbi ++ rest2).toArray 128) :: rdV l :: rdV lf :: pts q (.cells #[.slice (some ⟨g, 0, none⟩) m.length cap] 112) :: pts g (.cells (rbs rb ++ rest).toArray 128) :: L) := own_perm hO (List.Perm.cons _ (List.Perm.cons _ (perm_at (k := 3) rfl)))
      go_upto_region 7 with (first | (apply own_load1 rfl rfl rfl; (first | exact row_blks); (first | exact own_get 0 hO rfl | exact own_get 1 hO rfl | exact own_get 2 hO rfl | exact own_get 3 hO rfl | exact own_get 4 hO rfl | exact own_get 5 hO rfl | exact own_get 6 hO rfl | exact own_get 7 hO rfl); (first | (simp only [List.getElem?_toArray, List.getElem?_cons_succ, List.getElem?_cons_zero]; rfl) | rfl)))
      refine wp_region_own (α := Nat → Value) (fun x => .pointer (some ⟨p, 0, none⟩) :: .pointer (some ⟨p, 0, none⟩) :: .pointer (some ⟨p, 0, none⟩) :: .slice (some ⟨g2, 0, none⟩) m.length cap2 :: .int .i64 i :: x 5 :: .pointer (some ⟨p, 0, none⟩) :: .pointer (some ⟨p, 0, none⟩) :: .pointer (some ⟨p, 0, none⟩) :: .slice (some ⟨g2, 0, none⟩) m.length cap2 :: .int .i64 i :: .pointer (some ⟨g2, i * 34, none⟩) :: .pointer (some ⟨g2, i * 34 + 32, none⟩) :: .slice A b.vs.length c :: x 14 :: .pointer (some ⟨g2, i * 34, none⟩) :: .pointer (some ⟨g2, i * 34 + 32, none⟩) :: undef :: []) (stB 17 ([pts p (.cells #[.slice (some ⟨g2, 0, none⟩) m.length cap2] 112), pts g2 (.cells (rbs rbi ++ rest2).toArray 128), rdV l, rdV lf, pts q (.cells #[.slice (some ⟨g, 0, none⟩) m.length cap] 112), pts g (.cells (rbs rb ++ rest).toArray 128)] ++ L) (fun x => ([pts p (.cells #[.slice (some ⟨g2, 0, none⟩) m.length cap2] 112), pts g2 (.cells (rbs (rbi.set i (x 14, b)) ++ rest2).toArray 128), rdV l, rdV lf, pts q (.cells #[.slice (some ⟨g, 0, none⟩) m.length cap] 112), pts g (.cells (rbs rb ++ rest).toArray 128)] ++ L)) [(5, some 14, fun v => owns 94 32 v 0 []), (14, none, fun v => owns 94 32 v b.vs.length (secs b.vs))]) wr (fun _ => undef) 42 (fun _ => rfl) mixed (by kernel_rfl) rfl (by rw [stB_no rfl, owL_none, List.append_nil]; exact own_heap hO (fun _ _ h => h)) (Same.drew _) (fun _ _ _ _ hd h => ⟨hd ▸ h.1, h.2⟩) ?_ ?_
      · refine ⟨?_, ?_, ?_, ?_, ?_, ?_, ?_, ?_, ?_, ?_, ?_, ?_, ?_, ?_, ?_, ?_, ?_, ?_, trivial⟩
        · refine fs_lift 17 (by decide) (by kernel_rfl) ?_; (refine fs_pure (fun _ _ => rfl) (fun D x hD hcl hp => ?_); simp only [putO]; simp only [Act.put, List.setIfInBounds_toArray, List.set_cons_zero, List.set_cons_succ]; first | exact y_skip rfl | exact y_run rfl (by intro w h; go_simp; first | done | rfl))
        · refine fs_lift 17 (by decide) (by kernel_rfl) ?_; (refine fs_pure (fun _ _ => rfl) (fun D x hD hcl hp => ?_); simp only [putO]; simp only [Act.put, List.setIfInBounds_toArray, List.set_cons_zero, List.set_cons_succ]; first | exact y_skip rfl | exact y_run rfl (by intro w h; go_simp; first | done | rfl))
        · refine fs_lift 17 (by decide) (by kernel_rfl) ?_; (refine fs_pure (fun _ _ => rfl) (fun D x hD hcl hp => ?_); simp only [putO]; simp only [Act.put, List.setIfInBounds_toArray, List.set_cons_zero, List.set_cons_succ]; first | exact y_skip rfl | exact y_run rfl (by intro w h; go_simp; first | done | rfl))
        · refine fs_lift 17 (by decide) (by kernel_rfl) ?_; (refine fs_pure (fun _ _ => rfl) (fun D x hD hcl hp => ?_); simp only [putO]; simp only [Act.put, List.setIfInBounds_toArray, List.set_cons_zero, List.set_cons_succ]; first | exact y_skip rfl | exact (y_load1 (b := p) (off := 0) (cs := #[.slice (some ⟨g2, 0, none⟩) m.length cap2]) (t := 112) (v := .slice (some ⟨g2, 0, none⟩) m.length cap2) rfl rfl rfl row_blks (fun w h => own_get 0 h.1 rfl) rfl) | exact y_run rfl (by intro w h; go_simp; first | done | rfl))
        · refine fs_lift 17 (by decide) (by kernel_rfl) ?_; (refine fs_pure (fun _ _ => rfl) (fun D x hD hcl hp => ?_); simp only [putO]; simp only [Act.put, List.setIfInBounds_toArray, List.set_cons_zero, List.set_cons_succ]; first | exact y_skip rfl | exact y_run rfl (by intro w h; go_simp; first | done | rfl))
        · refine fs_lift 17 (by decide) (by kernel_rfl) ?_; (refine @fs_new _ _ _ _ _ _ _ _ _ _ _ _ [] (fun v => v) rfl rfl (by kernel_rfl) (by kernel_rfl) (by intro j; rcases j with _ | j; (focus (first | exact .inr fun _ _ => rfl | exact .inl (by kernel_rfl))); rcases j with _ | j; (focus (first | exact .inr fun _ _ => rfl | exact .inl (by kernel_rfl))); rcases j with _ | j; (focus (first | exact .inr fun _ _ => rfl | exact .inl (by kernel_rfl))); rcases j with _ | j; (focus (first | exact .inr fun _ _ => rfl | exact .inl (by kernel_rfl))); rcases j with _ | j; (focus (first | exact .inr fun _ _ => rfl | exact .inl (by kernel_rfl))); rcases j with _ | j; (focus (first | exact .inr fun _ _ => rfl | exact .inl (by kernel_rfl))); rcases j with _ | j; (focus (first | exact .inr fun _ _ => rfl | exact .inl (by kernel_rfl))); rcases j with _ | j; (focus (first | exact .inr fun _ _ => rfl | exact .inl (by kernel_rfl))); rcases j with _ | j; (focus (first | exact .inr fun _ _ => rfl | exact .inl (by kernel_rfl))); rcases j with _ | j; (focus (first | exact .inr fun _ _ => rfl | exact .inl (by kernel_rfl))); rcases j with _ | j; (focus (first | exact .inr fun _ _ => rfl | exact .inl (by kernel_rfl))); rcases j with _ | j; (focus (first | exact .inr fun _ _ => rfl | exact .inl (by kernel_rfl))); rcases j with _ | j; (focus (first | exact .inr fun _ _ => rfl | exact .inl (by kernel_rfl))); rcases j with _ | j; (focus (first | exact .inr fun _ _ => rfl | exact .inl (by kernel_rfl))); rcases j with _ | j; (focus (first | exact .inr fun _ _ => rfl | exact .inl (by kernel_rfl))); rcases j with _ | j; (focus (first | exact .inr fun _ _ => rfl | exact .inl (by kernel_rfl))); rcases j with _ | j; (focus (first | exact .inr fun _ _ => rfl | exact .inl (by kernel_rfl))); rcases j with _ | j; (focus (first | exact .inr fun _ _ => rfl | exact .inl (by kernel_rfl))); exact .inr fun _ _ => rfl) (fun _ _ => rfl) ?_; intro D x u hD hcl hp hO hS N hN; simp only [putO]; simp only [Act.put, List.setIfInBounds_toArray, List.set_cons_zero, List.set_cons_succ]; refine own_lit0 rfl rfl Tryz.underlying126 sz_rsec hO (fun b w3 hO3 hS3 => hN _ _ _ rfl rfl hO3 hS3))
        · refine fs_lift 17 (by decide) (by kernel_rfl) ?_; (refine fs_pure (fun _ _ => rfl) (fun D x hD hcl hp => ?_); simp only [putO]; simp only [Act.put, List.setIfInBounds_toArray, List.set_cons_zero, List.set_cons_succ]; first | exact y_skip rfl | exact y_run rfl (by intro w h; go_simp; first | done | rfl))
        · refine fs_lift 17 (by decide) (by kernel_rfl) ?_; (refine fs_pure (fun _ _ => rfl) (fun D x hD hcl hp => ?_); simp only [putO]; simp only [Act.put, List.setIfInBounds_toArray, List.set_cons_zero, List.set_cons_succ]; first | exact y_skip rfl | exact y_run rfl (by intro w h; go_simp; first | done | rfl))
        · refine fs_lift 17 (by decide) (by kernel_rfl) ?_; (refine fs_pure (fun _ _ => rfl) (fun D x hD hcl hp => ?_); simp only [putO]; simp only [Act.put, List.setIfInBounds_toArray, List.set_cons_zero, List.set_cons_succ]; first | exact y_skip rfl | exact y_run rfl (by intro w h; go_simp; first | done | rfl))
        · refine fs_lift 17 (by decide) (by kernel_rfl) ?_; (refine fs_pure (fun _ _ => rfl) (fun D x hD hcl hp => ?_); simp only [putO]; simp only [Act.put, List.setIfInBounds_toArray, List.set_cons_zero, List.set_cons_succ]; first | exact y_skip rfl | exact (y_load1 (b := p) (off := 0) (cs := #[.slice (some ⟨g2, 0, none⟩) m.length cap2]) (t := 112) (v := .slice (some ⟨g2, 0, none⟩) m.length cap2) rfl rfl rfl row_blks (fun w h => own_get 0 h.1 rfl) rfl) | exact y_run rfl (by intro w h; go_simp; first | done | rfl))
        · refine fs_lift 17 (by decide) (by kernel_rfl) ?_; (refine fs_pure (fun _ _ => rfl) (fun D x hD hcl hp => ?_); simp only [putO]; simp only [Act.put, List.setIfInBounds_toArray, List.set_cons_zero, List.set_cons_succ]; first | exact y_skip rfl | exact y_run rfl (by intro w h; go_simp; first | done | rfl))
        · refine fs_lift 17 (by decide) (by kernel_rfl) ?_; (refine fs_pure (fun _ _ => rfl) (fun D x hD hcl hp => ?_); simp only [putO]; simp only [Act.put, List.setIfInBounds_toArray, List.set_cons_zero, List.set_cons_succ]; first | exact y_skip rfl | exact y_run rfl (by intro w h; go_simp; first | done | rfl))
        · refine fs_lift 17 (by decide) (by kernel_rfl) ?_; (refine fs_pure (fun _ _ => rfl) (fun D x hD hcl hp => ?_); simp only [putO]; simp only [Act.put, List.setIfInBounds_toArray, List.set_cons_zero, List.set_cons_succ]; first | exact y_skip rfl | exact y_run rfl (by intro w h; go_simp; first | done | rfl))
        · refine fs_lift 17 (by decide) (by kernel_rfl) ?_; (refine fs_pure (fun _ _ => rfl) (fun D x hD hcl hp => ?_); simp only [putO]; simp only [Act.put, List.setIfInBounds_toArray, List.set_cons_zero, List.set_cons_succ]; first | exact y_skip rfl | exact (y_load1 (b := g2) (off := i * 34 + 32) (cs := (rbs rbi ++ rest2).toArray) (t := 128) (v := .slice A b.vs.length c) rfl rfl rfl row_rsecs (fun w h => own_get 1 h.1 rfl) HV.out) | exact y_run rfl (by intro w h; go_simp; first | done | rfl))
        · refine fs_lift 17 (by decide) (by kernel_rfl) ?_; (refine @fs_new _ _ _ _ _ _ _ _ _ _ _ _ [(5, some 14, fun v => owns 94 32 v 0 [])] (fun v => v) rfl rfl (by kernel_rfl) (by kernel_rfl) (by intro j; rcases j with _ | j; (focus (first | exact .inr fun _ _ => rfl | exact .inl (by kernel_rfl))); rcases j with _ | j; (focus (first | exact .inr fun _ _ => rfl | exact .inl (by kernel_rfl))); rcases j with _ | j; (focus (first | exact .inr fun _ _ => rfl | exact .inl (by kernel_rfl))); rcases j with _ | j; (focus (first | exact .inr fun _ _ => rfl | exact .inl (by kernel_rfl))); rcases j with _ | j; (focus (first | exact .inr fun _ _ => rfl | exact .inl (by kernel_rfl))); rcases j with _ | j; (focus (first | exact .inr fun _ _ => rfl | exact .inl (by kernel_rfl))); rcases j with _ | j; (focus (first | exact .inr fun _ _ => rfl | exact .inl (by kernel_rfl))); rcases j with _ | j; (focus (first | exact .inr fun _ _ => rfl | exact .inl (by kernel_rfl))); rcases j with _ | j; (focus (first | exact .inr fun _ _ => rfl | exact .inl (by kernel_rfl))); rcases j with _ | j; (focus (first | exact .inr fun _ _ => rfl | exact .inl (by kernel_rfl))); rcases j with _ | j; (focus (first | exact .inr fun _ _ => rfl | exact .inl (by kernel_rfl))); rcases j with _ | j; (focus (first | exact .inr fun _ _ => rfl | exact .inl (by kernel_rfl))); rcases j with _ | j; (focus (first | exact .inr fun _ _ => rfl | exact .inl (by kernel_rfl))); rcases j with _ | j; (focus (first | exact .inr fun _ _ => rfl | exact .inl (by kernel_rfl))); rcases j with _ | j; (focus (first | exact .inr fun _ _ => rfl | exact .inl (by kernel_rfl))); rcases j with _ | j; (focus (first | exact .inr fun _ _ => rfl | exact .inl (by kernel_rfl))); rcases j with _ | j; (focus (first | exact .inr fun _ _ => rfl | exact .inl (by kernel_rfl))); rcases j with _ | j; (focus (first | exact .inr fun _ _ => rfl | exact .inl (by kernel_rfl))); exact .inr fun _ _ => rfl) (fun _ _ => rfl) ?_; intro D x u hD hcl hp hO hS N hN; simp only [putO]; simp only [Act.put, List.setIfInBounds_toArray, List.set_cons_zero, List.set_cons_succ]; refine own_append (m := b.vs.length) (n := 0) (xs := []) (news := secs b.vs) rfl rfl rfl rfl Tryz.underlying126 info_rsec3 (by simp [Value.cells]) (by decide) hO (rdV_rd (own_at hO (k := 3) rfl) HMEM.out) secs_one ?_ ?_ (fun v3 w3 hO3 hS3 _ => hN _ _ _ rfl rfl (by rw [Nat.zero_add] at hO3; exact hO3) hS3); (have := HVL.out; simp only [maxLen]; omega); (have := HVL.out; omega))
        · refine fs_lift 17 (by decide) (by kernel_rfl) ?_; (refine fs_pure (fun _ _ => rfl) (fun D x hD hcl hp => ?_); simp only [putO]; simp only [Act.put, List.setIfInBounds_toArray, List.set_cons_zero, List.set_cons_succ]; first | exact y_skip rfl | exact y_run rfl (by intro w h; go_simp; first | done | rfl))
        · refine fs_lift 17 (by decide) (by kernel_rfl) ?_; (refine fs_pure (fun _ _ => rfl) (fun D x hD hcl hp => ?_); simp only [putO]; simp only [Act.put, List.setIfInBounds_toArray, List.set_cons_zero, List.set_cons_succ]; first | exact y_skip rfl | exact y_run rfl (by intro w h; go_simp; first | done | rfl))
        · refine fs_end rfl rfl (by kernel_rfl) (by kernel_rfl) ?_
          intro x w7 hO hS N hN
          simp only [putO]
          simp only [Act.put, List.setIfInBounds_toArray, List.set_cons_zero, List.set_cons_succ]
          have hv : Value.oneCell' (x 14) = true := by
            obtain ⟨A7, c7, e7⟩ := (owns_rd (own_perm hO List.perm_append_comm)).slice
            rw [e7]; rfl
          refine own_store1 (k := 1) (b := g2) (off := i * 34 + 32) rfl rfl rfl rfl sz_rsecs1 hO rfl hv (by have := HF.out; omega) (HSV.out (x 14)) (fun w8 hO8 hS8 => hN _ _ rfl hO8 hS8)
      intro x w12 D hD hO hS12
      rw [stB_yes (hD 17 (by decide)), owL_end hD (by kernel_rfl)] at hO
      have hO := own_perm hO List.perm_append_comm
      obtain ⟨A6, c6, e6⟩ := (owns_rd hO).slice
      have hO : Own w12 (owns 94 32 (x 14) b.vs.length (secs b.vs) :: pts p (.cells #[.slice (some ⟨g2, 0, none⟩) m.length cap2] 112) :: pts g2 (.cells (rbs (rbi.set i (x 14, b)) ++ rest2).toArray 128) :: rdV l :: rdV lf :: pts q (.cells #[.slice (some ⟨g, 0, none⟩) m.length cap] 112) :: pts g (.cells (rbs rb ++ rest).toArray 128) :: L) := hO
      rw [e6, HSET.out] at hO
      have hO := rdV_cons (l := lf) (v := .slice A6 b.vs.length c6) (ss := b.vs) (own_perm (rdA_owns hO) (List.Perm.cons _ (perm_at (k := 3) rfl)))
      have hO : Own w12 (frL p g2 cap2 q g cap m.length ((fi ++ [(.slice A6 b.vs.length c6, b)]) ++ rb.drop (i + 1)) rb rest2 rest ((.slice A6 b.vs.length c6, b.vs) :: lf) l L) := own_perm hO (by
        refine List.Perm.trans (perm_at (k := 1) rfl) (List.Perm.cons _ ?_)
        refine List.Perm.trans (perm_at (k := 1) rfl) (List.Perm.cons _ ?_)
        refine List.Perm.cons _ ?_
        refine List.Perm.trans (perm_at (k := 1) rfl) (List.Perm.cons _ ?_)
        exact perm_at (k := 1) rfl)
      simp only [putO]
      simp only [Act.put, List.setIfInBounds_toArray, List.set_cons_zero, List.set_cons_succ]
      try simp only [Exit.then]
      replace hS := hS.trans hS12
      clear hD hS12
      go_wp2
      go_roundw
      case rel => exact ⟨i + 1, _, _, by omega, by go_num, HFN.out A6 c6, hO, hS⟩
      case measure => simp [intOf]; omega
    · have hie : i = m.length := by omega
      have hfi : fi.map (·.2) = m := by rw [hfr.eq, hie, List.take_length]
      have hdr : rb.drop i = [] := List.drop_eq_nil_of_le (by rw [HK.out.rlen]; omega)
      rw [hdr, List.append_nil] at hO hs32
      have HOK : Hid (ROk m fi lf ∧ Room m fi rest2 cap2) := by
        have hfs : ∀ x ∈ fi, x.2 ∈ m := fun x hx => by rw [← hfi]; exact List.mem_map_of_mem hx
        refine ⟨⟨hfi, HK.out.pos, HK.out.len, hs32, fun x hx => ?_, hfr.vers⟩, ⟨HC.out.1, HC.out.2.1, ?_⟩⟩
        · have h2 := hfs x hx
          rw [← HK.out.eq] at h2
          obtain ⟨y, hy, e⟩ := List.mem_map.1 h2
          rw [← e]; exact HK.out.v32 y hy
        · rw [List.length_append, rbs_length hs32, hfl, hie, ← HC.out.2.2]; omega
      clear hfr hs32 hfl hfi hdr
      subst hie
      go_wp2_with (first | (apply own_load1 rfl rfl rfl; (first | exact row_blks); (first | exact own_get 0 hO rfl | exact own_get 1 hO rfl | exact own_get 2 hO rfl | exact own_get 3 hO rfl | exact own_get 4 hO rfl | exact own_get 5 hO rfl | exact own_get 6 hO rfl | exact own_get 7 hO rfl); (first | (simp only [List.getElem?_toArray, List.getElem?_cons_succ, List.getElem?_cons_zero]; rfl) | rfl)))
      go_ret
      refine ⟨p, rfl, rdisk_open.2 ⟨g2, cap2, rest2, fi, lf, HOK.out, ?_⟩, hS⟩
      refine own_perm (L := rdiskP q m :: pts p (.cells #[.slice (some ⟨g2, 0, none⟩) m.length cap2] 112) :: pts g2 (.cells (rbs fi ++ rest2).toArray 128) :: rdV lf :: L) (rdisk_open.2 ⟨g, cap, rest, rb, l, ⟨HK.out, HROOM.out⟩, ?_⟩) ?_
      · exact own_perm hO (by
          refine List.Perm.trans (perm_at (k := 3) rfl) (List.Perm.cons _ ?_)
          refine List.Perm.trans (perm_at (k := 3) rfl) (List.Perm.cons _ ?_)
          exact perm_at (k := 3) rfl)
      · refine List.Perm.symm ?_
        exact perm_at (k := 3) rfl
end
end Go.Proofs.YtlmkcnkidkoilaaGreat.H
set_option linter.unusedVariables false
set_option linter.unusedSimpArgs false
set_option maxRecDepth 100000
namespace Go.Proofs.YtlmkcnkidkoilaaGreat.H
open Go.RowKit
theorem rdisk_s32 {w : World} {L : List HP} {q : Nat} {m : List Blk} (h : Own w (rdiskP q m :: L)) : ∀ b ∈ m, b.s.length = 32 := by
  obtain ⟨g, cap, rest, rb, l, ⟨hk, _⟩, _⟩ := rdisk_open.1 h
  intro b hb
  rw [← hk.eq] at hb
  obtain ⟨x, hx, rfl⟩ := List.mem_map.1 hb
  exact hk.s32 x hx
section
variable (w : World) (L : List HP) (r : Nat) (E : Eng)
theorem rblock_no (i : Int) (hO : Own w (rengP r E :: L)) (hi : i < 0 ∨ (E.m.length : Int) ≤ i) : Calls Tryz.prog 51 #[.pointer (some ⟨r, 0, none⟩), .int .i64 i] w (Ret w (.tuple #[.slice none 0 0, .int .i64 2]) (rengP r E :: L)) := by
  have HI := Lib.hid hi
  have hS := Same.refl w
  clear hi
  go_enter Tryz.func51, Tryz.ntmps51
  go_wp2_with (first | (go_at_call 87; (with_reducible refine Calls.mono (rmay_e_no _ _ r E i hO HI.out) ?_); clear hO; rintro e u ⟨rfl, hO, hSn⟩; replace hS := hS.trans hSn; clear hSn))
  go_ret2
  exact ⟨rfl, hO, hS⟩
theorem rblock_ok (i : Nat) (b : Blk) (hO : Own w (rengP r E :: L)) (hk : E.Ok) (hb : E.m[i]? = some b) : Calls Tryz.prog 51 #[.pointer (some ⟨r, 0, none⟩), .int .i64 i] w (RetX w (fun v : Value => .tuple #[v, .int .i64 0]) (fun v => owns 5 1 v 32 (bcs (E.bytes i b fun _ => true)) :: rengP r E :: L)) := by
  have HI : Hid (i < E.m.length) := (List.getElem?_eq_some_iff.1 hb).1
  have HB := Lib.hid hb
  have hEl := hk.len
  have HRIGHT : Hid (∀ x ∈ E.l, rightB x.p = true) := Lib.hid fun x hx => (hk.right x hx).1
  have hS := Same.refl w
  clear hb hk
  go_enter Tryz.func51, Tryz.ntmps51
  go_upto_region 4 with (first | (go_at_call 87; (with_reducible refine Calls.mono (rmay_e_ok _ _ r E i hO HI.out) ?_); clear hO; rintro e u ⟨rfl, hO, hSn⟩; replace hS := hS.trans hSn; clear hSn))
  obtain ⟨q, lv, wv, we, ws, g, hkk, hO⟩ := reng_open.1 hO
  have HK := Lib.hid hkk
  have h32 := rdisk_s32 (own_order [1] hO rfl) b (List.mem_of_getElem? HB.out)
  have HBY : Hid (∀ w', Own w' (rO r q lv wv E.next E.m g L) → Calls Tryz.prog 88 #[.pointer (some ⟨r, 0, none⟩), .int .i64 i, .bool true, .slice none 0 0] w' (RetX w' (fun v : Value => v) (fun v => owns 5 1 v 32 (bcs (E.bytes i b fun _ => true)) :: rO r q lv wv E.next E.m g L))) := Lib.hid fun w' h => by
    have h2 := rbytes_o w' L r q lv wv we g E.next E.m hkk.2.1 (fun x hx => HRIGHT.out x.1 (by rw [← hkk.1]; exact List.mem_map_of_mem hx)) (by have := congrArg List.length hkk.1; rw [List.length_map] at this; omega) i b HB.out h32 true (.slice none 0 0) [] (fun w2 _ => rd_nil _ _) h
    rw [hkk.1] at h2
    exact h2
  clear hkk h32
  go_wp2_with (first | (go_at_call 88; (with_reducible refine Calls.mono (HBY.out _ hO) ?_); clear hO; rintro e u ⟨v, rfl, hO, hSn⟩; replace hS := hS.trans hSn; clear hSn))
  go_ret2
  exact ⟨v, rfl, own_swap (reng_open.2 ⟨q, lv, wv, we, ws, g, HK.out, own_order [1, 1, 1] hO rfl⟩), hS⟩
theorem rcrash_e (pv : Value) (pl : List Int) (hO : Own w (rengP r E :: L)) (hv : Vl 1000000 E) (hr : ∀ w', Own w' L → Rd w' 1 pv pl.length (pl.map encZ)) (hi : ∀ x ∈ pl, inI x) : Calls Tryz.prog 54 #[.pointer (some ⟨r, 0, none⟩), pv] w (RetX w (fun f : Nat => .pointer (some ⟨f, 0, none⟩)) (fun f => rdiskP f (crashL (pickV pl) 0 E.m) :: rengP r E :: L)) := by
  obtain ⟨q, lv, wv, we, ws, g, hkk, hO⟩ := reng_open.1 hO
  have HK := Lib.hid hkk
  have HV : Hid (∀ b ∈ E.m, b.vs.length ≤ 1000000) := hv
  have HR := Lib.hid hr
  have HI := Lib.hid hi
  have hS := Same.refl w
  clear hkk hv hr hi
  have hO := own_order [1] hO rfl
  simp only [List.eraseIdx_cons_succ, List.eraseIdx_zero, List.tail_cons] at hO
  go_enter Tryz.func54, Tryz.ntmps54
  go_wp2_with (first | (apply own_load1 rfl rfl rfl; (first | exact row_rdptr | exact row_wts | exact row_wrs | exact row_int); (first | exact own_get 0 hO rfl | exact own_get 1 hO rfl | exact own_get 2 hO rfl | exact own_get 3 hO rfl | exact own_get 4 hO rfl | exact own_get 5 hO rfl | exact own_get 6 hO rfl | exact own_get 7 hO rfl); (first | (simp only [List.getElem?_toArray, List.getElem?_cons_succ, List.getElem?_cons_zero]; rfl) | rfl)) | (go_at_call 66; (with_reducible refine Calls.mono (rfork_d _ _ q E.m hO HV.out) ?_); clear hO; rintro e1 u ⟨f, rfl, hO, hSn⟩; replace hS := hS.trans hSn; clear hSn) | (go_at_call 91; (with_reducible refine Calls.mono (rcrash_c _ _ f E.m pv pl hO (fun w' h => HR.out w' (own_drop (own_drop (own_drop h)))) HI.out) ?_); clear hO; rintro e u ⟨rfl, hO, hSn⟩; replace hS := hS.trans hSn; clear hSn))
  go_ret
  refine ⟨f, rfl, ?_, hS⟩
  exact own_swap (reng_open.2 ⟨q, lv, wv, we, ws, g, HK.out, own_order [2, 1, 1] hO rfl⟩)
end
end Go.Proofs.YtlmkcnkidkoilaaGreat.H
set_option linter.unusedVariables false
set_option linter.unusedSimpArgs false
set_option maxRecDepth 100000
namespace Go.Proofs.YtlmkcnkidkoilaaGreat.H
open Go.RowKit
section
variable (w : World) (L : List HP) (r : Nat) (E : Eng)
theorem rwaiting_e (hO : Own w (rengP r E :: L)) (hl : E.l.length ≤ 200) : Calls Tryz.prog 56 #[.pointer (some ⟨r, 0, none⟩)] w (RetX w (fun v : Value => v) (fun v => owns 3 1 v (wnums E.l).length (zs (wnums E.l)) :: rengP r E :: L)) := by
  obtain ⟨q, lv, wv, we, ws, g, hkk, hO⟩ := reng_open.1 hO
  have HK := Lib.hid hkk
  have hwl : we.length ≤ 200 := by rw [← hkk.1, List.length_map] at hl; exact hl
  obtain ⟨A, c, rfl, hm⟩ := hkk.2.1.rd
  have HW := Lib.hid hkk.2.1
  have HEND : Hid (wnums (we.map (·.1)) = wnums E.l) := by show _ = _; rw [hkk.1]
  have hmw := (rdG_rd (own_at hO (k := 2) rfl) hm).max
  have hS := Same.refl w
  clear hkk hm hl
  go_enter Tryz.func56, Tryz.ntmps56
  go_wp2
  go_loopw [3, 4] (fun pv iv wr => ∃ (k : Nat) (ov : Value), k ≤ we.length ∧ ov = pv ∧ iv = .int .i64 k ∧ Own wr (owns 3 1 ov (wnums ((we.take k).map (·.1))).length (zs (wnums ((we.take k).map (·.1)))) :: rO r q (.slice A we.length c) wv E.next E.m g L) ∧ Same w wr) (fun _ iv _ => we.length - (intOf iv).toNat)
  case atStart => exact ⟨0, _, Nat.zero_le _, rfl, rfl, owns_nil hO, hS⟩
  case round =>
    clear hO hS
    obtain ⟨k, ov, hk, hov, rfl, hO, hS⟩ := hrel
    subst hov
    by_cases hlt : k < we.length
    · obtain ⟨⟨x, xv⟩, hx⟩ : ∃ x, we[k]? = some x := ⟨_, List.getElem?_eq_getElem hlt⟩
      obtain ⟨ad, c', e1, hc⟩ := wat HW.out hx (own_at hO (k := 3) rfl)
      have HC := Lib.hid (ent_cell0 (hc _ wr (own_at hO (k := 3) rfl)))
      have e3 : A = some ad := by injection e1
      have HNOW := Lib.hid hO
      subst e3
      have hO := HNOW.out
      have hm1 : (k : Int) < we.length := by omega
      have HNX : Hid (wnums ((we.take (k + 1)).map (·.1)) = wnums ((we.take k).map (·.1)) ++ [(x.n : Int)]) := by
        show _ = _
        rw [List.take_add_one, hx]
        simp [wnums]
      have HBL : Hid ((wnums ((we.take k).map (·.1))).length ≤ 200) := by
        show _ ≤ _
        unfold wnums
        rw [List.length_map, List.length_map, List.length_take]
        omega
      clear hx hc e1 HNOW
      go_wp2_with (first | (apply own_load1 rfl rfl rfl; (first | exact row_rdptr | exact row_wts | exact row_wrs | exact row_int); (first | exact own_get 0 hO rfl | exact own_get 1 hO rfl | exact own_get 2 hO rfl | exact own_get 3 hO rfl | exact own_get 4 hO rfl | exact own_get 5 hO rfl | exact own_get 6 hO rfl | exact own_get 7 hO rfl); (first | (simp only [List.getElem?_toArray, List.getElem?_cons_succ, List.getElem?_cons_zero]; rfl) | rfl)) | (refine own_load1_at (ad := ad.add (k * 5)) (v := .int .i64 x.n) rfl rfl rfl row_int HC.out ?_) | (refine own_append (m := 1) (n := (wnums ((we.take k).map (·.1))).length) (xs := (zs (wnums ((we.take k).map (·.1))))) (news := [.int .i64 x.n]) rfl rfl rfl rfl Tryz.underlying38 info_z3 rfl (by decide) (own_perm (own_alloc_new hO (.cells #[.int .i64 x.n] 3)) (List.Perm.swap _ _ _)) ?_ (by intro u hu; rw [List.mem_singleton.1 hu]; rfl) ?_ ?_ ?_; (exact rd_block (own_get 1 (own_perm (own_alloc_new hO (.cells #[.int .i64 x.n] 3)) (List.Perm.swap _ _ _)) rfl) rfl (by simp) (by simp) (by simp)); (have := HBL.out; unfold maxLen; omega); (have := HBL.out; omega); clear hO; intro v' w9 hO hS9 hv'))
      go_roundw
      case rel => exact ⟨k + 1, v', by omega, rfl, by go_num, by rw [HNX.out]; exact own_flr hO, hS.trans ((Same.alloc _ _).trans hS9)⟩
      case measure => simp [intOf]; omega
    · have hke : k = we.length := by omega
      subst hke
      rw [List.take_length, HEND.out] at hO
      go_wp2_with (first | (apply own_load1 rfl rfl rfl; (first | exact row_rdptr | exact row_wts | exact row_wrs | exact row_int); (first | exact own_get 0 hO rfl | exact own_get 1 hO rfl | exact own_get 2 hO rfl | exact own_get 3 hO rfl | exact own_get 4 hO rfl | exact own_get 5 hO rfl | exact own_get 6 hO rfl | exact own_get 7 hO rfl); (first | (simp only [List.getElem?_toArray, List.getElem?_cons_succ, List.getElem?_cons_zero]; rfl) | rfl)))
      go_ret
      exact ⟨ov, rfl, own_swap (reng_open.2 ⟨q, .slice A we.length c, wv, we, ws, g, HK.out, own_order [1, 1, 1] hO rfl⟩), hS⟩
theorem dirty_next (E : Eng) (k : Nat) {b : Bool} (h : (E.l.any fun x => decide (x.p.blk = (k : Int))) = b) : (((List.range (k + 1)).filter fun i : Nat => E.l.any fun x => decide (x.p.blk = (i : Int))).map fun i : Nat => (i : Int)) = (((List.range k).filter fun i : Nat => E.l.any fun x => decide (x.p.blk = (i : Int))).map fun i : Nat => (i : Int)) ++ (if b then [(k : Int)] else []) := by
  rw [List.range_succ, List.filter_append, List.map_append]
  congr 1
  rw [List.filter_cons, h]
  cases b <;> rfl
abbrev dirtyZ (E : Eng) (k : Nat) : List Int := ((List.range k).filter fun i : Nat => E.l.any fun x => decide (x.p.blk = (i : Int))).map fun i : Nat => (i : Int)
theorem dirtyZ_len (E : Eng) (k : Nat) : (dirtyZ E k).length ≤ k := by
  unfold dirtyZ
  rw [List.length_map]
  have := List.length_filter_le (fun i : Nat => E.l.any fun x => decide (x.p.blk = (i : Int))) (List.range k)
  rwa [List.length_range] at this
set_option maxHeartbeats 1600000 in
theorem rdirty_e (hO : Own w (rengP r E :: L)) (hl : E.l.length ≤ 200) (hml : E.m.length ≤ 96) : Calls Tryz.prog 57 #[.pointer (some ⟨r, 0, none⟩)] w (RetX w (fun v : Value => v) (fun v => owns 3 1 v E.dirty.length (zs E.dirty) :: rengP r E :: L)) := by
  obtain ⟨q, lv, wv, we, ws, g, hkk, hO⟩ := reng_open.1 hO
  have HK := Lib.hid hkk
  have hwl : we.length ≤ 200 := by rw [← hkk.1, List.length_map] at hl; exact hl
  obtain ⟨A, c, rfl, hm⟩ := hkk.2.1.rd
  have HW := Lib.hid hkk.2.1
  have HANY : Hid (∀ i : Int, (E.l.any fun x => decide (x.p.blk = i)) = we.any fun x => decide (x.1.p.blk = i)) := Lib.hid fun i => by rw [← hkk.1, List.any_map]; rfl
  have hmw := (rdG_rd (own_at hO (k := 2) rfl) hm).max
  have hS := Same.refl w
  have HSZ : Hid (∀ (w' : World) (L' : List HP), Own w' (rdiskP q E.m :: L') → Calls Tryz.prog 86 #[.pointer (some ⟨q, 0, none⟩)] w' (Ret w' (.int .i64 E.m.length) (rdiskP q E.m :: L'))) := Lib.hid fun w' L' h => rsize_c w' L' q E.m h
  clear hkk hm hl
  go_enter Tryz.func57, Tryz.ntmps57
  go_wp2
  go_loopw [3, 4] (fun pv iv wr => ∃ (k : Nat) (ov : Value), k ≤ E.m.length ∧ ov = pv ∧ iv = .int .i64 k ∧ Own wr (owns 3 1 ov (dirtyZ E k).length (zs (dirtyZ E k)) :: rO r q (.slice A we.length c) wv E.next E.m g L) ∧ Same w wr) (fun _ iv _ => E.m.length - (intOf iv).toNat)
  case atStart => exact ⟨0, _, Nat.zero_le _, rfl, rfl, owns_nil hO, hS⟩
  case round =>
    clear hO hS
    obtain ⟨k, ov, hk, hov, rfl, hO, hS⟩ := hrel
    subst hov
    by_cases hlt : k < E.m.length
    · have hm1 : (k : Int) < E.m.length := by omega
      have HBL : Hid ((dirtyZ E k).length ≤ 96) := by have := dirtyZ_len E k; show _ ≤ _; omega
      go_wp2_with (first | (apply own_load1 rfl rfl rfl; (first | exact row_rdptr | exact row_wts | exact row_wrs | exact row_int); (first | exact own_get 0 hO rfl | exact own_get 1 hO rfl | exact own_get 2 hO rfl | exact own_get 3 hO rfl | exact own_get 4 hO rfl | exact own_get 5 hO rfl | exact own_get 6 hO rfl | exact own_get 7 hO rfl); (first | (simp only [List.getElem?_toArray, List.getElem?_cons_succ, List.getElem?_cons_zero]; rfl) | rfl)) | (go_at_call 86; (with_reducible refine Calls.mono (call_at 2 (fun L' h => HSZ.out _ L' h) rfl hO) ?_); clear hO; rintro e u ⟨rfl, hO, hSn⟩; replace hS := hS.trans hSn; clear hSn; simp only [List.set_cons_zero, List.set_cons_succ] at hO))
      go_loopw [5, 6] (fun bv jv wr => ∃ (j : Nat) (b : Bool), j ≤ we.length ∧ bv = .bool b ∧ jv = .int .i64 j ∧ Hid (b = (we.take j).any fun x => decide (x.1.p.blk = (k : Int))) ∧ Own wr (owns 3 1 ov (dirtyZ E k).length (zs (dirtyZ E k)) :: rO r q (.slice A we.length c) wv E.next E.m g L) ∧ Same w wr) (fun _ jv _ => we.length - (intOf jv).toNat)
      case atStart => exact ⟨0, false, Nat.zero_le _, rfl, rfl, Lib.hid rfl, hO, hS⟩
      case round =>
        clear hO hS
        obtain ⟨j, b, hj, rfl, rfl, HB, hO, hS⟩ := hrel
        by_cases hlt2 : j < we.length
        · obtain ⟨⟨x, xv⟩, hx⟩ : ∃ x, we[j]? = some x := ⟨_, List.getElem?_eq_getElem hlt2⟩
          obtain ⟨ad, c', e1, hc⟩ := wat HW.out hx (own_at hO (k := 3) rfl)
          have HC := Lib.hid (wt_cell (hc _ wr (own_at hO (k := 3) rfl))).1
          have e3 : A = some ad := by injection e1
          have HNOW := Lib.hid hO
          subst e3
          have hO := HNOW.out
          have hm2 : (j : Int) < we.length := by omega
          have HNB : Hid (((we.take (j + 1)).any fun x => decide (x.1.p.blk = (k : Int))) = (b || decide (x.p.blk = (k : Int)))) := by
            show _ = _
            rw [HB.out, List.take_add_one, hx]
            simp only [Option.toList_some, List.any_append, List.any_cons, List.any_nil, Bool.or_false]
          clear hx hc e1 HNOW
          cases b with
          | true =>
            go_wp2_with (first | (apply own_load1 rfl rfl rfl; (first | exact row_rdptr | exact row_wts | exact row_wrs | exact row_int); (first | exact own_get 0 hO rfl | exact own_get 1 hO rfl | exact own_get 2 hO rfl | exact own_get 3 hO rfl | exact own_get 4 hO rfl | exact own_get 5 hO rfl | exact own_get 6 hO rfl | exact own_get 7 hO rfl); (first | (simp only [List.getElem?_toArray, List.getElem?_cons_succ, List.getElem?_cons_zero]; rfl) | rfl)))
            go_roundw
            case rel => exact ⟨j + 1, true, by omega, rfl, by go_num, Lib.hid (by rw [HNB.out]; rfl), hO, hS⟩
            case measure => simp [intOf]; omega
          | false =>
            by_cases hb2 : x.p.blk = (k : Int)
            · have hbe : (x.p.blk == (k : Int)) = true := by rw [beq_iff_eq]; exact hb2
              have HN2 : Hid (((we.take (j + 1)).any fun x => decide (x.1.p.blk = (k : Int))) = true) := by show _ = _; rw [HNB.out, decide_eq_true hb2]; rfl
              clear hb2
              go_wp2_with (first | (apply own_load1 rfl rfl rfl; (first | exact row_rdptr | exact row_wts | exact row_wrs | exact row_int); (first | exact own_get 0 hO rfl | exact own_get 1 hO rfl | exact own_get 2 hO rfl | exact own_get 3 hO rfl | exact own_get 4 hO rfl | exact own_get 5 hO rfl | exact own_get 6 hO rfl | exact own_get 7 hO rfl); (first | (simp only [List.getElem?_toArray, List.getElem?_cons_succ, List.getElem?_cons_zero]; rfl) | rfl)) | (refine own_load1_at (ad := (ad.add (j * 5)).add 1) (v := .int .i64 x.p.blk) rfl rfl rfl row_int HC.out ?_))
              go_roundw
              case rel => exact ⟨j + 1, true, by omega, rfl, by go_num, Lib.hid HN2.out.symm, hO, hS⟩
              case measure => simp [intOf]; omega
            · have hbe : (x.p.blk == (k : Int)) = false := by rw [beq_eq_false_iff_ne]; exact hb2
              have HN2 : Hid (((we.take (j + 1)).any fun x => decide (x.1.p.blk = (k : Int))) = false) := by show _ = _; rw [HNB.out, decide_eq_false hb2]; rfl
              clear hb2
              go_wp2_with (first | (apply own_load1 rfl rfl rfl; (first | exact row_rdptr | exact row_wts | exact row_wrs | exact row_int); (first | exact own_get 0 hO rfl | exact own_get 1 hO rfl | exact own_get 2 hO rfl | exact own_get 3 hO rfl | exact own_get 4 hO rfl | exact own_get 5 hO rfl | exact own_get 6 hO rfl | exact own_get 7 hO rfl); (first | (simp only [List.getElem?_toArray, List.getElem?_cons_succ, List.getElem?_cons_zero]; rfl) | rfl)) | (refine own_load1_at (ad := (ad.add (j * 5)).add 1) (v := .int .i64 x.p.blk) rfl rfl rfl row_int HC.out ?_))
              go_roundw
              case rel => exact ⟨j + 1, false, by omega, rfl, by go_num, Lib.hid HN2.out.symm, hO, hS⟩
              case measure => simp [intOf]; omega
        · have hje : j = we.length := by omega
          subst hje
          rw [List.take_length] at HB
          have HNX := Lib.hid (dirty_next E k (b := b) (by rw [HANY.out]; exact HB.out.symm))
          cases b with
          | true =>
            go_wp2_with (first | (apply own_load1 rfl rfl rfl; (first | exact row_rdptr | exact row_wts | exact row_wrs | exact row_int); (first | exact own_get 0 hO rfl | exact own_get 1 hO rfl | exact own_get 2 hO rfl | exact own_get 3 hO rfl | exact own_get 4 hO rfl | exact own_get 5 hO rfl | exact own_get 6 hO rfl | exact own_get 7 hO rfl); (first | (simp only [List.getElem?_toArray, List.getElem?_cons_succ, List.getElem?_cons_zero]; rfl) | rfl)) | (refine own_append (m := 1) (n := (dirtyZ E k).length) (xs := (zs (dirtyZ E k))) (news := [.int .i64 (k : Int)]) rfl rfl rfl rfl Tryz.underlying38 info_z3 rfl (by decide) (own_perm (own_alloc_new hO (.cells #[.int .i64 (k : Int)] 3)) (List.Perm.swap _ _ _)) ?_ (by intro u hu; rw [List.mem_singleton.1 hu]; rfl) ?_ ?_ ?_; (exact rd_block (own_get 1 (own_perm (own_alloc_new hO (.cells #[.int .i64 (k : Int)] 3)) (List.Perm.swap _ _ _)) rfl) rfl (by simp) (by simp) (by simp)); (have := HBL.out; unfold maxLen; omega); (have := HBL.out; omega); clear hO; intro v' w9 hO hS9 hv'))
            go_roundw
            case rel => exact ⟨k + 1, v', by omega, rfl, by go_num, by unfold dirtyZ; rw [HNX.out]; exact own_flr hO, hS.trans ((Same.alloc _ _).trans hS9)⟩
            case measure => simp [intOf]; omega
          | false =>
            go_wp2_with (first | (apply own_load1 rfl rfl rfl; (first | exact row_rdptr | exact row_wts | exact row_wrs | exact row_int); (first | exact own_get 0 hO rfl | exact own_get 1 hO rfl | exact own_get 2 hO rfl | exact own_get 3 hO rfl | exact own_get 4 hO rfl | exact own_get 5 hO rfl | exact own_get 6 hO rfl | exact own_get 7 hO rfl); (first | (simp only [List.getElem?_toArray, List.getElem?_cons_succ, List.getElem?_cons_zero]; rfl) | rfl)))
            go_roundw
            case rel => exact ⟨k + 1, ov, by omega, rfl, by go_num, by unfold dirtyZ; rw [HNX.out]; simpa using hO, hS⟩
            case measure => simp [intOf]; omega
    · have hke : k = E.m.length := by omega
      subst hke
      go_wp2_with (first | (apply own_load1 rfl rfl rfl; (first | exact row_rdptr | exact row_wts | exact row_wrs | exact row_int); (first | exact own_get 0 hO rfl | exact own_get 1 hO rfl | exact own_get 2 hO rfl | exact own_get 3 hO rfl | exact own_get 4 hO rfl | exact own_get 5 hO rfl | exact own_get 6 hO rfl | exact own_get 7 hO rfl); (first | (simp only [List.getElem?_toArray, List.getElem?_cons_succ, List.getElem?_cons_zero]; rfl) | rfl)) | (go_at_call 86; (with_reducible refine Calls.mono (call_at 2 (fun L' h => HSZ.out _ L' h) rfl hO) ?_); clear hO; rintro e u ⟨rfl, hO, hSn⟩; replace hS := hS.trans hSn; clear hSn; simp only [List.set_cons_zero, List.set_cons_succ] at hO))
      go_ret
      exact ⟨ov, rfl, own_swap (reng_open.2 ⟨q, .slice A we.length c, wv, we, ws, g, HK.out, own_order [1, 1, 1] hO rfl⟩), hS⟩
end
end Go.Proofs.YtlmkcnkidkoilaaGreat.H
