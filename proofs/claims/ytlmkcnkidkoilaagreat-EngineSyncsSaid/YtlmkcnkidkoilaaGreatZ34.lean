/- The reference's engine: Fork. Contract of the reference's Overlap. -/
import Derived.Test.YtlmkcnkidkoilaaGreatZ32
import Derived.Test.YtlmkcnkidkoilaaGreatZ33
import Derived.Test.YtlmkcnkidkoilaaGreatZ06
set_option linter.unusedVariables false
set_option linter.unusedSimpArgs false
set_option maxRecDepth 100000
namespace Go.Proofs.YtlmkcnkidkoilaaGreat.H
open Go.RowKit
theorem cellsS_one {l : List Ws} (h : ∀ x ∈ l, x.v.oneCell' = true) : ∀ u ∈ cellsS l, u.oneCell' = true := by
  intro u hu
  obtain ⟨x, hx, h2⟩ := List.mem_flatMap.1 hu
  unfold Ws.cells at h2
  simp only [List.mem_cons, List.not_mem_nil, or_false] at h2
  rcases h2 with rfl | rfl
  · rfl
  · exact h x hx
theorem rfork_v (w : World) (L : List HP) (d : Nat) (m : List Blk) (hO : Own w (rdiskP d m :: L)) (hlim : ∀ b ∈ m, b.vs.length ≤ 1000000) : Calls Tryz.prog 66 #[.pointer (some ⟨d, 0, none⟩)] w (RetX w (fun v : Value => v) (fun v => (ex fun b : Nat => sep (pur (v = .pointer (some ⟨b, 0, none⟩))) (rdiskP b m)) :: rdiskP d m :: L)) := by
  refine (rfork_d w L d m hO hlim).mono ?_
  rintro e w' ⟨f, rfl, h1, h2⟩
  exact ⟨_, rfl, own_ex.2 ⟨f, own_sep.2 (own_pur.2 ⟨rfl, h1⟩)⟩, h2⟩
section
variable (w : World) (L : List HP) (r : Nat) (E : Eng)
set_option maxHeartbeats 6400000 in
theorem rfork_e (hO : Own w (rengP r E :: L)) (hk : E.Ok) (hm : E.m.length ≤ 1000) (hlim : ∀ b ∈ E.m, b.vs.length ≤ 1000000) : Calls Tryz.prog 25 #[.pointer (some ⟨r, 0, none⟩)] w (RetX w (fun f : Nat => .pointer (some ⟨f, 0, none⟩)) (fun f => rengP f E :: rengP r E :: L)) := by
  have HLIM := Lib.hid hlim
  have hS := Same.refl w
  obtain ⟨q, lv, wv, we, ws, g, ⟨h1, h2, h3⟩, hO⟩ := reng_open.1 hO
  have HK := Lib.hid (And.intro h1 (And.intro h2 h3))
  obtain ⟨A, c, rfl, hmm⟩ := h2.rd
  obtain ⟨B, cb, rfl, hmb⟩ := h3.rd
  have HMEM := Lib.hid hmm
  have HMEB := Lib.hid hmb
  have HWL : Hid (we.length ≤ 200) := by have := hk.len; show _ ≤ _; rw [← h1, List.length_map] at this; exact this
  have HSL : Hid (ws.length ≤ 1000) := by
    have h5 := h3.nod
    have h6 := h3.key
    have h7 : (ws.map (·.blk)).length ≤ E.m.length := by
      have hsub : ∀ a ∈ ws.map (·.blk), a ∈ List.range E.m.length := fun a ha => by
        obtain ⟨x, hx, rfl⟩ := List.mem_map.1 ha
        exact List.mem_range.2 (h6 x hx)
      have := (List.nodup_iff_pairwise_ne.1 h5 |> fun _ => h5).length_le_of_subset hsub
      rwa [List.length_range] at this
    rw [List.length_map] at h7
    show _ ≤ _
    omega
  have HONE : Hid (∀ u ∈ cellsW we, u.oneCell' = true) := Lib.hid (cellsW_one fun x hx => by obtain ⟨A2, c2, e2, _⟩ := h2.beh x hx; rw [e2]; rfl)
  have HONS : Hid (∀ u ∈ cellsS ws, u.oneCell' = true) := Lib.hid (cellsS_one fun x hx => by obtain ⟨A2, c2, e2, _⟩ := h3.sets x hx; rw [e2]; rfl)
  obtain ⟨SS, hSS⟩ : ∃ SS, SS = cellsW we := ⟨_, rfl⟩
  obtain ⟨TT, hTT⟩ : ∃ TT, TT = cellsS ws := ⟨_, rfl⟩
  have HSS := Lib.hid hSS
  have HTT := Lib.hid hTT
  rw [← hSS] at HMEM HONE
  rw [← hTT] at HMEB HONS
  clear hlim hk h1 h2 h3 hmm hmb hSS hTT hm
  have hO := rdG_share (own_order [2] hO rfl)
  have hO : Own w ([rdiskP q E.m, pts r (.cells #[.pointer (some ⟨q, 0, none⟩), .slice A we.length c, .slice B ws.length cb, .int .i64 E.next] 106), rdG g, rdG g] ++ L) := own_order [3, 2] hO rfl
  go_enter Tryz.func25, Tryz.ntmps25
  go_upto_region 3 with fail
  refine wp_region_own (α := Nat → Value) (fun x => .pointer (some ⟨r, 0, none⟩) :: .pointer (some ⟨r, 0, none⟩) :: .pointer (some ⟨r, 0, none⟩) :: .pointer (some ⟨q, 0, none⟩) :: x 4 :: x 5 :: .pointer (some ⟨r, 0, none⟩) :: .pointer (some ⟨r, 0, none⟩) :: .pointer (some ⟨r, 1, none⟩) :: .slice A we.length c :: x 10 :: x 11 :: .pointer (some ⟨r, 0, none⟩) :: .pointer (some ⟨r, 0, none⟩) :: .pointer (some ⟨r, 2, none⟩) :: .slice B ws.length cb :: x 16 :: .pointer (some ⟨r, 0, none⟩) :: .pointer (some ⟨r, 0, none⟩) :: .pointer (some ⟨r, 3, none⟩) :: .int .i64 E.next :: .agg #[x 4, x 10, x 16, .int .i64 E.next] :: x 22 :: x 22 :: []) (fun D x => ([rdiskP q E.m, pts r (.cells #[.pointer (some ⟨q, 0, none⟩), .slice A we.length c, .slice B ws.length cb, .int .i64 E.next] 106), rdG g, rdG g] ++ L) ++ owL ([(4, some 22, fun v => ex fun b : Nat => sep (pur (v = .pointer (some ⟨b, 0, none⟩))) (rdiskP b E.m)), (5, some 10, fun v => owns 125 5 v 0 []), (10, some 22, fun v => owns 125 5 v we.length SS), (11, some 16, fun v => owns 134 2 v 0 []), (16, some 22, fun v => owns 134 2 v ws.length TT), (22, none, fun v => ex fun f => ex fun d2 : Nat => ex fun wv2 => ex fun sv2 => sep (pur (v = .pointer (some ⟨f, 0, none⟩))) (seps [pts f (.cells #[.pointer (some ⟨d2, 0, none⟩), wv2, sv2, .int .i64 E.next] 106), rdiskP d2 E.m, owns 125 5 wv2 we.length SS, owns 134 2 sv2 ws.length TT]))]) D x) w (fun _ => undef) 28 (fun _ => rfl) mixed (by kernel_rfl) rfl (by rw [owL_none, List.append_nil]; exact own_heap hO (fun _ _ h => h)) (Same.drew _) (fun _ _ _ _ hd h => ⟨hd ▸ h.1, h.2⟩) ?_ ?_
  · refine ⟨?_, ?_, ?_, ?_, ?_, ?_, ?_, ?_, ?_, ?_, ?_, ?_, ?_, ?_, ?_, ?_, ?_, ?_, ?_, ?_, ?_, ?_, ?_, ?_, trivial⟩
    · (refine fs_pure (fun _ _ => rfl) (fun D x hD hcl hp => ?_); simp only [putO]; simp only [Act.put, List.setIfInBounds_toArray, List.set_cons_zero, List.set_cons_succ]; first | exact y_skip rfl | exact y_run rfl (by intro w h; go_simp; first | done | rfl))
    · (refine fs_pure (fun _ _ => rfl) (fun D x hD hcl hp => ?_); simp only [putO]; simp only [Act.put, List.setIfInBounds_toArray, List.set_cons_zero, List.set_cons_succ]; first | exact y_skip rfl | exact y_run rfl (by intro w h; go_simp; first | done | rfl))
    · (refine fs_pure (fun _ _ => rfl) (fun D x hD hcl hp => ?_); simp only [putO]; simp only [Act.put, List.setIfInBounds_toArray, List.set_cons_zero, List.set_cons_succ]; first | exact y_skip rfl | exact y_run rfl (by intro w h; go_simp; first | done | rfl))
    · (refine fs_pure (fun _ _ => rfl) (fun D x hD hcl hp => ?_); simp only [putO]; simp only [Act.put, List.setIfInBounds_toArray, List.set_cons_zero, List.set_cons_succ]; first | exact y_skip rfl | exact (y_load1 (b := r) (off := 0) (cs := #[.pointer (some ⟨q, 0, none⟩), .slice A we.length c, .slice B ws.length cb, .int .i64 E.next]) (t := 106) (v := .pointer (some ⟨q, 0, none⟩)) rfl rfl rfl row_rdptr (fun w h => own_get 1 h.1 rfl) rfl) | exact y_run rfl (by intro w h; go_simp; first | done | rfl))
    · (refine @fs_new _ _ _ _ _ _ _ _ _ _ _ _ [] (fun v => v) rfl rfl (by kernel_rfl) (by kernel_rfl) (by intro j; rcases j with _ | j; (focus (first | exact .inr fun _ _ => rfl | exact .inl (by kernel_rfl))); rcases j with _ | j; (focus (first | exact .inr fun _ _ => rfl | exact .inl (by kernel_rfl))); rcases j with _ | j; (focus (first | exact .inr fun _ _ => rfl | exact .inl (by kernel_rfl))); rcases j with _ | j; (focus (first | exact .inr fun _ _ => rfl | exact .inl (by kernel_rfl))); rcases j with _ | j; (focus (first | exact .inr fun _ _ => rfl | exact .inl (by kernel_rfl))); rcases j with _ | j; (focus (first | exact .inr fun _ _ => rfl | exact .inl (by kernel_rfl))); rcases j with _ | j; (focus (first | exact .inr fun _ _ => rfl | exact .inl (by kernel_rfl))); rcases j with _ | j; (focus (first | exact .inr fun _ _ => rfl | exact .inl (by kernel_rfl))); rcases j with _ | j; (focus (first | exact .inr fun _ _ => rfl | exact .inl (by kernel_rfl))); rcases j with _ | j; (focus (first | exact .inr fun _ _ => rfl | exact .inl (by kernel_rfl))); rcases j with _ | j; (focus (first | exact .inr fun _ _ => rfl | exact .inl (by kernel_rfl))); rcases j with _ | j; (focus (first | exact .inr fun _ _ => rfl | exact .inl (by kernel_rfl))); rcases j with _ | j; (focus (first | exact .inr fun _ _ => rfl | exact .inl (by kernel_rfl))); rcases j with _ | j; (focus (first | exact .inr fun _ _ => rfl | exact .inl (by kernel_rfl))); rcases j with _ | j; (focus (first | exact .inr fun _ _ => rfl | exact .inl (by kernel_rfl))); rcases j with _ | j; (focus (first | exact .inr fun _ _ => rfl | exact .inl (by kernel_rfl))); rcases j with _ | j; (focus (first | exact .inr fun _ _ => rfl | exact .inl (by kernel_rfl))); rcases j with _ | j; (focus (first | exact .inr fun _ _ => rfl | exact .inl (by kernel_rfl))); rcases j with _ | j; (focus (first | exact .inr fun _ _ => rfl | exact .inl (by kernel_rfl))); rcases j with _ | j; (focus (first | exact .inr fun _ _ => rfl | exact .inl (by kernel_rfl))); rcases j with _ | j; (focus (first | exact .inr fun _ _ => rfl | exact .inl (by kernel_rfl))); rcases j with _ | j; (focus (first | exact .inr fun _ _ => rfl | exact .inl (by kernel_rfl))); rcases j with _ | j; (focus (first | exact .inr fun _ _ => rfl | exact .inl (by kernel_rfl))); rcases j with _ | j; (focus (first | exact .inr fun _ _ => rfl | exact .inl (by kernel_rfl))); exact .inr fun _ _ => rfl) (fun _ _ => rfl) ?_; intro D x u hD hcl hp hO hS N hN; simp only [putO]; simp only [Act.put, List.setIfInBounds_toArray, List.set_cons_zero, List.set_cons_succ]; refine ev_call rfl (by go_simp; first | done | exact ⟨rfl, rfl⟩) ?_; refine Calls.mono (rfork_v _ _ q E.m hO HLIM.out) ?_; rintro e u' ⟨v, rfl, hO', hS'⟩; exact ⟨_, rfl, hN _ v u' rfl rfl hO' hS'⟩)
    · (refine @fs_new _ _ _ _ _ _ _ _ _ _ _ _ [] (fun v => v) rfl rfl (by kernel_rfl) (by kernel_rfl) (by intro j; rcases j with _ | j; (focus (first | exact .inr fun _ _ => rfl | exact .inl (by kernel_rfl))); rcases j with _ | j; (focus (first | exact .inr fun _ _ => rfl | exact .inl (by kernel_rfl))); rcases j with _ | j; (focus (first | exact .inr fun _ _ => rfl | exact .inl (by kernel_rfl))); rcases j with _ | j; (focus (first | exact .inr fun _ _ => rfl | exact .inl (by kernel_rfl))); rcases j with _ | j; (focus (first | exact .inr fun _ _ => rfl | exact .inl (by kernel_rfl))); rcases j with _ | j; (focus (first | exact .inr fun _ _ => rfl | exact .inl (by kernel_rfl))); rcases j with _ | j; (focus (first | exact .inr fun _ _ => rfl | exact .inl (by kernel_rfl))); rcases j with _ | j; (focus (first | exact .inr fun _ _ => rfl | exact .inl (by kernel_rfl))); rcases j with _ | j; (focus (first | exact .inr fun _ _ => rfl | exact .inl (by kernel_rfl))); rcases j with _ | j; (focus (first | exact .inr fun _ _ => rfl | exact .inl (by kernel_rfl))); rcases j with _ | j; (focus (first | exact .inr fun _ _ => rfl | exact .inl (by kernel_rfl))); rcases j with _ | j; (focus (first | exact .inr fun _ _ => rfl | exact .inl (by kernel_rfl))); rcases j with _ | j; (focus (first | exact .inr fun _ _ => rfl | exact .inl (by kernel_rfl))); rcases j with _ | j; (focus (first | exact .inr fun _ _ => rfl | exact .inl (by kernel_rfl))); rcases j with _ | j; (focus (first | exact .inr fun _ _ => rfl | exact .inl (by kernel_rfl))); rcases j with _ | j; (focus (first | exact .inr fun _ _ => rfl | exact .inl (by kernel_rfl))); rcases j with _ | j; (focus (first | exact .inr fun _ _ => rfl | exact .inl (by kernel_rfl))); rcases j with _ | j; (focus (first | exact .inr fun _ _ => rfl | exact .inl (by kernel_rfl))); rcases j with _ | j; (focus (first | exact .inr fun _ _ => rfl | exact .inl (by kernel_rfl))); rcases j with _ | j; (focus (first | exact .inr fun _ _ => rfl | exact .inl (by kernel_rfl))); rcases j with _ | j; (focus (first | exact .inr fun _ _ => rfl | exact .inl (by kernel_rfl))); rcases j with _ | j; (focus (first | exact .inr fun _ _ => rfl | exact .inl (by kernel_rfl))); rcases j with _ | j; (focus (first | exact .inr fun _ _ => rfl | exact .inl (by kernel_rfl))); rcases j with _ | j; (focus (first | exact .inr fun _ _ => rfl | exact .inl (by kernel_rfl))); exact .inr fun _ _ => rfl) (fun _ _ => rfl) ?_; intro D x u hD hcl hp hO hS N hN; simp only [putO]; simp only [Act.put, List.setIfInBounds_toArray, List.set_cons_zero, List.set_cons_succ]; refine own_lit0 rfl rfl Tryz.underlying103 sz_wt hO (fun b w3 hO3 hS3 => hN _ _ _ rfl rfl hO3 hS3))
    · (refine fs_pure (fun _ _ => rfl) (fun D x hD hcl hp => ?_); simp only [putO]; simp only [Act.put, List.setIfInBounds_toArray, List.set_cons_zero, List.set_cons_succ]; first | exact y_skip rfl | exact y_run rfl (by intro w h; go_simp; first | done | rfl))
    · (refine fs_pure (fun _ _ => rfl) (fun D x hD hcl hp => ?_); simp only [putO]; simp only [Act.put, List.setIfInBounds_toArray, List.set_cons_zero, List.set_cons_succ]; first | exact y_skip rfl | exact y_run rfl (by intro w h; go_simp; first | done | rfl))
    · (refine fs_pure (fun _ _ => rfl) (fun D x hD hcl hp => ?_); simp only [putO]; simp only [Act.put, List.setIfInBounds_toArray, List.set_cons_zero, List.set_cons_succ]; first | exact y_skip rfl | exact y_run rfl (by intro w h; go_simp; first | done | rfl))
    · (refine fs_pure (fun _ _ => rfl) (fun D x hD hcl hp => ?_); simp only [putO]; simp only [Act.put, List.setIfInBounds_toArray, List.set_cons_zero, List.set_cons_succ]; first | exact y_skip rfl | exact (y_load1 (b := r) (off := 1) (cs := #[.pointer (some ⟨q, 0, none⟩), .slice A we.length c, .slice B ws.length cb, .int .i64 E.next]) (t := 106) (v := .slice A we.length c) rfl rfl rfl row_wts (fun w h => own_get 1 h.1 rfl) rfl) | exact y_run rfl (by intro w h; go_simp; first | done | rfl))
    · (refine @fs_new _ _ _ _ _ _ _ _ _ _ _ _ [(5, some 10, fun v => owns 125 5 v 0 [])] (fun v => v) rfl rfl (by kernel_rfl) (by kernel_rfl) (by intro j; rcases j with _ | j; (focus (first | exact .inr fun _ _ => rfl | exact .inl (by kernel_rfl))); rcases j with _ | j; (focus (first | exact .inr fun _ _ => rfl | exact .inl (by kernel_rfl))); rcases j with _ | j; (focus (first | exact .inr fun _ _ => rfl | exact .inl (by kernel_rfl))); rcases j with _ | j; (focus (first | exact .inr fun _ _ => rfl | exact .inl (by kernel_rfl))); rcases j with _ | j; (focus (first | exact .inr fun _ _ => rfl | exact .inl (by kernel_rfl))); rcases j with _ | j; (focus (first | exact .inr fun _ _ => rfl | exact .inl (by kernel_rfl))); rcases j with _ | j; (focus (first | exact .inr fun _ _ => rfl | exact .inl (by kernel_rfl))); rcases j with _ | j; (focus (first | exact .inr fun _ _ => rfl | exact .inl (by kernel_rfl))); rcases j with _ | j; (focus (first | exact .inr fun _ _ => rfl | exact .inl (by kernel_rfl))); rcases j with _ | j; (focus (first | exact .inr fun _ _ => rfl | exact .inl (by kernel_rfl))); rcases j with _ | j; (focus (first | exact .inr fun _ _ => rfl | exact .inl (by kernel_rfl))); rcases j with _ | j; (focus (first | exact .inr fun _ _ => rfl | exact .inl (by kernel_rfl))); rcases j with _ | j; (focus (first | exact .inr fun _ _ => rfl | exact .inl (by kernel_rfl))); rcases j with _ | j; (focus (first | exact .inr fun _ _ => rfl | exact .inl (by kernel_rfl))); rcases j with _ | j; (focus (first | exact .inr fun _ _ => rfl | exact .inl (by kernel_rfl))); rcases j with _ | j; (focus (first | exact .inr fun _ _ => rfl | exact .inl (by kernel_rfl))); rcases j with _ | j; (focus (first | exact .inr fun _ _ => rfl | exact .inl (by kernel_rfl))); rcases j with _ | j; (focus (first | exact .inr fun _ _ => rfl | exact .inl (by kernel_rfl))); rcases j with _ | j; (focus (first | exact .inr fun _ _ => rfl | exact .inl (by kernel_rfl))); rcases j with _ | j; (focus (first | exact .inr fun _ _ => rfl | exact .inl (by kernel_rfl))); rcases j with _ | j; (focus (first | exact .inr fun _ _ => rfl | exact .inl (by kernel_rfl))); rcases j with _ | j; (focus (first | exact .inr fun _ _ => rfl | exact .inl (by kernel_rfl))); rcases j with _ | j; (focus (first | exact .inr fun _ _ => rfl | exact .inl (by kernel_rfl))); rcases j with _ | j; (focus (first | exact .inr fun _ _ => rfl | exact .inl (by kernel_rfl))); exact .inr fun _ _ => rfl) (fun _ _ => rfl) ?_; intro D x u hD hcl hp hO hS N hN; simp only [putO]; simp only [Act.put, List.setIfInBounds_toArray, List.set_cons_zero, List.set_cons_succ]; refine own_append (m := we.length) (n := 0) (xs := []) (news := SS) rfl rfl rfl rfl Tryz.underlying103 info_wt3 (by simp [Value.cells]) (by decide) hO (rdG_rd (own_at hO (k := 3) rfl) HMEM.out) HONE.out ?_ ?_ (fun v3 w3 hO3 hS3 _ => hN _ _ _ rfl rfl (by rw [Nat.zero_add] at hO3; exact hO3) hS3); (have := HWL.out; simp only [maxLen]; omega); (have := HWL.out; omega))
    · (refine @fs_new _ _ _ _ _ _ _ _ _ _ _ _ [] (fun v => v) rfl rfl (by kernel_rfl) (by kernel_rfl) (by intro j; rcases j with _ | j; (focus (first | exact .inr fun _ _ => rfl | exact .inl (by kernel_rfl))); rcases j with _ | j; (focus (first | exact .inr fun _ _ => rfl | exact .inl (by kernel_rfl))); rcases j with _ | j; (focus (first | exact .inr fun _ _ => rfl | exact .inl (by kernel_rfl))); rcases j with _ | j; (focus (first | exact .inr fun _ _ => rfl | exact .inl (by kernel_rfl))); rcases j with _ | j; (focus (first | exact .inr fun _ _ => rfl | exact .inl (by kernel_rfl))); rcases j with _ | j; (focus (first | exact .inr fun _ _ => rfl | exact .inl (by kernel_rfl))); rcases j with _ | j; (focus (first | exact .inr fun _ _ => rfl | exact .inl (by kernel_rfl))); rcases j with _ | j; (focus (first | exact .inr fun _ _ => rfl | exact .inl (by kernel_rfl))); rcases j with _ | j; (focus (first | exact .inr fun _ _ => rfl | exact .inl (by kernel_rfl))); rcases j with _ | j; (focus (first | exact .inr fun _ _ => rfl | exact .inl (by kernel_rfl))); rcases j with _ | j; (focus (first | exact .inr fun _ _ => rfl | exact .inl (by kernel_rfl))); rcases j with _ | j; (focus (first | exact .inr fun _ _ => rfl | exact .inl (by kernel_rfl))); rcases j with _ | j; (focus (first | exact .inr fun _ _ => rfl | exact .inl (by kernel_rfl))); rcases j with _ | j; (focus (first | exact .inr fun _ _ => rfl | exact .inl (by kernel_rfl))); rcases j with _ | j; (focus (first | exact .inr fun _ _ => rfl | exact .inl (by kernel_rfl))); rcases j with _ | j; (focus (first | exact .inr fun _ _ => rfl | exact .inl (by kernel_rfl))); rcases j with _ | j; (focus (first | exact .inr fun _ _ => rfl | exact .inl (by kernel_rfl))); rcases j with _ | j; (focus (first | exact .inr fun _ _ => rfl | exact .inl (by kernel_rfl))); rcases j with _ | j; (focus (first | exact .inr fun _ _ => rfl | exact .inl (by kernel_rfl))); rcases j with _ | j; (focus (first | exact .inr fun _ _ => rfl | exact .inl (by kernel_rfl))); rcases j with _ | j; (focus (first | exact .inr fun _ _ => rfl | exact .inl (by kernel_rfl))); rcases j with _ | j; (focus (first | exact .inr fun _ _ => rfl | exact .inl (by kernel_rfl))); rcases j with _ | j; (focus (first | exact .inr fun _ _ => rfl | exact .inl (by kernel_rfl))); rcases j with _ | j; (focus (first | exact .inr fun _ _ => rfl | exact .inl (by kernel_rfl))); exact .inr fun _ _ => rfl) (fun _ _ => rfl) ?_; intro D x u hD hcl hp hO hS N hN; simp only [putO]; simp only [Act.put, List.setIfInBounds_toArray, List.set_cons_zero, List.set_cons_succ]; refine own_lit0 rfl rfl Tryz.underlying104 sz_wr hO (fun b w3 hO3 hS3 => hN _ _ _ rfl rfl hO3 hS3))
    · (refine fs_pure (fun _ _ => rfl) (fun D x hD hcl hp => ?_); simp only [putO]; simp only [Act.put, List.setIfInBounds_toArray, List.set_cons_zero, List.set_cons_succ]; first | exact y_skip rfl | exact y_run rfl (by intro w h; go_simp; first | done | rfl))
    · (refine fs_pure (fun _ _ => rfl) (fun D x hD hcl hp => ?_); simp only [putO]; simp only [Act.put, List.setIfInBounds_toArray, List.set_cons_zero, List.set_cons_succ]; first | exact y_skip rfl | exact y_run rfl (by intro w h; go_simp; first | done | rfl))
    · (refine fs_pure (fun _ _ => rfl) (fun D x hD hcl hp => ?_); simp only [putO]; simp only [Act.put, List.setIfInBounds_toArray, List.set_cons_zero, List.set_cons_succ]; first | exact y_skip rfl | exact y_run rfl (by intro w h; go_simp; first | done | rfl))
    · (refine fs_pure (fun _ _ => rfl) (fun D x hD hcl hp => ?_); simp only [putO]; simp only [Act.put, List.setIfInBounds_toArray, List.set_cons_zero, List.set_cons_succ]; first | exact y_skip rfl | exact (y_load1 (b := r) (off := 2) (cs := #[.pointer (some ⟨q, 0, none⟩), .slice A we.length c, .slice B ws.length cb, .int .i64 E.next]) (t := 106) (v := .slice B ws.length cb) rfl rfl rfl row_wrs (fun w h => own_get 1 h.1 rfl) rfl) | exact y_run rfl (by intro w h; go_simp; first | done | rfl))
    · (refine @fs_new _ _ _ _ _ _ _ _ _ _ _ _ [(11, some 16, fun v => owns 134 2 v 0 [])] (fun v => v) rfl rfl (by kernel_rfl) (by kernel_rfl) (by intro j; rcases j with _ | j; (focus (first | exact .inr fun _ _ => rfl | exact .inl (by kernel_rfl))); rcases j with _ | j; (focus (first | exact .inr fun _ _ => rfl | exact .inl (by kernel_rfl))); rcases j with _ | j; (focus (first | exact .inr fun _ _ => rfl | exact .inl (by kernel_rfl))); rcases j with _ | j; (focus (first | exact .inr fun _ _ => rfl | exact .inl (by kernel_rfl))); rcases j with _ | j; (focus (first | exact .inr fun _ _ => rfl | exact .inl (by kernel_rfl))); rcases j with _ | j; (focus (first | exact .inr fun _ _ => rfl | exact .inl (by kernel_rfl))); rcases j with _ | j; (focus (first | exact .inr fun _ _ => rfl | exact .inl (by kernel_rfl))); rcases j with _ | j; (focus (first | exact .inr fun _ _ => rfl | exact .inl (by kernel_rfl))); rcases j with _ | j; (focus (first | exact .inr fun _ _ => rfl | exact .inl (by kernel_rfl))); rcases j with _ | j; (focus (first | exact .inr fun _ _ => rfl | exact .inl (by kernel_rfl))); rcases j with _ | j; (focus (first | exact .inr fun _ _ => rfl | exact .inl (by kernel_rfl))); rcases j with _ | j; (focus (first | exact .inr fun _ _ => rfl | exact .inl (by kernel_rfl))); rcases j with _ | j; (focus (first | exact .inr fun _ _ => rfl | exact .inl (by kernel_rfl))); rcases j with _ | j; (focus (first | exact .inr fun _ _ => rfl | exact .inl (by kernel_rfl))); rcases j with _ | j; (focus (first | exact .inr fun _ _ => rfl | exact .inl (by kernel_rfl))); rcases j with _ | j; (focus (first | exact .inr fun _ _ => rfl | exact .inl (by kernel_rfl))); rcases j with _ | j; (focus (first | exact .inr fun _ _ => rfl | exact .inl (by kernel_rfl))); rcases j with _ | j; (focus (first | exact .inr fun _ _ => rfl | exact .inl (by kernel_rfl))); rcases j with _ | j; (focus (first | exact .inr fun _ _ => rfl | exact .inl (by kernel_rfl))); rcases j with _ | j; (focus (first | exact .inr fun _ _ => rfl | exact .inl (by kernel_rfl))); rcases j with _ | j; (focus (first | exact .inr fun _ _ => rfl | exact .inl (by kernel_rfl))); rcases j with _ | j; (focus (first | exact .inr fun _ _ => rfl | exact .inl (by kernel_rfl))); rcases j with _ | j; (focus (first | exact .inr fun _ _ => rfl | exact .inl (by kernel_rfl))); rcases j with _ | j; (focus (first | exact .inr fun _ _ => rfl | exact .inl (by kernel_rfl))); exact .inr fun _ _ => rfl) (fun _ _ => rfl) ?_; intro D x u hD hcl hp hO hS N hN; simp only [putO]; simp only [Act.put, List.setIfInBounds_toArray, List.set_cons_zero, List.set_cons_succ]; refine own_append (m := ws.length) (n := 0) (xs := []) (news := TT) rfl rfl rfl rfl Tryz.underlying104 info_wr3 (by simp [Value.cells]) (by decide) hO (rdG_rd (own_at hO (k := 3) rfl) HMEB.out) HONS.out ?_ ?_ (fun v3 w3 hO3 hS3 _ => hN _ _ _ rfl rfl (by rw [Nat.zero_add] at hO3; exact hO3) hS3); (have := HSL.out; simp only [maxLen]; omega); (have := HSL.out; omega))
    · (refine fs_pure (fun _ _ => rfl) (fun D x hD hcl hp => ?_); simp only [putO]; simp only [Act.put, List.setIfInBounds_toArray, List.set_cons_zero, List.set_cons_succ]; first | exact y_skip rfl | exact y_run rfl (by intro w h; go_simp; first | done | rfl))
    · (refine fs_pure (fun _ _ => rfl) (fun D x hD hcl hp => ?_); simp only [putO]; simp only [Act.put, List.setIfInBounds_toArray, List.set_cons_zero, List.set_cons_succ]; first | exact y_skip rfl | exact y_run rfl (by intro w h; go_simp; first | done | rfl))
    · (refine fs_pure (fun _ _ => rfl) (fun D x hD hcl hp => ?_); simp only [putO]; simp only [Act.put, List.setIfInBounds_toArray, List.set_cons_zero, List.set_cons_succ]; first | exact y_skip rfl | exact y_run rfl (by intro w h; go_simp; first | done | rfl))
    · (refine fs_pure (fun _ _ => rfl) (fun D x hD hcl hp => ?_); simp only [putO]; simp only [Act.put, List.setIfInBounds_toArray, List.set_cons_zero, List.set_cons_succ]; first | exact y_skip rfl | exact (y_load1 (b := r) (off := 3) (cs := #[.pointer (some ⟨q, 0, none⟩), .slice A we.length c, .slice B ws.length cb, .int .i64 E.next]) (t := 106) (v := .int .i64 E.next) rfl rfl rfl row_int (fun w h => own_get 1 h.1 rfl) rfl) | exact y_run rfl (by intro w h; go_simp; first | done | rfl))
    · refine fs_pure (fun _ _ => rfl) (fun D x hD hcl hp => ?_)
      simp only [putO]
      simp only [Act.put, List.setIfInBounds_toArray, List.set_cons_zero, List.set_cons_succ]
      refine y_run rfl (fun w h => ?_)
      have h22 := dep_no hcl hD 22 rfl
      obtain ⟨L4, o4⟩ := ow_gets 0 h.1 rfl (dep_yes hp rfl) h22
      obtain ⟨LA, oA⟩ := ow_gets 2 h.1 rfl (dep_yes hp rfl) h22
      obtain ⟨LC, oC⟩ := ow_gets 4 h.1 rfl (dep_yes hp rfl) h22
      obtain ⟨A4, c4, eA⟩ := (owns_rd oA).slice
      obtain ⟨A5, c5, eC⟩ := (owns_rd oC).slice
      obtain ⟨b4, o4⟩ := own_ex.1 o4
      have e4 := (own_pur.1 (own_sep.1 o4)).1
      clear oA oC o4 hp hcl
      simp only [e4, eA, eC]
      go_simp
      first | done | rfl
    · (refine @fs_new _ _ _ _ _ _ _ _ _ _ _ _ [(4, some 22, fun v => ex fun b : Nat => sep (pur (v = .pointer (some ⟨b, 0, none⟩))) (rdiskP b E.m)), (10, some 22, fun v => owns 125 5 v we.length SS), (16, some 22, fun v => owns 134 2 v ws.length TT)] (fun v => v) rfl rfl (by kernel_rfl) (by kernel_rfl) (by intro j; rcases j with _ | j; (focus (first | exact .inr fun _ _ => rfl | exact .inl (by kernel_rfl))); rcases j with _ | j; (focus (first | exact .inr fun _ _ => rfl | exact .inl (by kernel_rfl))); rcases j with _ | j; (focus (first | exact .inr fun _ _ => rfl | exact .inl (by kernel_rfl))); rcases j with _ | j; (focus (first | exact .inr fun _ _ => rfl | exact .inl (by kernel_rfl))); rcases j with _ | j; (focus (first | exact .inr fun _ _ => rfl | exact .inl (by kernel_rfl))); rcases j with _ | j; (focus (first | exact .inr fun _ _ => rfl | exact .inl (by kernel_rfl))); rcases j with _ | j; (focus (first | exact .inr fun _ _ => rfl | exact .inl (by kernel_rfl))); rcases j with _ | j; (focus (first | exact .inr fun _ _ => rfl | exact .inl (by kernel_rfl))); rcases j with _ | j; (focus (first | exact .inr fun _ _ => rfl | exact .inl (by kernel_rfl))); rcases j with _ | j; (focus (first | exact .inr fun _ _ => rfl | exact .inl (by kernel_rfl))); rcases j with _ | j; (focus (first | exact .inr fun _ _ => rfl | exact .inl (by kernel_rfl))); rcases j with _ | j; (focus (first | exact .inr fun _ _ => rfl | exact .inl (by kernel_rfl))); rcases j with _ | j; (focus (first | exact .inr fun _ _ => rfl | exact .inl (by kernel_rfl))); rcases j with _ | j; (focus (first | exact .inr fun _ _ => rfl | exact .inl (by kernel_rfl))); rcases j with _ | j; (focus (first | exact .inr fun _ _ => rfl | exact .inl (by kernel_rfl))); rcases j with _ | j; (focus (first | exact .inr fun _ _ => rfl | exact .inl (by kernel_rfl))); rcases j with _ | j; (focus (first | exact .inr fun _ _ => rfl | exact .inl (by kernel_rfl))); rcases j with _ | j; (focus (first | exact .inr fun _ _ => rfl | exact .inl (by kernel_rfl))); rcases j with _ | j; (focus (first | exact .inr fun _ _ => rfl | exact .inl (by kernel_rfl))); rcases j with _ | j; (focus (first | exact .inr fun _ _ => rfl | exact .inl (by kernel_rfl))); rcases j with _ | j; (focus (first | exact .inr fun _ _ => rfl | exact .inl (by kernel_rfl))); rcases j with _ | j; (focus (first | exact .inr fun _ _ => rfl | exact .inl (by kernel_rfl))); rcases j with _ | j; (focus (first | exact .inr fun _ _ => rfl | exact .inl (by kernel_rfl))); rcases j with _ | j; (focus (first | exact .inr fun _ _ => rfl | exact .inl (by kernel_rfl))); exact .inr fun _ _ => rfl) (fun _ _ => rfl) ?_; intro D x u hD hcl hp hO hS N hN; simp only [putO]; simp only [Act.put, List.setIfInBounds_toArray, List.set_cons_zero, List.set_cons_succ]; refine own_box (v := .agg #[x 4, x 10, x 16, .int .i64 E.next]) rfl rfl rfl rfl hO ?_)
      intro f3 w3 hO3 hS3
      have hO3 := own_perm hO3 (perm_at (k := 1) rfl)
      obtain ⟨b5, hO3⟩ := own_ex.1 hO3
      obtain ⟨e5, hO3⟩ := own_pur.1 (own_sep.1 hO3)
      refine hN _ _ _ rfl rfl ?_ hS3
      refine own_ex.2 ⟨f3, own_ex.2 ⟨b5, own_ex.2 ⟨x 10, own_ex.2 ⟨x 16, own_sep.2 (own_pur.2 ⟨rfl, own_seps.2 ?_⟩)⟩⟩⟩⟩
      rw [e5] at hO3
      exact own_order [1, 0] hO3 rfl
    · (refine fs_pure (fun _ _ => rfl) (fun D x hD hcl hp => ?_); simp only [putO]; simp only [Act.put, List.setIfInBounds_toArray, List.set_cons_zero, List.set_cons_succ]; first | exact y_skip rfl | exact y_run rfl (by intro w h; go_simp; first | done | rfl))
  intro x w10 D hD hO hS10
  rw [owL_end hD (by kernel_rfl)] at hO
  have hO := own_perm hO List.perm_append_comm
  obtain ⟨f, hO⟩ := own_ex.1 hO
  obtain ⟨d2, hO⟩ := own_ex.1 hO
  obtain ⟨wv2, hO⟩ := own_ex.1 hO
  obtain ⟨sv2, hO⟩ := own_ex.1 hO
  obtain ⟨e18, hO⟩ := own_pur.1 (own_sep.1 hO)
  have hO := own_seps.1 hO
  simp only [putO, e18]
  simp only [Act.put, List.setIfInBounds_toArray, List.set_cons_zero, List.set_cons_succ]
  simp only [Exit.then]
  clear hD e18
  replace hS := hS.trans hS10
  clear hS10
  go_wp2
  go_ret
  refine ⟨f, rfl, ?_, hS⟩
  rw [HSS.out, HTT.out] at hO
  obtain ⟨NA, nc, hov⟩ := (owns_rd (own_at hO (k := 2) rfl)).slice
  subst hov
  have hcap : NA = none → nc = 0 := fun hA => owns_nilcap (own_at hO (k := 2) rfl) hA
  obtain ⟨NB, nb, hob⟩ := (owns_rd (own_at hO (k := 3) rfl)).slice
  subst hob
  have h1 := rdG_owns (own_order [2, 5] hO rfl)
  have h2 := rdG_owns (own_order [3, 0] h1 rfl)
  have h3 : Own w10 (rengP f E :: _) := reng_open.2 ⟨d2, .slice NA we.length nc, .slice NB ws.length nb, we, ws, _, ⟨HK.out.1, ⟨fun A' n' c' e6 hA => (by cases e6; exact hcap hA), ⟨NA, nc, rfl, List.mem_cons_of_mem _ (List.mem_cons_self ..)⟩, fun y hy => let ⟨A', c', e6, h6⟩ := HK.out.2.1.beh y hy; ⟨A', c', e6, List.mem_cons_of_mem _ (List.mem_cons_of_mem _ h6)⟩⟩, ⟨⟨NB, nb, rfl, List.mem_cons_self ..⟩, fun y hy => let ⟨A', c', e6, h6⟩ := HK.out.2.2.sets y hy; ⟨A', c', e6, List.mem_cons_of_mem _ (List.mem_cons_of_mem _ h6)⟩, HK.out.2.2.key, HK.out.2.2.nod, HK.out.2.2.look⟩⟩, own_order [1, 1, 0] h2 rfl⟩
  exact own_swap (reng_open.2 ⟨q, .slice A we.length c, .slice B ws.length cb, we, ws, g, HK.out, own_order [2, 1, 1] h3 rfl⟩)
end
end Go.Proofs.YtlmkcnkidkoilaaGreat.H
set_option linter.unusedVariables false
set_option linter.unusedSimpArgs false
set_option maxRecDepth 100000
namespace Go.Proofs.YtlmkcnkidkoilaaGreat.H
open Go.RowKit
theorem rwrites_v (w : World) (L : List HP) (a0 a1 : Int) (s : ByteArray) (i : Nat) {r : Bool} (hr : wrB ⟨a0, a1, s⟩ i = r) (h0 : 0 ≤ a1 ∧ a1 < 32 ∧ s.size ≤ 32) (hi : i ≤ 32) (hO : Own w L) : Calls Tryz.prog 118 #[.agg #[.int .i64 a0, .int .i64 a1, .string s], .int .i64 i] w fun e w' => e = .returned (.bool r) ∧ Own w' L ∧ Same w w' := by
  have h := rwrites_c w L a0 a1 s i h0.1 h0.2.1 h0.2.2 hi hO
  rw [hr] at h
  exact h
theorem over_sym (p q : Pat) : overB p q = overB q p := by
  unfold overB
  rw [Bool.eq_iff_iff]
  simp only [Bool.and_eq_true, decide_eq_true_eq]
  constructor <;> (rintro ⟨⟨⟨⟨h1, h2⟩, h3⟩, h4⟩, h5⟩; exact ⟨⟨⟨⟨h2, h1⟩, h3.symm⟩, h5⟩, h4⟩)
theorem over_yes {p q : Pat} {k : Nat} (hp : rightB p = true) (hq : rightB q = true) (hb : p.blk = q.blk) (h1 : wrB p k = true) (h2 : wrB q k = true) : overB p q = true := by
  simp only [wrB, Bool.and_eq_true, decide_eq_true_eq] at h1 h2
  simp only [overB, Bool.and_eq_true, decide_eq_true_eq]
  exact ⟨⟨⟨⟨hp, hq⟩, hb⟩, by omega⟩, by omega⟩
theorem over_none {p q : Pat} (hp : rightB p = true) (hq : rightB q = true) (h : ∀ j, j < 32 → ¬ (wrB p j = true ∧ wrB q j = true)) : overB p q = false := by
  obtain ⟨p1, p2, p3, p4, p5, p6⟩ := rightB_iff.1 hp
  obtain ⟨q1, q2, q3, q4, q5, q6⟩ := rightB_iff.1 hq
  cases e : overB p q with
  | false => rfl
  | true =>
    exfalso
    simp only [overB, Bool.and_eq_true, decide_eq_true_eq] at e
    obtain ⟨⟨⟨_, _⟩, e1⟩, e2⟩ := e
    refine h (max p.off q.off).toNat (by omega) ?_
    simp only [wrB, Bool.and_eq_true, decide_eq_true_eq]
    omega
theorem none_step {f : Nat → Prop} {k : Nat} (h : ∀ j, j < k → ¬ f j) (hk : ¬ f k) : ∀ j, j < k + 1 → ¬ f j := fun j hj => by
  rcases Nat.lt_or_ge j k with h3 | h3
  · exact h j h3
  · obtain rfl : j = k := by omega
    exact hk
/-- What holds at each round of the reference's Overlap. -/
def ROverInv (L : List HP) (w0 : World) (p q : Pat) (k : Nat) (wr : World) : Prop :=
  (∀ j, j < k → ¬ (wrB p j = true ∧ wrB q j = true)) ∧ Own wr L ∧ Same w0 wr
set_option maxHeartbeats 800000 in
theorem rover_c (w : World) (L : List HP) (a0 a1 b0 b1 : Int) (s t : ByteArray) (hO : Own w L) :
    Calls Tryz.prog 97 #[.agg #[.int .i64 a0, .int .i64 a1, .string s], .agg #[.int .i64 b0, .int .i64 b1, .string t]] w (Ret w (.bool (overB ⟨a0, a1, s⟩ ⟨b0, b1, t⟩)) L) := by
  by_cases hall : rightB ⟨a0, a1, s⟩ = true ∧ rightB ⟨b0, b1, t⟩ = true ∧ a0 = b0
  · obtain ⟨hR, hR2, rfl⟩ := hall
    obtain ⟨p1, p2, p3, p4, p5, p6⟩ := rightB_iff.1 hR
    obtain ⟨q1, q2, q3, q4, q5, q6⟩ := rightB_iff.1 hR2
    simp only at p1 p2 p3 p4 p5 p6 q1 q2 q3 q4 q5 q6
    have hP : Hid (0 ≤ a1 ∧ a1 < 32 ∧ s.size ≤ 32) := ⟨p3, p4, by omega⟩
    have hQ : Hid (0 ≤ b1 ∧ b1 < 32 ∧ t.size ≤ 32) := ⟨q3, q4, by omega⟩
    have HR := Lib.hid hR
    have HR2 := Lib.hid hR2
    clear p1 p2 p3 p4 p5 p6 q1 q2 q3 q4 q5 q6 hR hR2
    go_enter Tryz.func97, Tryz.ntmps97
    go_wp2_with (first | (refine own_box_agg (x := .tmp 0) rfl rfl rfl hO ?_; clear hO; intro b w1 hO hS1) | (refine own_box_agg (x := .tmp 1) rfl rfl rfl hO ?_; clear hO; intro b' w2 hO hS2) | (apply own_loadrow rfl rfl rfl; (first | exact row_pat); exact sz_pat; (first | exact own_get 0 hO rfl | exact own_get 1 hO rfl | exact own_get 2 hO rfl | exact own_get 3 hO rfl | exact own_get 4 hO rfl | exact own_get 5 hO rfl | exact own_get 6 hO rfl | exact own_get 7 hO rfl); (focus (simp; done)); (first | (simp only [List.drop_zero, List.drop_succ_cons, List.take_succ_cons, List.take_zero]; rfl) | rfl)) | (apply own_load1 rfl rfl rfl; (first | exact row_int | exact row_str | exact row_bool | exact row_u8 | exact row_bys | exact row_pats | exact row_err); (first | exact own_get 0 hO rfl | exact own_get 1 hO rfl | exact own_get 2 hO rfl | exact own_get 3 hO rfl | exact own_get 4 hO rfl | exact own_get 5 hO rfl | exact own_get 6 hO rfl | exact own_get 7 hO rfl); (first | (simp only [List.getElem?_toArray, List.getElem?_cons_succ, List.getElem?_cons_zero]; rfl) | rfl)) | (go_at_call 96; with_reducible refine (rright_v _ _ a0 a1 s HR.out hO).mono ?_; clear hO; rintro e w3 ⟨rfl, hO, hS3⟩) | (go_at_call 96; with_reducible refine (rright_v _ _ a0 b1 t HR2.out hO).mono ?_; clear hO; rintro e w4 ⟨rfl, hO, hS4⟩))
    go_loopw [5] (fun i wr => ∃ k : Nat, k ≤ 32 ∧ i = .int .i64 k ∧ ROverInv (pts b' (.cells #[.int .i64 a0, .int .i64 b1, .string t] 64) :: pts b (.cells #[.int .i64 a0, .int .i64 a1, .string s] 64) :: L) w ⟨a0, a1, s⟩ ⟨a0, b1, t⟩ k wr) (fun i _ => 32 - (intOf i).toNat)
    case atStart => exact ⟨0, Nat.zero_le _, rfl, fun j hj => by omega, hO, hS1.trans (hS2.trans (hS3.trans hS4))⟩
    case round =>
      obtain ⟨k, hk, rfl, hnone, hO, hS⟩ := hrel
      have HN := Lib.hid hnone
      clear hnone
      by_cases hlt : k < 32
      · by_cases h1 : wrB ⟨a0, a1, s⟩ k = true
        · by_cases h2 : wrB ⟨a0, b1, t⟩ k = true
          · have H1 := Lib.hid h1
            have H2 := Lib.hid h2
            clear h1 h2
            go_wp2_with (first | (apply own_loadrow rfl rfl rfl; (first | exact row_pat); exact sz_pat; (first | exact own_get 0 hO rfl | exact own_get 1 hO rfl | exact own_get 2 hO rfl | exact own_get 3 hO rfl | exact own_get 4 hO rfl | exact own_get 5 hO rfl | exact own_get 6 hO rfl | exact own_get 7 hO rfl); (focus (simp; done)); (first | (simp only [List.drop_zero, List.drop_succ_cons, List.take_succ_cons, List.take_zero]; rfl) | rfl)) | (go_at_call 118; with_reducible refine (rwrites_v _ _ a0 a1 s k H1.out hP.out (by omega) hO).mono ?_; clear hO; rintro e w5 ⟨rfl, hO, hS5⟩) | (go_at_call 118; with_reducible refine (rwrites_v _ _ a0 b1 t k H2.out hQ.out (by omega) hO).mono ?_; clear hO; rintro e w6 ⟨rfl, hO, hS6⟩))
            go_ret
            exact ⟨congrArg Ending.returned (congrArg Value.bool (over_yes HR.out HR2.out rfl H1.out H2.out).symm), own_drop (own_drop hO), hS.trans (hS5.trans hS6)⟩
          · have h2 : wrB ⟨a0, b1, t⟩ k = false := by simpa using h2
            have H1 := Lib.hid h1
            have H2 := Lib.hid h2
            clear h1 h2
            go_wp2_with (first | (apply own_loadrow rfl rfl rfl; (first | exact row_pat); exact sz_pat; (first | exact own_get 0 hO rfl | exact own_get 1 hO rfl | exact own_get 2 hO rfl | exact own_get 3 hO rfl | exact own_get 4 hO rfl | exact own_get 5 hO rfl | exact own_get 6 hO rfl | exact own_get 7 hO rfl); (focus (simp; done)); (first | (simp only [List.drop_zero, List.drop_succ_cons, List.take_succ_cons, List.take_zero]; rfl) | rfl)) | (go_at_call 118; with_reducible refine (rwrites_v _ _ a0 a1 s k H1.out hP.out (by omega) hO).mono ?_; clear hO; rintro e w5 ⟨rfl, hO, hS5⟩) | (go_at_call 118; with_reducible refine (rwrites_v _ _ a0 b1 t k H2.out hQ.out (by omega) hO).mono ?_; clear hO; rintro e w6 ⟨rfl, hO, hS6⟩))
            go_roundw
            case rel => exact ⟨k + 1, by omega, by go_num, none_step HN.out (fun h => by rw [H2.out] at h; exact absurd h.2 (by simp)), hO, hS.trans (hS5.trans hS6)⟩
            case measure => simp [intOf]; omega
        · have h1 : wrB ⟨a0, a1, s⟩ k = false := by simpa using h1
          have H1 := Lib.hid h1
          clear h1
          go_wp2_with (first | (apply own_loadrow rfl rfl rfl; (first | exact row_pat); exact sz_pat; (first | exact own_get 0 hO rfl | exact own_get 1 hO rfl | exact own_get 2 hO rfl | exact own_get 3 hO rfl | exact own_get 4 hO rfl | exact own_get 5 hO rfl | exact own_get 6 hO rfl | exact own_get 7 hO rfl); (focus (simp; done)); (first | (simp only [List.drop_zero, List.drop_succ_cons, List.take_succ_cons, List.take_zero]; rfl) | rfl)) | (go_at_call 118; with_reducible refine (rwrites_v _ _ a0 a1 s k H1.out hP.out (by omega) hO).mono ?_; clear hO; rintro e w5 ⟨rfl, hO, hS5⟩))
          go_roundw
          case rel => exact ⟨k + 1, by omega, by go_num, none_step HN.out (fun h => by rw [H1.out] at h; exact absurd h.1 (by simp)), hO, hS.trans hS5⟩
          case measure => simp [intOf]; omega
      · go_wp2
        go_ret
        exact ⟨congrArg Ending.returned (congrArg Value.bool (over_none HR.out HR2.out (fun j hj => HN.out j (by omega))).symm), own_drop (own_drop hO), hS⟩
  · have hf : overB ⟨a0, a1, s⟩ ⟨b0, b1, t⟩ = false := by
      cases e : overB ⟨a0, a1, s⟩ ⟨b0, b1, t⟩ with
      | false => rfl
      | true =>
        simp only [overB, Bool.and_eq_true, decide_eq_true_eq] at e
        exact absurd ⟨e.1.1.1.1, e.1.1.1.2, e.1.1.2⟩ hall
    rw [hf]
    have key : ∀ (r1 r2 : Bool), rightB ⟨a0, a1, s⟩ = r1 → rightB ⟨b0, b1, t⟩ = r2 → (r1 = false ∨ (r1 = true ∧ r2 = false) ∨ (r1 = true ∧ r2 = true ∧ (a0 == b0) = false ∧ (a0 != b0) = true)) →
        Calls Tryz.prog 97 #[.agg #[.int .i64 a0, .int .i64 a1, .string s], .agg #[.int .i64 b0, .int .i64 b1, .string t]] w (Ret w (.bool false) L) := by
      intro r1 r2 hR hR2 hc
      have HR := Lib.hid hR
      have HR2 := Lib.hid hR2
      clear hR hR2 hf hall
      rcases hc with rfl | ⟨rfl, rfl⟩ | ⟨rfl, rfl, h0, h0'⟩
      · go_enter Tryz.func97, Tryz.ntmps97
        go_wp2_with (first | (refine own_box_agg (x := .tmp 0) rfl rfl rfl hO ?_; clear hO; intro b w1 hO hS1) | (refine own_box_agg (x := .tmp 1) rfl rfl rfl hO ?_; clear hO; intro b' w2 hO hS2) | (apply own_loadrow rfl rfl rfl; (first | exact row_pat); exact sz_pat; (first | exact own_get 0 hO rfl | exact own_get 1 hO rfl | exact own_get 2 hO rfl | exact own_get 3 hO rfl | exact own_get 4 hO rfl | exact own_get 5 hO rfl | exact own_get 6 hO rfl | exact own_get 7 hO rfl); (focus (simp; done)); (first | (simp only [List.drop_zero, List.drop_succ_cons, List.take_succ_cons, List.take_zero]; rfl) | rfl)) | (apply own_load1 rfl rfl rfl; (first | exact row_int | exact row_str | exact row_bool | exact row_u8 | exact row_bys | exact row_pats | exact row_err); (first | exact own_get 0 hO rfl | exact own_get 1 hO rfl | exact own_get 2 hO rfl | exact own_get 3 hO rfl | exact own_get 4 hO rfl | exact own_get 5 hO rfl | exact own_get 6 hO rfl | exact own_get 7 hO rfl); (first | (simp only [List.getElem?_toArray, List.getElem?_cons_succ, List.getElem?_cons_zero]; rfl) | rfl)) | (go_at_call 96; with_reducible refine (rright_v _ _ a0 a1 s HR.out hO).mono ?_; clear hO; rintro e w3 ⟨rfl, hO, hS3⟩))
        go_ret
        exact ⟨rfl, own_drop (own_drop hO), hS1.trans (hS2.trans hS3)⟩
      all_goals
        go_enter Tryz.func97, Tryz.ntmps97
        go_wp2_with (first | (refine own_box_agg (x := .tmp 0) rfl rfl rfl hO ?_; clear hO; intro b w1 hO hS1) | (refine own_box_agg (x := .tmp 1) rfl rfl rfl hO ?_; clear hO; intro b' w2 hO hS2) | (apply own_loadrow rfl rfl rfl; (first | exact row_pat); exact sz_pat; (first | exact own_get 0 hO rfl | exact own_get 1 hO rfl | exact own_get 2 hO rfl | exact own_get 3 hO rfl | exact own_get 4 hO rfl | exact own_get 5 hO rfl | exact own_get 6 hO rfl | exact own_get 7 hO rfl); (focus (simp; done)); (first | (simp only [List.drop_zero, List.drop_succ_cons, List.take_succ_cons, List.take_zero]; rfl) | rfl)) | (apply own_load1 rfl rfl rfl; (first | exact row_int | exact row_str | exact row_bool | exact row_u8 | exact row_bys | exact row_pats | exact row_err); (first | exact own_get 0 hO rfl | exact own_get 1 hO rfl | exact own_get 2 hO rfl | exact own_get 3 hO rfl | exact own_get 4 hO rfl | exact own_get 5 hO rfl | exact own_get 6 hO rfl | exact own_get 7 hO rfl); (first | (simp only [List.getElem?_toArray, List.getElem?_cons_succ, List.getElem?_cons_zero]; rfl) | rfl)) | (go_at_call 96; with_reducible refine (rright_v _ _ a0 a1 s HR.out hO).mono ?_; clear hO; rintro e w3 ⟨rfl, hO, hS3⟩) | (go_at_call 96; with_reducible refine (rright_v _ _ b0 b1 t HR2.out hO).mono ?_; clear hO; rintro e w4 ⟨rfl, hO, hS4⟩))
        go_ret
        exact ⟨rfl, own_drop (own_drop hO), hS1.trans (hS2.trans (hS3.trans hS4))⟩
    refine key _ _ rfl rfl ?_
    cases h1 : rightB ⟨a0, a1, s⟩ with
    | false => exact .inl rfl
    | true =>
      cases h2 : rightB ⟨b0, b1, t⟩ with
      | false => exact .inr (.inl ⟨rfl, rfl⟩)
      | true =>
        have h3 : ¬ a0 = b0 := fun h => hall ⟨h1, h2, h⟩
        exact .inr (.inr ⟨rfl, rfl, by simpa using h3, by simpa using h3⟩)
end Go.Proofs.YtlmkcnkidkoilaaGreat.H
