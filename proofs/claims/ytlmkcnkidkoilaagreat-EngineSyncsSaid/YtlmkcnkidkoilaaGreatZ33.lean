/- Fork of the program's engine. -/
import Derived.Test.YtlmkcnkidkoilaaGreatZ22
set_option linter.unusedVariables false
set_option linter.unusedSimpArgs false
set_option maxRecDepth 100000
namespace Go.Proofs.YtlmkcnkidkoilaaGreat.H
open Go.RowKit
/-- What is read alone may be read twice. -/
theorem rdG_share {w : World} {L : List HP} {l : List RdI} (h : Own w (rdG l :: L)) : Own w (rdG l :: rdG l :: L) := by
  obtain ⟨p1, q1, p2, q2, h0, hB, h1, h2, h3, h4, d1, d2, d3, d4, d5⟩ := own_cons.1 h
  have hS : rdG l nul (mrg p1 q1) := fun w' e1 e2 x hx => h0 w' (mrg_le e2) (mrg_le_right d4.agr e2) x hx
  have hO : Own w ((fun p q => p = nul ∧ rdG l p q) :: L) := own_cons.2 ⟨nul, mrg p1 q1, p2, q2, ⟨rfl, hS⟩, hB, nul_le _, le_mrg h1 h2, h3, h4, nul_dis _, nul_dis _, mrg_dis.2 ⟨d1.symm, d3⟩, nul_dis _, d5⟩
  have hO2 := own_dup hO (fun p q h => h.1)
  have hO3 := own_head hO2 (B := rdG l) (fun p q _ _ h => h.2)
  exact own_swap (own_head (own_swap hO3) (B := rdG l) (fun p q _ _ h => h.2))
/-- What the copied map has: those that were met. -/
structure CpOk (fs : List (Int × Value)) (es : Array MapEntry) (seen : Array Nat) (ff : List (Int × Value)) : Prop where
  of : ∀ q ∈ ff, mget fs q.1 = some q.2
  on : ∀ x ∈ es.toList, seen.contains x.born = true → ∃ k, x.key = .int .i64 k ∧ mget ff k = some x.val
theorem cp_start (fs : List (Int × Value)) (es : Array MapEntry) : CpOk fs es #[] [] := ⟨fun q hq => by simp at hq, fun x _ h => by simp at h⟩
theorem entry_get {es : Array MapEntry} {clock : Nat} {fs : List (Int × Value)} (hM : MapOk es clock fs) {x : MapEntry} (hx : x ∈ es.toList) : ∃ k, x.key = .int .i64 k ∧ mget fs k = some x.val := by
  obtain ⟨j, hj⟩ := List.getElem?_of_mem hx
  obtain ⟨k, e1, e2⟩ := hM.at_ hj
  exact ⟨k, e1, mget_at hM.nod e2⟩
theorem cp_step {es : Array MapEntry} {clock : Nat} {fs : List (Int × Value)} (hM : MapOk es clock fs) {seen : Array Nat} {ff : List (Int × Value)} (h : CpOk fs es seen ff) {k : Int} {val : Value} {born : Nat} (he : (⟨.int .i64 k, val, born⟩ : MapEntry) ∈ es.toList) : CpOk fs es (seen.push born) (mset ff k val) where
  of := fun q hq => by
    rcases mem_mset hq with rfl | hq
    · obtain ⟨k', e1, e2⟩ := entry_get hM he
      have e1 : Value.int .i64 k = .int .i64 k' := e1
      injection e1 with _ e3
      rw [e3]; exact e2
    · exact h.of q hq
  on := fun x hx hs => by
    obtain ⟨k', e1, e2⟩ := entry_get hM hx
    refine ⟨k', e1, ?_⟩
    rw [mget_mset]
    by_cases e : k' = k
    · rw [if_pos e]
      obtain ⟨k2, g1, g2⟩ := entry_get hM he
      have g1 : Value.int .i64 k = .int .i64 k2 := g1
      injection g1 with _ g3
      have g2 : mget fs k2 = some val := g2
      rw [← g3, ← e, e2] at g2
      exact g2.symm
    · rw [if_neg e]
      have hs2 : seen.contains x.born = true := by
        rw [Array.contains_push] at hs
        cases h2 : seen.contains x.born with
        | true => rfl
        | false =>
          rw [h2, Bool.false_or, beq_iff_eq] at hs
          have hxe := born_inj hM hx he hs
          subst hxe
          have e1 : Value.int .i64 k = .int .i64 k' := e1
          injection e1 with _ e3
          exact absurd e3.symm e
      obtain ⟨k3, g1, g2⟩ := h.on x hx hs2
      rw [e1] at g1
      injection g1 with _ g3
      rw [g3]; exact g2
theorem cp_end {n : Nat} {s : Nat → List Int} {es : Array MapEntry} {clock : Nat} {fs ff : List (Int × Value)} {g : List RdI} {seen : Array Nat} (hM : MapOk es clock fs) (hk : SOk n s fs g) (h : CpOk fs es seen ff) (hall : ∀ x ∈ es.toList, seen.contains x.born = true) : SOk n s ff g where
  key := fun q hq => by
    have h1 := h.of q hq
    rcases map_cases fs q.1 with ⟨j, v, hj⟩ | hno
    · obtain ⟨i, h2, h3⟩ := hk.key _ (List.mem_of_getElem? hj)
      exact ⟨i, h2, h3⟩
    · rw [mget_none hno] at h1; cases h1
  val := fun i hi => by
    have e : mget ff i = mget fs i := by
      rcases map_cases fs (i : Int) with ⟨t, v, ht⟩ | hno
      · have hlt : t < es.toList.length := by rw [Array.length_toList, hM.size]; exact (List.getElem?_eq_some_iff.1 ht).1
        obtain ⟨k, e1, e2⟩ := hM.at_ (List.getElem?_eq_getElem hlt)
        rw [ht] at e2
        obtain ⟨k', g1, g2⟩ := h.on _ (List.getElem_mem hlt) (hall _ (List.getElem_mem hlt))
        rw [e1] at g1
        injection g1 with _ g3
        have ek : k = (i : Int) := by cases e2; rfl
        rw [← g3, ek] at g2
        have e3 := mget_at hM.nod ht
        rw [g2, e3]
        cases e2
        rfl
      · rw [mget_none hno, mget_none (fun q hq e => ?_)]
        have h1 := h.of q hq
        rw [e, mget_none hno] at h1
        cases h1
    rw [e]
    exact hk.val i hi
  out := hk.out
/-- What is owned in Fork's loop. -/
abbrev efL (r f d2 b2 e d bs : Nat) (wv2 wv : Value) (n : Nat) (ss : List Value) (es : Array MapEntry) (clock c0 : Nat) (seen : Array Nat) (ff : List (Int × Value)) (m : List Blk) (next : Nat) (g : List RdI) (L : List HP) : List HP :=
  pts r (.mapIter (some bs) clock seen c0) :: pts bs (.map es clock) :: mapP b2 ff :: pts f (.cells #[.pointer (some ⟨d2, 0, none⟩), wv2, .map (some b2), .int .i64 next] 72) :: owns 76 5 wv2 n ss :: diskP d2 m :: pts e (.cells #[.pointer (some ⟨d, 0, none⟩), wv, .map (some bs), .int .i64 next] 72) :: diskP d m :: rdG g :: rdG g :: L
theorem fork_v (w : World) (L : List HP) (d : Nat) (m : List Blk) (hO : Own w (diskP d m :: L)) (h0 : 0 < m.length) (hlim : ∀ b ∈ m, b.vs.length ≤ 1000000) : Calls Tryz.prog 31 #[.pointer (some ⟨d, 0, none⟩)] w (RetX w (fun v : Value => v) (fun v => (ex fun b : Nat => sep (pur (v = .pointer (some ⟨b, 0, none⟩))) (diskP b m)) :: diskP d m :: L)) := by
  refine (fork_ok w L d m hO h0 hlim).mono ?_
  rintro e w' ⟨f, rfl, h1, h2⟩
  exact ⟨_, rfl, own_ex.2 ⟨f, own_sep.2 (own_pur.2 ⟨rfl, h1⟩)⟩, h2⟩
section
variable (w : World) (L : List HP) (e : Nat) (E : Eng)
set_option maxHeartbeats 6400000 in
theorem efork_c (hO : Own w (engP e E :: L)) (hk : E.Ok) (hlim : ∀ b ∈ E.m, b.vs.length ≤ 1000000) : Calls Tryz.prog 10 #[.pointer (some ⟨e, 0, none⟩)] w (RetX w (fun f : Nat => .pointer (some ⟨f, 0, none⟩)) (fun f => engP f E :: engP e E :: L)) := by
  have HLIM := Lib.hid hlim
  have H0 : Hid (0 < E.m.length) := hk.pos
  have hS := Same.refl w
  obtain ⟨d, wv, bs, fs, we, g, ⟨h1, h2, h3⟩, hO⟩ := eng_open.1 hO
  have HK := Lib.hid (And.intro h1 (And.intro h2 h3))
  obtain ⟨A, c, rfl, hm⟩ := h2.rd
  have HMEM := Lib.hid hm
  have HWL : Hid (we.length ≤ 1000000) := by have := hk.len; show _ ≤ _; rw [← h1, List.length_map] at this; omega
  have HONE : Hid (∀ u ∈ cellsW we, u.oneCell' = true) := Lib.hid (cellsW_one fun x hx => by obtain ⟨A2, c2, e2, _⟩ := h2.beh x hx; rw [e2]; rfl)
  obtain ⟨SS, hSS⟩ : ∃ SS, SS = cellsW we := ⟨_, rfl⟩
  have HSS := Lib.hid hSS
  rw [← hSS] at HMEM HONE
  clear hlim hk h1 h2 h3 hm hSS
  have hO := rdG_share (own_order [3] hO rfl)
  have hO : Own w ([diskP d E.m, pts e (.cells #[.pointer (some ⟨d, 0, none⟩), .slice A we.length c, .map (some bs), .int .i64 E.next] 72), mapP bs fs, rdG g, rdG g] ++ L) := own_order [3, 2, 2] hO rfl
  go_enter Tryz.func10, Tryz.ntmps10
  go_upto_region 3 with fail
  refine wp_region_own (α := Nat → Value) (fun x => .pointer (some ⟨e, 0, none⟩) :: .pointer (some ⟨e, 0, none⟩) :: .pointer (some ⟨e, 0, none⟩) :: .pointer (some ⟨e, 0, none⟩) :: .pointer (some ⟨d, 0, none⟩) :: x 5 :: .agg #[x 5] :: .pointer (some ⟨e, 0, none⟩) :: .pointer (some ⟨e, 0, none⟩) :: .pointer (some ⟨e, 1, none⟩) :: .slice A we.length c :: x 11 :: x 12 :: .pointer (some ⟨e, 0, none⟩) :: .pointer (some ⟨e, 0, none⟩) :: .pointer (some ⟨e, 3, none⟩) :: .int .i64 E.next :: .agg #[x 5, x 11, x 12, .int .i64 E.next] :: x 18 :: x 18 :: []) (fun D x => ([diskP d E.m, pts e (.cells #[.pointer (some ⟨d, 0, none⟩), .slice A we.length c, .map (some bs), .int .i64 E.next] 72), mapP bs fs, rdG g, rdG g] ++ L) ++ owL ([(5, some 18, fun v => ex fun b : Nat => sep (pur (v = .pointer (some ⟨b, 0, none⟩))) (diskP b E.m)), (11, some 18, fun v => owns 76 5 v we.length SS), (12, some 18, fun v => ex fun b => sep (pur (v = .map (some b))) (mapP b [])), (18, none, fun v => ex fun f => ex fun d2 : Nat => ex fun wv2 => ex fun b2 => sep (pur (v = .pointer (some ⟨f, 0, none⟩))) (seps [pts f (.cells #[.pointer (some ⟨d2, 0, none⟩), wv2, .map (some b2), .int .i64 E.next] 72), diskP d2 E.m, owns 76 5 wv2 we.length SS, mapP b2 []]))]) D x) w (fun _ => undef) 44 (fun _ => rfl) mixed (by kernel_rfl) rfl (by rw [owL_none, List.append_nil]; exact own_heap hO (fun _ _ h => h)) (Same.drew _) (fun _ _ _ _ hd h => ⟨hd ▸ h.1, h.2⟩) ?_ ?_
  · refine ⟨?_, ?_, ?_, ?_, ?_, ?_, ?_, ?_, ?_, ?_, ?_, ?_, ?_, ?_, ?_, ?_, ?_, ?_, ?_, ?_, trivial⟩
    · (refine fs_pure (fun _ _ => rfl) (fun D x hD hcl hp => ?_); simp only [putO]; simp only [Act.put, List.setIfInBounds_toArray, List.set_cons_zero, List.set_cons_succ]; first | exact y_skip rfl | exact y_run rfl (by intro w h; go_simp; first | done | rfl))
    · (refine fs_pure (fun _ _ => rfl) (fun D x hD hcl hp => ?_); simp only [putO]; simp only [Act.put, List.setIfInBounds_toArray, List.set_cons_zero, List.set_cons_succ]; first | exact y_skip rfl | exact y_run rfl (by intro w h; go_simp; first | done | rfl))
    · (refine fs_pure (fun _ _ => rfl) (fun D x hD hcl hp => ?_); simp only [putO]; simp only [Act.put, List.setIfInBounds_toArray, List.set_cons_zero, List.set_cons_succ]; first | exact y_skip rfl | exact y_run rfl (by intro w h; go_simp; first | done | rfl))
    · (refine fs_pure (fun _ _ => rfl) (fun D x hD hcl hp => ?_); simp only [putO]; simp only [Act.put, List.setIfInBounds_toArray, List.set_cons_zero, List.set_cons_succ]; first | exact y_skip rfl | exact y_run rfl (by intro w h; go_simp; first | done | rfl))
    · (refine fs_pure (fun _ _ => rfl) (fun D x hD hcl hp => ?_); simp only [putO]; simp only [Act.put, List.setIfInBounds_toArray, List.set_cons_zero, List.set_cons_succ]; first | exact y_skip rfl | exact (y_load1 (b := e) (off := 0) (cs := #[.pointer (some ⟨d, 0, none⟩), .slice A we.length c, .map (some bs), .int .i64 E.next]) (t := 72) (v := .pointer (some ⟨d, 0, none⟩)) rfl rfl rfl row_dptr (fun w h => own_get 1 h.1 rfl) rfl) | exact y_run rfl (by intro w h; go_simp; first | done | rfl))
    · (refine @fs_new _ _ _ _ _ _ _ _ _ _ _ _ [] (fun v => v) rfl rfl (by kernel_rfl) (by kernel_rfl) (by intro j; rcases j with _ | j; (focus (first | exact .inr fun _ _ => rfl | exact .inl (by kernel_rfl))); rcases j with _ | j; (focus (first | exact .inr fun _ _ => rfl | exact .inl (by kernel_rfl))); rcases j with _ | j; (focus (first | exact .inr fun _ _ => rfl | exact .inl (by kernel_rfl))); rcases j with _ | j; (focus (first | exact .inr fun _ _ => rfl | exact .inl (by kernel_rfl))); rcases j with _ | j; (focus (first | exact .inr fun _ _ => rfl | exact .inl (by kernel_rfl))); rcases j with _ | j; (focus (first | exact .inr fun _ _ => rfl | exact .inl (by kernel_rfl))); rcases j with _ | j; (focus (first | exact .inr fun _ _ => rfl | exact .inl (by kernel_rfl))); rcases j with _ | j; (focus (first | exact .inr fun _ _ => rfl | exact .inl (by kernel_rfl))); rcases j with _ | j; (focus (first | exact .inr fun _ _ => rfl | exact .inl (by kernel_rfl))); rcases j with _ | j; (focus (first | exact .inr fun _ _ => rfl | exact .inl (by kernel_rfl))); rcases j with _ | j; (focus (first | exact .inr fun _ _ => rfl | exact .inl (by kernel_rfl))); rcases j with _ | j; (focus (first | exact .inr fun _ _ => rfl | exact .inl (by kernel_rfl))); rcases j with _ | j; (focus (first | exact .inr fun _ _ => rfl | exact .inl (by kernel_rfl))); rcases j with _ | j; (focus (first | exact .inr fun _ _ => rfl | exact .inl (by kernel_rfl))); rcases j with _ | j; (focus (first | exact .inr fun _ _ => rfl | exact .inl (by kernel_rfl))); rcases j with _ | j; (focus (first | exact .inr fun _ _ => rfl | exact .inl (by kernel_rfl))); rcases j with _ | j; (focus (first | exact .inr fun _ _ => rfl | exact .inl (by kernel_rfl))); rcases j with _ | j; (focus (first | exact .inr fun _ _ => rfl | exact .inl (by kernel_rfl))); rcases j with _ | j; (focus (first | exact .inr fun _ _ => rfl | exact .inl (by kernel_rfl))); rcases j with _ | j; (focus (first | exact .inr fun _ _ => rfl | exact .inl (by kernel_rfl))); exact .inr fun _ _ => rfl) (fun _ _ => rfl) ?_; intro D x u hD hcl hp hO hS N hN; simp only [putO]; simp only [Act.put, List.setIfInBounds_toArray, List.set_cons_zero, List.set_cons_succ]; refine ev_call rfl (by go_simp; first | done | exact ⟨rfl, rfl⟩) ?_; refine Calls.mono (fork_v _ _ d E.m hO H0.out HLIM.out) ?_; rintro e u' ⟨v, rfl, hO', hS'⟩; exact ⟨_, rfl, hN _ v u' rfl rfl hO' hS'⟩)
    · refine fs_pure (fun _ _ => rfl) (fun D x hD hcl hp => ?_)
      simp only [putO]
      simp only [Act.put, List.setIfInBounds_toArray, List.set_cons_zero, List.set_cons_succ]
      refine y_run rfl (fun w h => ?_)
      have h18 := behL_ok hcl hD (j := 18) (by kernel_rfl)
      obtain ⟨L5, o5⟩ := ow_gets 0 h.1 rfl (dep_yes hp rfl) h18
      obtain ⟨b5, o5⟩ := own_ex.1 o5
      have e5 := (own_pur.1 (own_sep.1 o5)).1
      clear o5 hp hcl
      simp only [e5]
      go_simp
      first | done | rfl
    · (refine fs_pure (fun _ _ => rfl) (fun D x hD hcl hp => ?_); simp only [putO]; simp only [Act.put, List.setIfInBounds_toArray, List.set_cons_zero, List.set_cons_succ]; first | exact y_skip rfl | exact y_run rfl (by intro w h; go_simp; first | done | rfl))
    · (refine fs_pure (fun _ _ => rfl) (fun D x hD hcl hp => ?_); simp only [putO]; simp only [Act.put, List.setIfInBounds_toArray, List.set_cons_zero, List.set_cons_succ]; first | exact y_skip rfl | exact y_run rfl (by intro w h; go_simp; first | done | rfl))
    · (refine fs_pure (fun _ _ => rfl) (fun D x hD hcl hp => ?_); simp only [putO]; simp only [Act.put, List.setIfInBounds_toArray, List.set_cons_zero, List.set_cons_succ]; first | exact y_skip rfl | exact y_run rfl (by intro w h; go_simp; first | done | rfl))
    · (refine fs_pure (fun _ _ => rfl) (fun D x hD hcl hp => ?_); simp only [putO]; simp only [Act.put, List.setIfInBounds_toArray, List.set_cons_zero, List.set_cons_succ]; first | exact y_skip rfl | exact (y_load1 (b := e) (off := 1) (cs := #[.pointer (some ⟨d, 0, none⟩), .slice A we.length c, .map (some bs), .int .i64 E.next]) (t := 72) (v := .slice A we.length c) rfl rfl rfl row_ents (fun w h => own_get 1 h.1 rfl) rfl) | exact y_run rfl (by intro w h; go_simp; first | done | rfl))
    · (refine @fs_new _ _ _ _ _ _ _ _ _ _ _ _ [] (fun v => v) rfl rfl (by kernel_rfl) (by kernel_rfl) (by intro j; rcases j with _ | j; (focus (first | exact .inr fun _ _ => rfl | exact .inl (by kernel_rfl))); rcases j with _ | j; (focus (first | exact .inr fun _ _ => rfl | exact .inl (by kernel_rfl))); rcases j with _ | j; (focus (first | exact .inr fun _ _ => rfl | exact .inl (by kernel_rfl))); rcases j with _ | j; (focus (first | exact .inr fun _ _ => rfl | exact .inl (by kernel_rfl))); rcases j with _ | j; (focus (first | exact .inr fun _ _ => rfl | exact .inl (by kernel_rfl))); rcases j with _ | j; (focus (first | exact .inr fun _ _ => rfl | exact .inl (by kernel_rfl))); rcases j with _ | j; (focus (first | exact .inr fun _ _ => rfl | exact .inl (by kernel_rfl))); rcases j with _ | j; (focus (first | exact .inr fun _ _ => rfl | exact .inl (by kernel_rfl))); rcases j with _ | j; (focus (first | exact .inr fun _ _ => rfl | exact .inl (by kernel_rfl))); rcases j with _ | j; (focus (first | exact .inr fun _ _ => rfl | exact .inl (by kernel_rfl))); rcases j with _ | j; (focus (first | exact .inr fun _ _ => rfl | exact .inl (by kernel_rfl))); rcases j with _ | j; (focus (first | exact .inr fun _ _ => rfl | exact .inl (by kernel_rfl))); rcases j with _ | j; (focus (first | exact .inr fun _ _ => rfl | exact .inl (by kernel_rfl))); rcases j with _ | j; (focus (first | exact .inr fun _ _ => rfl | exact .inl (by kernel_rfl))); rcases j with _ | j; (focus (first | exact .inr fun _ _ => rfl | exact .inl (by kernel_rfl))); rcases j with _ | j; (focus (first | exact .inr fun _ _ => rfl | exact .inl (by kernel_rfl))); rcases j with _ | j; (focus (first | exact .inr fun _ _ => rfl | exact .inl (by kernel_rfl))); rcases j with _ | j; (focus (first | exact .inr fun _ _ => rfl | exact .inl (by kernel_rfl))); rcases j with _ | j; (focus (first | exact .inr fun _ _ => rfl | exact .inl (by kernel_rfl))); rcases j with _ | j; (focus (first | exact .inr fun _ _ => rfl | exact .inl (by kernel_rfl))); exact .inr fun _ _ => rfl) (fun _ _ => rfl) ?_; intro D x u hD hcl hp hO hS N hN; simp only [putO]; simp only [Act.put, List.setIfInBounds_toArray, List.set_cons_zero, List.set_cons_succ]; refine ev_call rfl (by go_simp; first | done | exact ⟨rfl, rfl⟩) ?_; refine Calls.mono (clone_e _ _ A we.length c SS hO (fun w' h => rdG_rd (own_at h (k := 3) rfl) HMEM.out) HONE.out HWL.out) ?_; rintro e u' ⟨v, rfl, hO', hS'⟩; exact ⟨_, rfl, hN _ v u' rfl rfl hO' hS'⟩)
    · (refine @fs_new _ _ _ _ _ _ _ _ _ _ _ _ [] (fun v => v) rfl rfl (by kernel_rfl) (by kernel_rfl) (by intro j; rcases j with _ | j; (focus (first | exact .inr fun _ _ => rfl | exact .inl (by kernel_rfl))); rcases j with _ | j; (focus (first | exact .inr fun _ _ => rfl | exact .inl (by kernel_rfl))); rcases j with _ | j; (focus (first | exact .inr fun _ _ => rfl | exact .inl (by kernel_rfl))); rcases j with _ | j; (focus (first | exact .inr fun _ _ => rfl | exact .inl (by kernel_rfl))); rcases j with _ | j; (focus (first | exact .inr fun _ _ => rfl | exact .inl (by kernel_rfl))); rcases j with _ | j; (focus (first | exact .inr fun _ _ => rfl | exact .inl (by kernel_rfl))); rcases j with _ | j; (focus (first | exact .inr fun _ _ => rfl | exact .inl (by kernel_rfl))); rcases j with _ | j; (focus (first | exact .inr fun _ _ => rfl | exact .inl (by kernel_rfl))); rcases j with _ | j; (focus (first | exact .inr fun _ _ => rfl | exact .inl (by kernel_rfl))); rcases j with _ | j; (focus (first | exact .inr fun _ _ => rfl | exact .inl (by kernel_rfl))); rcases j with _ | j; (focus (first | exact .inr fun _ _ => rfl | exact .inl (by kernel_rfl))); rcases j with _ | j; (focus (first | exact .inr fun _ _ => rfl | exact .inl (by kernel_rfl))); rcases j with _ | j; (focus (first | exact .inr fun _ _ => rfl | exact .inl (by kernel_rfl))); rcases j with _ | j; (focus (first | exact .inr fun _ _ => rfl | exact .inl (by kernel_rfl))); rcases j with _ | j; (focus (first | exact .inr fun _ _ => rfl | exact .inl (by kernel_rfl))); rcases j with _ | j; (focus (first | exact .inr fun _ _ => rfl | exact .inl (by kernel_rfl))); rcases j with _ | j; (focus (first | exact .inr fun _ _ => rfl | exact .inl (by kernel_rfl))); rcases j with _ | j; (focus (first | exact .inr fun _ _ => rfl | exact .inl (by kernel_rfl))); rcases j with _ | j; (focus (first | exact .inr fun _ _ => rfl | exact .inl (by kernel_rfl))); rcases j with _ | j; (focus (first | exact .inr fun _ _ => rfl | exact .inl (by kernel_rfl))); exact .inr fun _ _ => rfl) (fun _ _ => rfl) ?_; intro D x u hD hcl hp hO hS N hN; simp only [putO]; simp only [Act.put, List.setIfInBounds_toArray, List.set_cons_zero, List.set_cons_succ]; refine own_mkmap rfl rfl hO ?_; intro b3 w3 hO3 hS3; exact hN _ _ _ rfl rfl (own_ex.2 ⟨b3, own_sep.2 (own_pur.2 ⟨rfl, hO3⟩)⟩) hS3)
    · (refine fs_pure (fun _ _ => rfl) (fun D x hD hcl hp => ?_); simp only [putO]; simp only [Act.put, List.setIfInBounds_toArray, List.set_cons_zero, List.set_cons_succ]; first | exact y_skip rfl | exact y_run rfl (by intro w h; go_simp; first | done | rfl))
    · (refine fs_pure (fun _ _ => rfl) (fun D x hD hcl hp => ?_); simp only [putO]; simp only [Act.put, List.setIfInBounds_toArray, List.set_cons_zero, List.set_cons_succ]; first | exact y_skip rfl | exact y_run rfl (by intro w h; go_simp; first | done | rfl))
    · (refine fs_pure (fun _ _ => rfl) (fun D x hD hcl hp => ?_); simp only [putO]; simp only [Act.put, List.setIfInBounds_toArray, List.set_cons_zero, List.set_cons_succ]; first | exact y_skip rfl | exact y_run rfl (by intro w h; go_simp; first | done | rfl))
    · (refine fs_pure (fun _ _ => rfl) (fun D x hD hcl hp => ?_); simp only [putO]; simp only [Act.put, List.setIfInBounds_toArray, List.set_cons_zero, List.set_cons_succ]; first | exact y_skip rfl | exact (y_load1 (b := e) (off := 3) (cs := #[.pointer (some ⟨d, 0, none⟩), .slice A we.length c, .map (some bs), .int .i64 E.next]) (t := 72) (v := .int .i64 E.next) rfl rfl rfl row_int (fun w h => own_get 1 h.1 rfl) rfl) | exact y_run rfl (by intro w h; go_simp; first | done | rfl))
    · refine fs_pure (fun _ _ => rfl) (fun D x hD hcl hp => ?_)
      simp only [putO]
      simp only [Act.put, List.setIfInBounds_toArray, List.set_cons_zero, List.set_cons_succ]
      refine y_run rfl (fun w h => ?_)
      have h18 := dep_no hcl hD 18 rfl
      have h6 := dep_yes (j := 6) hp rfl
      obtain ⟨L5, o5⟩ := ow_gets 0 h.1 rfl (dep_yes (hcl 6 _ rfl h6) rfl) h18
      obtain ⟨L11, o11⟩ := ow_gets 1 h.1 rfl (dep_yes hp rfl) h18
      obtain ⟨L12, o12⟩ := ow_gets 2 h.1 rfl (dep_yes hp rfl) h18
      obtain ⟨A4, c4, e4⟩ := (owns_rd o11).slice
      obtain ⟨b5, o5⟩ := own_ex.1 o5
      have e5 := (own_pur.1 (own_sep.1 o5)).1
      obtain ⟨b12, o12⟩ := own_ex.1 o12
      have e12 := (own_pur.1 (own_sep.1 o12)).1
      clear o11 o5 o12 hp hcl
      simp only [e4, e5, e12]
      go_simp
      first | done | rfl
    · (refine @fs_new _ _ _ _ _ _ _ _ _ _ _ _ [(5, some 18, fun v => ex fun b : Nat => sep (pur (v = .pointer (some ⟨b, 0, none⟩))) (diskP b E.m)), (11, some 18, fun v => owns 76 5 v we.length SS), (12, some 18, fun v => ex fun b => sep (pur (v = .map (some b))) (mapP b []))] (fun v => v) rfl rfl (by kernel_rfl) (by kernel_rfl) (by intro j; rcases j with _ | j; (focus (first | exact .inr fun _ _ => rfl | exact .inl (by kernel_rfl))); rcases j with _ | j; (focus (first | exact .inr fun _ _ => rfl | exact .inl (by kernel_rfl))); rcases j with _ | j; (focus (first | exact .inr fun _ _ => rfl | exact .inl (by kernel_rfl))); rcases j with _ | j; (focus (first | exact .inr fun _ _ => rfl | exact .inl (by kernel_rfl))); rcases j with _ | j; (focus (first | exact .inr fun _ _ => rfl | exact .inl (by kernel_rfl))); rcases j with _ | j; (focus (first | exact .inr fun _ _ => rfl | exact .inl (by kernel_rfl))); rcases j with _ | j; (focus (first | exact .inr fun _ _ => rfl | exact .inl (by kernel_rfl))); rcases j with _ | j; (focus (first | exact .inr fun _ _ => rfl | exact .inl (by kernel_rfl))); rcases j with _ | j; (focus (first | exact .inr fun _ _ => rfl | exact .inl (by kernel_rfl))); rcases j with _ | j; (focus (first | exact .inr fun _ _ => rfl | exact .inl (by kernel_rfl))); rcases j with _ | j; (focus (first | exact .inr fun _ _ => rfl | exact .inl (by kernel_rfl))); rcases j with _ | j; (focus (first | exact .inr fun _ _ => rfl | exact .inl (by kernel_rfl))); rcases j with _ | j; (focus (first | exact .inr fun _ _ => rfl | exact .inl (by kernel_rfl))); rcases j with _ | j; (focus (first | exact .inr fun _ _ => rfl | exact .inl (by kernel_rfl))); rcases j with _ | j; (focus (first | exact .inr fun _ _ => rfl | exact .inl (by kernel_rfl))); rcases j with _ | j; (focus (first | exact .inr fun _ _ => rfl | exact .inl (by kernel_rfl))); rcases j with _ | j; (focus (first | exact .inr fun _ _ => rfl | exact .inl (by kernel_rfl))); rcases j with _ | j; (focus (first | exact .inr fun _ _ => rfl | exact .inl (by kernel_rfl))); rcases j with _ | j; (focus (first | exact .inr fun _ _ => rfl | exact .inl (by kernel_rfl))); rcases j with _ | j; (focus (first | exact .inr fun _ _ => rfl | exact .inl (by kernel_rfl))); exact .inr fun _ _ => rfl) (fun _ _ => rfl) ?_; intro D x u hD hcl hp hO hS N hN; simp only [putO]; simp only [Act.put, List.setIfInBounds_toArray, List.set_cons_zero, List.set_cons_succ]; refine own_box (v := .agg #[x 5, x 11, x 12, .int .i64 E.next]) rfl rfl rfl rfl hO ?_)
      intro f3 w3 hO3 hS3
      have hO3 := own_perm hO3 (perm_at (k := 1) rfl)
      obtain ⟨b5, hO3⟩ := own_ex.1 hO3
      obtain ⟨e5, hO3⟩ := own_pur.1 (own_sep.1 hO3)
      have hO3 := own_perm hO3 (perm_at (k := 3) rfl)
      obtain ⟨b12, hO3⟩ := own_ex.1 hO3
      obtain ⟨e12, hO3⟩ := own_pur.1 (own_sep.1 hO3)
      refine hN _ _ _ rfl rfl ?_ hS3
      refine own_ex.2 ⟨f3, own_ex.2 ⟨b5, own_ex.2 ⟨x 11, own_ex.2 ⟨b12, own_sep.2 (own_pur.2 ⟨rfl, own_seps.2 ?_⟩)⟩⟩⟩⟩
      rw [e5, e12] at hO3
      exact own_order [2, 1, 1, 0] hO3 rfl
    · (refine fs_pure (fun _ _ => rfl) (fun D x hD hcl hp => ?_); simp only [putO]; simp only [Act.put, List.setIfInBounds_toArray, List.set_cons_zero, List.set_cons_succ]; first | exact y_skip rfl | exact y_run rfl (by intro w h; go_simp; first | done | rfl))
  intro x w10 D hD hO hS10
  rw [owL_end hD (by kernel_rfl)] at hO
  have hO := own_perm hO List.perm_append_comm
  obtain ⟨f, hO⟩ := own_ex.1 hO
  obtain ⟨d2, hO⟩ := own_ex.1 hO
  obtain ⟨wv2, hO⟩ := own_ex.1 hO
  obtain ⟨b2, hO⟩ := own_ex.1 hO
  obtain ⟨e18, hO⟩ := own_pur.1 (own_sep.1 hO)
  have hO := own_seps.1 hO
  simp only [putO, e18]
  simp only [Act.put, List.setIfInBounds_toArray, List.set_cons_zero, List.set_cons_succ]
  simp only [Exit.then]
  clear hD e18
  replace hS := hS.trans hS10
  clear hS10
  have hO := own_perm hO (perm_at (k := 6) rfl)
  obtain ⟨es, clock, hM, hO⟩ := mapP_open.1 hO
  have HM := Lib.hid hM
  have HOLD := Lib.hid hM.old
  have HNOD := Lib.hid hM.nodup
  clear hM
  have hO : Own w10 (pts bs (.map es clock) :: mapP b2 [] :: pts f (.cells #[.pointer (some ⟨d2, 0, none⟩), wv2, .map (some b2), .int .i64 E.next] 72) :: owns 76 5 wv2 we.length SS :: diskP d2 E.m :: pts e (.cells #[.pointer (some ⟨d, 0, none⟩), .slice A we.length c, .map (some bs), .int .i64 E.next] 72) :: diskP d E.m :: rdG g :: rdG g :: L) := own_order [0, 3, 0, 1, 0, 1, 0] hO rfl
  go_wp2_with (first | (apply own_load1 rfl rfl rfl; (first | exact row_dptr | exact row_ents | exact row_mint | exact row_int); (first | exact own_get 0 hO rfl | exact own_get 1 hO rfl | exact own_get 2 hO rfl | exact own_get 3 hO rfl | exact own_get 4 hO rfl | exact own_get 5 hO rfl | exact own_get 6 hO rfl | exact own_get 7 hO rfl); (first | (simp only [List.getElem?_toArray, List.getElem?_cons_succ, List.getElem?_cons_zero]; rfl) | rfl)) | (refine own_range (i := 0) (b := bs) rfl rfl rfl und_mint hO rfl ?_; clear hO; intro r u hO hSn; replace hS := hS.trans hSn; clear hSn))
  go_loopw [4, 5] (fun _ _ wr => ∃ (seen : Array Nat) (c0 : Nat) (ff : List (Int × Value)), clock ≤ c0 ∧ Hid (CpOk fs es seen ff) ∧ Own wr (efL r f d2 b2 e d bs wv2 (.slice A we.length c) we.length SS es clock c0 seen ff E.m E.next g L) ∧ Same w wr) (fun _ _ wr => wr.rangeLeft bs r)
  case atStart => exact ⟨#[], clock, [], Nat.le_refl _, cp_start fs es, hO, hS⟩
  case round =>
    clear hO hS
    obtain ⟨seen, c0, ff, hc0, HCP, hO, hS⟩ := hrel
    have HLEFT : Hid (wr.rangeLeft bs r = (leftOf es seen).size) := by
      show wr.rangeLeft bs r = _
      unfold World.rangeLeft
      rw [own_get 1 hO rfl, own_get 0 hO rfl]
    go_wp2_with (refine own_next (i := 0) (j := 1) (r := r) (b := bs) (since := clock) (c0 := c0) (clock := clock) (seen := seen) (es := es) rfl rfl rfl hO rfl rfl HOLD.out hc0 ?_ ?_)
    · intro hz
      have HZ := Lib.hid (left_none (es := es) (seen := seen) (by simpa using hz))
      clear hz
      go_wp2
      go_ret
      refine ⟨f, rfl, ?_, hS⟩
      rw [HSS.out] at hO
      have hO := own_drop hO
      obtain ⟨NA, nc, hov⟩ := (owns_rd (own_at hO (k := 3) rfl)).slice
      subst hov
      have hcap : NA = none → nc = 0 := fun hA => owns_nilcap (own_at hO (k := 3) rfl) hA
      have h1 := rdG_owns (own_order [3, 6] hO rfl)
      have h2 : Own wr (engP f E :: _) := eng_open.2 ⟨d2, .slice NA we.length nc, b2, ff, we, _, ⟨HK.out.1, ⟨fun A' n' c' e6 hA => (by cases e6; exact hcap hA), ⟨NA, nc, rfl, List.mem_cons_self ..⟩, fun y hy => let ⟨A', c', e6, h6⟩ := HK.out.2.1.beh y hy; ⟨A', c', e6, List.mem_cons_of_mem _ h6⟩⟩, (cp_end HM.out HK.out.2.2 HCP.out HZ.out).mono fun x hx => List.mem_cons_of_mem _ hx⟩, own_order [3, 3, 2, 0] h1 rfl⟩
      have h3 := mapP_open.2 ⟨es, clock, HM.out, own_order [1] h2 rfl⟩
      exact own_swap (eng_open.2 ⟨d, .slice A we.length c, bs, fs, we, g, HK.out, own_order [2, 2, 0, 1] h3 rfl⟩)
    · intro key val born w11 he hO11 hS11
      clear hO
      have he : (⟨key, val, born⟩ : MapEntry) ∈ (leftOf es seen).toList := by simpa using he
      obtain ⟨hmem, hnew⟩ := left_mem he
      have HLESS := Lib.hid (left_less he)
      obtain ⟨i, A2, cc, hi, hkey, hval, hin⟩ := entry_set HM.out HK.out.2.2 hmem
      have hkey : key = .int .i64 (i : Int) := hkey
      have hval : val = .slice A2 (E.s i).length cc := hval
      subst hkey hval
      have HMEM2 := Lib.hid hmem
      have HFN := Lib.hid (cp_step HM.out HCP.out hmem)
      have hO : Own w11 (efL r f d2 b2 e d bs wv2 (.slice A we.length c) we.length SS es clock clock (seen.push born) ff E.m E.next g L) := hO11
      replace hS := hS.trans hS11
      clear he hmem hnew hi hin hO11 hS11
      go_upto_region 7 with (first | (refine own_entry (i := 0) (j := 1) (r := r) (b := bs) (since := clock) (clock := clock) (seen := seen) (es := es) (key := .int .i64 (i : Int)) (val := .slice A2 (E.s i).length cc) (born := born) rfl rfl rfl hO rfl rfl HMEM2.out HNOD.out ?_))
      have hO := own_order [2] hO rfl
      simp only [List.eraseIdx_cons_succ, List.eraseIdx_zero, List.tail_cons] at hO
      go_wp2_with (first | (apply own_load1 rfl rfl rfl; (first | exact row_dptr | exact row_ents | exact row_mint | exact row_int); (first | exact own_get 0 hO rfl | exact own_get 1 hO rfl | exact own_get 2 hO rfl | exact own_get 3 hO rfl | exact own_get 4 hO rfl | exact own_get 5 hO rfl | exact own_get 6 hO rfl | exact own_get 7 hO rfl); (first | (simp only [List.getElem?_toArray, List.getElem?_cons_succ, List.getElem?_cons_zero]; rfl) | rfl)) | (refine own_mset (i := 0) (b := b2) (f := ff) (k := (i : Int)) (v := .slice A2 (E.s i).length cc) rfl rfl rfl rfl rfl und_mint und_i hO rfl ?_; clear hO; intro u hO hSn; replace hS := hS.trans hSn; clear hSn))
      have hO : Own u (efL r f d2 b2 e d bs wv2 (.slice A we.length c) we.length SS es clock clock (seen.push born) (mset ff (i : Int) (.slice A2 (E.s i).length cc)) E.m E.next g L) := own_order [1, 1, 0] hO rfl
      go_roundw
      case rel => exact ⟨seen.push born, clock, Nat.le_refl _, mset ff (i : Int) (.slice A2 (E.s i).length cc), HFN, hO⟩
      case measure =>
        rw [HLEFT.out]
        have e : u.rangeLeft bs r = (leftOf es (seen.push born)).size := by
          unfold World.rangeLeft
          rw [own_get 1 hO rfl, own_get 0 hO rfl]
        rw [e]
        exact HLESS.out
end
end Go.Proofs.YtlmkcnkidkoilaaGreat.H
