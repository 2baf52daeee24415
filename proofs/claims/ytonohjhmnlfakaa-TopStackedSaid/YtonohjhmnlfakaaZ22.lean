/- Fork of the program's disk. -/
import Derived.Test.YtonohjhmnlfakaaZ21
set_option linter.unusedVariables false
set_option linter.unusedSimpArgs false
set_option maxRecDepth 100000
namespace Go.Proofs.Ytonohjhmnlfakaa.H
open Go.RowKit
/-- What the copied map has: the versions of those that were met. -/
structure FkOk (m : List Blk) (es : Array MapEntry) (seen : Array Nat) (ff : List (Int × Value)) (lf : List (Value × List Sec)) : Prop where
  keyf : ∀ q ∈ ff, ∃ x ∈ es.toList, seen.contains x.born = true ∧ x.key = .int .i64 q.1
  vers : ∀ x ∈ es.toList, seen.contains x.born = true → ∀ (i : Nat) (b : Blk), x.key = .int .i64 (i : Int) → m[i]? = some b → ∃ A c, mget ff i = some (.slice A b.vs.length c) ∧ ((.slice A b.vs.length c, b.vs) ∈ lf)
theorem fk_start (m : List Blk) (es : Array MapEntry) : FkOk m es #[] [] [] := ⟨fun q hq => by simp at hq, fun x _ h => by simp at h⟩
theorem fk_step {m : List Blk} {es : Array MapEntry} {clock : Nat} {fv : List (Int × Value)} (hM : MapOk es clock fv) {seen : Array Nat} {ff : List (Int × Value)} {lf : List (Value × List Sec)} (h : FkOk m es seen ff lf) {key val : Value} {born : Nat} (he : (⟨key, val, born⟩ : MapEntry) ∈ es.toList) {i : Nat} {b : Blk} (hk : key = .int .i64 (i : Int)) (hb : m[i]? = some b) {A : Option Addr} {c : Nat} :
    FkOk m es (seen.push born) (mset ff i (.slice A b.vs.length c)) ((.slice A b.vs.length c, b.vs) :: lf) where
  keyf := fun q hq => by
    rcases mem_mset hq with rfl | hq
    · exact ⟨_, he, by simp, hk⟩
    · obtain ⟨x, h1, h2, h3⟩ := h.keyf q hq
      exact ⟨x, h1, by rw [Array.contains_push, h2]; rfl, h3⟩
  vers := fun x hx hs j b' hkj hbj => by
    by_cases e : j = i
    · subst e
      rw [hb] at hbj
      cases hbj
      exact ⟨A, c, by rw [mget_mset, if_pos rfl], List.mem_cons_self ..⟩
    · have hs2 : seen.contains x.born = true := by
        rw [Array.contains_push] at hs
        cases h2 : seen.contains x.born with
        | true => rfl
        | false =>
          rw [h2, Bool.false_or, beq_iff_eq] at hs
          obtain ⟨t1, ht1⟩ := List.getElem?_of_mem hx
          obtain ⟨t2, ht2⟩ := List.getElem?_of_mem he
          have hn := hM.nodup
          have e1 : (es.toList.map (·.born))[t1]? = some born := by rw [List.getElem?_map, ht1]; simp [hs]
          have e2 : (es.toList.map (·.born))[t2]? = some born := by rw [List.getElem?_map, ht2]; rfl
          obtain ⟨l1, g1⟩ := List.getElem?_eq_some_iff.1 e1
          obtain ⟨l2, g2⟩ := List.getElem?_eq_some_iff.1 e2
          have ht : t1 = t2 := by
            rcases Nat.lt_trichotomy t1 t2 with hh | hh | hh
            · exact absurd (g1.trans g2.symm) (List.pairwise_iff_getElem.1 hn t1 t2 l1 l2 hh)
            · exact hh
            · exact absurd (g2.trans g1.symm) (List.pairwise_iff_getElem.1 hn t2 t1 l2 l1 hh)
          subst ht
          rw [ht1] at ht2
          have hx2 : x = ⟨key, val, born⟩ := by simpa using ht2
          subst hx2
          rw [hk] at hkj
          injection hkj with _ hij
          exact absurd (by omega) e
      obtain ⟨A', c', h1, h2⟩ := h.vers x hx hs2 j b' hkj hbj
      exact ⟨A', c', by rw [mget_mset, if_neg (by omega)]; exact h1, List.mem_cons_of_mem _ h2⟩
theorem fk_end {m : List Blk} {es : Array MapEntry} {clock : Nat} {fv fb : List (Int × Value)} {l lf : List (Value × List Sec)} {ff : List (Int × Value)} {seen : Array Nat} (hM : MapOk es clock fv) (hk : DiskOk m fv fb l) (h : FkOk m es seen ff lf) (hall : ∀ x ∈ es.toList, seen.contains x.born = true) : DiskOk m ff fb ((.slice none 0 0, []) :: lf) where
  len := hk.len
  s32 := hk.s32
  v32 := hk.v32
  keyv := fun q hq => by
    obtain ⟨x, h1, h2, h3⟩ := h.keyf q hq
    obtain ⟨j, hj⟩ := List.getElem?_of_mem h1
    obtain ⟨k, e1, e2⟩ := hM.at_ hj
    rw [e1] at h3
    injection h3 with _ h4
    obtain ⟨i, b, g1, g2, g3⟩ := hk.keyv _ (List.mem_of_getElem? e2)
    exact ⟨i, b, g1, by rw [← h4]; exact g2, g3⟩
  vers := fun i b hb => by
    rcases map_cases fv (i : Int) with ⟨t, v, ht⟩ | hno
    · have hlt : t < es.toList.length := by rw [Array.length_toList, hM.size]; exact (List.getElem?_eq_some_iff.1 ht).1
      obtain ⟨k, e1, e2⟩ := hM.at_ (List.getElem?_eq_getElem hlt)
      rw [ht] at e2
      have ek : k = (i : Int) := by cases e2; rfl
      subst ek
      obtain ⟨A, c, g1, g2⟩ := h.vers _ (List.getElem_mem hlt) (hall _ (List.getElem_mem hlt)) i b e1 hb
      exact ⟨A, c, by rw [g1]; rfl, List.mem_cons_of_mem _ g2⟩
    · have hv : b.vs = [] := by
        obtain ⟨A, c, g1, _⟩ := hk.vers i b hb
        rw [mget_none hno] at g1
        simp only [Option.getD_none] at g1
        injection g1 with _ g2 _
        exact List.length_eq_zero_iff.1 g2.symm
      refine ⟨Option.none, 0, ?_, by rw [hv]; exact List.mem_cons_self ..⟩
      rw [mget_none (fun q hq e => ?_), hv]
      · rfl
      · obtain ⟨x, h1, _, h3⟩ := h.keyf q hq
        obtain ⟨j, hj⟩ := List.getElem?_of_mem h1
        obtain ⟨k, e1, e2⟩ := hM.at_ hj
        rw [e1] at h3
        injection h3 with _ h4
        exact hno _ (List.mem_of_getElem? e2) (by rw [← e, ← h4])
  keyb := hk.keyb
  bads := hk.bads
/-- An entry of a disk's map: a block with versions, and how they are read. -/
theorem entry_blk {m : List Blk} {es : Array MapEntry} {clock : Nat} {fv fb : List (Int × Value)} {l : List (Value × List Sec)} (hM : MapOk es clock fv) (hk : DiskOk m fv fb l) {x : MapEntry} (hx : x ∈ es.toList) : ∃ (i : Nat) (b : Blk) (A : Option Addr) (c : Nat), x.key = .int .i64 (i : Int) ∧ m[i]? = some b ∧ b.vs ≠ [] ∧ x.val = .slice A b.vs.length c ∧ ((.slice A b.vs.length c, b.vs) ∈ l) := by
  obtain ⟨j, hj⟩ := List.getElem?_of_mem hx
  obtain ⟨k, e1, e2⟩ := hM.at_ hj
  obtain ⟨i, b, g1, g2, g3⟩ := hk.keyv _ (List.mem_of_getElem? e2)
  have g2 : k = (i : Int) := g2
  subst g2
  obtain ⟨A, c, h1, h2⟩ := hk.vers i b g1
  rw [mget_at hM.nod e2] at h1
  exact ⟨i, b, A, c, e1, g1, g3, h1, h2⟩
/-- What is owned in Fork's loop. -/
abbrev fkL (r f d bv bf bb bb2 : Nat) (lv lv2 : Value) (n : Nat) (ss : List Value) (es : Array MapEntry) (clock since c0 : Nat) (seen : Array Nat) (ff fb : List (Int × Value)) (lf l : List (Value × List Sec)) (L : List HP) : List HP :=
  pts r (.mapIter (some bv) since seen c0) :: pts bv (.map es clock) :: mapP bf ff :: rdV lf :: pts f (.cells #[lv2, .map (some bf), .map (some bb2)] 101) :: owns 47 32 lv2 n ss :: mapP bb2 fb :: pts d (.cells #[lv, .map (some bv), .map (some bb)] 101) :: owns 47 32 lv n ss :: mapP bb fb :: rdV l :: L
section
variable (w : World) (L : List HP) (d : Nat) (m : List Blk)
set_option maxHeartbeats 6400000 in
theorem fork_ok (hO : Own w (diskP d m :: L)) (h0 : 0 < m.length) (hlim : ∀ b ∈ m, b.vs.length ≤ 1000000) : Calls Try.prog 31 #[.pointer (some ⟨d, 0, none⟩)] w (RetX w (fun f : Nat => .pointer (some ⟨f, 0, none⟩)) (fun f => diskP f m :: diskP d m :: L)) := by
  have HLIM := Lib.hid hlim
  have hS := Same.refl w
  obtain ⟨lv, bv, bb, fv, fb, l, hk, hO⟩ := disk_open.1 hO
  have HK := Lib.hid hk
  have hln : (secs (m.map (·.s))).length = m.length * 32 := by
    have := secs_length (l := m.map (·.s)) (fun s hs => by obtain ⟨b, hb, rfl⟩ := List.mem_map.1 hs; exact hk.s32 b hb)
    rw [List.length_map] at this
    exact this
  obtain ⟨A, c, rfl⟩ := (owns_rd (own_at hO (k := 1) rfl)).slice
  obtain ⟨ad, rfl⟩ := (owns_rd (own_at hO (k := 1) rfl)).addr (by omega)
  obtain ⟨SS, hSS⟩ : ∃ SS, SS = secs (m.map (·.s)) := ⟨_, rfl⟩
  have HSS := Lib.hid hSS
  have HONE : Hid (∀ u ∈ SS, u.oneCell' = true) := by show ∀ u ∈ SS, _; rw [hSS]; exact secs_one
  have HML : Hid (m.length ≤ 1000000) := by have := hk.len; show _ ≤ _; omega
  rw [← hSS] at hO
  clear hlim hk hln h0 hSS
  go_enter Try.func31, Try.ntmps31
  go_upto_region 3 with fail
  refine wp_region_own (α := Nat → Value) (fun x => .pointer (some ⟨d, 0, none⟩) :: .pointer (some ⟨d, 0, none⟩) :: .pointer (some ⟨d, 0, none⟩) :: .slice (some ad) m.length c :: x 4 :: x 5 :: .pointer (some ⟨d, 0, none⟩) :: .pointer (some ⟨d, 0, none⟩) :: .pointer (some ⟨d, 2, none⟩) :: .map (some bb) :: x 10 :: .agg #[x 4, x 5, x 10] :: x 12 :: x 12 :: []) (fun D x => ([pts d (.cells #[.slice (some ad) m.length c, .map (some bv), .map (some bb)] 101), owns 47 32 (.slice (some ad) m.length c) m.length SS, mapP bv fv, mapP bb fb, rdV l] ++ L) ++ owL ([(4, some 12, fun v => owns 47 32 v m.length SS), (5, some 12, fun v => ex fun b => sep (pur (v = .map (some b))) (mapP b [])), (10, some 12, fun v => ex fun b => sep (pur (v = .map (some b))) (mapP b fb)), (12, none, fun v => ex fun f => ex fun lv2 => ex fun bf => ex fun bb2 => sep (pur (v = .pointer (some ⟨f, 0, none⟩))) (seps [pts f (.cells #[lv2, .map (some bf), .map (some bb2)] 101), owns 47 32 lv2 m.length SS, mapP bf [], mapP bb2 fb]))]) D x) w (fun _ => undef) 39 (fun _ => rfl) mixed (by kernel_rfl) rfl (by rw [owL_none, List.append_nil]; exact own_heap hO (fun _ _ h => h)) (Same.drew _) (fun _ _ _ _ hd h => ⟨hd ▸ h.1, h.2⟩) ?_ ?_
  · refine ⟨?_, ?_, ?_, ?_, ?_, ?_, ?_, ?_, ?_, ?_, ?_, ?_, ?_, ?_, trivial⟩
    · (refine fs_pure (fun _ _ => rfl) (fun D x hD hcl hp => ?_); simp only [putO]; simp only [Act.put, List.setIfInBounds_toArray, List.set_cons_zero, List.set_cons_succ]; first | exact y_skip rfl | exact y_run rfl (by intro w h; go_simp; first | done | rfl))
    · (refine fs_pure (fun _ _ => rfl) (fun D x hD hcl hp => ?_); simp only [putO]; simp only [Act.put, List.setIfInBounds_toArray, List.set_cons_zero, List.set_cons_succ]; first | exact y_skip rfl | exact y_run rfl (by intro w h; go_simp; first | done | rfl))
    · (refine fs_pure (fun _ _ => rfl) (fun D x hD hcl hp => ?_); simp only [putO]; simp only [Act.put, List.setIfInBounds_toArray, List.set_cons_zero, List.set_cons_succ]; first | exact y_skip rfl | exact y_run rfl (by intro w h; go_simp; first | done | rfl))
    · (refine fs_pure (fun _ _ => rfl) (fun D x hD hcl hp => ?_); simp only [putO]; simp only [Act.put, List.setIfInBounds_toArray, List.set_cons_zero, List.set_cons_succ]; first | exact y_skip rfl | exact (y_load1 (b := d) (off := 0) (cs := #[.slice (some ad) m.length c, .map (some bv), .map (some bb)]) (t := 101) (v := .slice (some ad) m.length c) rfl rfl rfl row_secs (fun w h => own_get 0 h.1 rfl) rfl) | exact y_run rfl (by intro w h; go_simp; first | done | rfl))
    · (refine @fs_new _ _ _ _ _ _ _ _ _ _ _ _ [] (fun v => v) rfl rfl (by kernel_rfl) (by kernel_rfl) (by intro j; rcases j with _ | j; (focus (first | exact .inr fun _ _ => rfl | exact .inl (by kernel_rfl))); rcases j with _ | j; (focus (first | exact .inr fun _ _ => rfl | exact .inl (by kernel_rfl))); rcases j with _ | j; (focus (first | exact .inr fun _ _ => rfl | exact .inl (by kernel_rfl))); rcases j with _ | j; (focus (first | exact .inr fun _ _ => rfl | exact .inl (by kernel_rfl))); rcases j with _ | j; (focus (first | exact .inr fun _ _ => rfl | exact .inl (by kernel_rfl))); rcases j with _ | j; (focus (first | exact .inr fun _ _ => rfl | exact .inl (by kernel_rfl))); rcases j with _ | j; (focus (first | exact .inr fun _ _ => rfl | exact .inl (by kernel_rfl))); rcases j with _ | j; (focus (first | exact .inr fun _ _ => rfl | exact .inl (by kernel_rfl))); rcases j with _ | j; (focus (first | exact .inr fun _ _ => rfl | exact .inl (by kernel_rfl))); rcases j with _ | j; (focus (first | exact .inr fun _ _ => rfl | exact .inl (by kernel_rfl))); rcases j with _ | j; (focus (first | exact .inr fun _ _ => rfl | exact .inl (by kernel_rfl))); rcases j with _ | j; (focus (first | exact .inr fun _ _ => rfl | exact .inl (by kernel_rfl))); rcases j with _ | j; (focus (first | exact .inr fun _ _ => rfl | exact .inl (by kernel_rfl))); rcases j with _ | j; (focus (first | exact .inr fun _ _ => rfl | exact .inl (by kernel_rfl))); exact .inr fun _ _ => rfl) (fun _ _ => rfl) ?_; intro D x u hD hcl hp hO hS N hN; simp only [putO]; simp only [Act.put, List.setIfInBounds_toArray, List.set_cons_zero, List.set_cons_succ]; refine ev_call rfl (by go_simp; first | done | exact ⟨rfl, rfl⟩) ?_; refine Calls.mono (clone_c _ _ ad m.length c SS hO (fun w' h => owns_rd (own_at h (k := 1) rfl)) HONE.out HML.out) ?_; rintro e u' ⟨v, rfl, hO', hS'⟩; exact ⟨_, rfl, hN _ v u' rfl rfl hO' hS'⟩)
    · (refine @fs_new _ _ _ _ _ _ _ _ _ _ _ _ [] (fun v => v) rfl rfl (by kernel_rfl) (by kernel_rfl) (by intro j; rcases j with _ | j; (focus (first | exact .inr fun _ _ => rfl | exact .inl (by kernel_rfl))); rcases j with _ | j; (focus (first | exact .inr fun _ _ => rfl | exact .inl (by kernel_rfl))); rcases j with _ | j; (focus (first | exact .inr fun _ _ => rfl | exact .inl (by kernel_rfl))); rcases j with _ | j; (focus (first | exact .inr fun _ _ => rfl | exact .inl (by kernel_rfl))); rcases j with _ | j; (focus (first | exact .inr fun _ _ => rfl | exact .inl (by kernel_rfl))); rcases j with _ | j; (focus (first | exact .inr fun _ _ => rfl | exact .inl (by kernel_rfl))); rcases j with _ | j; (focus (first | exact .inr fun _ _ => rfl | exact .inl (by kernel_rfl))); rcases j with _ | j; (focus (first | exact .inr fun _ _ => rfl | exact .inl (by kernel_rfl))); rcases j with _ | j; (focus (first | exact .inr fun _ _ => rfl | exact .inl (by kernel_rfl))); rcases j with _ | j; (focus (first | exact .inr fun _ _ => rfl | exact .inl (by kernel_rfl))); rcases j with _ | j; (focus (first | exact .inr fun _ _ => rfl | exact .inl (by kernel_rfl))); rcases j with _ | j; (focus (first | exact .inr fun _ _ => rfl | exact .inl (by kernel_rfl))); rcases j with _ | j; (focus (first | exact .inr fun _ _ => rfl | exact .inl (by kernel_rfl))); rcases j with _ | j; (focus (first | exact .inr fun _ _ => rfl | exact .inl (by kernel_rfl))); exact .inr fun _ _ => rfl) (fun _ _ => rfl) ?_; intro D x u hD hcl hp hO hS N hN; simp only [putO]; simp only [Act.put, List.setIfInBounds_toArray, List.set_cons_zero, List.set_cons_succ]; refine own_mkmap rfl rfl hO ?_; intro b3 w3 hO3 hS3; exact hN _ _ _ rfl rfl (own_ex.2 ⟨b3, own_sep.2 (own_pur.2 ⟨rfl, hO3⟩)⟩) hS3)
    · (refine fs_pure (fun _ _ => rfl) (fun D x hD hcl hp => ?_); simp only [putO]; simp only [Act.put, List.setIfInBounds_toArray, List.set_cons_zero, List.set_cons_succ]; first | exact y_skip rfl | exact y_run rfl (by intro w h; go_simp; first | done | rfl))
    · (refine fs_pure (fun _ _ => rfl) (fun D x hD hcl hp => ?_); simp only [putO]; simp only [Act.put, List.setIfInBounds_toArray, List.set_cons_zero, List.set_cons_succ]; first | exact y_skip rfl | exact y_run rfl (by intro w h; go_simp; first | done | rfl))
    · (refine fs_pure (fun _ _ => rfl) (fun D x hD hcl hp => ?_); simp only [putO]; simp only [Act.put, List.setIfInBounds_toArray, List.set_cons_zero, List.set_cons_succ]; first | exact y_skip rfl | exact y_run rfl (by intro w h; go_simp; first | done | rfl))
    · (refine fs_pure (fun _ _ => rfl) (fun D x hD hcl hp => ?_); simp only [putO]; simp only [Act.put, List.setIfInBounds_toArray, List.set_cons_zero, List.set_cons_succ]; first | exact y_skip rfl | exact (y_load1 (b := d) (off := 2) (cs := #[.slice (some ad) m.length c, .map (some bv), .map (some bb)]) (t := 101) (v := .map (some bb)) rfl rfl rfl row_mb (fun w h => own_get 0 h.1 rfl) rfl) | exact y_run rfl (by intro w h; go_simp; first | done | rfl))
    · (refine @fs_new _ _ _ _ _ _ _ _ _ _ _ _ [] (fun v => v) rfl rfl (by kernel_rfl) (by kernel_rfl) (by intro j; rcases j with _ | j; (focus (first | exact .inr fun _ _ => rfl | exact .inl (by kernel_rfl))); rcases j with _ | j; (focus (first | exact .inr fun _ _ => rfl | exact .inl (by kernel_rfl))); rcases j with _ | j; (focus (first | exact .inr fun _ _ => rfl | exact .inl (by kernel_rfl))); rcases j with _ | j; (focus (first | exact .inr fun _ _ => rfl | exact .inl (by kernel_rfl))); rcases j with _ | j; (focus (first | exact .inr fun _ _ => rfl | exact .inl (by kernel_rfl))); rcases j with _ | j; (focus (first | exact .inr fun _ _ => rfl | exact .inl (by kernel_rfl))); rcases j with _ | j; (focus (first | exact .inr fun _ _ => rfl | exact .inl (by kernel_rfl))); rcases j with _ | j; (focus (first | exact .inr fun _ _ => rfl | exact .inl (by kernel_rfl))); rcases j with _ | j; (focus (first | exact .inr fun _ _ => rfl | exact .inl (by kernel_rfl))); rcases j with _ | j; (focus (first | exact .inr fun _ _ => rfl | exact .inl (by kernel_rfl))); rcases j with _ | j; (focus (first | exact .inr fun _ _ => rfl | exact .inl (by kernel_rfl))); rcases j with _ | j; (focus (first | exact .inr fun _ _ => rfl | exact .inl (by kernel_rfl))); rcases j with _ | j; (focus (first | exact .inr fun _ _ => rfl | exact .inl (by kernel_rfl))); rcases j with _ | j; (focus (first | exact .inr fun _ _ => rfl | exact .inl (by kernel_rfl))); exact .inr fun _ _ => rfl) (fun _ _ => rfl) ?_; intro D x u hD hcl hp hO hS N hN; simp only [putO]; simp only [Act.put, List.setIfInBounds_toArray, List.set_cons_zero, List.set_cons_succ]; refine ev_call rfl (by go_simp; first | done | exact ⟨rfl, rfl⟩) ?_; refine Calls.mono (mclone_c _ _ 3 bb fb hO rfl) ?_; rintro e u' ⟨v, rfl, hO', hS'⟩; exact ⟨_, rfl, hN _ v u' rfl rfl hO' hS'⟩)
    · refine fs_pure (fun _ _ => rfl) (fun D x hD hcl hp => ?_)
      simp only [putO]
      simp only [Act.put, List.setIfInBounds_toArray, List.set_cons_zero, List.set_cons_succ]
      refine y_run rfl (fun w h => ?_)
      have h12 := dep_no hcl hD 12 rfl
      obtain ⟨L4, o4⟩ := ow_gets 0 h.1 rfl (dep_yes hp rfl) h12
      obtain ⟨L5, o5⟩ := ow_gets 1 h.1 rfl (dep_yes hp rfl) h12
      obtain ⟨L10, o10⟩ := ow_gets 2 h.1 rfl (dep_yes hp rfl) h12
      obtain ⟨A4, c4, e4⟩ := (owns_rd o4).slice
      obtain ⟨b5, o5⟩ := own_ex.1 o5
      have e5 := (own_pur.1 (own_sep.1 o5)).1
      obtain ⟨b10, o10⟩ := own_ex.1 o10
      have e10 := (own_pur.1 (own_sep.1 o10)).1
      clear o4 o5 o10 hp hcl
      simp only [e4, e5, e10]
      go_simp
      first | done | rfl
    · (refine @fs_new _ _ _ _ _ _ _ _ _ _ _ _ [(4, some 12, fun v => owns 47 32 v m.length SS), (5, some 12, fun v => ex fun b => sep (pur (v = .map (some b))) (mapP b [])), (10, some 12, fun v => ex fun b => sep (pur (v = .map (some b))) (mapP b fb))] (fun v => v) rfl rfl (by kernel_rfl) (by kernel_rfl) (by intro j; rcases j with _ | j; (focus (first | exact .inr fun _ _ => rfl | exact .inl (by kernel_rfl))); rcases j with _ | j; (focus (first | exact .inr fun _ _ => rfl | exact .inl (by kernel_rfl))); rcases j with _ | j; (focus (first | exact .inr fun _ _ => rfl | exact .inl (by kernel_rfl))); rcases j with _ | j; (focus (first | exact .inr fun _ _ => rfl | exact .inl (by kernel_rfl))); rcases j with _ | j; (focus (first | exact .inr fun _ _ => rfl | exact .inl (by kernel_rfl))); rcases j with _ | j; (focus (first | exact .inr fun _ _ => rfl | exact .inl (by kernel_rfl))); rcases j with _ | j; (focus (first | exact .inr fun _ _ => rfl | exact .inl (by kernel_rfl))); rcases j with _ | j; (focus (first | exact .inr fun _ _ => rfl | exact .inl (by kernel_rfl))); rcases j with _ | j; (focus (first | exact .inr fun _ _ => rfl | exact .inl (by kernel_rfl))); rcases j with _ | j; (focus (first | exact .inr fun _ _ => rfl | exact .inl (by kernel_rfl))); rcases j with _ | j; (focus (first | exact .inr fun _ _ => rfl | exact .inl (by kernel_rfl))); rcases j with _ | j; (focus (first | exact .inr fun _ _ => rfl | exact .inl (by kernel_rfl))); rcases j with _ | j; (focus (first | exact .inr fun _ _ => rfl | exact .inl (by kernel_rfl))); rcases j with _ | j; (focus (first | exact .inr fun _ _ => rfl | exact .inl (by kernel_rfl))); exact .inr fun _ _ => rfl) (fun _ _ => rfl) ?_; intro D x u hD hcl hp hO hS N hN; simp only [putO]; simp only [Act.put, List.setIfInBounds_toArray, List.set_cons_zero, List.set_cons_succ]; refine own_box (v := .agg #[x 4, x 5, x 10]) rfl rfl rfl rfl hO ?_)
      intro f3 w3 hO3 hS3
      have hO3 := own_perm hO3 (perm_at (k := 2) rfl)
      obtain ⟨b5, hO3⟩ := own_ex.1 hO3
      obtain ⟨e5, hO3⟩ := own_pur.1 (own_sep.1 hO3)
      have hO3 := own_perm hO3 (perm_at (k := 3) rfl)
      obtain ⟨b10, hO3⟩ := own_ex.1 hO3
      obtain ⟨e10, hO3⟩ := own_pur.1 (own_sep.1 hO3)
      refine hN _ _ _ rfl rfl ?_ hS3
      refine own_ex.2 ⟨f3, own_ex.2 ⟨x 4, own_ex.2 ⟨b5, own_ex.2 ⟨b10, own_sep.2 (own_pur.2 ⟨rfl, own_seps.2 ?_⟩)⟩⟩⟩⟩
      rw [e5, e10] at hO3
      exact own_perm hO3 (by
        refine List.Perm.trans (perm_at (k := 2) rfl) (List.Perm.cons _ ?_)
        refine List.Perm.trans (perm_at (k := 2) rfl) (List.Perm.cons _ ?_)
        exact List.Perm.swap _ _ _)
    · (refine fs_pure (fun _ _ => rfl) (fun D x hD hcl hp => ?_); simp only [putO]; simp only [Act.put, List.setIfInBounds_toArray, List.set_cons_zero, List.set_cons_succ]; first | exact y_skip rfl | exact y_run rfl (by intro w h; go_simp; first | done | rfl))
  intro x w10 D hD hO hS10
  rw [owL_end hD (by kernel_rfl)] at hO
  have hO := own_perm hO List.perm_append_comm
  obtain ⟨f, hO⟩ := own_ex.1 hO
  obtain ⟨lv2, hO⟩ := own_ex.1 hO
  obtain ⟨bf, hO⟩ := own_ex.1 hO
  obtain ⟨bb2, hO⟩ := own_ex.1 hO
  obtain ⟨e12, hO⟩ := own_pur.1 (own_sep.1 hO)
  have hO := own_seps.1 hO
  simp only [putO, e12]
  simp only [Act.put, List.setIfInBounds_toArray, List.set_cons_zero, List.set_cons_succ]
  simp only [Exit.then]
  clear hD e12
  replace hS := hS.trans hS10
  clear hS10
  have hO := own_perm hO (perm_at (k := 6) rfl)
  obtain ⟨es, clock, hM, hO⟩ := mapP_open.1 hO
  have HM := Lib.hid hM
  have HOLD := Lib.hid hM.old
  clear hM
  have hO := rdV_nil hO
  have hO : Own w10 (pts bv (.map es clock) :: mapP bf [] :: rdV [] :: pts f (.cells #[lv2, .map (some bf), .map (some bb2)] 101) :: owns 47 32 lv2 m.length SS :: mapP bb2 fb :: pts d (.cells #[.slice (some ad) m.length c, .map (some bv), .map (some bb)] 101) :: owns 47 32 (.slice (some ad) m.length c) m.length SS :: mapP bb fb :: rdV l :: L) := own_perm hO (by
    refine List.Perm.trans (perm_at (k := 1) rfl) (List.Perm.cons _ ?_)
    refine List.Perm.trans (perm_at (k := 3) rfl) (List.Perm.cons _ ?_)
    exact List.Perm.refl _)
  go_wp2_with (first | (apply own_load1 rfl rfl rfl; (first | exact row_secs | exact row_mv | exact row_mb); (first | exact own_get 0 hO rfl | exact own_get 1 hO rfl | exact own_get 2 hO rfl | exact own_get 3 hO rfl | exact own_get 4 hO rfl | exact own_get 5 hO rfl | exact own_get 6 hO rfl | exact own_get 7 hO rfl); (first | (simp only [List.getElem?_toArray, List.getElem?_cons_succ, List.getElem?_cons_zero]; rfl) | rfl)) | (refine own_range (i := 0) (b := bv) rfl rfl rfl und_mv hO rfl ?_; clear hO; intro r u hO hSn; replace hS := hS.trans hSn; clear hSn))
  go_loopw [4, 5] (fun _ _ wr => ∃ (seen : Array Nat) (c0 : Nat) (ff : List (Int × Value)) (lf : List (Value × List Sec)), clock ≤ c0 ∧ FkOk m es seen ff lf ∧ Own wr (fkL r f d bv bf bb bb2 (.slice (some ad) m.length c) lv2 m.length SS es clock clock c0 seen ff fb lf l L) ∧ Same w wr) (fun _ _ wr => wr.rangeLeft bv r)
  case atStart => exact ⟨#[], clock, [], [], Nat.le_refl _, fk_start m es, hO, hS⟩
  case round =>
    clear hO hS
    obtain ⟨seen, c0, ff, lf, hc0, hfk, hO, hS⟩ := hrel
    have HFK := Lib.hid hfk
    have HLEFT : Hid (wr.rangeLeft bv r = (leftOf es seen).size) := by
      show wr.rangeLeft bv r = _
      unfold World.rangeLeft
      rw [own_get 1 hO rfl, own_get 0 hO rfl]
    clear hfk
    go_wp2_with (refine own_next (i := 0) (j := 1) (r := r) (b := bv) (since := clock) (c0 := c0) (clock := clock) (seen := seen) (es := es) rfl rfl rfl hO rfl rfl HOLD.out hc0 ?_ ?_)
    · intro hz
      have HZ := Lib.hid (left_none (es := es) (seen := seen) (by simpa using hz))
      clear hz
      go_wp2
      go_ret
      refine ⟨f, rfl, ?_, hS⟩
      have hO := own_drop hO
      have h1 := rdV_cons (v := .slice none 0 0) (ss := []) (rdA_nil (size := 32) (own_at hO (k := 2) rfl))
      refine disk_open.2 ⟨lv2, bf, bb2, ff, fb, _, fk_end HM.out HK.out HFK.out HZ.out, ?_⟩
      rw [← HSS.out]
      have h2 : Own wr (pts f (.cells #[lv2, .map (some bf), .map (some bb2)] 101) :: owns 47 32 lv2 m.length SS :: mapP bf ff :: mapP bb2 fb :: rdV ((.slice none 0 0, []) :: lf) :: pts bv (.map es clock) :: pts d (.cells #[.slice (some ad) m.length c, .map (some bv), .map (some bb)] 101) :: owns 47 32 (.slice (some ad) m.length c) m.length SS :: mapP bb fb :: rdV l :: L) := own_perm h1 (by
        refine List.Perm.trans (perm_at (k := 3) rfl) (List.Perm.cons _ ?_)
        refine List.Perm.trans (perm_at (k := 3) rfl) (List.Perm.cons _ ?_)
        refine List.Perm.trans (perm_at (k := 2) rfl) (List.Perm.cons _ ?_)
        exact perm_at (k := 2) rfl)
      refine own_perm (L := diskP d m :: pts f (.cells #[lv2, .map (some bf), .map (some bb2)] 101) :: owns 47 32 lv2 m.length SS :: mapP bf ff :: mapP bb2 fb :: rdV ((.slice none 0 0, []) :: lf) :: L) ?_ ?_
      · refine disk_open.2 ⟨.slice (some ad) m.length c, bv, bb, fv, fb, l, HK.out, ?_⟩
        rw [← HSS.out]
        have h3 := mapP_open.2 ⟨es, clock, HM.out, own_perm h2 (perm_at (k := 5) rfl)⟩
        exact own_perm h3 (by
          refine List.Perm.trans (perm_at (k := 6) rfl) (List.Perm.cons _ ?_)
          refine List.Perm.trans (perm_at (k := 6) rfl) (List.Perm.cons _ ?_)
          refine List.Perm.cons _ ?_
          refine List.Perm.trans (perm_at (k := 5) rfl) (List.Perm.cons _ ?_)
          exact perm_at (k := 5) rfl)
      · refine List.Perm.symm ?_
        exact perm_at (k := 5) rfl
    · intro key val born w11 he hO11 hS11
      clear hO
      have he : (⟨key, val, born⟩ : MapEntry) ∈ (leftOf es seen).toList := by simpa using he
      obtain ⟨hmem, hnew⟩ := left_mem he
      have HLESS := Lib.hid (left_less he)
      obtain ⟨i, b, A, cc, hkey, hb, hvs, hval, hin⟩ := entry_blk HM.out HK.out hmem
      have hkey : key = .int .i64 (i : Int) := hkey
      have hval : val = .slice A b.vs.length cc := hval
      subst hkey hval
      have HIN := Lib.hid hin
      have HMEM := Lib.hid hmem
      have HFN := fun (A' : Option Addr) (c' : Nat) => fk_step HM.out HFK.out hmem rfl hb (A := A') (c := c')
      have HFN := Lib.hid HFN
      have HNOD := Lib.hid HM.out.nodup
      have HV32 : Hid (∀ s ∈ b.vs, s.length = 32) := HK.out.v32 b (List.mem_of_getElem? hb)
      have HVL : Hid (b.vs.length ≤ 1000000) := HLIM.out b (List.mem_of_getElem? hb)
      have hO : Own w11 (fkL r f d bv bf bb bb2 (.slice (some ad) m.length c) lv2 m.length SS es clock clock clock (seen.push born) ff fb lf l L) := hO11
      have hrd := rdV_rd (own_at hO (k := 10) rfl) hin
      obtain ⟨av, rfl⟩ := hrd.addr (by rw [secs_length HV32.out]; have := List.length_pos_iff.2 hvs; omega)
      have HONEV : Hid (∀ u ∈ secs b.vs, u.oneCell' = true) := Lib.hid secs_one
      replace hS := hS.trans hS11
      clear he hmem hnew hb hvs hin hrd hO11 hS11
      go_upto_region 7 with (first | (refine own_entry (i := 0) (j := 1) (r := r) (b := bv) (since := clock) (clock := clock) (seen := seen) (es := es) (key := .int .i64 (i : Int)) (val := .slice (some av) b.vs.length cc) (born := born) rfl rfl rfl hO rfl rfl HMEM.out HNOD.out ?_))
      have hO : Own w11 (mapP bf ff :: pts f (.cells #[lv2, .map (some bf), .map (some bb2)] 101) :: rdV l :: pts r (.mapIter (some bv) clock (seen.push born) clock) :: pts bv (.map es clock) :: rdV lf :: owns 47 32 lv2 m.length SS :: mapP bb2 fb :: pts d (.cells #[.slice (some ad) m.length c, .map (some bv), .map (some bb)] 101) :: owns 47 32 (.slice (some ad) m.length c) m.length SS :: mapP bb fb :: L) := own_perm hO (by
        refine List.Perm.trans (perm_at (k := 2) rfl) (List.Perm.cons _ ?_)
        refine List.Perm.trans (perm_at (k := 3) rfl) (List.Perm.cons _ ?_)
        exact perm_at (k := 8) rfl)
      refine wp_region_own (α := Nat → Value) (fun x => .pointer (some ⟨f, 0, none⟩) :: .pointer (some ⟨f, 0, none⟩) :: .pointer (some ⟨f, 1, none⟩) :: .map (some bf) :: .int .i64 (i : Int) :: .slice (some av) b.vs.length cc :: x 6 :: undef :: []) (stB 7 ([mapP bf ff, pts f (.cells #[lv2, .map (some bf), .map (some bb2)] 101), rdV l, pts r (.mapIter (some bv) clock (seen.push born) clock), pts bv (.map es clock), rdV lf, owns 47 32 lv2 m.length SS, mapP bb2 fb, pts d (.cells #[.slice (some ad) m.length c, .map (some bv), .map (some bb)] 101), owns 47 32 (.slice (some ad) m.length c) m.length SS, mapP bb fb] ++ L) (fun x => ([mapP bf (mset ff i (x 6)), pts f (.cells #[lv2, .map (some bf), .map (some bb2)] 101), rdV l, pts r (.mapIter (some bv) clock (seen.push born) clock), pts bv (.map es clock), rdV lf, owns 47 32 lv2 m.length SS, mapP bb2 fb, pts d (.cells #[.slice (some ad) m.length c, .map (some bv), .map (some bb)] 101), owns 47 32 (.slice (some ad) m.length c) m.length SS, mapP bb fb] ++ L)) [(6, none, fun v => owns 47 32 v b.vs.length (secs b.vs))]) w11 (fun _ => undef) 39 (fun _ => rfl) mixed (by kernel_rfl) rfl (by rw [stB_no rfl, owL_none, List.append_nil]; exact own_heap hO (fun _ _ h => h)) (Same.drew _) (fun _ _ _ _ hd h => ⟨hd ▸ h.1, h.2⟩) ?_ ?_
      · refine ⟨?_, ?_, ?_, ?_, ?_, ?_, ?_, ?_, trivial⟩
        · refine fs_lift 7 (by decide) (by kernel_rfl) ?_; (refine fs_pure (fun _ _ => rfl) (fun D x hD hcl hp => ?_); simp only [putO]; simp only [Act.put, List.setIfInBounds_toArray, List.set_cons_zero, List.set_cons_succ]; first | exact y_skip rfl | exact y_run rfl (by intro w h; go_simp; first | done | rfl))
        · refine fs_lift 7 (by decide) (by kernel_rfl) ?_; (refine fs_pure (fun _ _ => rfl) (fun D x hD hcl hp => ?_); simp only [putO]; simp only [Act.put, List.setIfInBounds_toArray, List.set_cons_zero, List.set_cons_succ]; first | exact y_skip rfl | exact y_run rfl (by intro w h; go_simp; first | done | rfl))
        · refine fs_lift 7 (by decide) (by kernel_rfl) ?_; (refine fs_pure (fun _ _ => rfl) (fun D x hD hcl hp => ?_); simp only [putO]; simp only [Act.put, List.setIfInBounds_toArray, List.set_cons_zero, List.set_cons_succ]; first | exact y_skip rfl | exact y_run rfl (by intro w h; go_simp; first | done | rfl))
        · refine fs_lift 7 (by decide) (by kernel_rfl) ?_; (refine fs_pure (fun _ _ => rfl) (fun D x hD hcl hp => ?_); simp only [putO]; simp only [Act.put, List.setIfInBounds_toArray, List.set_cons_zero, List.set_cons_succ]; first | exact y_skip rfl | exact (y_load1 (b := f) (off := 1) (cs := #[lv2, .map (some bf), .map (some bb2)]) (t := 101) (v := .map (some bf)) rfl rfl rfl row_mv (fun w h => own_get 1 h.1 rfl) rfl) | exact y_run rfl (by intro w h; go_simp; first | done | rfl))
        · refine fs_lift 7 (by decide) (by kernel_rfl) ?_; (refine fs_pure (fun _ _ => rfl) (fun D x hD hcl hp => ?_); simp only [putO]; simp only [Act.put, List.setIfInBounds_toArray, List.set_cons_zero, List.set_cons_succ]; first | exact y_skip rfl | exact y_run rfl (by intro w h; go_simp; first | done | rfl))
        · refine fs_lift 7 (by decide) (by kernel_rfl) ?_; (refine fs_pure (fun _ _ => rfl) (fun D x hD hcl hp => ?_); simp only [putO]; simp only [Act.put, List.setIfInBounds_toArray, List.set_cons_zero, List.set_cons_succ]; first | exact y_skip rfl | exact y_run rfl (by intro w h; go_simp; first | done | rfl))
        · refine fs_lift 7 (by decide) (by kernel_rfl) ?_; (refine @fs_new _ _ _ _ _ _ _ _ _ _ _ _ [] (fun v => v) rfl rfl (by kernel_rfl) (by kernel_rfl) (by intro j; rcases j with _ | j; (focus (first | exact .inr fun _ _ => rfl | exact .inl (by kernel_rfl))); rcases j with _ | j; (focus (first | exact .inr fun _ _ => rfl | exact .inl (by kernel_rfl))); rcases j with _ | j; (focus (first | exact .inr fun _ _ => rfl | exact .inl (by kernel_rfl))); rcases j with _ | j; (focus (first | exact .inr fun _ _ => rfl | exact .inl (by kernel_rfl))); rcases j with _ | j; (focus (first | exact .inr fun _ _ => rfl | exact .inl (by kernel_rfl))); rcases j with _ | j; (focus (first | exact .inr fun _ _ => rfl | exact .inl (by kernel_rfl))); rcases j with _ | j; (focus (first | exact .inr fun _ _ => rfl | exact .inl (by kernel_rfl))); rcases j with _ | j; (focus (first | exact .inr fun _ _ => rfl | exact .inl (by kernel_rfl))); exact .inr fun _ _ => rfl) (fun _ _ => rfl) ?_; intro D x u hD hcl hp hO hS N hN; simp only [putO]; simp only [Act.put, List.setIfInBounds_toArray, List.set_cons_zero, List.set_cons_succ]; refine ev_call rfl (by go_simp; first | done | exact ⟨rfl, rfl⟩) ?_; refine Calls.mono (clone_c _ _ av b.vs.length cc (secs b.vs) hO (fun w' h => rdV_rd (own_at h (k := 2) rfl) HIN.out) HONEV.out HVL.out) ?_; rintro e u' ⟨v, rfl, hO', hS'⟩; exact ⟨_, rfl, hN _ v u' rfl rfl hO' hS'⟩)
        · refine fs_end rfl rfl (by kernel_rfl) (by kernel_rfl) ?_
          intro x w7 hO hS N hN
          simp only [putO]
          simp only [Act.put, List.setIfInBounds_toArray, List.set_cons_zero, List.set_cons_succ]
          refine own_mset (i := 0) (b := bf) (f := ff) (k := (i : Int)) (v := x 6) rfl rfl rfl rfl rfl und_mv und_i hO rfl ?_
          intro w8 hO8 hS8
          exact hN _ _ rfl hO8 hS8
      intro x w12 D hD hO hS12
      rw [stB_yes (hD 7 (by decide)), owL_end hD (by kernel_rfl)] at hO
      have hO := own_perm hO List.perm_append_comm
      obtain ⟨A6, c6, e6⟩ := (owns_rd hO).slice
      have hO : Own w12 (owns 47 32 (x 6) b.vs.length (secs b.vs) :: mapP bf (mset ff i (x 6)) :: pts f (.cells #[lv2, .map (some bf), .map (some bb2)] 101) :: rdV l :: pts r (.mapIter (some bv) clock (seen.push born) clock) :: pts bv (.map es clock) :: rdV lf :: owns 47 32 lv2 m.length SS :: mapP bb2 fb :: pts d (.cells #[.slice (some ad) m.length c, .map (some bv), .map (some bb)] 101) :: owns 47 32 (.slice (some ad) m.length c) m.length SS :: mapP bb fb :: L) := hO
      rw [e6] at hO
      have hO := rdV_cons (l := lf) (v := .slice A6 b.vs.length c6) (ss := b.vs) (own_perm (rdA_owns hO) (List.Perm.cons _ (perm_at (k := 5) rfl)))
      have hO : Own w12 (fkL r f d bv bf bb bb2 (.slice (some ad) m.length c) lv2 m.length SS es clock clock clock (seen.push born) (mset ff i (.slice A6 b.vs.length c6)) fb ((.slice A6 b.vs.length c6, b.vs) :: lf) l L) := own_perm hO (by
        refine List.Perm.trans (perm_at (k := 4) rfl) (List.Perm.cons _ ?_)
        refine List.Perm.trans (perm_at (k := 4) rfl) (List.Perm.cons _ ?_)
        refine List.Perm.trans (perm_at (k := 1) rfl) (List.Perm.cons _ ?_)
        refine List.Perm.cons _ ?_
        refine List.Perm.cons _ ?_
        refine List.Perm.trans (perm_at (k := 1) rfl) (List.Perm.cons _ ?_)
        refine List.Perm.trans (perm_at (k := 1) rfl) (List.Perm.cons _ ?_)
        refine List.Perm.trans (perm_at (k := 1) rfl) (List.Perm.cons _ ?_)
        refine List.Perm.trans (perm_at (k := 1) rfl) (List.Perm.cons _ ?_)
        exact perm_at (k := 1) rfl)
      simp only [putO]
      simp only [Act.put, List.setIfInBounds_toArray, List.set_cons_zero, List.set_cons_succ]
      try simp only [Exit.then]
      replace hS := hS.trans hS12
      clear hD hS12
      go_wp2
      go_roundw
      case rel => exact ⟨_, _, _, _, Nat.le_refl _, HFN.out A6 c6, hO, hS⟩
      case measure =>
        rw [HLEFT.out]
        have e : w12.rangeLeft bv r = (leftOf es (seen.push born)).size := by
          unfold World.rangeLeft
          rw [own_get 1 hO rfl, own_get 0 hO rfl]
        rw [e]
        exact HLESS.out
end
end Go.Proofs.Ytonohjhmnlfakaa.H
