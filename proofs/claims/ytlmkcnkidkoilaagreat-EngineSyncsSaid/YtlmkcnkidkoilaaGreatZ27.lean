/- Flush of the reference's disk: the walk. Crash of the reference's disk. -/
import Derived.Test.YtlmkcnkidkoilaaGreatZ26
set_option linter.unusedVariables false
set_option linter.unusedSimpArgs false
set_option maxRecDepth 100000
namespace Go.Proofs.YtlmkcnkidkoilaaGreat.H
open Go.RowKit
theorem ROk.more {m : List Blk} {rb : List RB} {l : List (Value × List Sec)} (h : ROk m rb l) (x : Value × List Sec) : ROk m rb (x :: l) :=
  ⟨h.eq, h.pos, h.len, h.s32, h.v32, fun y hy => by obtain ⟨A, c, h1, h2⟩ := h.vers y hy; exact ⟨A, c, h1, List.mem_cons_of_mem _ h2⟩⟩
theorem rdisk_more {w : World} {L : List HP} {q : Nat} {m : List Blk} (hO : Own w (rdiskP q m :: L)) : ∃ g cap rest rb l, (ROk m rb l ∧ Room m rb rest cap) ∧ (.slice none 0 0, []) ∈ l ∧ Own w (rLd q g cap m.length rb rest l L) := by
  obtain ⟨g, cap, rest, rb, l, ⟨hk, hroom⟩, hO⟩ := rdisk_open.1 hO
  have h2 := rdV_cons (v := .slice none 0 0) (ss := []) (rdA_nil (size := 32) (own_at hO (k := 2) rfl))
  exact ⟨g, cap, rest, rb, _, ⟨hk.more _, hroom⟩, List.mem_cons_self .., own_perm h2 ((List.Perm.swap _ _ _).trans (List.Perm.cons _ (List.Perm.swap _ _ _)))⟩
theorem own_drop3 {w : World} {A B C : HP} {L : List HP} (h : Own w (A :: B :: C :: L)) : Own w L := own_drop (own_drop (own_drop h))
theorem set_now {l : List RB} {i : Nat} {x : RB} (h : l[i]? = some x) (y : RB) : (l.set i y)[i]? = some y := by
  rw [List.getElem?_set, if_pos rfl, if_pos (List.getElem?_eq_some_iff.1 h).1]
section
variable (w : World) (L : List HP) (q : Nat) (m : List Blk)
set_option maxHeartbeats 1600000 in
theorem rflush_c (hO : Own w (rdiskP q m :: L)) : Calls Tryz.prog 73 #[.pointer (some ⟨q, 0, none⟩)] w (Ret w (.int .i64 0) (rdiskP q (crashL allV 0 m) :: L)) := by
  have hS := Same.refl w
  obtain ⟨g, cap, rest, rb0, l, ⟨hk0, hroom0⟩, hnil, hO⟩ := rdisk_more hO
  have HK0 := Lib.hid (And.intro hk0 hroom0)
  have HNIL := Lib.hid hnil
  have hlm := hk0.len
  clear hk0 hroom0 hnil
  go_enter Tryz.func73, Tryz.ntmps73
  go_wp2
  go_loopw [3] (fun iv wr => ∃ i : Nat, i ≤ m.length ∧ iv = .int .i64 i ∧ (∃ rb, (ROk (crK allV m i) rb l ∧ Room (crK allV m i) rb rest cap) ∧ Own wr (rLd q g cap m.length rb rest l L)) ∧ Same w wr) (fun iv _ => m.length - (intOf iv).toNat)
  case atStart => exact ⟨0, Nat.zero_le _, rfl, ⟨rb0, by rw [crK_zero]; exact HK0.out, hO⟩, hS⟩
  case round =>
    clear hO hS
    obtain ⟨i, hi, rfl, ⟨rb, ⟨hok, hroom⟩, hO⟩, hS⟩ := hrel
    by_cases hlt : i < m.length
    · obtain ⟨b, hb⟩ : ∃ b, m[i]? = some b := ⟨_, List.getElem?_eq_getElem hlt⟩
      have hcr := crK_at (pk := allV) hb
      obtain ⟨A, c, hrb, hmem⟩ := hok.at_ hcr
      have hb32 : b.s.length = 32 := hok.s32 _ (List.mem_of_getElem? hrb)
      have hv32 : ∀ s ∈ b.vs, s.length = 32 := hok.v32 _ (List.mem_of_getElem? hrb)
      have hn32 : b.now.length = 32 := by
        unfold Blk.now
        cases hg : b.vs.getLast? with
        | none => exact hb32
        | some s => exact hv32 s (List.mem_of_getLast? hg)
      have HN := Lib.hid hn32
      have HNX : Hid ((crK allV m i).set i ⟨b.now, [], b.bad⟩ = crK allV m (i + 1)) := flK_next hb
      have HOK : Hid (ROk (crK allV m (i + 1)) (rb.set i (.slice none 0 0, ⟨b.now, [], b.bad⟩)) l ∧ Room (crK allV m (i + 1)) (rb.set i (.slice none 0 0, ⟨b.now, [], b.bad⟩)) rest cap) := by
        refine ⟨?_, ?_⟩
        · rw [← HNX.out]
          exact hok.put (b' := ⟨b.now, [], b.bad⟩) (fun _ h => h) hn32 (fun s hs => by simp at hs) HNIL.out
        · rw [← HNX.out]
          exact hroom.put (x := (.slice none 0 0, ⟨b.now, [], b.bad⟩)) hok hn32
      have HF := Lib.hid (rb_fit (rest := rest) hok.s32 hrb)
      have HST := Lib.hid (rb_sets (rest := rest) hok.s32 hrb b.now)
      have hs2 : ∀ x ∈ rb.set i (.slice A b.vs.length c, ⟨b.now, b.vs, b.bad⟩), x.2.s.length = 32 := fun x hx => by
        rcases List.mem_or_eq_of_mem_set hx with hx | rfl
        · exact hok.s32 x hx
        · exact hn32
      have hrb2 := set_now hrb (.slice A b.vs.length c, ⟨b.now, b.vs, b.bad⟩)
      have HF2 := Lib.hid (rb_fit (rest := rest) hs2 hrb2)
      have hsv := rb_setv (rest := rest) hs2 hrb2 (.slice none 0 0) []
      rw [List.set_set] at hsv
      have HSV := Lib.hid hsv
      have HRD : Hid (∀ w', Own w' (rLd q g cap m.length rb rest l L) → Rd w' 32 (.slice A b.vs.length c) b.vs.length (secs b.vs)) := Lib.hid fun w' h => rdV_rd (own_at h (k := 2) rfl) hmem
      have HRB := Lib.hid hrb
      have H32 := Lib.hid hok.s32
      have H32V := Lib.hid hv32
      have hi1 : (i : Int) < m.length := by omega
      have HLT := Lib.hid hlt
      clear hcr hok hroom hmem hb32 hv32 hn32 hs2 hrb2 hsv hrb hb
      go_upto_region 6 with (first | (apply own_load1 rfl rfl rfl; (first | exact row_blks); (first | exact own_get 0 hO rfl | exact own_get 1 hO rfl | exact own_get 2 hO rfl | exact own_get 3 hO rfl | exact own_get 4 hO rfl | exact own_get 5 hO rfl | exact own_get 6 hO rfl | exact own_get 7 hO rfl); (first | (simp only [List.getElem?_toArray, List.getElem?_cons_succ, List.getElem?_cons_zero]; rfl) | rfl)))
      refine wp_region_own (α := Unit) (fun _ => .pointer (some ⟨q, 0, none⟩) :: .pointer (some ⟨q, 0, none⟩) :: .pointer (some ⟨q, 0, none⟩) :: .slice (some ⟨g, 0, none⟩) m.length cap :: .int .i64 i :: .pointer (some ⟨q, 0, none⟩) :: .int .i64 i :: .tuple #[secV b.now, .int .i64 0] :: .tuple #[secV b.now, .int .i64 0] :: secV b.now :: .int .i64 0 :: .pointer (some ⟨g, i * 34, none⟩) :: .pointer (some ⟨g, i * 34, none⟩) :: undef :: []) (st0 13 (rLd q g cap m.length rb rest l L) (rLd q g cap m.length (rb.set i (.slice A b.vs.length c, ⟨b.now, b.vs, b.bad⟩)) rest l L)) _ () 35 (fun _ => rfl) mixed (by kernel_rfl) rfl (own_heap hO (fun _ _ h => h)) (Same.drew _) (fun _ _ _ _ hd h => ⟨hd ▸ h.1, h.2⟩) ?_ ?_
      · refine ⟨?_, ?_, ?_, ?_, ?_, ?_, ?_, ?_, ?_, ?_, ?_, ?_, ?_, ?_, trivial⟩
        · refine fs_lift0 13 (by decide) (by kernel_rfl) ?_; (refine fs_pure (fun _ _ => rfl) (fun D x hD hcl hp => ?_); simp only [putO]; simp only [Act.put, List.setIfInBounds_toArray, List.set_cons_zero, List.set_cons_succ]; first | exact y_skip rfl | exact y_run rfl (by intro w h; go_simp; first | done | rfl))
        · refine fs_lift0 13 (by decide) (by kernel_rfl) ?_; (refine fs_pure (fun _ _ => rfl) (fun D x hD hcl hp => ?_); simp only [putO]; simp only [Act.put, List.setIfInBounds_toArray, List.set_cons_zero, List.set_cons_succ]; first | exact y_skip rfl | exact y_run rfl (by intro w h; go_simp; first | done | rfl))
        · refine fs_lift0 13 (by decide) (by kernel_rfl) ?_; (refine fs_pure (fun _ _ => rfl) (fun D x hD hcl hp => ?_); simp only [putO]; simp only [Act.put, List.setIfInBounds_toArray, List.set_cons_zero, List.set_cons_succ]; first | exact y_skip rfl | exact y_run rfl (by intro w h; go_simp; first | done | rfl))
        · refine fs_lift0 13 (by decide) (by kernel_rfl) ?_; (refine fs_pure (fun _ _ => rfl) (fun D x hD hcl hp => ?_); simp only [putO]; simp only [Act.put, List.setIfInBounds_toArray, List.set_cons_zero, List.set_cons_succ]; first | exact y_skip rfl | exact (y_load1 (b := q) (off := 0) (cs := #[.slice (some ⟨g, 0, none⟩) m.length cap]) (t := 112) (v := .slice (some ⟨g, 0, none⟩) m.length cap) rfl rfl rfl row_blks (fun w h => own_get 0 h.1 rfl) rfl) | exact y_run rfl (by intro w h; go_simp; first | done | rfl))
        · refine fs_lift0 13 (by decide) (by kernel_rfl) ?_; (refine fs_pure (fun _ _ => rfl) (fun D x hD hcl hp => ?_); simp only [putO]; simp only [Act.put, List.setIfInBounds_toArray, List.set_cons_zero, List.set_cons_succ]; first | exact y_skip rfl | exact y_run rfl (by intro w h; go_simp; first | done | rfl))
        · refine fs_lift0 13 (by decide) (by kernel_rfl) ?_; (refine fs_pure (fun _ _ => rfl) (fun D x hD hcl hp => ?_); simp only [putO]; simp only [Act.put, List.setIfInBounds_toArray, List.set_cons_zero, List.set_cons_succ]; first | exact y_skip rfl | exact y_run rfl (by intro w h; go_simp; first | done | rfl))
        · refine fs_lift0 13 (by decide) (by kernel_rfl) ?_; (refine fs_pure (fun _ _ => rfl) (fun D x hD hcl hp => ?_); simp only [putO]; simp only [Act.put, List.setIfInBounds_toArray, List.set_cons_zero, List.set_cons_succ]; first | exact y_skip rfl | exact y_run rfl (by intro w h; go_simp; first | done | rfl))
        · refine fs_lift0 13 (by decide) (by kernel_rfl) ?_; (refine fs_pure (fun _ _ => rfl) (fun D x hD hcl hp => ?_); simp only [putO]; simp only [Act.put, List.setIfInBounds_toArray, List.set_cons_zero, List.set_cons_succ]; first | exact y_skip rfl | exact (y_call rfl (by intro w h; go_simp; first | done | exact ⟨rfl, rfl⟩) (by intro w h; apply cls_call h; exact rread_in _ _ q g cap m.length i b rb rest A c h.1 (fun w' h => own_get 0 h rfl) (fun w' h => own_get 1 h rfl) HRD.out HLT.out HRB.out H32.out H32V.out)) | exact y_run rfl (by intro w h; go_simp; first | done | rfl))
        · refine fs_lift0 13 (by decide) (by kernel_rfl) ?_; (refine fs_pure (fun _ _ => rfl) (fun D x hD hcl hp => ?_); simp only [putO]; simp only [Act.put, List.setIfInBounds_toArray, List.set_cons_zero, List.set_cons_succ]; first | exact y_skip rfl | exact y_run rfl (by intro w h; go_simp; first | done | rfl))
        · refine fs_lift0 13 (by decide) (by kernel_rfl) ?_; (refine fs_pure (fun _ _ => rfl) (fun D x hD hcl hp => ?_); simp only [putO]; simp only [Act.put, List.setIfInBounds_toArray, List.set_cons_zero, List.set_cons_succ]; first | exact y_skip rfl | exact y_run rfl (by intro w h; go_simp; first | done | rfl))
        · refine fs_free0 13 (by decide) (fun D x hD hcl hp => ?_); simp only [putO]; simp only [Act.put, List.setIfInBounds_toArray, List.set_cons_zero, List.set_cons_succ]; exact y_run rfl (by intro w h; go_simp; first | done | rfl)
        · refine fs_lift0 13 (by decide) (by kernel_rfl) ?_; (refine fs_pure (fun _ _ => rfl) (fun D x hD hcl hp => ?_); simp only [putO]; simp only [Act.put, List.setIfInBounds_toArray, List.set_cons_zero, List.set_cons_succ]; first | exact y_skip rfl | exact y_run rfl (by intro w h; go_simp; first | done | rfl))
        · refine fs_lift0 13 (by decide) (by kernel_rfl) ?_; (refine fs_pure (fun _ _ => rfl) (fun D x hD hcl hp => ?_); simp only [putO]; simp only [Act.put, List.setIfInBounds_toArray, List.set_cons_zero, List.set_cons_succ]; first | exact y_skip rfl | exact y_run rfl (by intro w h; go_simp; first | done | rfl))
        · refine fs_end0 rfl ?_
          intro w7 hO hS N hN
          simp only [putO]
          simp only [Act.put, List.setIfInBounds_toArray, List.set_cons_zero, List.set_cons_succ]
          refine own_store (k := 1) (b := g) (off := i * 34) (n := 32) (v := secV b.now) (vs := bcs b.now) rfl rfl rfl rfl sz_rsec hO rfl rfl (by rw [bcs_length]; exact HN.out) (bcs_one b.now) (by have := HF.out; omega) HST.out (fun w8 hO8 hS8 => hN _ _ rfl hO8 hS8)
      intro x w11 D hD hO hS10
      have e3 : ∀ A B : List HP, st0 13 A B D x = B := fun A B => by unfold st0; rw [hD 13 (by decide)]; rfl
      rw [e3] at hO
      replace hS := hS.trans hS10
      clear hS10
      simp only [putO]
      simp only [Act.put, List.setIfInBounds_toArray, List.set_cons_zero, List.set_cons_succ]
      try simp only [Exit.then]
      clear hD e3
      have hO : Own w11 (rLd q g cap m.length (rb.set i (.slice A b.vs.length c, ⟨b.now, b.vs, b.bad⟩)) rest l L) := hO
      go_wp2_with (first | (apply own_load1 rfl rfl rfl; (first | exact row_blks); (first | exact own_get 0 hO rfl | exact own_get 1 hO rfl | exact own_get 2 hO rfl | exact own_get 3 hO rfl | exact own_get 4 hO rfl | exact own_get 5 hO rfl | exact own_get 6 hO rfl | exact own_get 7 hO rfl); (first | (simp only [List.getElem?_toArray, List.getElem?_cons_succ, List.getElem?_cons_zero]; rfl) | rfl)) | (refine own_store1 (k := 1) (b := g) (off := i * 34 + 32) (v := .slice none 0 0) rfl rfl rfl rfl sz_rsecs1 hO rfl rfl (by have := HF2.out; omega) HSV.out ?_; clear hO; intro u hO hSn; replace hS := hS.trans hSn; clear hSn))
      go_roundw
      case rel => exact ⟨i + 1, by omega, by go_num, ⟨_, HOK.out, hO⟩, hS⟩
      case measure => simp [intOf]; omega
    · have hke : i = m.length := by omega
      subst hke
      rw [crK_all] at hok hroom
      have HK := Lib.hid (And.intro hok hroom)
      clear hok hroom
      go_wp2_with (first | (apply own_load1 rfl rfl rfl; (first | exact row_blks); (first | exact own_get 0 hO rfl | exact own_get 1 hO rfl | exact own_get 2 hO rfl | exact own_get 3 hO rfl | exact own_get 4 hO rfl | exact own_get 5 hO rfl | exact own_get 6 hO rfl | exact own_get 7 hO rfl); (first | (simp only [List.getElem?_toArray, List.getElem?_cons_succ, List.getElem?_cons_zero]; rfl) | rfl)))
      go_ret
      refine ⟨rfl, rdisk_open.2 ⟨g, cap, rest, rb, l, HK.out, ?_⟩, hS⟩
      rw [crashL_len]
      exact hO
end
end Go.Proofs.YtlmkcnkidkoilaaGreat.H
set_option linter.unusedVariables false
set_option linter.unusedSimpArgs false
set_option maxRecDepth 100000
namespace Go.Proofs.YtlmkcnkidkoilaaGreat.H
open Go.RowKit
section
variable (w : World) (L : List HP) (q : Nat) (m : List Blk)
set_option maxHeartbeats 3200000 in
theorem rcrash_c (pv : Value) (pl : List Int) (hO : Own w (rdiskP q m :: L)) (hr : ∀ w', Own w' L → Rd w' 1 pv pl.length (pl.map encZ)) (hi : ∀ x ∈ pl, inI x) : Calls Tryz.prog 91 #[.pointer (some ⟨q, 0, none⟩), pv] w (Ret w (.int .i64 0) (rdiskP q (crashL (pickV pl) 0 m) :: L)) := by
  have hS := Same.refl w
  obtain ⟨PA, pc, rfl⟩ := (hr w (own_drop hO)).slice
  have HRP := Lib.hid hr
  have HIN := Lib.hid hi
  obtain ⟨g, cap, rest, rb0, l, ⟨hk0, hroom0⟩, hnil, hO⟩ := rdisk_more hO
  have HK0 := Lib.hid (And.intro hk0 hroom0)
  have HNIL := Lib.hid hnil
  have hlm := hk0.len
  clear hk0 hroom0 hnil hr hi
  go_enter Tryz.func91, Tryz.ntmps91
  go_wp2
  go_loopw [5, 6, 7] (fun kv iv nv wr => ∃ i : Nat, i ≤ m.length ∧ iv = .int .i64 i ∧ kv = .int .i64 (cntL (m.take i)) ∧ (∃ rb, (ROk (crK (pickV pl) m i) rb l ∧ Room (crK (pickV pl) m i) rb rest cap) ∧ Own wr (rLd q g cap m.length rb rest l L)) ∧ Same w wr) (fun kv iv nv _ => m.length - (intOf iv).toNat)
  case atStart => exact ⟨0, Nat.zero_le _, rfl, rfl, ⟨rb0, by rw [crK_zero]; exact HK0.out, hO⟩, hS⟩
  case round =>
    clear hO hS
    obtain ⟨i, hi, rfl, rfl, ⟨rb, ⟨hok, hroom⟩, hO⟩, hS⟩ := hrel
    by_cases hlt : i < m.length
    · obtain ⟨b, hb⟩ : ∃ b, m[i]? = some b := ⟨_, List.getElem?_eq_getElem hlt⟩
      have hcr := crK_at (pk := pickV pl) hb
      obtain ⟨A, c, hrb, hmem⟩ := hok.at_ hcr
      have hb32 : b.s.length = 32 := hok.s32 _ (List.mem_of_getElem? hrb)
      have hv32 : ∀ s ∈ b.vs, s.length = 32 := hok.v32 _ (List.mem_of_getElem? hrb)
      have HF := Lib.hid (rb_fit (rest := rest) hok.s32 hrb)
      have HVV := Lib.hid (rb_v (rest := rest) hok.s32 hrb)
      have hi1 : (i : Int) < m.length := by omega
      have hcnt := cntL_le (m.take i)
      have hcnt2 : cntL (m.take i) ≤ 96 := by rw [List.length_take] at hcnt; omega
      have hrd : ∀ w', Own w' (rLd q g cap m.length rb rest l L) → Rd w' 32 (.slice A b.vs.length c) b.vs.length (secs b.vs) := fun w' h => rdV_rd (own_at h (k := 2) rfl) hmem
      have hmx := (hrd _ hO).max
      by_cases hv : b.vs = []
      · have HOK : Hid (ROk (crK (pickV pl) m (i + 1)) rb l ∧ Room (crK (pickV pl) m (i + 1)) rb rest cap) := by
          refine ⟨?_, ?_⟩
          · rw [crK_no hb hv]; exact hok
          · rw [crK_no hb hv]; exact hroom
        have HCN : Hid (cntL (m.take (i + 1)) = cntL (m.take i)) := by show _ = _; rw [take_next hb, cntL_app, cntL_no hv]; rfl
        rw [hv] at HVV
        clear hcr hok hroom hmem hb32 hv32 hrb hb hv hrd hmx hcnt
        go_wp2_with (first | (refine own_load1 (b := g) (off := i * 34 + 32) (v := .slice A 0 c) rfl rfl rfl row_rsecs (own_get 1 hO rfl) HVV.out ?_) | (apply own_load1 rfl rfl rfl; (first | exact row_blks); (first | exact own_get 0 hO rfl | exact own_get 1 hO rfl | exact own_get 2 hO rfl | exact own_get 3 hO rfl | exact own_get 4 hO rfl | exact own_get 5 hO rfl | exact own_get 6 hO rfl | exact own_get 7 hO rfl); (first | (simp only [List.getElem?_toArray, List.getElem?_cons_succ, List.getElem?_cons_zero]; rfl) | rfl)))
        go_roundw
        case rel => exact ⟨i + 1, by omega, by go_num, by rw [HCN.out], ⟨rb, HOK.out, hO⟩, hS⟩
        case measure => simp [intOf]; omega
      · have hlen : 0 < b.vs.length := List.length_pos_iff.2 hv
        have hne0 : ((b.vs.length : Int) == 0) = false := by rw [beq_eq_false_iff_ne]; omega
        have HCN : Hid (cntL (m.take (i + 1)) = cntL (m.take i) + 1) := by show _ = _; rw [take_next hb, cntL_app, cntL_yes hv]
        have hsl := sett_len (m := crK (pickV pl) m i) (fv := []) (fb := []) (l := [])
        have HNX : Hid (crK (pickV pl) m (i + 1) = (crK (pickV pl) m i).set i ⟨sett (pickV pl (cntL (m.take i)) b.vs.length) b, [], b.bad⟩) := crK_yes hb hv
        -- what stands at the end, for a sector of 32 bytes
        have hput : ∀ s : Sec, s.length = 32 → sett (pickV pl (cntL (m.take i)) b.vs.length) b = s → ROk (crK (pickV pl) m (i + 1)) (rb.set i (.slice none 0 0, ⟨s, [], b.bad⟩)) l ∧ Room (crK (pickV pl) m (i + 1)) (rb.set i (.slice none 0 0, ⟨s, [], b.bad⟩)) rest cap := fun s hs e => by
          rw [HNX.out, e]
          exact ⟨hok.put (b' := ⟨s, [], b.bad⟩) (fun _ h => h) hs (fun s hs => by simp at hs) HNIL.out, hroom.put (x := (.slice none 0 0, ⟨s, [], b.bad⟩)) hok hs⟩
        have HSV0 := Lib.hid (rb_setv (rest := rest) hok.s32 hrb (.slice none 0 0) [])
        have HPUT := Lib.hid hput
        have HB32 := Lib.hid hb32
        by_cases hkp : cntL (m.take i) < pl.length
        · obtain ⟨v, hpv⟩ : ∃ v, pl[cntL (m.take i)]? = some v := ⟨_, List.getElem?_eq_getElem hkp⟩
          have hpk : pickV pl (cntL (m.take i)) b.vs.length = v := by simp [pickV, hpv]
          have hiv : inI v := HIN.out v (List.mem_of_getElem? hpv)
          obtain ⟨_, A', c', e, _, _, hcl⟩ := (HRP.out _ (own_drop3 hO)).out
          cases e
          obtain ⟨pad, rfl, _⟩ := hcl (cntL (m.take i)) (.int .i64 v) (by rw [List.getElem?_map, hpv]; rfl)
          have HPC : Hid (∀ w', Own w' (rLd q g cap m.length rb rest l L) → w'.cell? (pad.add (cntL (m.take i))) = some (.int .i64 v)) := Lib.hid fun w' h => by
            obtain ⟨_, A', c', e, _, _, hcl⟩ := (HRP.out _ (own_drop3 h)).out
            cases e
            obtain ⟨pad2, e2, h2⟩ := hcl (cntL (m.take i)) (.int .i64 v) (by rw [List.getElem?_map, hpv]; rfl)
            cases e2
            exact h2
          have d0 : decide ((cntL (m.take i) : Int) < pl.length) = true := decide_eq_true (by omega)
          have d01 : (cntL (m.take i) : Int) < pl.length := by omega
          rw [hpk] at HPUT
          by_cases h1 : 1 ≤ v
          · by_cases h2 : v ≤ (b.vs.length : Int)
            · obtain ⟨s, hsv⟩ : ∃ s, b.vs[(v - 1).toNat]? = some s := ⟨_, List.getElem?_eq_getElem (by omega)⟩
              have hse : Hid (sett v b = s) := by show _ = _; unfold sett; rw [if_pos ⟨h1, h2⟩, hsv]; rfl
              have hs32 := hv32 s (List.mem_of_getElem? hsv)
              have HS32 := Lib.hid hs32
              obtain ⟨r, rfl⟩ : ∃ r : Nat, v = (r : Int) + 1 := ⟨(v - 1).toNat, by omega⟩
              have hq : ((r : Int) + 1 - 1).toNat = r := by omega
              rw [hq] at hsv
              obtain ⟨ad2, rfl, _⟩ := vers_cell (hrd _ hO) hv32 hsv
              have HVC : Hid (∀ w', Own w' (rLd q g cap m.length rb rest l L) → ∀ (j : Nat) (u : Value), (bcs s)[j]? = some u → w'.cell? ((ad2.add (r * 32)).add j) = some u) := Lib.hid fun w' h => by
                obtain ⟨ad3, e3, h3⟩ := vers_cell (hrd _ h) hv32 hsv
                cases e3
                exact h3
              have HST := Lib.hid (rb_sets (rest := rest) hok.s32 hrb s)
              have hs2 : ∀ x ∈ rb.set i (.slice (some ad2) b.vs.length c, ⟨s, b.vs, b.bad⟩), x.2.s.length = 32 := fun x hx => by
                rcases List.mem_or_eq_of_mem_set hx with hx | rfl
                · exact hok.s32 x hx
                · exact hs32
              have hrb2 := set_now hrb (.slice (some ad2) b.vs.length c, ⟨s, b.vs, b.bad⟩)
              have HF2 := Lib.hid (rb_fit (rest := rest) hs2 hrb2)
              have hsv2 := rb_setv (rest := rest) hs2 hrb2 (.slice none 0 0) []
              rw [List.set_set] at hsv2
              have HSV := Lib.hid hsv2
              have d1 : decide (1 ≤ (r : Int) + 1) = true := decide_eq_true h1
              have d2 : decide ((r : Int) + 1 ≤ (b.vs.length : Int)) = true := decide_eq_true h2
              have hsub : IntKind.i64.wrap ((r : Int) + 1 - 1) = (r : Int) := by rw [IntKind.wrap_i64] <;> omega
              have hsub2 : IntKind.i64.wrap (r : Int) = (r : Int) := by rw [IntKind.wrap_i64] <;> omega
              have hq1 : (r : Int) < b.vs.length := by omega
              have hq2 : r < b.vs.length := by omega
              have hq3 : ¬ ((r : Int) < 0) := by omega
              clear hcr hok hroom hmem hb32 hv32 hrb hb hv hrd hput hs32 hs2 hrb2 hsv2 hsv hpk hpv hiv hcl hsl hlen
              go_upto_region 10 with (first | (refine own_load1_at (ad := pad.add (cntL (m.take i))) (v := .int .i64 ((r : Int) + 1)) rfl rfl rfl row_int (HPC.out _ hO) ?_) | (refine own_load1 (b := g) (off := i * 34 + 32) (v := .slice (some ad2) b.vs.length c) rfl rfl rfl row_rsecs (own_get 1 hO rfl) HVV.out ?_) | (apply own_load1 rfl rfl rfl; (first | exact row_blks); (first | exact own_get 0 hO rfl | exact own_get 1 hO rfl | exact own_get 2 hO rfl | exact own_get 3 hO rfl | exact own_get 4 hO rfl | exact own_get 5 hO rfl | exact own_get 6 hO rfl | exact own_get 7 hO rfl); (first | (simp only [List.getElem?_toArray, List.getElem?_cons_succ, List.getElem?_cons_zero]; rfl) | rfl)))
              refine wp_region_seq (Cls _ (_)) 22 80 mixed (by kernel_rfl) rfl (cls_drew hO) ?_
              simp only [List.append_eq, List.cons_append, List.nil_append, List.take_succ_cons, List.take_zero]
              repeat (first
                | (apply wv_skip rfl; simp only [Act.put, List.setIfInBounds_toArray, List.set_cons_zero, List.set_cons_succ])
                | (refine wv_load1 (b := q) (off := 0) (cs := #[.slice (some ⟨g, 0, none⟩) m.length cap]) (t := 112) (v := .slice (some ⟨g, 0, none⟩) m.length cap) rfl rfl rfl row_blks (fun w h => own_get 0 h.1 rfl) rfl ?_; simp only [Act.put, List.setIfInBounds_toArray, List.set_cons_zero, List.set_cons_succ])
                | (refine wv_load1 (b := g) (off := i * 34 + 32) (cs := (rbs rb ++ rest).toArray) (t := 128) (v := .slice (some ad2) b.vs.length c) rfl rfl rfl row_rsecs (fun w h => own_get 1 h.1 rfl) HVV.out ?_; simp only [Act.put, List.setIfInBounds_toArray, List.set_cons_zero, List.set_cons_succ])
                | (refine wv_load1_at (ad := pad.add (cntL (m.take i))) (v := .int .i64 ((r : Int) + 1)) rfl rfl rfl row_int (fun w h => HPC.out w h.1) ?_; simp only [Act.put, List.setIfInBounds_toArray, List.set_cons_zero, List.set_cons_succ])
                | (refine wv_loadrow_at (ad := ad2.add (r * 32)) (vs := bcs s) rfl rfl rfl row_rsec sz_rsec (by rw [bcs_length]; exact HS32.out) (fun w h => HVC.out w h.1) ?_; simp only [Act.put, List.setIfInBounds_toArray, List.set_cons_zero, List.set_cons_succ])
                | (apply wv_load1 rfl rfl rfl; (first | exact row_int | exact row_str | exact row_bool | exact row_u8 | exact row_bys | exact row_pats | exact row_err); (intro w h; (first | exact own_get 0 h.1 rfl | exact own_get 1 h.1 rfl | exact own_get 2 h.1 rfl | exact own_get 3 h.1 rfl | exact own_get 4 h.1 rfl | exact own_get 5 h.1 rfl | exact own_get 6 h.1 rfl | exact own_get 7 h.1 rfl)); (first | (simp only [List.getElem?_toArray, List.getElem?_cons_succ, List.getElem?_cons_zero]; rfl) | rfl); simp only [Act.put, List.setIfInBounds_toArray, List.set_cons_zero, List.set_cons_succ])
                | (apply wv_loadrow rfl rfl rfl; (first | exact row_pat); exact sz_pat; (intro w h; (first | exact own_get 0 h.1 rfl | exact own_get 1 h.1 rfl | exact own_get 2 h.1 rfl | exact own_get 3 h.1 rfl | exact own_get 4 h.1 rfl | exact own_get 5 h.1 rfl | exact own_get 6 h.1 rfl | exact own_get 7 h.1 rfl)); (focus (simp; done)); (first | (simp only [List.drop_zero, List.drop_succ_cons, List.take_succ_cons, List.take_zero]; rfl) | rfl); simp only [Act.put, List.setIfInBounds_toArray, List.set_cons_zero, List.set_cons_succ])
                | (apply wv_run rfl; (focus (intro w h; go_simp; first | done | rfl)); simp only [Act.put, List.setIfInBounds_toArray, List.set_cons_zero, List.set_cons_succ])
                | (apply wv_call rfl; (focus (intro w; go_simp; first | done | exact ⟨rfl, rfl⟩)); (focus (intro w h; apply cls_call h; fail)); simp only [Act.put, List.setIfInBounds_toArray, List.set_cons_zero, List.set_cons_succ]))
              refine wv_nil ?_
              simp only [List.drop_succ_cons, List.drop_zero]
              intro w10 ⟨hO10, hS10⟩
              replace hS := hS.trans hS10
              clear hO hS10
              refine own_store (k := 1) (b := g) (off := i * 34) (n := 32) (v := secV s) (vs := bcs s) rfl rfl rfl rfl sz_rsec hO10 rfl rfl (by rw [bcs_length]; exact HS32.out) (bcs_one s) (by have := HF.out; omega) HST.out ?_
              intro w11 hO hS11
              replace hS := hS.trans hS11
              clear hO10 hS11
              refine wpList_nil ?_
              simp only [Act.put, List.setIfInBounds_toArray, List.set_cons_zero, List.set_cons_succ]
              try simp only [Exit.then]
              have hO : Own w11 (rLd q g cap m.length (rb.set i (.slice (some ad2) b.vs.length c, ⟨s, b.vs, b.bad⟩)) rest l L) := hO
              go_wp2_with (first | (apply own_load1 rfl rfl rfl; (first | exact row_blks); (first | exact own_get 0 hO rfl | exact own_get 1 hO rfl | exact own_get 2 hO rfl | exact own_get 3 hO rfl | exact own_get 4 hO rfl | exact own_get 5 hO rfl | exact own_get 6 hO rfl | exact own_get 7 hO rfl); (first | (simp only [List.getElem?_toArray, List.getElem?_cons_succ, List.getElem?_cons_zero]; rfl) | rfl)) | (refine own_store1 (k := 1) (b := g) (off := i * 34 + 32) (v := .slice none 0 0) rfl rfl rfl rfl sz_rsecs1 hO rfl rfl (by have := HF2.out; omega) HSV.out ?_; clear hO; intro u hO hSn; replace hS := hS.trans hSn; clear hSn))
              go_roundw
              case rel => exact ⟨i + 1, by omega, by go_num, by rw [HCN.out]; go_num, ⟨_, HPUT.out s HS32.out hse.out, hO⟩, hS⟩
              case measure => simp [intOf]; omega
            · have hse : Hid (sett v b = b.s) := by show _ = _; unfold sett; rw [if_neg (fun h => h2 h.2)]
              have d1 : decide (1 ≤ v) = true := decide_eq_true h1
              have d2 : decide (v ≤ (b.vs.length : Int)) = false := decide_eq_false h2
              clear hcr hok hroom hmem hb32 hv32 hrb hb hv hrd hput hpk hpv hiv hcl hsl hlen h2
              go_wp2_with (first | (refine own_load1_at (ad := pad.add (cntL (m.take i))) (v := .int .i64 v) rfl rfl rfl row_int (HPC.out _ hO) ?_) | (refine own_load1 (b := g) (off := i * 34 + 32) (v := .slice A b.vs.length c) rfl rfl rfl row_rsecs (own_get 1 hO rfl) HVV.out ?_) | (apply own_load1 rfl rfl rfl; (first | exact row_blks); (first | exact own_get 0 hO rfl | exact own_get 1 hO rfl | exact own_get 2 hO rfl | exact own_get 3 hO rfl | exact own_get 4 hO rfl | exact own_get 5 hO rfl | exact own_get 6 hO rfl | exact own_get 7 hO rfl); (first | (simp only [List.getElem?_toArray, List.getElem?_cons_succ, List.getElem?_cons_zero]; rfl) | rfl)) | (refine own_store1 (k := 1) (b := g) (off := i * 34 + 32) (v := .slice none 0 0) rfl rfl rfl rfl sz_rsecs1 hO rfl rfl (by have := HF.out; omega) HSV0.out ?_; clear hO; intro u hO hSn; replace hS := hS.trans hSn; clear hSn))
              go_roundw
              case rel => exact ⟨i + 1, by omega, by go_num, by rw [HCN.out]; go_num, ⟨_, HPUT.out b.s HB32.out hse.out, hO⟩, hS⟩
              case measure => simp [intOf]; omega
          · have hse : Hid (sett v b = b.s) := by show _ = _; unfold sett; rw [if_neg (fun h => h1 h.1)]
            have d1 : decide (1 ≤ v) = false := decide_eq_false h1
            clear hcr hok hroom hmem hb32 hv32 hrb hb hv hrd hput hpk hpv hiv hcl hsl hlen h1
            go_wp2_with (first | (refine own_load1_at (ad := pad.add (cntL (m.take i))) (v := .int .i64 v) rfl rfl rfl row_int (HPC.out _ hO) ?_) | (refine own_load1 (b := g) (off := i * 34 + 32) (v := .slice A b.vs.length c) rfl rfl rfl row_rsecs (own_get 1 hO rfl) HVV.out ?_) | (apply own_load1 rfl rfl rfl; (first | exact row_blks); (first | exact own_get 0 hO rfl | exact own_get 1 hO rfl | exact own_get 2 hO rfl | exact own_get 3 hO rfl | exact own_get 4 hO rfl | exact own_get 5 hO rfl | exact own_get 6 hO rfl | exact own_get 7 hO rfl); (first | (simp only [List.getElem?_toArray, List.getElem?_cons_succ, List.getElem?_cons_zero]; rfl) | rfl)) | (refine own_store1 (k := 1) (b := g) (off := i * 34 + 32) (v := .slice none 0 0) rfl rfl rfl rfl sz_rsecs1 hO rfl rfl (by have := HF.out; omega) HSV0.out ?_; clear hO; intro u hO hSn; replace hS := hS.trans hSn; clear hSn))
            go_roundw
            case rel => exact ⟨i + 1, by omega, by go_num, by rw [HCN.out]; go_num, ⟨_, HPUT.out b.s HB32.out hse.out, hO⟩, hS⟩
            case measure => simp [intOf]; omega
        · have hpk : pickV pl (cntL (m.take i)) b.vs.length = 0 := by simp [pickV, List.getElem?_eq_none (show pl.length ≤ cntL (m.take i) by omega)]
          rw [hpk] at HPUT
          have hse : Hid (sett 0 b = b.s) := by show _ = _; unfold sett; rw [if_neg (fun h => by have := h.1; omega)]
          have d01 : ¬ ((cntL (m.take i) : Int) < pl.length) := by omega
          have d0 : decide ((cntL (m.take i) : Int) < pl.length) = false := decide_eq_false d01
          clear hcr hok hroom hmem hb32 hv32 hrb hb hv hrd hput hpk hsl hlen hkp
          go_wp2_with (first | (refine own_load1 (b := g) (off := i * 34 + 32) (v := .slice A b.vs.length c) rfl rfl rfl row_rsecs (own_get 1 hO rfl) HVV.out ?_) | (apply own_load1 rfl rfl rfl; (first | exact row_blks); (first | exact own_get 0 hO rfl | exact own_get 1 hO rfl | exact own_get 2 hO rfl | exact own_get 3 hO rfl | exact own_get 4 hO rfl | exact own_get 5 hO rfl | exact own_get 6 hO rfl | exact own_get 7 hO rfl); (first | (simp only [List.getElem?_toArray, List.getElem?_cons_succ, List.getElem?_cons_zero]; rfl) | rfl)) | (refine own_store1 (k := 1) (b := g) (off := i * 34 + 32) (v := .slice none 0 0) rfl rfl rfl rfl sz_rsecs1 hO rfl rfl (by have := HF.out; omega) HSV0.out ?_; clear hO; intro u hO hSn; replace hS := hS.trans hSn; clear hSn))
          go_roundw
          case rel => exact ⟨i + 1, by omega, by go_num, by rw [HCN.out]; go_num, ⟨_, HPUT.out b.s HB32.out hse.out, hO⟩, hS⟩
          case measure => simp [intOf]; omega
    · have hke : i = m.length := by omega
      subst hke
      rw [crK_all] at hok hroom
      have HK := Lib.hid (And.intro hok hroom)
      clear hok hroom
      go_wp2_with (first | (apply own_load1 rfl rfl rfl; (first | exact row_blks); (first | exact own_get 0 hO rfl | exact own_get 1 hO rfl | exact own_get 2 hO rfl | exact own_get 3 hO rfl | exact own_get 4 hO rfl | exact own_get 5 hO rfl | exact own_get 6 hO rfl | exact own_get 7 hO rfl); (first | (simp only [List.getElem?_toArray, List.getElem?_cons_succ, List.getElem?_cons_zero]; rfl) | rfl)))
      go_ret
      refine ⟨rfl, rdisk_open.2 ⟨g, cap, rest, rb, l, HK.out, ?_⟩, hS⟩
      rw [crashL_len]
      exact hO
end
end Go.Proofs.YtlmkcnkidkoilaaGreat.H
