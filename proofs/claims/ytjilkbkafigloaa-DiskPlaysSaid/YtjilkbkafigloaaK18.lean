/- Spoil, New, Load of the reference's disk. -/
import Derived.Test.YtjilkbkafigloaaK17
set_option linter.unusedVariables false
set_option linter.unusedSimpArgs false
set_option maxRecDepth 100000
namespace Go.Proofs.Ytjilkbkafigloaa.H
open Go.RowKit
theorem info_blk3 : (Try.prog.info? 69).map (fun i => (i.zero, i.size, i.bytes)) = some (some (.agg (rblk (.slice none 0 0) ⟨sec0, [], false⟩).toArray), 34, 64) := by kernel_rfl
theorem sz_boolD : (Try.prog.info? 4).map (·.size) = some 1 := by kernel_rfl
theorem rep_flat {r : List Value} {k : Nat} (hr : r.length = k) : ∀ (n i : Nat), i < n * k → (List.replicate n r).flatten[i]? = r[i % k]?
  | 0, i, h => by omega
  | n + 1, i, h => by
    rw [List.replicate_succ, List.flatten_cons]
    by_cases hi : i < k
    · rw [List.getElem?_append_left (by omega), Nat.mod_eq_of_lt hi]
    · rw [List.getElem?_append_right (by omega), hr, rep_flat hr n (i - k) (by rw [Nat.succ_mul] at h; omega), Nat.mod_eq_sub_mod (a := i) (by omega)]
theorem made_rows {r : List Value} {k : Nat} (hr : r.length = k) (hk : 0 < k) (n : Nat) : madeCells r.toArray (n * k) = (List.replicate n r).flatten.toArray := by
  apply Array.ext'
  refine List.ext_getElem? (fun i => ?_)
  have hl : (List.replicate n r).flatten.length = n * k := by simp [hr]
  simp only [madeCells, Array.toList_map, Array.toList_range]
  by_cases h : i < n * k
  · show _ = (List.replicate n r).flatten[i]?
    have hm : i % k < r.length := by rw [hr]; exact Nat.mod_lt _ hk
    rw [rep_flat hr n i h, List.getElem?_map, List.getElem?_range h, List.getElem?_eq_getElem hm]
    simp only [Option.map_some, List.size_toArray, hr]
    rw [getElem!_pos _ _ (by simpa using hm)]
    simp
  · rw [List.getElem?_eq_none (by simp; omega)]
    show _ = (List.replicate n r).flatten[i]?
    rw [List.getElem?_eq_none (by omega)]
theorem rbs_rep (n : Nat) (x : RB) : rbs (List.replicate n x) = (List.replicate n (rblk x.1 x.2)).flatten := by
  unfold rbs
  rw [List.flatMap_def, List.map_replicate]
theorem made_blks (n : Nat) : madeCells (Value.agg (rblk (.slice none 0 0) ⟨sec0, [], false⟩).toArray).cells (n * 34) = (rbs (List.replicate n (.slice none 0 0, ⟨sec0, [], false⟩))).toArray := by
  rw [rbs_rep]
  exact made_rows (rblk_len (by simp)) (by decide) n
section
variable (w : World) (L : List HP) (q : Nat) (m : List Blk)
theorem rspoil_ok (i : Nat) (b : Blk) (bad : Bool) (hO : Own w (rdiskP q m :: L)) (hi : m[i]? = some b) : Calls Try.prog 43 #[.pointer (some ⟨q, 0, none⟩), .int .i64 i, .bool bad] w (Ret w (.int .i64 0) (rdiskP q (m.set i ⟨b.s, b.vs, bad⟩) :: L)) := by
  have HI := Lib.hid hi
  have hS := Same.refl w
  clear hi
  go_enter Try.func43, Try.ntmps43
  go_upto_region 3 with (first | (go_at_call 44; (with_reducible refine Calls.mono (rmay_ok _ _ q m i b hO HI.out) ?_); clear hO; rintro e u ⟨rfl, hO, hSn⟩; replace hS := hS.trans hSn; clear hSn))
  obtain ⟨g1, cap, rest, rb, l, ⟨hk, hroom⟩, hO⟩ := rdisk_open.1 hO
  obtain ⟨A, c, hrb, hmem⟩ := hk.at_ HI.out
  have HF := Lib.hid (rb_fit (rest := rest) hk.s32 hrb)
  have hb32 : b.s.length = 32 := hk.s32 _ (List.mem_of_getElem? hrb)
  have hv32 : ∀ s ∈ b.vs, s.length = 32 := hk.v32 _ (List.mem_of_getElem? hrb)
  have HK : Hid (ROk (m.set i ⟨b.s, b.vs, bad⟩) (rb.set i (.slice A b.vs.length c, ⟨b.s, b.vs, bad⟩)) l ∧ Room (m.set i ⟨b.s, b.vs, bad⟩) (rb.set i (.slice A b.vs.length c, ⟨b.s, b.vs, bad⟩)) rest cap) := Lib.hid ⟨hk.put (b' := ⟨b.s, b.vs, bad⟩) (fun _ h => h) hb32 hv32 hmem, hroom.put (x := (.slice A b.vs.length c, ⟨b.s, b.vs, bad⟩)) hk hb32⟩
  have HB := Lib.hid (rb_setb (rest := rest) hk.s32 hrb bad)
  have hl : (i : Int) < m.length := by have := (List.getElem?_eq_some_iff.1 HI.out).1; omega
  clear hk hrb hroom hmem hb32 hv32
  go_wp2_with (first | (apply own_load1 rfl rfl rfl; (first | exact row_blks); (first | exact own_get 0 hO rfl | exact own_get 1 hO rfl | exact own_get 2 hO rfl | exact own_get 3 hO rfl | exact own_get 4 hO rfl | exact own_get 5 hO rfl | exact own_get 6 hO rfl | exact own_get 7 hO rfl); (first | (simp only [List.getElem?_toArray, List.getElem?_cons_succ, List.getElem?_cons_zero]; rfl) | rfl)) | (refine own_store1 (k := 1) (b := g1) (off := i * 34 + 33) rfl rfl rfl rfl sz_boolD hO rfl rfl (by have := HF.out; omega) HB.out ?_; clear hO; intro u hO hSn; replace hS := hS.trans hSn; clear hSn; simp only [List.set_cons_zero, List.set_cons_succ] at hO))
  go_ret
  refine ⟨rfl, rdisk_open.2 ⟨g1, cap, rest, _, l, HK.out, ?_⟩, hS⟩
  rw [List.length_set]
  exact hO
theorem rnew_no (n : Int) (hO : Own w L) (h : n < 1 ∨ 96 < n) : Calls Try.prog 29 #[.int .i64 n] w (Ret w (.pointer none) L) := by
  by_cases h1 : n < 1
  · clear h
    go_enter Try.func29, Try.ntmps29
    go_wp2
    go_ret
    exact ⟨rfl, hO, Same.refl _⟩
  · have h2 : 96 < n := by omega
    clear h
    go_enter Try.func29, Try.ntmps29
    go_wp2
    go_ret
    exact ⟨rfl, hO, Same.refl _⟩
theorem rnew_close {w : World} {L : List HP} {q g n : Nat} (h0 : 0 < n) (h : n ≤ 96) (hO : Own w (pts q (.cells #[.slice (some ⟨g, 0, none⟩) n n] 72) :: pts g (.cells (rbs (List.replicate n (.slice none 0 0, ⟨sec0, [], false⟩))).toArray 69) :: L)) : Own w (rdiskP q (fresh (List.replicate n sec0)) :: L) := by
  have hs : ∀ x ∈ List.replicate n ((.slice none 0 0, ⟨sec0, [], false⟩) : RB), x.2.s.length = 32 := fun x hx => by rw [List.eq_of_mem_replicate hx]; simp
  refine rdisk_open.2 ⟨g, n, [], List.replicate n (.slice none 0 0, ⟨sec0, [], false⟩), [(.slice none 0 0, [])], ⟨⟨?_, ?_, ?_, hs, ?_, ?_⟩, ⟨?_, ?_, ?_⟩⟩, ?_⟩
  · simp [fresh]
  · simpa [fresh] using h0
  · simpa [fresh] using h
  · intro x hx; rw [List.eq_of_mem_replicate hx]; simp
  · intro x hx; rw [List.eq_of_mem_replicate hx]; exact ⟨none, 0, rfl, by simp⟩
  · simp [fresh]
  · unfold maxLen; omega
  · rw [List.append_nil, rbs_length hs, List.length_replicate]
  · rw [List.append_nil]
    have e : (fresh (List.replicate n sec0)).length = n := by simp [fresh]
    rw [e]
    have h2 := rdV_cons (l := []) (v := .slice none 0 0) (ss := []) (rdA_nil (size := 32) (rdV_nil hO))
    exact own_perm h2 ((List.Perm.swap _ _ _).trans (List.Perm.cons _ (List.Perm.swap _ _ _)))
theorem rnew_ok (n : Nat) (hO : Own w L) (h0 : 0 < n) (h : n ≤ 96) : Calls Try.prog 29 #[.int .i64 n] w (RetX w (fun d : Nat => .pointer (some ⟨d, 0, none⟩)) (fun d => rdiskP d (fresh (List.replicate n sec0)) :: L)) := by
  have h1 : ¬ ((n : Int) < 1) := by omega
  have h2 : ¬ (96 < (n : Int)) := by omega
  have H0 := Lib.hid h0
  have HN := Lib.hid h
  have hS := Same.refl w
  clear h0 h
  go_enter Try.func29, Try.ntmps29
  go_wp2_with (first | (at_make; refine own_make (n := n) rfl rfl rfl rfl Try.underlying70 info_blk3 (by have := HN.out; omega) (by have := HN.out; omega) (made_blks n) hO ?_; clear hO; intro g u hO hSn; replace hS := hS.trans hSn; clear hSn) | (refine own_box_agg (x := .tmp 11) rfl rfl rfl hO ?_; clear hO; intro q u hO hSn; replace hS := hS.trans hSn; clear hSn))
  go_ret
  have h := rnew_close H0.out HN.out hO
  simp only [fresh, List.map_replicate] at h
  exact ⟨q, rfl, h, hS⟩
theorem rload_no (A : Option Addr) (n c : Nat) (hO : Own w L) (h : n = 0 ∨ 96 < n) : Calls Try.prog 12 #[.slice A n c] w (Ret w (.pointer none) L) := by
  have hS := Same.refl w
  have hn : (n : Int) < 1 ∨ 96 < (n : Int) := by omega
  have HN := Lib.hid hn
  clear h hn
  go_enter Try.func12, Try.ntmps12
  go_wp2_with (first | (go_at_call 29; (with_reducible refine Calls.mono (rnew_no _ _ n hO HN.out) ?_); clear hO; rintro e u ⟨rfl, hO, hSn⟩; replace hS := hS.trans hSn; clear hSn))
  go_loopw [4] (fun i wr => i = .int .i64 0 ∧ Own wr L ∧ Same w wr) (fun i _ => 0)
  case atStart => exact ⟨rfl, hO, hS⟩
  case round =>
    clear hO hS
    obtain ⟨rfl, hO, hS⟩ := hrel
    go_wp2
    go_ret
    exact ⟨rfl, hO, hS⟩
set_option maxHeartbeats 1600000 in
theorem rload_ok (v : Value) (l : List Sec) (hO : Own w L) (hr : ∀ w', Own w' L → Rd w' 32 v l.length (secs l)) (h0 : 0 < l.length) (hl : l.length ≤ 96) (h32 : ∀ s ∈ l, s.length = 32) :
    Calls Try.prog 12 #[v] w (RetX w (fun d : Nat => .pointer (some ⟨d, 0, none⟩)) (fun d => rdiskP d (fresh l) :: L)) := by
  obtain ⟨A, c, rfl⟩ := (hr w hO).slice
  obtain ⟨ad, rfl⟩ := (hr w hO).addr (by rw [secs_length h32]; omega)
  have HR := Lib.hid hr
  have H0 := Lib.hid h0
  have HL := Lib.hid hl
  have H32 := Lib.hid h32
  have hS := Same.refl w
  clear hr h0 hl h32
  go_enter Try.func12, Try.ntmps12
  go_wp2_with (first | (go_at_call 29; (with_reducible refine Calls.mono (rnew_ok _ _ l.length hO H0.out HL.out) ?_); clear hO; rintro e u ⟨q, rfl, hO, hSn⟩; replace hS := hS.trans hSn; clear hSn))
  go_loopw [4] (fun i wr => ∃ k : Nat, k ≤ l.length ∧ i = .int .i64 k ∧ Own wr (rdiskP q (fresh (l.take k ++ List.replicate (l.length - k) sec0)) :: L) ∧ Same w wr) (fun i _ => l.length - (intOf i).toNat)
  case atStart => exact ⟨0, Nat.zero_le _, rfl, hO, hS⟩
  case round =>
    clear hO hS
    obtain ⟨k, hk, rfl, hO, hS⟩ := hrel
    by_cases hlt : k < l.length
    · obtain ⟨s, hs⟩ : ∃ s, l[k]? = some s := ⟨_, List.getElem?_eq_getElem hlt⟩
      have hs32 : s.length = 32 := H32.out s (List.mem_of_getElem? hs)
      generalize hm : fresh (l.take k ++ List.replicate (l.length - k) sec0) = m at hO
      have hml : m.length = l.length := by rw [← hm]; simp [fresh]; omega
      have hmk : m[k]? = some ⟨sec0, [], false⟩ := by
        rw [← hm]
        simp only [fresh, List.getElem?_map]
        rw [List.getElem?_append_right (by simp; omega)]
        simp [Nat.min_eq_left hk, List.getElem?_replicate, hlt]
        omega
      have hnext : Hid (m.set k ⟨s, [], false⟩ = fresh (l.take (k + 1) ++ List.replicate (l.length - (k + 1)) sec0)) := by
        show _ = _
        rw [← hm, List.take_add_one, hs]
        simp only [fresh, List.map_append]
        rw [List.set_append_right _ _ (by simp [Nat.min_eq_left hk])]
        simp only [List.length_map, List.length_take, Nat.min_eq_left hk, Nat.sub_self]
        rw [show l.length - k = (l.length - (k + 1)) + 1 by omega, List.replicate_succ]
        simp
      have hO0 := hO
      obtain ⟨g1, cap, rest, rb, lv, ⟨hok, hroom⟩, hO⟩ := rdisk_open.1 hO
      obtain ⟨A2, c2, hrb, hmem⟩ := hok.at_ hmk
      have HF := Lib.hid (rb_fit (rest := rest) hok.s32 hrb)
      have HST := Lib.hid (rb_sets (rest := rest) hok.s32 hrb s)
      have HK : Hid (ROk (m.set k ⟨s, [], false⟩) (rb.set k (.slice A2 0 c2, ⟨s, [], false⟩)) lv ∧ Room (m.set k ⟨s, [], false⟩) (rb.set k (.slice A2 0 c2, ⟨s, [], false⟩)) rest cap) := Lib.hid ⟨hok.put (b' := ⟨s, [], false⟩) (fun _ h => h) hs32 (fun s hs => by simp at hs) hmem, hroom.put (x := (.slice A2 0 c2, ⟨s, [], false⟩)) hok hs32⟩
      have H32s := Lib.hid hs32
      have hk1 : (k : Int) < l.length := by omega
      have hk2 : (k : Int) < m.length := by omega
      obtain ⟨_, A', c', e, _, _, hcl⟩ := (HR.out _ (own_drop (own_drop (own_drop hO)))).out
      cases e
      have HC : Hid (∀ w', Own w' (pts q (.cells #[.slice (some ⟨g1, 0, none⟩) m.length cap] 72) :: pts g1 (.cells (rbs rb ++ rest).toArray 69) :: rdV lv :: L) → ∀ (j : Nat) (u : Value), (bcs s)[j]? = some u → w'.cell? ((ad.add (k * 32)).add j) = some u) := Lib.hid fun w' h => by
        obtain ⟨ad3, e3, h3⟩ := vers_cell (HR.out _ (own_drop (own_drop (own_drop h)))) H32.out hs
        cases e3
        exact h3
      clear hok hroom hrb hmem hs32 hmk hm hO0 hcl hs
      go_upto_region 5 with fail
      refine wp_region_seq (Cls _ (_)) 11 30 mixed (by kernel_rfl) rfl (cls_drew hO) ?_
      simp only [List.append_eq, List.cons_append, List.nil_append, List.take_succ_cons, List.take_zero]
      repeat (first
        | (apply wv_skip rfl; simp only [Act.put, List.setIfInBounds_toArray, List.set_cons_zero, List.set_cons_succ])
        | (refine wv_load1 (b := q) (off := 0) (cs := #[.slice (some ⟨g1, 0, none⟩) m.length cap]) (t := 72) (v := .slice (some ⟨g1, 0, none⟩) m.length cap) rfl rfl rfl row_blks (fun w h => own_get 0 h.1 rfl) rfl ?_; simp only [Act.put, List.setIfInBounds_toArray, List.set_cons_zero, List.set_cons_succ])
        | (refine wv_loadrow_at (ad := ad.add (k * 32)) (vs := bcs s) rfl rfl rfl row_rsec sz_rsec (by rw [bcs_length]; exact H32s.out) (fun w h => HC.out w h.1) ?_; simp only [Act.put, List.setIfInBounds_toArray, List.set_cons_zero, List.set_cons_succ])
        | (apply wv_load1 rfl rfl rfl; (first | exact row_int | exact row_str | exact row_bool | exact row_u8 | exact row_bys | exact row_pats | exact row_err); (intro w h; (first | exact own_get 0 h.1 rfl | exact own_get 1 h.1 rfl | exact own_get 2 h.1 rfl | exact own_get 3 h.1 rfl | exact own_get 4 h.1 rfl | exact own_get 5 h.1 rfl | exact own_get 6 h.1 rfl | exact own_get 7 h.1 rfl)); (first | (simp only [List.getElem?_toArray, List.getElem?_cons_succ, List.getElem?_cons_zero]; rfl) | rfl); simp only [Act.put, List.setIfInBounds_toArray, List.set_cons_zero, List.set_cons_succ])
        | (apply wv_loadrow rfl rfl rfl; (first | exact row_pat); exact sz_pat; (intro w h; (first | exact own_get 0 h.1 rfl | exact own_get 1 h.1 rfl | exact own_get 2 h.1 rfl | exact own_get 3 h.1 rfl | exact own_get 4 h.1 rfl | exact own_get 5 h.1 rfl | exact own_get 6 h.1 rfl | exact own_get 7 h.1 rfl)); (focus (simp; done)); (first | (simp only [List.drop_zero, List.drop_succ_cons, List.take_succ_cons, List.take_zero]; rfl) | rfl); simp only [Act.put, List.setIfInBounds_toArray, List.set_cons_zero, List.set_cons_succ])
        | (apply wv_run rfl; (focus (intro w h; go_simp; first | done | rfl)); simp only [Act.put, List.setIfInBounds_toArray, List.set_cons_zero, List.set_cons_succ])
        | (apply wv_call rfl; (focus (intro w; go_simp; first | done | exact ⟨rfl, rfl⟩)); (focus (intro w h; apply cls_call h; fail)); simp only [Act.put, List.setIfInBounds_toArray, List.set_cons_zero, List.set_cons_succ]))
      refine wv_nil ?_
      simp only [List.drop_succ_cons, List.drop_zero]
      intro w10 ⟨hO10, hS10⟩
      replace hS := hS.trans hS10
      clear hO hS10
      refine own_store (k := 1) (b := g1) (off := k * 34) (n := 32) (v := secV s) (vs := bcs s) rfl rfl rfl rfl sz_rsec hO10 rfl rfl (by rw [bcs_length]; exact H32s.out) (bcs_one s) (by have := HF.out; omega) HST.out ?_
      intro w11 hO hS11
      replace hS := hS.trans hS11
      clear hO10 hS11
      refine wpList_nil ?_
      simp only [Act.put, List.setIfInBounds_toArray, List.set_cons_zero, List.set_cons_succ]
      try simp only [Exit.then]
      go_wp2
      go_roundw
      case rel =>
        refine ⟨k + 1, by omega, by go_num, ?_, hS⟩
        rw [← hnext.out]
        refine rdisk_open.2 ⟨g1, cap, rest, _, lv, HK.out, ?_⟩
        rw [List.length_set]
        exact hO
      case measure => simp [intOf]; omega
    · have hke : k = l.length := by omega
      subst hke
      rw [List.take_length, Nat.sub_self, List.replicate_zero, List.append_nil] at hO
      go_wp2
      go_ret
      exact ⟨q, rfl, hO, hS⟩
end
end Go.Proofs.Ytjilkbkafigloaa.H
