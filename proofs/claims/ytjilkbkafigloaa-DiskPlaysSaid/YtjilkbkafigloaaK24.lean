/- The law's same. -/
import Derived.Test.YtjilkbkafigloaaK23
set_option linter.unusedVariables false
set_option linter.unusedSimpArgs false
set_option maxRecDepth 100000
namespace Go.Proofs.Ytjilkbkafigloaa.H
open Go.RowKit
/-- All sectors have 32 bytes. -/
def S32 (m : List Blk) : Prop := ∀ b ∈ m, b.s.length = 32 ∧ ∀ s ∈ b.vs, s.length = 32
theorem s32_of {w : World} {L : List HP} {d : Nat} {m : List Blk} (hO : Own w (diskP d m :: L)) : S32 m ∧ m.length ≤ 96 := by
  obtain ⟨lv, bv, bb, fv, fb, l, hk, _⟩ := disk_open.1 hO
  exact ⟨fun b hb => ⟨hk.s32 b hb, hk.v32 b hb⟩, hk.len⟩
theorem now_len {b : Blk} (h : b.s.length = 32 ∧ ∀ s ∈ b.vs, s.length = 32) : b.now.length = 32 := by
  unfold Blk.now
  cases hg : b.vs.getLast? with
  | none => exact h.1
  | some s => exact h.2 s (List.mem_of_getLast? hg)
section
variable (m : List Blk)
theorem read_both (hs : S32 m) (i : Int) : ∃ (s : Sec) (e : Int), s.length = 32 ∧ BothD 21 31 m m (fun y => #[y, .int .i64 i]) (.tuple #[secV s, .int .i64 e]) := by
  rcases dcases m i with ⟨k, b, rfl, hk⟩ | h
  · exact ⟨b.now, 0, now_len (hs b (List.mem_of_getElem? hk)), fun w L d hO => read_ok w L d m k b hO hk, fun w L q hO => rread_ok w L q m k b hO hk⟩
  · exact ⟨sec0, 2, by simp, fun w L d hO => read_no w L d m i hO h, fun w L q hO => rread_no w L q m i hO h⟩
theorem lasting_both (hs : S32 m) (i : Int) : ∃ (s : Sec) (e : Int), s.length = 32 ∧ BothD 18 32 m m (fun y => #[y, .int .i64 i]) (.tuple #[secV s, .int .i64 e]) := by
  rcases dcases m i with ⟨k, b, rfl, hk⟩ | h
  · exact ⟨b.s, 0, (hs b (List.mem_of_getElem? hk)).1, fun w L d hO => lasting_ok w L d m k b hO hk, fun w L q hO => rlasting_ok w L q m k b hO hk⟩
  · exact ⟨sec0, 2, by simp, fun w L d hO => lasting_no w L d m i hO h, fun w L q hO => rlasting_no w L q m i hO h⟩
theorem vsAt_yes {m : List Blk} {k : Nat} {b : Blk} (h : m[k]? = some b) : vsAt m k = b.vs.length := by
  unfold vsAt
  rw [if_pos (by omega), Int.toNat_natCast, h]
  rfl
theorem vsAt_no {m : List Blk} {i : Int} (h : i < 0 ∨ (m.length : Int) ≤ i) : vsAt m i = 0 := by
  unfold vsAt
  split
  · rw [List.getElem?_eq_none (by omega)]; rfl
  · rfl
theorem versions_both (i : Int) : BothD 22 33 m m (fun y => #[y, .int .i64 i]) (.int .i64 (vsAt m i)) := by
  refine ⟨fun w L d hO => versions_c w L d m i hO, fun w L q hO => ?_⟩
  rcases dcases m i with ⟨k, b, rfl, hk⟩ | h
  · rw [vsAt_yes hk]; exact rversions_ok w L q m k b hO hk
  · rw [vsAt_no h]; exact rversions_no w L q m i hO h
theorem size_both : BothD 27 30 m m (fun y => #[y]) (.int .i64 m.length) :=
  ⟨fun w L d hO => size_c w L d m hO, fun w L q hO => rsize_c w L q m hO⟩
end
theorem und_arr : Try.prog.underlying 25 = some (.array 32 5) := by kernel_rfl
set_option maxHeartbeats 3200000 in
theorem same_d (w : World) (L : List HP) (d q : Nat) (m : List Blk) (hO : Own w (diskP d m :: rdiskP q m :: L)) :
    Calls Try.prog 15 #[.pointer (some ⟨d, 0, none⟩), .pointer (some ⟨q, 0, none⟩)] w (Ret w (.bool true) (diskP d m :: rdiskP q m :: L)) := by
  obtain ⟨hs32, hlm⟩ := s32_of hO
  have HS32 := Lib.hid hs32
  have HZ := Lib.hid (size_both m)
  have hS := Same.refl w
  clear hs32
  go_enter Try.func15, Try.ntmps15
  go_wp2
  go_loopw [5] (fun i wr => ∃ j : Nat, j ≤ m.length + 2 ∧ i = .int .i64 ((j : Int) - 1) ∧ Own wr (diskP d m :: rdiskP q m :: L) ∧ Same w wr) (fun i _ => m.length + 2 - (intOf i + 1).toNat)
  case atStart => exact ⟨0, by omega, rfl, hO, hS⟩
  case round =>
    clear hO hS
    obtain ⟨j, hj, rfl, hO, hS⟩ := hrel
    by_cases hlt : j < m.length + 2
    · obtain ⟨a, e, ha, hA⟩ := read_both m HS32.out ((j : Int) - 1)
      obtain ⟨l, g, hl, hL⟩ := lasting_both m HS32.out ((j : Int) - 1)
      have HA := Lib.hid hA
      have HL := Lib.hid hL
      have HL1 := Lib.hid ha
      have HL2 := Lib.hid hl
      have HV := Lib.hid (versions_both m ((j : Int) - 1))
      have HLT := Lib.hid hlt
      obtain ⟨i0, hi0⟩ := u8_info
      have HE1 : Hid (∀ w', (Op.equalIn 10000 25 (secV a) (secV a)).run Try.prog w' = .ok true w') := Lib.hid fun w' => by
        have h := eq_sec w' (n := 0) und_arr hi0 9998 ha ha
        simpa using h
      have HE2 : Hid (∀ w', (Op.equalIn 10000 25 (secV l) (secV l)).run Try.prog w' = .ok true w') := Lib.hid fun w' => by
        have h := eq_sec w' (n := 0) und_arr hi0 9998 hl hl
        simpa using h
      have hle : (j : Int) - 1 ≤ m.length := by omega
      clear hA hL ha hl hi0
      go_upto_region 5 with (first | (go_at_call 30; (with_reducible refine Calls.mono (call_at 1 (fun L' h => HZ.out.2 _ L' q h) rfl hO) ?_); clear hO; rintro e u ⟨rfl, hO, hSn⟩; replace hS := hS.trans hSn; clear hSn; simp only [List.set_cons_zero, List.set_cons_succ] at hO) | (go_at_call 21; (with_reducible refine Calls.mono (call_at 0 (fun L' h => HA.out.1 _ L' d h) rfl hO) ?_); clear hO; rintro e u ⟨rfl, hO, hSn⟩; replace hS := hS.trans hSn; clear hSn; simp only [List.set_cons_zero, List.set_cons_succ] at hO) | (refine own_alloc (T := 26) rfl rfl zero_sec rfl hO ?_; clear hO; intro g1 u hO hSn; replace hS := hS.trans hSn; clear hSn) | (refine own_store_all (k := 0) rfl rfl rfl rfl sz_sec hO rfl (secA_size HL1.out) (by rfl) (bcs_all _) ?_; clear hO; intro u hO hSn; replace hS := hS.trans hSn; clear hSn; simp only [List.set_cons_zero, List.set_cons_succ] at hO))
      go_upto_region 6 with (first | (go_at_call 31; (with_reducible refine Calls.mono (call_at 2 (fun L' h => HA.out.2 _ L' q h) rfl hO) ?_); clear hO; rintro e u ⟨rfl, hO, hSn⟩; replace hS := hS.trans hSn; clear hSn; simp only [List.set_cons_zero, List.set_cons_succ] at hO) | (refine own_alloc (T := 28) rfl rfl zero_rsec rfl hO ?_; clear hO; intro g2 u hO hSn; replace hS := hS.trans hSn; clear hSn) | (refine own_store_all (k := 0) rfl rfl rfl rfl sz_rsec hO rfl (secA_size HL1.out) (by rfl) (bcs_all _) ?_; clear hO; intro u hO hSn; replace hS := hS.trans hSn; clear hSn; simp only [List.set_cons_zero, List.set_cons_succ] at hO))
      go_upto_region 7 with (first | (go_at_call 18; (with_reducible refine Calls.mono (call_at 2 (fun L' h => HL.out.1 _ L' d h) rfl hO) ?_); clear hO; rintro e u ⟨rfl, hO, hSn⟩; replace hS := hS.trans hSn; clear hSn; simp only [List.set_cons_zero, List.set_cons_succ] at hO) | (refine own_alloc (T := 26) rfl rfl zero_sec rfl hO ?_; clear hO; intro g3 u hO hSn; replace hS := hS.trans hSn; clear hSn) | (refine own_store_all (k := 0) rfl rfl rfl rfl sz_sec hO rfl (secA_size HL2.out) (by rfl) (bcs_all _) ?_; clear hO; intro u hO hSn; replace hS := hS.trans hSn; clear hSn; simp only [List.set_cons_zero, List.set_cons_succ] at hO))
      go_upto_region 8 with (first | (go_at_call 32; (with_reducible refine Calls.mono (call_at 4 (fun L' h => HL.out.2 _ L' q h) rfl hO) ?_); clear hO; rintro e u ⟨rfl, hO, hSn⟩; replace hS := hS.trans hSn; clear hSn; simp only [List.set_cons_zero, List.set_cons_succ] at hO) | (refine own_alloc (T := 28) rfl rfl zero_rsec rfl hO ?_; clear hO; intro g4 u hO hSn; replace hS := hS.trans hSn; clear hSn) | (refine own_store_all (k := 0) rfl rfl rfl rfl sz_rsec hO rfl (secA_size HL2.out) (by rfl) (bcs_all _) ?_; clear hO; intro u hO hSn; replace hS := hS.trans hSn; clear hSn; simp only [List.set_cons_zero, List.set_cons_succ] at hO))
      refine wp_plain_seq (Cls _ (_)) 27 (cls_here hO) ?_
      simp only [List.append_eq, List.cons_append, List.nil_append, List.take_succ_cons, List.take_zero]
      repeat (first
        | (apply wv_skip rfl; simp only [Act.put, List.setIfInBounds_toArray, List.set_cons_zero, List.set_cons_succ])
        | (apply wv_load1 rfl rfl rfl; (first | exact row_int | exact row_str | exact row_bool | exact row_u8 | exact row_bys | exact row_pats | exact row_err); (intro w h; (first | exact own_get 0 h.1 rfl | exact own_get 1 h.1 rfl | exact own_get 2 h.1 rfl | exact own_get 3 h.1 rfl | exact own_get 4 h.1 rfl | exact own_get 5 h.1 rfl | exact own_get 6 h.1 rfl | exact own_get 7 h.1 rfl)); (first | (simp only [List.getElem?_toArray, List.getElem?_cons_succ, List.getElem?_cons_zero]; rfl) | rfl); simp only [Act.put, List.setIfInBounds_toArray, List.set_cons_zero, List.set_cons_succ])
        | (apply wv_loadrow rfl rfl rfl; (first | exact row_pat); exact sz_pat; (intro w h; (first | exact own_get 0 h.1 rfl | exact own_get 1 h.1 rfl | exact own_get 2 h.1 rfl | exact own_get 3 h.1 rfl | exact own_get 4 h.1 rfl | exact own_get 5 h.1 rfl | exact own_get 6 h.1 rfl | exact own_get 7 h.1 rfl)); (focus (simp; done)); (first | (simp only [List.drop_zero, List.drop_succ_cons, List.take_succ_cons, List.take_zero]; rfl) | rfl); simp only [Act.put, List.setIfInBounds_toArray, List.set_cons_zero, List.set_cons_succ])
        | (refine wv_loadrow (b := g1) (off := 0) (cs := (bcs a).toArray) (t := 26) (vs := bcs a) rfl rfl rfl row_sec sz_sec (fun w h => own_get 3 h.1 rfl) (by simp [bcs_length, HL1.out, HL2.out]) (by rw [List.drop_zero]; exact List.take_of_length_le (by simp [bcs_length, HL1.out, HL2.out])) ?_; simp only [Act.put, List.setIfInBounds_toArray, List.set_cons_zero, List.set_cons_succ])
        | (refine wv_loadrow (b := g2) (off := 0) (cs := (bcs a).toArray) (t := 28) (vs := bcs a) rfl rfl rfl row_rsec sz_rsec (fun w h => own_get 2 h.1 rfl) (by simp [bcs_length, HL1.out, HL2.out]) (by rw [List.drop_zero]; exact List.take_of_length_le (by simp [bcs_length, HL1.out, HL2.out])) ?_; simp only [Act.put, List.setIfInBounds_toArray, List.set_cons_zero, List.set_cons_succ])
        | (refine wv_loadrow (b := g3) (off := 0) (cs := (bcs l).toArray) (t := 26) (vs := bcs l) rfl rfl rfl row_sec sz_sec (fun w h => own_get 1 h.1 rfl) (by simp [bcs_length, HL1.out, HL2.out]) (by rw [List.drop_zero]; exact List.take_of_length_le (by simp [bcs_length, HL1.out, HL2.out])) ?_; simp only [Act.put, List.setIfInBounds_toArray, List.set_cons_zero, List.set_cons_succ])
        | (refine wv_loadrow (b := g4) (off := 0) (cs := (bcs l).toArray) (t := 28) (vs := bcs l) rfl rfl rfl row_rsec sz_rsec (fun w h => own_get 0 h.1 rfl) (by simp [bcs_length, HL1.out, HL2.out]) (by rw [List.drop_zero]; exact List.take_of_length_le (by simp [bcs_length, HL1.out, HL2.out])) ?_; simp only [Act.put, List.setIfInBounds_toArray, List.set_cons_zero, List.set_cons_succ])
        | (apply wv_run rfl; (focus (intro w h; go_simp; simp only [HE1.out w, HE2.out w]; first | done | rfl)); simp only [Act.put, List.setIfInBounds_toArray, List.set_cons_zero, List.set_cons_succ])
        | (apply wv_run rfl; (focus (intro w h; go_simp; first | done | rfl)); simp only [Act.put, List.setIfInBounds_toArray, List.set_cons_zero, List.set_cons_succ])
        | (apply wv_call rfl; (focus (intro w; go_simp; first | done | exact ⟨rfl, rfl⟩)); (focus (intro w h; apply cls_call h; (first | exact call_at 4 (fun L' h => HV.out.1 _ L' d h) rfl h.1 | exact call_at 5 (fun L' h => HV.out.2 _ L' q h) rfl h.1))); simp only [Act.put, List.setIfInBounds_toArray, List.set_cons_zero, List.set_cons_succ]))
      refine wv_nil ?_
      simp only [List.drop_succ_cons, List.drop_zero]
      intro w9 ⟨hO9, hS9⟩
      clear hO
      have hO := own_drop (own_drop (own_drop (own_drop hO9)))
      replace hS := hS.trans hS9
      clear hO9 hS9
      go_wp2
      go_roundw
      case rel => exact ⟨j + 1, by have := HLT.out; omega, by go_num, hO, hS⟩
      case measure => have := HLT.out; simp [intOf]; omega
    · have hje : j = m.length + 2 := by omega
      subst hje
      go_wp2_with (first | (go_at_call 30; (with_reducible refine Calls.mono (call_at 1 (fun L' h => HZ.out.2 _ L' q h) rfl hO) ?_); clear hO; rintro e u ⟨rfl, hO, hSn⟩; replace hS := hS.trans hSn; clear hSn; simp only [List.set_cons_zero, List.set_cons_succ] at hO) | (go_at_call 27; (with_reducible refine Calls.mono (call_at 0 (fun L' h => HZ.out.1 _ L' d h) rfl hO) ?_); clear hO; rintro e u ⟨rfl, hO, hSn⟩; replace hS := hS.trans hSn; clear hSn; simp only [List.set_cons_zero, List.set_cons_succ] at hO))
      go_ret
      exact ⟨rfl, hO, hS⟩
end Go.Proofs.Ytjilkbkafigloaa.H
