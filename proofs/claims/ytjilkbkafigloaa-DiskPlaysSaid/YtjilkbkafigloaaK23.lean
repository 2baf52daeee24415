/- Both disks do the same; the law's do. -/
import Derived.Test.YtjilkbkafigloaaK22
import Derived.Test.YtjilkbkafigloaaA4
set_option linter.unusedVariables false
set_option linter.unusedSimpArgs false
set_option maxRecDepth 100000
namespace Go.Proofs.Ytjilkbkafigloaa.H
open Go.RowKit
abbrev Lim (n : Nat) (m : List Blk) : Prop := ∀ b ∈ m, b.vs.length ≤ n
/-- All sectors are of one byte each. -/
def Uni (m : List Blk) : Prop := ∀ b ∈ m, (∃ c, b.s = sec c) ∧ ∀ s ∈ b.vs, ∃ c, s = sec c
/-- What a deed leaves of a disk. -/
structure Gd (m m' : List Blk) : Prop where
  len : m'.length = m.length
  lim : ∀ n, Lim n m → Lim (n + 1) m'
  uni : Uni m → Uni m'
theorem Gd.refl (m : List Blk) : Gd m m := ⟨rfl, fun n h b hb => Nat.le_succ_of_le (h b hb), fun h => h⟩
theorem set_uni {m : List Blk} {i : Nat} {b' : Blk} (h : Uni m) (h1 : (∃ c, b'.s = sec c) ∧ ∀ s ∈ b'.vs, ∃ c, s = sec c) : Uni (m.set i b') := fun x hx => by
  rcases List.mem_or_eq_of_mem_set hx with hx | rfl
  · exact h x hx
  · exact h1
theorem set_lim {m : List Blk} {i n : Nat} {b' : Blk} (h : Lim n m) (h1 : b'.vs.length ≤ n) : Lim n (m.set i b') := fun x hx => by
  rcases List.mem_or_eq_of_mem_set hx with hx | rfl
  · exact h x hx
  · exact h1
theorem gd_write {m : List Blk} {i : Nat} {b : Blk} (hi : m[i]? = some b) (c : UInt8) : Gd m (m.set i (b.wr (sec c))) where
  len := List.length_set ..
  lim := fun n h => set_lim (fun x hx => Nat.le_succ_of_le (h x hx)) (by have := h b (List.mem_of_getElem? hi); simp; omega)
  uni := fun h => set_uni h ⟨(h b (List.mem_of_getElem? hi)).1, fun s hs => by
    rcases List.mem_append.1 hs with hs | hs
    · exact (h b (List.mem_of_getElem? hi)).2 s hs
    · exact ⟨c, List.mem_singleton.1 hs⟩⟩
theorem gd_spoil {m : List Blk} {i : Nat} {b : Blk} (hi : m[i]? = some b) (bad : Bool) : Gd m (m.set i ⟨b.s, b.vs, bad⟩) where
  len := List.length_set ..
  lim := fun n h => set_lim (fun x hx => Nat.le_succ_of_le (h x hx)) (Nat.le_succ_of_le (h b (List.mem_of_getElem? hi)))
  uni := fun h => set_uni h (h b (List.mem_of_getElem? hi))
theorem sett_mem (v : Int) (b : Blk) : sett v b = b.s ∨ sett v b ∈ b.vs := by
  unfold sett
  split
  · cases h : b.vs[(v - 1).toNat]? with
    | none => exact .inl rfl
    | some s => exact .inr (List.mem_of_getElem? h)
  · exact .inl rfl
theorem crashL_mem (pk : Nat → Nat → Int) : ∀ (m : List Blk) (k : Nat) (x : Blk), x ∈ crashL pk k m → ∃ b ∈ m, x = b ∨ ∃ v, x = ⟨sett v b, [], b.bad⟩
  | [], k, x, h => by simp [crashL] at h
  | b :: r, k, x, h => by
    unfold crashL at h
    split at h
    · rcases List.mem_cons.1 h with rfl | h
      · exact ⟨x, List.mem_cons_self .., .inl rfl⟩
      · obtain ⟨b', h1, h2⟩ := crashL_mem pk r k x h
        exact ⟨b', List.mem_cons_of_mem _ h1, h2⟩
    · rcases List.mem_cons.1 h with rfl | h
      · exact ⟨b, List.mem_cons_self .., .inr ⟨_, rfl⟩⟩
      · obtain ⟨b', h1, h2⟩ := crashL_mem pk r (k + 1) x h
        exact ⟨b', List.mem_cons_of_mem _ h1, h2⟩
theorem gd_crash (pk : Nat → Nat → Int) (m : List Blk) : Gd m (crashL pk 0 m) where
  len := crashL_len pk m 0
  lim := fun n h x hx => by
    obtain ⟨b, hb, rfl | ⟨v, rfl⟩⟩ := crashL_mem pk m 0 x hx
    · exact Nat.le_succ_of_le (h x hb)
    · exact Nat.zero_le _
  uni := fun h x hx => by
    obtain ⟨b, hb, rfl | ⟨v, rfl⟩⟩ := crashL_mem pk m 0 x hx
    · exact h x hb
    · refine ⟨?_, fun s hs => by simp at hs⟩
      rcases sett_mem v b with e | e
      · rw [show (⟨sett v b, [], b.bad⟩ : Blk).s = b.s from e]; exact (h b hb).1
      · exact (h b hb).2 _ e
theorem dcases (m : List Blk) (i : Int) : (∃ (k : Nat) (b : Blk), i = (k : Int) ∧ m[k]? = some b) ∨ (i < 0 ∨ (m.length : Int) ≤ i) := by
  by_cases h : 0 ≤ i ∧ i < m.length
  · exact .inl ⟨i.toNat, m[i.toNat]'(by omega), by omega, List.getElem?_eq_getElem _⟩
  · exact .inr (by omega)
/-- A call that both answer alike. -/
abbrev BothD (f g : FuncId) (m m' : List Blk) (ag : Value → Array Value) (r : Value) : Prop :=
  (∀ (w : World) (L : List HP) (d : Nat), Own w (diskP d m :: L) → Calls Try.prog f (ag (.pointer (some ⟨d, 0, none⟩))) w (Ret w r (diskP d m' :: L))) ∧
  (∀ (w : World) (L : List HP) (q : Nat), Own w (rdiskP q m :: L) → Calls Try.prog g (ag (.pointer (some ⟨q, 0, none⟩))) w (Ret w r (rdiskP q m' :: L)))
section
variable (m : List Blk)
theorem write_both (i : Int) (c : UInt8) (hl : Lim 1000000 m) : ∃ (e : Int) (m' : List Blk), BothD 19 40 m m' (fun y => #[y, .int .i64 i, secV (sec c)]) (.int .i64 e) ∧ Gd m m' := by
  rcases dcases m i with ⟨k, b, rfl, hk⟩ | h
  · cases hb : b.bad with
    | true => exact ⟨_, _, ⟨fun w L d hO => write_bad w L d m k b _ hO hk hb, fun w L q hO => rwrite_bad w L q m k b _ hO hk hb⟩, Gd.refl m⟩
    | false => exact ⟨_, _, ⟨fun w L d hO => write_ok w L d m k b _ hO hk hb (by simp) (hl b (List.mem_of_getElem? hk)), fun w L q hO => rwrite_ok w L q m k b _ hO hk hb (by simp) (hl b (List.mem_of_getElem? hk))⟩, gd_write hk c⟩
  · exact ⟨_, _, ⟨fun w L d hO => write_no w L d m i _ hO h, fun w L q hO => rwrite_no w L q m i _ hO h⟩, Gd.refl m⟩
theorem spoil_both (i : Int) (bad : Bool) : ∃ (e : Int) (m' : List Blk), BothD 23 43 m m' (fun y => #[y, .int .i64 i, .bool bad]) (.int .i64 e) ∧ Gd m m' := by
  rcases dcases m i with ⟨k, b, rfl, hk⟩ | h
  · exact ⟨_, _, ⟨fun w L d hO => spoil_ok w L d m k b bad hO hk, fun w L q hO => rspoil_ok w L q m k b bad hO hk⟩, gd_spoil hk bad⟩
  · exact ⟨_, _, ⟨fun w L d hO => spoil_no w L d m i bad hO h, fun w L q hO => rspoil_no w L q m i bad hO h⟩, Gd.refl m⟩
theorem flush_both (h0 : 0 < m.length) (hl : Lim 1000000 m) : BothD 17 41 m (crashL allV 0 m) (fun y => #[y]) (.int .i64 0) :=
  ⟨fun w L d hO => flush_c w L d m hO h0 hl, fun w L q hO => rflush_c w L q m hO⟩
end
def DoD (w : World) (L : List HP) (d q : Nat) (m : List Blk) (e : Ending) (w' : World) : Prop := ∃ m', Gd m m' ∧ Ret w (.bool true) (diskP d m' :: rdiskP q m' :: L) e w'
section
variable (w : World) (L : List HP) (d q : Nat) (m : List Blk)
set_option maxHeartbeats 1600000 in
theorem do_write (kd di : Int) (dc : UInt8) (dv : Value) (db : Bool) (hO : Own w (diskP d m :: rdiskP q m :: L)) (hl : Lim 1000000 m) (hd : kd = 0) :
    Calls Try.prog 26 #[.pointer (some ⟨d, 0, none⟩), .pointer (some ⟨q, 0, none⟩), .agg #[.int .i64 kd, .int .i64 di, .int .u8 (dc.toNat : Int), dv, .bool db]] w (DoD w L d q m) := by
  subst hd
  obtain ⟨e, m', hB, hg⟩ := write_both m di dc hl
  have HB := Lib.hid hB
  have HG := Lib.hid hg
  have hS := Same.refl w
  clear hB hg hl
  go_enter Try.func26, Try.ntmps26
  go_upto_region 3 with (first | (refine own_box_agg (x := .tmp 2) rfl rfl rfl hO ?_; clear hO; intro b u hO hSn; replace hS := hS.trans hSn; clear hSn) | (refine own_load1 (b := b) (off := 0) (cs := #[.int .i64 0, .int .i64 di, .int .u8 (dc.toNat : Int), dv, .bool db]) (t := 50) (v := .int .i64 0) rfl rfl rfl row_int (own_get 0 hO rfl) rfl ?_))
  refine wp_region_own (α := Nat → Value) (fun x => [.pointer (some ⟨d, 0, none⟩), .pointer (some ⟨b, 1, none⟩), .int .i64 di, .pointer (some ⟨b, 2, none⟩), .int .u8 (dc.toNat : Int), secV (sec dc), .int .i64 e, .pointer (some ⟨q, 0, none⟩), .pointer (some ⟨b, 1, none⟩), .int .i64 di, .pointer (some ⟨b, 2, none⟩), .int .u8 (dc.toNat : Int), secV (sec dc), .int .i64 e, .bool true, .bool true]) (fun D x => diskP d (if D 6 then m' else m) :: rdiskP q (if D 13 then m' else m) :: pts b (.cells #[.int .i64 0, .int .i64 di, .int .u8 (dc.toNat : Int), dv, .bool db] 50) :: L) u (fun _ => undef) 59 (fun _ => rfl) mixed (by kernel_rfl) rfl (by exact own_heap (own_perm hO (List.Perm.trans (List.Perm.swap _ _ _) (List.Perm.cons _ (List.Perm.swap _ _ _)))) (fun _ _ h => h)) (Same.drew _) (fun _ _ _ _ hd h => ⟨hd ▸ h.1, h.2⟩) ?_ ?_
  · refine ⟨?_, ?_, ?_, ?_, ?_, ?_, ?_, ?_, ?_, ?_, ?_, ?_, ?_, ?_, ?_, ?_, trivial⟩
    · (refine fs_pure (fun _ _ => rfl) (fun D x hD hcl hp => ?_); simp only [putO]; simp only [Act.put, List.setIfInBounds_toArray, List.set_cons_zero, List.set_cons_succ]; first | exact y_skip rfl | exact y_run rfl (by intro w h; go_simp; first | done | rfl))
    · (refine fs_pure (fun _ _ => rfl) (fun D x hD hcl hp => ?_); simp only [putO]; simp only [Act.put, List.setIfInBounds_toArray, List.set_cons_zero, List.set_cons_succ]; first | exact y_skip rfl | exact y_run rfl (by intro w h; go_simp; first | done | rfl))
    · (refine fs_pure (fun _ _ => rfl) (fun D x hD hcl hp => ?_); simp only [putO]; simp only [Act.put, List.setIfInBounds_toArray, List.set_cons_zero, List.set_cons_succ]; first | exact y_skip rfl | exact (y_load1 (b := b) (off := 1) (cs := #[.int .i64 0, .int .i64 di, .int .u8 (dc.toNat : Int), dv, .bool db]) (t := 50) (v := .int .i64 di) rfl rfl rfl row_int (fun w h => own_get 2 h.1 rfl) rfl) | exact y_run rfl (by intro w h; go_simp; first | done | rfl))
    · (refine fs_pure (fun _ _ => rfl) (fun D x hD hcl hp => ?_); simp only [putO]; simp only [Act.put, List.setIfInBounds_toArray, List.set_cons_zero, List.set_cons_succ]; first | exact y_skip rfl | exact y_run rfl (by intro w h; go_simp; first | done | rfl))
    · (refine fs_pure (fun _ _ => rfl) (fun D x hD hcl hp => ?_); simp only [putO]; simp only [Act.put, List.setIfInBounds_toArray, List.set_cons_zero, List.set_cons_succ]; first | exact y_skip rfl | exact (y_load1 (b := b) (off := 2) (cs := #[.int .i64 0, .int .i64 di, .int .u8 (dc.toNat : Int), dv, .bool db]) (t := 50) (v := .int .u8 (dc.toNat : Int)) rfl rfl rfl row_u8D (fun w h => own_get 2 h.1 rfl) rfl) | exact y_run rfl (by intro w h; go_simp; first | done | rfl))
    · (refine fs_pure (fun _ _ => rfl) (fun D x hD hcl hp => ?_); simp only [putO]; simp only [Act.put, List.setIfInBounds_toArray, List.set_cons_zero, List.set_cons_succ]; first | exact y_skip rfl | exact (y_call rfl (by intro w h; go_simp; first | done | exact ⟨rfl, rfl⟩) (by intro w h; apply cls_call h; exact sector_c _ _ dc h.1)) | exact y_run rfl (by intro w h; go_simp; first | done | rfl))
    · intro D x w5 hD hcl hp hO5 hS5
      simp only [putO]
      simp only [Act.put, List.setIfInBounds_toArray, List.set_cons_zero, List.set_cons_succ]
      refine ev_call rfl (by go_simp; first | done | exact ⟨rfl, rfl⟩) ?_
      simp only [hD, Bool.false_eq_true, if_false] at hO5
      refine Calls.mono (HB.out.1 _ _ d hO5) ?_
      rintro e2 w6 ⟨rfl, hO6, hS6⟩
      exact ⟨_, rfl, wpList_nil ⟨rfl, x, (by intros; first | trivial | rfl), fun d hd _ => by cases hd; rfl, hO6, hS5.trans hS6⟩⟩
    · (refine fs_pure (fun _ _ => rfl) (fun D x hD hcl hp => ?_); simp only [putO]; simp only [Act.put, List.setIfInBounds_toArray, List.set_cons_zero, List.set_cons_succ]; first | exact y_skip rfl | exact y_run rfl (by intro w h; go_simp; first | done | rfl))
    · (refine fs_pure (fun _ _ => rfl) (fun D x hD hcl hp => ?_); simp only [putO]; simp only [Act.put, List.setIfInBounds_toArray, List.set_cons_zero, List.set_cons_succ]; first | exact y_skip rfl | exact y_run rfl (by intro w h; go_simp; first | done | rfl))
    · (refine fs_pure (fun _ _ => rfl) (fun D x hD hcl hp => ?_); simp only [putO]; simp only [Act.put, List.setIfInBounds_toArray, List.set_cons_zero, List.set_cons_succ]; first | exact y_skip rfl | exact (y_load1 (b := b) (off := 1) (cs := #[.int .i64 0, .int .i64 di, .int .u8 (dc.toNat : Int), dv, .bool db]) (t := 50) (v := .int .i64 di) rfl rfl rfl row_int (fun w h => own_get 2 h.1 rfl) rfl) | exact y_run rfl (by intro w h; go_simp; first | done | rfl))
    · (refine fs_pure (fun _ _ => rfl) (fun D x hD hcl hp => ?_); simp only [putO]; simp only [Act.put, List.setIfInBounds_toArray, List.set_cons_zero, List.set_cons_succ]; first | exact y_skip rfl | exact y_run rfl (by intro w h; go_simp; first | done | rfl))
    · (refine fs_pure (fun _ _ => rfl) (fun D x hD hcl hp => ?_); simp only [putO]; simp only [Act.put, List.setIfInBounds_toArray, List.set_cons_zero, List.set_cons_succ]; first | exact y_skip rfl | exact (y_load1 (b := b) (off := 2) (cs := #[.int .i64 0, .int .i64 di, .int .u8 (dc.toNat : Int), dv, .bool db]) (t := 50) (v := .int .u8 (dc.toNat : Int)) rfl rfl rfl row_u8D (fun w h => own_get 2 h.1 rfl) rfl) | exact y_run rfl (by intro w h; go_simp; first | done | rfl))
    · (refine fs_pure (fun _ _ => rfl) (fun D x hD hcl hp => ?_); simp only [putO]; simp only [Act.put, List.setIfInBounds_toArray, List.set_cons_zero, List.set_cons_succ]; first | exact y_skip rfl | exact (y_call rfl (by intro w h; go_simp; first | done | exact ⟨rfl, rfl⟩) (by intro w h; apply cls_call h; exact sector_c _ _ dc h.1)) | exact y_run rfl (by intro w h; go_simp; first | done | rfl))
    · intro D x w5 hD hcl hp hO5 hS5
      simp only [putO]
      simp only [Act.put, List.setIfInBounds_toArray, List.set_cons_zero, List.set_cons_succ]
      refine ev_call rfl (by go_simp; first | done | exact ⟨rfl, rfl⟩) ?_
      simp only [hD, Bool.false_eq_true, if_false] at hO5
      refine Calls.mono (HB.out.2 _ _ q (own_perm hO5 (List.Perm.swap _ _ _))) ?_
      rintro e2 w6 ⟨rfl, hO6, hS6⟩
      exact ⟨_, rfl, wpList_nil ⟨rfl, x, (by intros; first | trivial | rfl), fun d hd _ => by cases hd; rfl, own_perm hO6 (List.Perm.swap _ _ _), hS5.trans hS6⟩⟩
    · (refine fs_pure (fun _ _ => rfl) (fun D x hD hcl hp => ?_); simp only [putO]; simp only [Act.put, List.setIfInBounds_toArray, List.set_cons_zero, List.set_cons_succ]; first | exact y_skip rfl | exact y_run rfl (by intro w h; go_simp; first | done | rfl))
    · (refine fs_pure (fun _ _ => rfl) (fun D x hD hcl hp => ?_); simp only [putO]; simp only [Act.put, List.setIfInBounds_toArray, List.set_cons_zero, List.set_cons_succ]; first | exact y_skip rfl | exact y_run rfl (by intro w h; go_simp; first | done | rfl))
  · intro x w10 D hD hO hS10
    simp only [hD 6 (by decide), hD 13 (by decide), if_true] at hO
    simp only [putO]
    simp only [Act.put, List.setIfInBounds_toArray, List.set_cons_zero, List.set_cons_succ]
    simp only [Exit.then]
    clear hD
    go_wp2
    go_ret
    exact ⟨m', HG.out, rfl, own_drop (own_perm hO (List.Perm.trans (List.Perm.cons _ (List.Perm.swap _ _ _)) (List.Perm.swap _ _ _))), hS.trans hS10⟩
set_option maxHeartbeats 1600000 in
theorem do_flush (kd di : Int) (dc : UInt8) (dv : Value) (db : Bool) (hO : Own w (diskP d m :: rdiskP q m :: L)) (h0 : 0 < m.length) (hl : Lim 1000000 m) (hd : kd = 1) :
    Calls Try.prog 26 #[.pointer (some ⟨d, 0, none⟩), .pointer (some ⟨q, 0, none⟩), .agg #[.int .i64 kd, .int .i64 di, .int .u8 (dc.toNat : Int), dv, .bool db]] w (DoD w L d q m) := by
  subst hd
  have HB := Lib.hid (flush_both m h0 hl)
  have hS := Same.refl w
  clear hl h0
  go_enter Try.func26, Try.ntmps26
  go_wp2_with (first | (refine own_box_agg (x := .tmp 2) rfl rfl rfl hO ?_; clear hO; intro b u hO hSn; replace hS := hS.trans hSn; clear hSn) | (refine own_load1 (b := b) (off := 0) (cs := #[.int .i64 1, .int .i64 di, .int .u8 (dc.toNat : Int), dv, .bool db]) (t := 50) (v := .int .i64 1) rfl rfl rfl row_int (own_get 0 hO rfl) rfl ?_) | (go_at_call 17; (with_reducible refine Calls.mono (call_at 1 (fun L' h => HB.out.1 _ L' d h) rfl hO) ?_); clear hO; rintro e u ⟨rfl, hO, hSn⟩; replace hS := hS.trans hSn; clear hSn; simp only [List.set_cons_zero, List.set_cons_succ] at hO) | (go_at_call 41; (with_reducible refine Calls.mono (call_at 2 (fun L' h => HB.out.2 _ L' q h) rfl hO) ?_); clear hO; rintro e u ⟨rfl, hO, hSn⟩; replace hS := hS.trans hSn; clear hSn; simp only [List.set_cons_zero, List.set_cons_succ] at hO))
  go_ret
  exact ⟨_, gd_crash allV m, rfl, own_drop hO, hS⟩
set_option maxHeartbeats 1600000 in
theorem do_crash (kd di : Int) (dc : UInt8) (dv : Value) (db : Bool) (pl : List Int) (hO : Own w (diskP d m :: rdiskP q m :: L)) (h0 : 0 < m.length) (hl : Lim 1000000 m) (hd : kd = 2) (hr : ∀ w', Own w' L → Rd w' 1 dv pl.length (pl.map encZ)) (hi : ∀ x ∈ pl, inI x) :
    Calls Try.prog 26 #[.pointer (some ⟨d, 0, none⟩), .pointer (some ⟨q, 0, none⟩), .agg #[.int .i64 kd, .int .i64 di, .int .u8 (dc.toNat : Int), dv, .bool db]] w (DoD w L d q m) := by
  subst hd
  obtain ⟨m', hm'⟩ : ∃ m', m' = crashL (pickV pl) 0 m := ⟨_, rfl⟩
  have HR := Lib.hid hr
  have HC1 : Hid (∀ (w : World) (L' : List HP), Own w (diskP d m :: L') → (∀ w', Own w' L' → Own w' L) → Calls Try.prog 20 #[.pointer (some ⟨d, 0, none⟩), dv] w (Ret w (.int .i64 0) (diskP d m' :: L'))) := Lib.hid fun w L' h hs => by rw [hm']; exact crash_c w L' d m dv pl h h0 hl (fun w' h' => hr w' (hs w' h'))
  have HC2 : Hid (∀ (w : World) (L' : List HP), Own w (rdiskP q m :: L') → (∀ w', Own w' L' → Own w' L) → Calls Try.prog 42 #[.pointer (some ⟨q, 0, none⟩), dv] w (Ret w (.int .i64 0) (rdiskP q m' :: L'))) := Lib.hid fun w L' h hs => by rw [hm']; exact rcrash_c w L' q m dv pl h (fun w' h' => hr w' (hs w' h')) hi
  have HG : Hid (Gd m m') := by show Gd _ _; rw [hm']; exact gd_crash _ m
  have hS := Same.refl w
  clear hl h0 hm' hr hi
  go_enter Try.func26, Try.ntmps26
  go_upto_region 7 with (first | (refine own_box_agg (x := .tmp 2) rfl rfl rfl hO ?_; clear hO; intro b u hO hSn; replace hS := hS.trans hSn; clear hSn) | (refine own_load1 (b := b) (off := 0) (cs := #[.int .i64 2, .int .i64 di, .int .u8 (dc.toNat : Int), dv, .bool db]) (t := 50) (v := .int .i64 2) rfl rfl rfl row_int (own_get 0 hO rfl) rfl ?_))
  refine wp_region_own (α := Nat → Value) (fun x => [.pointer (some ⟨d, 0, none⟩), .pointer (some ⟨b, 3, none⟩), dv, .int .i64 0, .pointer (some ⟨q, 0, none⟩), .pointer (some ⟨b, 3, none⟩), dv, .int .i64 0, .bool true, .bool true]) (fun D x => diskP d (if D 3 then m' else m) :: rdiskP q (if D 7 then m' else m) :: pts b (.cells #[.int .i64 2, .int .i64 di, .int .u8 (dc.toNat : Int), dv, .bool db] 50) :: L) u (fun _ => undef) 59 (fun _ => rfl) mixed (by kernel_rfl) rfl (by exact own_heap (own_perm hO (List.Perm.trans (List.Perm.swap _ _ _) (List.Perm.cons _ (List.Perm.swap _ _ _)))) (fun _ _ h => h)) (Same.drew _) (fun _ _ _ _ hd h => ⟨hd ▸ h.1, h.2⟩) ?_ ?_
  · refine ⟨?_, ?_, ?_, ?_, ?_, ?_, ?_, ?_, ?_, ?_, trivial⟩
    · (refine fs_pure (fun _ _ => rfl) (fun D x hD hcl hp => ?_); simp only [putO]; simp only [Act.put, List.setIfInBounds_toArray, List.set_cons_zero, List.set_cons_succ]; first | exact y_skip rfl | exact y_run rfl (by intro w h; go_simp; first | done | rfl))
    · (refine fs_pure (fun _ _ => rfl) (fun D x hD hcl hp => ?_); simp only [putO]; simp only [Act.put, List.setIfInBounds_toArray, List.set_cons_zero, List.set_cons_succ]; first | exact y_skip rfl | exact y_run rfl (by intro w h; go_simp; first | done | rfl))
    · (refine fs_pure (fun _ _ => rfl) (fun D x hD hcl hp => ?_); simp only [putO]; simp only [Act.put, List.setIfInBounds_toArray, List.set_cons_zero, List.set_cons_succ]; first | exact y_skip rfl | exact (y_load1 (b := b) (off := 3) (cs := #[.int .i64 2, .int .i64 di, .int .u8 (dc.toNat : Int), dv, .bool db]) (t := 50) (v := dv) rfl rfl rfl row_intsD (fun w h => own_get 2 h.1 rfl) rfl) | exact y_run rfl (by intro w h; go_simp; first | done | rfl))
    · intro D x w5 hD hcl hp hO5 hS5
      simp only [putO]
      simp only [Act.put, List.setIfInBounds_toArray, List.set_cons_zero, List.set_cons_succ]
      refine ev_call rfl (by go_simp; first | done | exact ⟨rfl, rfl⟩) ?_
      simp only [hD, Bool.false_eq_true, if_false] at hO5
      refine Calls.mono (HC1.out _ _ hO5 (fun w' h => own_drop (own_drop h))) ?_
      rintro e2 w6 ⟨rfl, hO6, hS6⟩
      exact ⟨_, rfl, wpList_nil ⟨rfl, x, (by intros; first | trivial | rfl), fun d hd _ => by cases hd; rfl, hO6, hS5.trans hS6⟩⟩
    · (refine fs_pure (fun _ _ => rfl) (fun D x hD hcl hp => ?_); simp only [putO]; simp only [Act.put, List.setIfInBounds_toArray, List.set_cons_zero, List.set_cons_succ]; first | exact y_skip rfl | exact y_run rfl (by intro w h; go_simp; first | done | rfl))
    · (refine fs_pure (fun _ _ => rfl) (fun D x hD hcl hp => ?_); simp only [putO]; simp only [Act.put, List.setIfInBounds_toArray, List.set_cons_zero, List.set_cons_succ]; first | exact y_skip rfl | exact y_run rfl (by intro w h; go_simp; first | done | rfl))
    · (refine fs_pure (fun _ _ => rfl) (fun D x hD hcl hp => ?_); simp only [putO]; simp only [Act.put, List.setIfInBounds_toArray, List.set_cons_zero, List.set_cons_succ]; first | exact y_skip rfl | exact (y_load1 (b := b) (off := 3) (cs := #[.int .i64 2, .int .i64 di, .int .u8 (dc.toNat : Int), dv, .bool db]) (t := 50) (v := dv) rfl rfl rfl row_intsD (fun w h => own_get 2 h.1 rfl) rfl) | exact y_run rfl (by intro w h; go_simp; first | done | rfl))
    · intro D x w5 hD hcl hp hO5 hS5
      simp only [putO]
      simp only [Act.put, List.setIfInBounds_toArray, List.set_cons_zero, List.set_cons_succ]
      refine ev_call rfl (by go_simp; first | done | exact ⟨rfl, rfl⟩) ?_
      simp only [hD, Bool.false_eq_true, if_false] at hO5
      refine Calls.mono (HC2.out _ _ (own_perm hO5 (List.Perm.swap _ _ _)) (fun w' h => own_drop (own_drop h))) ?_
      rintro e2 w6 ⟨rfl, hO6, hS6⟩
      exact ⟨_, rfl, wpList_nil ⟨rfl, x, (by intros; first | trivial | rfl), fun d hd _ => by cases hd; rfl, own_perm hO6 (List.Perm.swap _ _ _), hS5.trans hS6⟩⟩
    · (refine fs_pure (fun _ _ => rfl) (fun D x hD hcl hp => ?_); simp only [putO]; simp only [Act.put, List.setIfInBounds_toArray, List.set_cons_zero, List.set_cons_succ]; first | exact y_skip rfl | exact y_run rfl (by intro w h; go_simp; first | done | rfl))
    · (refine fs_pure (fun _ _ => rfl) (fun D x hD hcl hp => ?_); simp only [putO]; simp only [Act.put, List.setIfInBounds_toArray, List.set_cons_zero, List.set_cons_succ]; first | exact y_skip rfl | exact y_run rfl (by intro w h; go_simp; first | done | rfl))
  · intro x w10 D hD hO hS10
    simp only [hD 3 (by decide), hD 7 (by decide), if_true] at hO
    simp only [putO]
    simp only [Act.put, List.setIfInBounds_toArray, List.set_cons_zero, List.set_cons_succ]
    simp only [Exit.then]
    clear hD
    go_wp2
    go_ret
    exact ⟨m', HG.out, rfl, own_drop (own_perm hO (List.Perm.trans (List.Perm.cons _ (List.Perm.swap _ _ _)) (List.Perm.swap _ _ _))), hS.trans hS10⟩
set_option maxHeartbeats 1600000 in
theorem do_spoil (kd di : Int) (dc : UInt8) (dv : Value) (db : Bool) (hO : Own w (diskP d m :: rdiskP q m :: L)) (hd : kd = 3) :
    Calls Try.prog 26 #[.pointer (some ⟨d, 0, none⟩), .pointer (some ⟨q, 0, none⟩), .agg #[.int .i64 kd, .int .i64 di, .int .u8 (dc.toNat : Int), dv, .bool db]] w (DoD w L d q m) := by
  subst hd
  obtain ⟨e, m', hB, hg⟩ := spoil_both m di db
  have HB := Lib.hid hB
  have HG := Lib.hid hg
  have hS := Same.refl w
  clear hB hg
  go_enter Try.func26, Try.ntmps26
  go_upto_region 9 with (first | (refine own_box_agg (x := .tmp 2) rfl rfl rfl hO ?_; clear hO; intro b u hO hSn; replace hS := hS.trans hSn; clear hSn) | (refine own_load1 (b := b) (off := 0) (cs := #[.int .i64 3, .int .i64 di, .int .u8 (dc.toNat : Int), dv, .bool db]) (t := 50) (v := .int .i64 3) rfl rfl rfl row_int (own_get 0 hO rfl) rfl ?_))
  refine wp_region_own (α := Nat → Value) (fun x => [.pointer (some ⟨d, 0, none⟩), .pointer (some ⟨b, 1, none⟩), .int .i64 di, .pointer (some ⟨b, 4, none⟩), .bool db, .int .i64 e, .pointer (some ⟨q, 0, none⟩), .pointer (some ⟨b, 1, none⟩), .int .i64 di, .pointer (some ⟨b, 4, none⟩), .bool db, .int .i64 e, .bool true, .bool true]) (fun D x => diskP d (if D 5 then m' else m) :: rdiskP q (if D 11 then m' else m) :: pts b (.cells #[.int .i64 3, .int .i64 di, .int .u8 (dc.toNat : Int), dv, .bool db] 50) :: L) u (fun _ => undef) 59 (fun _ => rfl) mixed (by kernel_rfl) rfl (by exact own_heap (own_perm hO (List.Perm.trans (List.Perm.swap _ _ _) (List.Perm.cons _ (List.Perm.swap _ _ _)))) (fun _ _ h => h)) (Same.drew _) (fun _ _ _ _ hd h => ⟨hd ▸ h.1, h.2⟩) ?_ ?_
  · refine ⟨?_, ?_, ?_, ?_, ?_, ?_, ?_, ?_, ?_, ?_, ?_, ?_, ?_, ?_, trivial⟩
    · (refine fs_pure (fun _ _ => rfl) (fun D x hD hcl hp => ?_); simp only [putO]; simp only [Act.put, List.setIfInBounds_toArray, List.set_cons_zero, List.set_cons_succ]; first | exact y_skip rfl | exact y_run rfl (by intro w h; go_simp; first | done | rfl))
    · (refine fs_pure (fun _ _ => rfl) (fun D x hD hcl hp => ?_); simp only [putO]; simp only [Act.put, List.setIfInBounds_toArray, List.set_cons_zero, List.set_cons_succ]; first | exact y_skip rfl | exact y_run rfl (by intro w h; go_simp; first | done | rfl))
    · (refine fs_pure (fun _ _ => rfl) (fun D x hD hcl hp => ?_); simp only [putO]; simp only [Act.put, List.setIfInBounds_toArray, List.set_cons_zero, List.set_cons_succ]; first | exact y_skip rfl | exact (y_load1 (b := b) (off := 1) (cs := #[.int .i64 3, .int .i64 di, .int .u8 (dc.toNat : Int), dv, .bool db]) (t := 50) (v := .int .i64 di) rfl rfl rfl row_int (fun w h => own_get 2 h.1 rfl) rfl) | exact y_run rfl (by intro w h; go_simp; first | done | rfl))
    · (refine fs_pure (fun _ _ => rfl) (fun D x hD hcl hp => ?_); simp only [putO]; simp only [Act.put, List.setIfInBounds_toArray, List.set_cons_zero, List.set_cons_succ]; first | exact y_skip rfl | exact y_run rfl (by intro w h; go_simp; first | done | rfl))
    · (refine fs_pure (fun _ _ => rfl) (fun D x hD hcl hp => ?_); simp only [putO]; simp only [Act.put, List.setIfInBounds_toArray, List.set_cons_zero, List.set_cons_succ]; first | exact y_skip rfl | exact (y_load1 (b := b) (off := 4) (cs := #[.int .i64 3, .int .i64 di, .int .u8 (dc.toNat : Int), dv, .bool db]) (t := 50) (v := .bool db) rfl rfl rfl row_boolD (fun w h => own_get 2 h.1 rfl) rfl) | exact y_run rfl (by intro w h; go_simp; first | done | rfl))
    · intro D x w5 hD hcl hp hO5 hS5
      simp only [putO]
      simp only [Act.put, List.setIfInBounds_toArray, List.set_cons_zero, List.set_cons_succ]
      refine ev_call rfl (by go_simp; first | done | exact ⟨rfl, rfl⟩) ?_
      simp only [hD, Bool.false_eq_true, if_false] at hO5
      refine Calls.mono (HB.out.1 _ _ d hO5) ?_
      rintro e2 w6 ⟨rfl, hO6, hS6⟩
      exact ⟨_, rfl, wpList_nil ⟨rfl, x, (by intros; first | trivial | rfl), fun d hd _ => by cases hd; rfl, hO6, hS5.trans hS6⟩⟩
    · (refine fs_pure (fun _ _ => rfl) (fun D x hD hcl hp => ?_); simp only [putO]; simp only [Act.put, List.setIfInBounds_toArray, List.set_cons_zero, List.set_cons_succ]; first | exact y_skip rfl | exact y_run rfl (by intro w h; go_simp; first | done | rfl))
    · (refine fs_pure (fun _ _ => rfl) (fun D x hD hcl hp => ?_); simp only [putO]; simp only [Act.put, List.setIfInBounds_toArray, List.set_cons_zero, List.set_cons_succ]; first | exact y_skip rfl | exact y_run rfl (by intro w h; go_simp; first | done | rfl))
    · (refine fs_pure (fun _ _ => rfl) (fun D x hD hcl hp => ?_); simp only [putO]; simp only [Act.put, List.setIfInBounds_toArray, List.set_cons_zero, List.set_cons_succ]; first | exact y_skip rfl | exact (y_load1 (b := b) (off := 1) (cs := #[.int .i64 3, .int .i64 di, .int .u8 (dc.toNat : Int), dv, .bool db]) (t := 50) (v := .int .i64 di) rfl rfl rfl row_int (fun w h => own_get 2 h.1 rfl) rfl) | exact y_run rfl (by intro w h; go_simp; first | done | rfl))
    · (refine fs_pure (fun _ _ => rfl) (fun D x hD hcl hp => ?_); simp only [putO]; simp only [Act.put, List.setIfInBounds_toArray, List.set_cons_zero, List.set_cons_succ]; first | exact y_skip rfl | exact y_run rfl (by intro w h; go_simp; first | done | rfl))
    · (refine fs_pure (fun _ _ => rfl) (fun D x hD hcl hp => ?_); simp only [putO]; simp only [Act.put, List.setIfInBounds_toArray, List.set_cons_zero, List.set_cons_succ]; first | exact y_skip rfl | exact (y_load1 (b := b) (off := 4) (cs := #[.int .i64 3, .int .i64 di, .int .u8 (dc.toNat : Int), dv, .bool db]) (t := 50) (v := .bool db) rfl rfl rfl row_boolD (fun w h => own_get 2 h.1 rfl) rfl) | exact y_run rfl (by intro w h; go_simp; first | done | rfl))
    · intro D x w5 hD hcl hp hO5 hS5
      simp only [putO]
      simp only [Act.put, List.setIfInBounds_toArray, List.set_cons_zero, List.set_cons_succ]
      refine ev_call rfl (by go_simp; first | done | exact ⟨rfl, rfl⟩) ?_
      simp only [hD, Bool.false_eq_true, if_false] at hO5
      refine Calls.mono (HB.out.2 _ _ q (own_perm hO5 (List.Perm.swap _ _ _))) ?_
      rintro e2 w6 ⟨rfl, hO6, hS6⟩
      exact ⟨_, rfl, wpList_nil ⟨rfl, x, (by intros; first | trivial | rfl), fun d hd _ => by cases hd; rfl, own_perm hO6 (List.Perm.swap _ _ _), hS5.trans hS6⟩⟩
    · (refine fs_pure (fun _ _ => rfl) (fun D x hD hcl hp => ?_); simp only [putO]; simp only [Act.put, List.setIfInBounds_toArray, List.set_cons_zero, List.set_cons_succ]; first | exact y_skip rfl | exact y_run rfl (by intro w h; go_simp; first | done | rfl))
    · (refine fs_pure (fun _ _ => rfl) (fun D x hD hcl hp => ?_); simp only [putO]; simp only [Act.put, List.setIfInBounds_toArray, List.set_cons_zero, List.set_cons_succ]; first | exact y_skip rfl | exact y_run rfl (by intro w h; go_simp; first | done | rfl))
  · intro x w10 D hD hO hS10
    simp only [hD 5 (by decide), hD 11 (by decide), if_true] at hO
    simp only [putO]
    simp only [Act.put, List.setIfInBounds_toArray, List.set_cons_zero, List.set_cons_succ]
    simp only [Exit.then]
    clear hD
    go_wp2
    go_ret
    exact ⟨m', HG.out, rfl, own_drop (own_perm hO (List.Perm.trans (List.Perm.cons _ (List.Perm.swap _ _ _)) (List.Perm.swap _ _ _))), hS.trans hS10⟩
theorem do_idle (kd di : Int) (dc : UInt8) (dv : Value) (db : Bool) (hO : Own w (diskP d m :: rdiskP q m :: L)) (h0 : kd ≠ 0) (h1 : kd ≠ 1) (h2 : kd ≠ 2) (h3 : kd ≠ 3) :
    Calls Try.prog 26 #[.pointer (some ⟨d, 0, none⟩), .pointer (some ⟨q, 0, none⟩), .agg #[.int .i64 kd, .int .i64 di, .int .u8 (dc.toNat : Int), dv, .bool db]] w (DoD w L d q m) := by
  have g0 : (kd == 0) = false := by simpa using h0
  have g1 : (kd == 1) = false := by simpa using h1
  have g2 : (kd == 2) = false := by simpa using h2
  have g3 : (kd == 3) = false := by simpa using h3
  have hS := Same.refl w
  clear h0 h1 h2 h3
  go_enter Try.func26, Try.ntmps26
  go_wp2_with (first | (refine own_box_agg (x := .tmp 2) rfl rfl rfl hO ?_; clear hO; intro b u hO hSn; replace hS := hS.trans hSn; clear hSn) | (refine own_load1 (b := b) (off := 0) (cs := #[.int .i64 kd, .int .i64 di, .int .u8 (dc.toNat : Int), dv, .bool db]) (t := 50) (v := .int .i64 kd) rfl rfl rfl row_int (own_get 0 hO rfl) rfl ?_))
  go_ret
  exact ⟨m, Gd.refl m, rfl, own_drop hO, hS⟩
theorem do_d (x : DDeed) (hO : Own w (diskP d m :: rdiskP q m :: L)) (h0 : 0 < m.length) (hl : Lim 1000000 m) (hx : ∀ w', Own w' L → x.At w') :
    Calls Try.prog 26 #[.pointer (some ⟨d, 0, none⟩), .pointer (some ⟨q, 0, none⟩), .agg x.cells.toArray] w (DoD w L d q m) := by
  obtain ⟨kd, di, dc, dv, pl, db⟩ := x
  have hd := hx w (own_drop (own_drop hO))
  by_cases g0 : kd = 0
  · exact do_write w L d q m kd di dc dv db hO hl g0
  by_cases g1 : kd = 1
  · exact do_flush w L d q m kd di dc dv db hO h0 hl g1
  by_cases g2 : kd = 2
  · exact do_crash w L d q m kd di dc dv db pl hO h0 hl g2 (fun w' h => (hx w' h).rd) hd.inl
  by_cases g3 : kd = 3
  · exact do_spoil w L d q m kd di dc dv db hO g3
  exact do_idle w L d q m kd di dc dv db hO g0 g1 g2 g3
end
end Go.Proofs.Ytjilkbkafigloaa.H
