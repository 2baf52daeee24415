/- The program's engine: nil, may, Size, Next, Spoil, Waiting. Functions of package slices over numbers: Index, Contains, Equal, and ContainsFunc by its closure. Ready's closure; ContainsFunc by it. -/
import Derived.Test.YtonohjhmnlfakaaZ15
import Derived.Test.YtonohjhmnlfakaaZ13
import Derived.WalkMore
import Derived.Test.YtonohjhmnlfakaaZ11
import Derived.Test.YtonohjhmnlfakaaZ02
set_option linter.unusedVariables false
set_option linter.unusedSimpArgs false
set_option maxRecDepth 100000
namespace Go.Proofs.Ytonohjhmnlfakaa.H
open Go.RowKit
theorem row_dptr : isRowB Try.prog 25 = some false := by kernel_rfl
theorem row_ents : isRowB Try.prog 65 = some false := by kernel_rfl
theorem row_ent : isRowB Try.prog 79 = some true := by kernel_rfl
theorem sz_ent : (Try.prog.info? 79).map (·.size) = some 5 := by kernel_rfl
theorem zero_ent : (Try.prog.info? 79).map (·.zero) = some (some (.agg #[.int .i64 0, .int .i64 0, .int .i64 0, .string ⟨#[]⟩, .slice none 0 0])) := by kernel_rfl
theorem info_ent3 : (Try.prog.info? 79).map (fun i => (i.zero, i.size, i.bytes)) = some (some (.agg #[.int .i64 0, .int .i64 0, .int .i64 0, .string ⟨#[]⟩, .slice none 0 0]), 5, 64) := by kernel_rfl
theorem row_mint : isRowB Try.prog 64 = some false := by kernel_rfl
theorem row_zs : isRowB Try.prog 34 = some false := by kernel_rfl
theorem info_z3 : (Try.prog.info? 3).map (fun i => (i.zero, i.size, i.bytes)) = some (some (.int .i64 0), 1, 8) := by kernel_rfl
theorem sz_z : (Try.prog.info? 3).map (·.size) = some 1 := by kernel_rfl
theorem own_under {w : World} {A B C D X : HP} {L : List HP} (h : Own w (A :: B :: C :: D :: X :: L)) : Own w (B :: C :: D :: X :: A :: L) := own_perm h (by
  refine List.Perm.trans (List.Perm.swap _ _ _) (List.Perm.cons _ ?_)
  refine List.Perm.trans (List.Perm.swap _ _ _) (List.Perm.cons _ ?_)
  refine List.Perm.trans (List.Perm.swap _ _ _) (List.Perm.cons _ ?_)
  exact List.Perm.swap _ _ _)
theorem own_over {w : World} {A B C D X : HP} {L : List HP} (h : Own w (B :: C :: D :: X :: A :: L)) : Own w (A :: B :: C :: D :: X :: L) := own_perm h (perm_at (k := 4) rfl)
section
variable (w : World) (L : List HP) (e : Nat) (E : Eng)
theorem esize_nil (hO : Own w L) : Calls Try.prog 16 #[.pointer none] w (Ret w (.int .i64 0) L) := by
  go_enter Try.func16, Try.ntmps16
  go_wp2
  go_ret
  exact ⟨rfl, hO, Same.refl _⟩
theorem emay_nil (i : Int) (hO : Own w L) : Calls Try.prog 50 #[.pointer none, .int .i64 i] w (Ret w (.int .i64 1) L) := by
  go_enter Try.func50, Try.ntmps50
  go_wp2
  go_ret
  exact ⟨rfl, hO, Same.refl _⟩
theorem ewaiting_nil (hO : Own w L) : Calls Try.prog 22 #[.pointer none] w (Ret w (.slice none 0 0) L) := by
  go_enter Try.func22, Try.ntmps22
  go_wp2
  go_ret
  exact ⟨rfl, hO, Same.refl _⟩
theorem edirty_nil (hO : Own w L) : Calls Try.prog 12 #[.pointer none] w (Ret w (.slice none 0 0) L) := by
  go_enter Try.func12, Try.ntmps12
  go_wp2
  go_ret
  exact ⟨rfl, hO, Same.refl _⟩
theorem eflush_nil (hO : Own w L) : Calls Try.prog 18 #[.pointer none] w (Ret w (.int .i64 1) L) := by
  go_enter Try.func18, Try.ntmps18
  go_wp2
  go_ret
  exact ⟨rfl, hO, Same.refl _⟩
theorem esync_nil (hO : Own w L) : Calls Try.prog 21 #[.pointer none] w (Ret w (.int .i64 1) L) := by
  go_enter Try.func21, Try.ntmps21
  go_wp2
  go_ret
  exact ⟨rfl, hO, Same.refl _⟩
theorem ecrash_nil (v : Value) (hO : Own w L) : Calls Try.prog 19 #[.pointer none, v] w (Ret w (.pointer none) L) := by
  go_enter Try.func19, Try.ntmps19
  go_wp2
  go_ret
  exact ⟨rfl, hO, Same.refl _⟩
theorem enew_nil (hO : Own w L) : Calls Try.prog 6 #[.pointer none] w (Ret w (.pointer none) L) := by
  go_enter Try.func6, Try.ntmps6
  go_wp2
  go_ret
  exact ⟨rfl, hO, Same.refl _⟩
theorem eadd_nil (v : Value) (hO : Own w L) : Calls Try.prog 9 #[.pointer none, v] w (Ret w (.tuple #[.int .i64 0, .int .i64 1]) L) := by
  have hS := Same.refl w
  go_enter Try.func9, Try.ntmps9
  go_wp2_with (first | (refine own_box (x := .tmp 0) (cs := #[.pointer none]) rfl rfl rfl rfl hO ?_; clear hO; intro bx u hO hSn; replace hS := hS.trans hSn; clear hSn) | (apply own_load1 rfl rfl rfl; (first | kernel_rfl); (first | exact own_get 0 hO rfl | exact own_get 1 hO rfl | exact own_get 2 hO rfl | exact own_get 3 hO rfl | exact own_get 4 hO rfl | exact own_get 5 hO rfl | exact own_get 6 hO rfl | exact own_get 7 hO rfl); (first | (simp only [List.getElem?_toArray, List.getElem?_cons_succ, List.getElem?_cons_zero]; rfl) | rfl)))
  go_ret2
  exact ⟨rfl, own_drop hO, hS⟩
theorem eready_nil (i : Int) (hO : Own w L) : Calls Try.prog 51 #[.pointer none, .int .i64 i] w (Ret w (.slice none 0 0) L) := by
  have hS := Same.refl w
  go_enter Try.func51, Try.ntmps51
  go_wp2
  go_step3
  go_wp2_with (first | (go_at_call 50; (with_reducible refine Calls.mono (emay_nil _ _ i hO) ?_); clear hO; rintro e u ⟨rfl, hO, hSn⟩; replace hS := hS.trans hSn; clear hSn))
  try rw [Exit.noGoto_ret]
  go_ret
  exact ⟨rfl, hO, hS⟩
theorem ewrite_nil (i : Int) (hO : Own w L) : Calls Try.prog 17 #[.pointer none, .int .i64 i] w (Ret w (.tuple #[.int .i64 0, .int .i64 1]) L) := by
  have hS := Same.refl w
  go_enter Try.func17, Try.ntmps17
  go_wp2_with (first | (go_at_call 50; (with_reducible refine Calls.mono (emay_nil _ _ i hO) ?_); clear hO; rintro e u ⟨rfl, hO, hSn⟩; replace hS := hS.trans hSn; clear hSn))
  go_ret2
  exact ⟨rfl, hO, hS⟩
theorem eblock_nil (i : Int) (hO : Own w L) : Calls Try.prog 25 #[.pointer none, .int .i64 i] w (Ret w (.tuple #[.slice none 0 0, .int .i64 1]) L) := by
  have hS := Same.refl w
  go_enter Try.func25, Try.ntmps25
  go_wp2_with (first | (go_at_call 50; (with_reducible refine Calls.mono (emay_nil _ _ i hO) ?_); clear hO; rintro e u ⟨rfl, hO, hSn⟩; replace hS := hS.trans hSn; clear hSn))
  go_ret2
  exact ⟨rfl, hO, hS⟩
theorem esize_c (hO : Own w (engP e E :: L)) : Calls Try.prog 16 #[.pointer (some ⟨e, 0, none⟩)] w (Ret w (.int .i64 E.m.length) (engP e E :: L)) := by
  obtain ⟨d, wv, bs, fs, we, g, hk, hO⟩ := eng_open.1 hO
  have HK := Lib.hid hk
  have hS := Same.refl w
  clear hk
  go_enter Try.func16, Try.ntmps16
  go_wp2_with (first | (apply own_load1 rfl rfl rfl; (first | exact row_dptr | exact row_ents | exact row_mint | exact row_int); (first | exact own_get 0 hO rfl | exact own_get 1 hO rfl | exact own_get 2 hO rfl | exact own_get 3 hO rfl | exact own_get 4 hO rfl | exact own_get 5 hO rfl | exact own_get 6 hO rfl | exact own_get 7 hO rfl); (first | (simp only [List.getElem?_toArray, List.getElem?_cons_succ, List.getElem?_cons_zero]; rfl) | rfl)) | (go_at_call 37; (with_reducible refine Calls.mono (call_at 1 (fun L' h => size_c _ L' d E.m h) rfl hO) ?_); clear hO; rintro e u ⟨rfl, hO, hSn⟩; replace hS := hS.trans hSn; clear hSn; simp only [List.set_cons_zero, List.set_cons_succ] at hO))
  go_ret
  exact ⟨rfl, eng_open.2 ⟨_, _, _, _, _, _, HK.out, hO⟩, hS⟩
theorem emay_ok (i : Nat) (hO : Own w (engP e E :: L)) (hi : i < E.m.length) : Calls Try.prog 50 #[.pointer (some ⟨e, 0, none⟩), .int .i64 i] w (Ret w (.int .i64 0) (engP e E :: L)) := by
  obtain ⟨d, wv, bs, fs, we, g, hk, hO⟩ := eng_open.1 hO
  have HK := Lib.hid hk
  have hS := Same.refl w
  have h1 : ¬ ((i : Int) < 0) := by omega
  have h2 : ¬ ((E.m.length : Int) ≤ i) := by omega
  clear hk hi
  go_enter Try.func50, Try.ntmps50
  go_wp2_with (first | (apply own_load1 rfl rfl rfl; (first | exact row_dptr | exact row_ents | exact row_mint | exact row_int); (first | exact own_get 0 hO rfl | exact own_get 1 hO rfl | exact own_get 2 hO rfl | exact own_get 3 hO rfl | exact own_get 4 hO rfl | exact own_get 5 hO rfl | exact own_get 6 hO rfl | exact own_get 7 hO rfl); (first | (simp only [List.getElem?_toArray, List.getElem?_cons_succ, List.getElem?_cons_zero]; rfl) | rfl)) | (go_at_call 37; (with_reducible refine Calls.mono (call_at 1 (fun L' h => size_c _ L' d E.m h) rfl hO) ?_); clear hO; rintro e u ⟨rfl, hO, hSn⟩; replace hS := hS.trans hSn; clear hSn; simp only [List.set_cons_zero, List.set_cons_succ] at hO))
  go_ret
  exact ⟨rfl, eng_open.2 ⟨_, _, _, _, _, _, HK.out, hO⟩, hS⟩
theorem emay_no (i : Int) (hO : Own w (engP e E :: L)) (hi : i < 0 ∨ (E.m.length : Int) ≤ i) : Calls Try.prog 50 #[.pointer (some ⟨e, 0, none⟩), .int .i64 i] w (Ret w (.int .i64 2) (engP e E :: L)) := by
  obtain ⟨d, wv, bs, fs, we, g, hk, hO⟩ := eng_open.1 hO
  have HK := Lib.hid hk
  have hS := Same.refl w
  clear hk
  rcases hi with h1 | h2
  · go_enter Try.func50, Try.ntmps50
    go_wp2_with (first | (apply own_load1 rfl rfl rfl; (first | exact row_dptr | exact row_ents | exact row_mint | exact row_int); (first | exact own_get 0 hO rfl | exact own_get 1 hO rfl | exact own_get 2 hO rfl | exact own_get 3 hO rfl | exact own_get 4 hO rfl | exact own_get 5 hO rfl | exact own_get 6 hO rfl | exact own_get 7 hO rfl); (first | (simp only [List.getElem?_toArray, List.getElem?_cons_succ, List.getElem?_cons_zero]; rfl) | rfl)) | (go_at_call 37; (with_reducible refine Calls.mono (call_at 1 (fun L' h => size_c _ L' d E.m h) rfl hO) ?_); clear hO; rintro e u ⟨rfl, hO, hSn⟩; replace hS := hS.trans hSn; clear hSn; simp only [List.set_cons_zero, List.set_cons_succ] at hO))
    go_ret
    exact ⟨rfl, eng_open.2 ⟨_, _, _, _, _, _, HK.out, hO⟩, hS⟩
  · have h1 : ¬ (i < 0) := by omega
    go_enter Try.func50, Try.ntmps50
    go_wp2_with (first | (apply own_load1 rfl rfl rfl; (first | exact row_dptr | exact row_ents | exact row_mint | exact row_int); (first | exact own_get 0 hO rfl | exact own_get 1 hO rfl | exact own_get 2 hO rfl | exact own_get 3 hO rfl | exact own_get 4 hO rfl | exact own_get 5 hO rfl | exact own_get 6 hO rfl | exact own_get 7 hO rfl); (first | (simp only [List.getElem?_toArray, List.getElem?_cons_succ, List.getElem?_cons_zero]; rfl) | rfl)) | (go_at_call 37; (with_reducible refine Calls.mono (call_at 1 (fun L' h => size_c _ L' d E.m h) rfl hO) ?_); clear hO; rintro e u ⟨rfl, hO, hSn⟩; replace hS := hS.trans hSn; clear hSn; simp only [List.set_cons_zero, List.set_cons_succ] at hO))
    go_ret
    exact ⟨rfl, eng_open.2 ⟨_, _, _, _, _, _, HK.out, hO⟩, hS⟩
theorem ent_cells {w : World} {ad : Addr} {n c : Nat} {we : List We} (h : Rd w 5 (.slice (some ad) n c) n (cellsW we)) {k : Nat} {x : We} (hx : we[k]? = some x) : ∀ (j : Nat) (u : Value), (We.cells x)[j]? = some u → w.cell? ((ad.add (k * 5)).add j) = some u :=
  fun j u hu => h.cell (cellsW_at we k x hx j u hu)
/-- The cells of what waits at k, wherever the engine is owned. -/
theorem wat {w : World} {L : List HP} {we : List We} {wv : Value} {g : List RdI} (hw : WOk we wv g) {k : Nat} {x : We} (hx : we[k]? = some x) (hO : Own w (rdG g :: L)) : ∃ ad c, wv = .slice (some ad) we.length c ∧ ∀ (L : List HP) w', Own w' (rdG g :: L) → ∀ (j : Nat) (u : Value), (We.cells x)[j]? = some u → w'.cell? ((ad.add (k * 5)).add j) = some u := by
  obtain ⟨A, c, e, hm⟩ := hw.rd
  have hr := rdG_rd hO hm
  obtain ⟨ad, rfl⟩ := hr.addr (by rw [cellsW_length]; have := (List.getElem?_eq_some_iff.1 hx).1; omega)
  exact ⟨ad, c, e, fun L w' h => ent_cells (rdG_rd h hm) hx⟩
set_option maxHeartbeats 800000 in
theorem ewaiting_c (hO : Own w (engP e E :: L)) (hk : E.Ok) : Calls Try.prog 22 #[.pointer (some ⟨e, 0, none⟩)] w (RetX w (fun v : Value => v) (fun v => owns 3 1 v E.l.length (zs E.waiting) :: engP e E :: L)) := by
  obtain ⟨d, wv, bs, fs, we, g, ⟨h1, h2, h3⟩, hO⟩ := eng_open.1 hO
  have HK := Lib.hid (And.intro h1 (And.intro h2 h3))
  have hwl : we.length = E.l.length := by rw [← h1, List.length_map]
  have hlen := hk.len
  have hlt := hk.lt
  have hlim := hk.lim
  obtain ⟨A, c, rfl, hm⟩ := h2.rd
  have hmx := (rdG_rd (own_at hO (k := 3) rfl) hm).max
  have HW := Lib.hid h2
  have HLT : Hid (∀ x ∈ we, x.1.n < 1000000) := Lib.hid fun x hx => by
    have := hlt x.1 (by rw [← h1]; exact List.mem_map_of_mem hx)
    omega
  have HL2 : Hid (we.length ≤ 200) := by show _ ≤ _; omega
  have HEND : Hid (zs (wnums (we.map (·.1))) = zs E.waiting ∧ we.length = E.l.length) := by
    refine ⟨?_, hwl⟩
    rw [h1]
    rfl
  have hS := Same.refl w
  have hwl2 := HL2.out
  clear h1 h2 h3 hk hm hlt hwl
  go_enter Try.func22, Try.ntmps22
  go_wp2_with (first | (apply own_load1 rfl rfl rfl; (first | exact row_dptr | exact row_ents | exact row_mint | exact row_int); (first | exact own_get 0 hO rfl | exact own_get 1 hO rfl | exact own_get 2 hO rfl | exact own_get 3 hO rfl | exact own_get 4 hO rfl | exact own_get 5 hO rfl | exact own_get 6 hO rfl | exact own_get 7 hO rfl); (first | (simp only [List.getElem?_toArray, List.getElem?_cons_succ, List.getElem?_cons_zero]; rfl) | rfl)))
  go_loopw [3, 13] (fun o iv wr => ∃ k : Nat, k ≤ we.length ∧ iv = .int .i64 k ∧ Own wr (owns 3 1 o k (zs (wnums ((we.take k).map (·.1)))) :: pts e (.cells #[.pointer (some ⟨d, 0, none⟩), .slice A we.length c, .map (some bs), .int .i64 E.next] 67) :: diskP d E.m :: mapP bs fs :: rdG g :: L) ∧ Same w wr) (fun _ iv _ => we.length - (intOf iv).toNat)
  case atStart => exact ⟨0, Nat.zero_le _, rfl, owns_nil hO, hS⟩
  case round =>
    clear hO hS
    obtain ⟨k, hk, rfl, hO, hS⟩ := hrel
    by_cases hlt : k < we.length
    · obtain ⟨⟨x, xv⟩, hx⟩ : ∃ x, we[k]? = some x := ⟨_, List.getElem?_eq_getElem hlt⟩
      obtain ⟨A2, c2, e2, _⟩ := HW.out.beh _ (List.mem_of_getElem? hx)
      have e2 : xv = .slice A2 x.beh.length c2 := e2
      subst e2
      obtain ⟨ad, c', e1, hc⟩ := wat HW.out hx (own_at hO (k := 4) rfl)
      obtain ⟨rfl, rfl⟩ : A = some ad ∧ c = c' := by injection e1 with a1 _ a3; exact ⟨a1, a3⟩
      have HC := Lib.hid (hc _ wr (own_at hO (k := 4) rfl))
      have hm1 : (k : Int) < we.length := by omega
      have HNX : Hid (zs (wnums ((we.take (k + 1)).map (·.1))) = zs (wnums ((we.take k).map (·.1))) ++ [.int .i64 x.n]) := by
        show _ = _
        rw [List.take_add_one, hx]
        simp [wnums, zs, encZ]
      clear hx hc e1
      go_upto_region 7 with (first | (refine own_loadrow_at (ad := ad.add (k * 5)) (vs := We.cells (x, .slice A2 x.beh.length c2)) rfl rfl rfl row_ent sz_ent rfl HC.out ?_) | (refine own_alloc (T := 79) rfl rfl zero_ent rfl hO ?_; clear hO; intro gx u hO hSn; replace hS := hS.trans hSn; clear hSn) | (apply own_store_all (k := 0) rfl rfl rfl rfl sz_ent hO rfl; (focus rfl); (focus rfl); (focus rfl); clear hO; intro u hO hSn; replace hS := hS.trans hSn; clear hSn; simp only [List.set_cons_zero, List.set_cons_succ] at hO))
      have hO := own_perm hO (List.Perm.swap _ _ _)
      go_wp2_with (first | (refine own_load1 (b := gx) (off := 0) (cs := (We.cells (x, .slice A2 x.beh.length c2)).toArray) (t := 79) (v := .int .i64 x.n) rfl rfl rfl row_int (own_get 1 hO rfl) rfl ?_) | (refine own_append (m := 1) (n := k) (xs := (zs (wnums ((we.take k).map (·.1))))) (news := [.int .i64 x.n]) rfl rfl rfl rfl Try.underlying34 info_z3 rfl (by decide) (own_perm (own_alloc_new hO (.cells #[.int .i64 x.n] 3)) (List.Perm.swap _ _ _)) ?_ (by intro u hu; rw [List.mem_singleton.1 hu]; rfl) ?_ ?_ ?_; (exact rd_block (own_get 1 (own_perm (own_alloc_new hO (.cells #[.int .i64 x.n] 3)) (List.Perm.swap _ _ _)) rfl) rfl (by simp) (by simp) (by simp)); (have := HL2.out; unfold maxLen; omega); (have := HL2.out; omega); clear hO; intro v' w9 hO hS9 hv'))
      go_roundw
      case rel => exact ⟨k + 1, by omega, by go_num, by rw [HNX.out]; exact own_skip (own_skip hO), hS.trans ((Same.alloc _ _).trans hS9)⟩
      case measure => simp [intOf]; omega
    · have hke : k = we.length := by omega
      subst hke
      rw [List.take_length, HEND.out.1] at hO
      go_wp2
      go_ret
      refine ⟨_, rfl, ?_, hS⟩
      rw [← HEND.out.2]
      exact own_perm (eng_open.2 ⟨d, .slice A we.length c, bs, fs, we, g, HK.out, own_under hO⟩) (List.Perm.swap _ _ _)
end
end Go.Proofs.Ytonohjhmnlfakaa.H
set_option linter.unusedVariables false
set_option linter.unusedSimpArgs false
set_option maxRecDepth 100000
namespace Go.Proofs.Ytonohjhmnlfakaa.H
open Go.RowKit
/-- Where the first one is that p tells; -1: nowhere. -/
def fidx {α : Type} (p : α → Bool) : List α → Nat → Int
  | [], _ => -1
  | x :: r, k => if p x then (k : Int) else fidx p r (k + 1)
theorem fidx_any {α : Type} (p : α → Bool) : ∀ (l : List α) (k : Nat), decide (0 ≤ fidx p l k) = l.any p
  | [], k => rfl
  | x :: r, k => by
    unfold fidx
    rw [List.any_cons]
    cases h : p x with
    | true => simp
    | false => simp [fidx_any p r (k + 1)]
theorem fidx_drop {α : Type} (p : α → Bool) {l : List α} {k : Nat} {x : α} (h : l[k]? = some x) : fidx p (l.drop k) k = if p x then (k : Int) else fidx p (l.drop (k + 1)) (k + 1) := by
  have h1 := List.getElem?_eq_some_iff.1 h
  rw [List.drop_eq_getElem_cons h1.1, h1.2]
  rfl
theorem fidx_end {α : Type} (p : α → Bool) (l : List α) : fidx p (l.drop l.length) l.length = -1 := by rw [List.drop_length]; rfl
theorem fidx_lt {α : Type} (p : α → Bool) : ∀ (l : List α) (k : Nat), fidx p l k = -1 ∨ ((k : Int) ≤ fidx p l k ∧ fidx p l k < (k + l.length : Nat))
  | [], k => .inl rfl
  | x :: r, k => by
    unfold fidx
    split
    · exact .inr ⟨Int.le_refl _, by simp; omega⟩
    · rcases fidx_lt p r (k + 1) with h | ⟨h1, h2⟩
      · exact .inl h
      · exact .inr ⟨by omega, by simp only [List.length_cons]; omega⟩
section
variable (w : World) (L : List HP)
theorem index_i (v : Value) (n : Nat) (l : List Int) (x : Int) (hn : n = l.length) (hO : Own w L) (hr : ∀ w', Own w' L → Rd w' 1 v n (zs l)) :
    Calls Try.prog 83 #[v, .int .i64 x] w (Ret w (.int .i64 (fidx (fun y => x == y) l 0)) L) := by
  subst hn
  have HR := Lib.hid hr
  obtain ⟨A, c, rfl⟩ := (hr w hO).slice
  have hmx := (hr w hO).max
  clear hr
  go_enter Try.func83, Try.ntmps83
  go_wp2
  go_loopw [8] (fun i wr => ∃ k : Nat, k ≤ l.length ∧ i = .int .i64 k ∧ fidx (fun y => x == y) l 0 = fidx (fun y => x == y) (l.drop k) k ∧ Own wr L ∧ Same w wr) (fun i _ => l.length - (intOf i).toNat)
  case atStart => exact ⟨0, Nat.zero_le _, rfl, rfl, hO, Same.refl _⟩
  case round =>
    clear hO
    obtain ⟨k, hk, rfl, hf, hO, hS⟩ := hrel
    have HF := Lib.hid hf
    clear hf
    by_cases hlt : k < l.length
    · obtain ⟨y, hy⟩ : ∃ y, l[k]? = some y := ⟨_, List.getElem?_eq_getElem hlt⟩
      obtain ⟨ad, rfl⟩ := (HR.out _ hO).addr (by unfold zs; rw [List.length_map]; omega)
      have hcell := zs_cell (HR.out _ hO) hy
      have hm1 : (k : Int) < l.length := by omega
      have HD := Lib.hid (fidx_drop (fun y => x == y) hy)
      clear hy
      by_cases he : x = y
      · subst he
        have HX : Hid (fidx (fun y => x == y) l 0 = (k : Int)) := by show _ = _; rw [HF.out, HD.out]; simp
        go_wp2_with (first | (refine own_load1_at (ad := ad.add k) (v := .int .i64 x) rfl rfl rfl row_int hcell ?_))
        go_ret
        exact ⟨by rw [HX.out]; rfl, hO, hS⟩
      · have he3 : (x == y) = false := by simp [he]
        have HX : Hid (fidx (fun y => x == y) l 0 = fidx (fun y => x == y) (l.drop (k + 1)) (k + 1)) := by show _ = _; rw [HF.out, HD.out]; simp [he]
        clear he
        go_wp2_with (first | (refine own_load1_at (ad := ad.add k) (v := .int .i64 y) rfl rfl rfl row_int hcell ?_))
        go_roundw
        case rel => exact ⟨k + 1, by omega, by go_num, HX.out, hO, hS⟩
        case measure => simp [intOf]; omega
    · have hke : k = l.length := by omega
      subst hke
      have HX : Hid (fidx (fun y => x == y) l 0 = -1) := by show _ = _; rw [HF.out, fidx_end]
      go_wp2
      go_ret
      exact ⟨by rw [HX.out]; rfl, hO, hS⟩
theorem contains_i (v : Value) (n : Nat) (l : List Int) (x : Int) {r : Bool} (hn : n = l.length) (hx : l.contains x = r) (hO : Own w L) (hr : ∀ w', Own w' L → Rd w' 1 v n (zs l)) :
    Calls Try.prog 55 #[v, .int .i64 x] w (Ret w (.bool r) L) := by
  have HR := Lib.hid hr
  have HN := Lib.hid hn
  obtain ⟨z, hz⟩ : ∃ z, z = fidx (fun y => x == y) l 0 := ⟨_, rfl⟩
  have hd : decide (0 ≤ z) = r := by
    rw [hz, fidx_any, ← hx, List.contains_eq_any_beq]
  have HI : Hid (∀ w' (L : List HP), Own w' L → (∀ w', Own w' L → Rd w' 1 v n (zs l)) → Calls Try.prog 83 #[v, .int .i64 x] w' (Ret w' (.int .i64 z) L)) := Lib.hid fun w' L h1 h2 => by rw [hz]; exact index_i w' L v n l x hn h1 h2
  have hS := Same.refl w
  clear hr hx hn hz
  cases r with
  | true =>
    have h1 : 0 ≤ z := by simpa using hd
    go_enter Try.func55, Try.ntmps55
    go_wp2_with (first | (go_at_call 83; (with_reducible refine Calls.mono (HI.out _ _ hO HR.out) ?_); clear hO; rintro e u ⟨rfl, hO, hSn⟩; replace hS := hS.trans hSn; clear hSn))
    go_ret
    exact ⟨rfl, hO, hS⟩
  | false =>
    have h1 : ¬ (0 ≤ z) := by simpa using hd
    go_enter Try.func55, Try.ntmps55
    go_wp2_with (first | (go_at_call 83; (with_reducible refine Calls.mono (HI.out _ _ hO HR.out) ?_); clear hO; rintro e u ⟨rfl, hO, hSn⟩; replace hS := hS.trans hSn; clear hSn))
    go_ret
    exact ⟨rfl, hO, hS⟩
theorem equal_i (u v : Value) (n m : Nat) (l l' : List Int) {r : Bool} (hn : n = l.length) (hm : m = l'.length) (hx : decide (l = l') = r) (hO : Own w L) (hu : ∀ w', Own w' L → Rd w' 1 u n (zs l)) (hv : ∀ w', Own w' L → Rd w' 1 v m (zs l')) :
    Calls Try.prog 52 #[u, v] w (Ret w (.bool r) L) := by
  subst hn hm
  have HU := Lib.hid hu
  have HV := Lib.hid hv
  obtain ⟨A, c, rfl⟩ := (hu w hO).slice
  obtain ⟨B, d, rfl⟩ := (hv w hO).slice
  have hmx := (hu w hO).max
  have hmy := (hv w hO).max
  have HX := Lib.hid hx
  clear hu hv hx
  by_cases hl : l.length = l'.length
  · have hbe : ((l.length : Int) == (l'.length : Int)) = true := by rw [hl]; simp
    have hbe2 : (l.length : Int) = (l'.length : Int) := by omega
    have HL := Lib.hid hl
    clear hl
    go_enter Try.func52, Try.ntmps52
    go_wp2
    go_loopw [13] (fun i wr => ∃ k : Nat, k ≤ l.length ∧ i = .int .i64 k ∧ l.take k = l'.take k ∧ Own wr L ∧ Same w wr) (fun i _ => l.length - (intOf i).toNat)
    case atStart => exact ⟨0, Nat.zero_le _, rfl, rfl, hO, Same.refl _⟩
    case round =>
      clear hO
      obtain ⟨k, hk, rfl, ht, hO, hS⟩ := hrel
      have HT := Lib.hid ht
      clear ht
      by_cases hlt : k < l.length
      · have hlt' : k < l'.length := by have := HL.out; omega
        obtain ⟨x, hx⟩ : ∃ y, l[k]? = some y := ⟨_, List.getElem?_eq_getElem hlt⟩
        obtain ⟨y, hy⟩ : ∃ y, l'[k]? = some y := ⟨_, List.getElem?_eq_getElem hlt'⟩
        obtain ⟨ad, rfl⟩ := (HU.out _ hO).addr (by unfold zs; rw [List.length_map]; omega)
        obtain ⟨ae, rfl⟩ := (HV.out _ hO).addr (by unfold zs; rw [List.length_map]; omega)
        have HC : Hid (∀ w', Own w' L → w'.cell? (ad.add k) = some (.int .i64 x) ∧ w'.cell? (ae.add k) = some (.int .i64 y)) := fun w' h => ⟨zs_cell (HU.out _ h) hx, zs_cell (HV.out _ h) hy⟩
        have hm1 : (k : Int) < l.length := by omega
        have hm2 : (k : Int) < l'.length := by omega
        have HXX := Lib.hid hx
        have HYY := Lib.hid hy
        clear hx hy
        by_cases he : x = y
        · subst he
          have he3 : (x == x) = true := by simp
          go_upto_region 6 with fail
          refine wp_region_seq (Cls _ (L)) 9 26 mixed (by kernel_rfl) rfl (cls_drew hO) ?_
          simp only [List.append_eq, List.cons_append, List.nil_append, List.take_succ_cons, List.take_zero]
          repeat (first
            | (apply wv_skip rfl; simp only [Act.put, List.setIfInBounds_toArray, List.set_cons_zero, List.set_cons_succ])
            | (refine wv_load1_at (ad := ad.add k) (v := .int .i64 x) rfl rfl rfl row_int (fun w h => (HC.out w h.1).1) ?_; simp only [Act.put, List.setIfInBounds_toArray, List.set_cons_zero, List.set_cons_succ])
            | (refine wv_load1_at (ad := ae.add k) (v := .int .i64 x) rfl rfl rfl row_int (fun w h => (HC.out w h.1).2) ?_; simp only [Act.put, List.setIfInBounds_toArray, List.set_cons_zero, List.set_cons_succ])
            | (apply wv_load1 rfl rfl rfl; (first | exact row_int | exact row_str | exact row_bool | exact row_u8 | exact row_bys | exact row_pats | exact row_err); (intro w h; (first | exact own_get 0 h.1 rfl | exact own_get 1 h.1 rfl | exact own_get 2 h.1 rfl | exact own_get 3 h.1 rfl | exact own_get 4 h.1 rfl | exact own_get 5 h.1 rfl | exact own_get 6 h.1 rfl | exact own_get 7 h.1 rfl)); (first | (simp only [List.getElem?_toArray, List.getElem?_cons_succ, List.getElem?_cons_zero]; rfl) | rfl); simp only [Act.put, List.setIfInBounds_toArray, List.set_cons_zero, List.set_cons_succ])
            | (apply wv_loadrow rfl rfl rfl; (first | exact row_pat); exact sz_pat; (intro w h; (first | exact own_get 0 h.1 rfl | exact own_get 1 h.1 rfl | exact own_get 2 h.1 rfl | exact own_get 3 h.1 rfl | exact own_get 4 h.1 rfl | exact own_get 5 h.1 rfl | exact own_get 6 h.1 rfl | exact own_get 7 h.1 rfl)); (focus (simp; done)); (first | (simp only [List.drop_zero, List.drop_succ_cons, List.take_succ_cons, List.take_zero]; rfl) | rfl); simp only [Act.put, List.setIfInBounds_toArray, List.set_cons_zero, List.set_cons_succ])
            | (apply wv_run rfl; (focus (intro w h; go_simp; first | done | rfl)); simp only [Act.put, List.setIfInBounds_toArray, List.set_cons_zero, List.set_cons_succ])
            | (apply wv_call rfl; (focus (intro w; go_simp; first | done | exact ⟨rfl, rfl⟩)); (focus (intro w h; apply cls_call h; fail)); simp only [Act.put, List.setIfInBounds_toArray, List.set_cons_zero, List.set_cons_succ]))
          refine wv_nil ?_
          simp only [List.drop_succ_cons, List.drop_zero]
          intro w6 ⟨hO6, hS6⟩
          clear hO
          go_wp2
          go_roundw
          case rel => exact ⟨k + 1, by omega, by go_num, by rw [List.take_add_one, List.take_add_one, HXX.out, HYY.out, HT.out], hO6, hS.trans hS6⟩
          case measure => simp [intOf]; omega
        · have he3 : (x == y) = false := by simp [he]
          have HR : Hid (r = false) := by
            show r = false
            rw [← HX.out, decide_eq_false_iff_not]
            intro e
            have h1 := HXX.out
            rw [e, HYY.out] at h1
            cases h1
            exact he rfl
          clear he
          go_upto_region 6 with fail
          refine wp_region_seq (Cls _ (L)) 9 26 mixed (by kernel_rfl) rfl (cls_drew hO) ?_
          simp only [List.append_eq, List.cons_append, List.nil_append, List.take_succ_cons, List.take_zero]
          repeat (first
            | (apply wv_skip rfl; simp only [Act.put, List.setIfInBounds_toArray, List.set_cons_zero, List.set_cons_succ])
            | (refine wv_load1_at (ad := ad.add k) (v := .int .i64 x) rfl rfl rfl row_int (fun w h => (HC.out w h.1).1) ?_; simp only [Act.put, List.setIfInBounds_toArray, List.set_cons_zero, List.set_cons_succ])
            | (refine wv_load1_at (ad := ae.add k) (v := .int .i64 y) rfl rfl rfl row_int (fun w h => (HC.out w h.1).2) ?_; simp only [Act.put, List.setIfInBounds_toArray, List.set_cons_zero, List.set_cons_succ])
            | (apply wv_load1 rfl rfl rfl; (first | exact row_int | exact row_str | exact row_bool | exact row_u8 | exact row_bys | exact row_pats | exact row_err); (intro w h; (first | exact own_get 0 h.1 rfl | exact own_get 1 h.1 rfl | exact own_get 2 h.1 rfl | exact own_get 3 h.1 rfl | exact own_get 4 h.1 rfl | exact own_get 5 h.1 rfl | exact own_get 6 h.1 rfl | exact own_get 7 h.1 rfl)); (first | (simp only [List.getElem?_toArray, List.getElem?_cons_succ, List.getElem?_cons_zero]; rfl) | rfl); simp only [Act.put, List.setIfInBounds_toArray, List.set_cons_zero, List.set_cons_succ])
            | (apply wv_loadrow rfl rfl rfl; (first | exact row_pat); exact sz_pat; (intro w h; (first | exact own_get 0 h.1 rfl | exact own_get 1 h.1 rfl | exact own_get 2 h.1 rfl | exact own_get 3 h.1 rfl | exact own_get 4 h.1 rfl | exact own_get 5 h.1 rfl | exact own_get 6 h.1 rfl | exact own_get 7 h.1 rfl)); (focus (simp; done)); (first | (simp only [List.drop_zero, List.drop_succ_cons, List.take_succ_cons, List.take_zero]; rfl) | rfl); simp only [Act.put, List.setIfInBounds_toArray, List.set_cons_zero, List.set_cons_succ])
            | (apply wv_run rfl; (focus (intro w h; go_simp; first | done | rfl)); simp only [Act.put, List.setIfInBounds_toArray, List.set_cons_zero, List.set_cons_succ])
            | (apply wv_call rfl; (focus (intro w; go_simp; first | done | exact ⟨rfl, rfl⟩)); (focus (intro w h; apply cls_call h; fail)); simp only [Act.put, List.setIfInBounds_toArray, List.set_cons_zero, List.set_cons_succ]))
          refine wv_nil ?_
          simp only [List.drop_succ_cons, List.drop_zero]
          intro w6 ⟨hO6, hS6⟩
          clear hO
          go_wp2
          go_ret
          exact ⟨by rw [HR.out]; rfl, hO6, hS.trans hS6⟩
      · have hke : k = l.length := by omega
        subst hke
        have HR : Hid (r = true) := by
          show r = true
          have h1 := HT.out
          rw [List.take_length, HL.out, List.take_length] at h1
          rw [← HX.out, decide_eq_true_eq]
          exact h1
        go_wp2
        go_ret
        exact ⟨by rw [HR.out]; rfl, hO, hS⟩
  · have hbe : ((l.length : Int) == (l'.length : Int)) = false := by rw [beq_eq_false_iff_ne]; omega
    have HR : Hid (r = false) := by
      show r = false
      rw [← HX.out, decide_eq_false_iff_not]
      intro e
      exact hl (by rw [e])
    clear hl
    go_enter Try.func52, Try.ntmps52
    go_wp2
    go_ret
    exact ⟨by rw [HR.out]; rfl, hO, Same.refl _⟩
end
end Go.Proofs.Ytonohjhmnlfakaa.H
set_option linter.unusedVariables false
set_option linter.unusedSimpArgs false
set_option maxRecDepth 100000
namespace Go.Proofs.Ytonohjhmnlfakaa.H
open Go.RowKit
/-- A map of bools that tells just these numbers. -/
def BSet (f : List (Int × Value)) (S : List Int) : Prop := ∀ d : Int, (mget f d).getD (.bool false) = .bool (S.contains d)
theorem bset_nil : BSet [] [] := fun d => rfl
theorem BSet.add {f : List (Int × Value)} {S : List Int} (h : BSet f S) (x : Int) : BSet (mset f x (.bool true)) (S ++ [x]) := fun d => by
  rw [mget_mset]
  by_cases e : d = x
  · subst e
    simp
  · rw [if_neg e, h d]
    congr 1
    simp [e]
/-- Ready's question of a number. -/
def notIn (W C : List Int) (d : Int) : Bool := W.contains d && !C.contains d
abbrev r1L (bw mw bi mi : Nat) (fw fi : List (Int × Value)) (L : List HP) : List HP := pts bw (.cells #[.map (some mw)] 99) :: mapP mw fw :: pts bi (.cells #[.map (some mi)] 99) :: mapP mi fi :: L
section
variable (w : World) (L : List HP) (bw mw bi mi : Nat) (fw fi : List (Int × Value)) (W C : List Int)
theorem ready1_c (d : Int) (hO : Own w (r1L bw mw bi mi fw fi L)) (hw : BSet fw W) (hi : BSet fi C) : Calls Try.prog 81 #[.int .i64 d, .pointer (some ⟨bw, 0, none⟩), .pointer (some ⟨bi, 0, none⟩)] w (Ret w (.bool (notIn W C d)) (r1L bw mw bi mi fw fi L)) := by
  have h1 := hw d
  have h2 := hi d
  have hS := Same.refl w
  clear hw hi
  cases hb : W.contains d with
  | false =>
    have HR : Hid (notIn W C d = false) := by show _ = _; unfold notIn; rw [hb]; rfl
    rw [hb] at h1
    have H1 := Lib.hid h1
    clear hb h1 h2
    go_enter Try.func81, Try.ntmps81
    go_wp2_with (first | (apply own_load1 rfl rfl rfl; (first | exact row_mb); (first | exact own_get 0 hO rfl | exact own_get 1 hO rfl | exact own_get 2 hO rfl | exact own_get 3 hO rfl | exact own_get 4 hO rfl | exact own_get 5 hO rfl | exact own_get 6 hO rfl | exact own_get 7 hO rfl); (first | (simp only [List.getElem?_toArray, List.getElem?_cons_succ, List.getElem?_cons_zero]; rfl) | rfl)) | (refine own_mlookup (i := 1) (b := mw) (k := d) (f := fw) rfl rfl rfl rfl und_mb und_i zero_b hO rfl H1.out ?_))
    go_ret
    exact ⟨by rw [HR.out]; rfl, hO, hS⟩
  | true =>
    obtain ⟨c2, hc2⟩ : ∃ c2, c2 = C.contains d := ⟨_, rfl⟩
    have HR : Hid (notIn W C d = !c2) := by show _ = _; unfold notIn; rw [hb, hc2]; rfl
    rw [hb] at h1
    rw [← hc2] at h2
    clear hc2
    have H1 := Lib.hid h1
    have H2 := Lib.hid h2
    clear hb h1 h2
    go_enter Try.func81, Try.ntmps81
    go_wp2_with (first | (apply own_load1 rfl rfl rfl; (first | exact row_mb); (first | exact own_get 0 hO rfl | exact own_get 1 hO rfl | exact own_get 2 hO rfl | exact own_get 3 hO rfl | exact own_get 4 hO rfl | exact own_get 5 hO rfl | exact own_get 6 hO rfl | exact own_get 7 hO rfl); (first | (simp only [List.getElem?_toArray, List.getElem?_cons_succ, List.getElem?_cons_zero]; rfl) | rfl)) | (refine own_mlookup (i := 1) (b := mw) (k := d) (f := fw) rfl rfl rfl rfl und_mb und_i zero_b hO rfl H1.out ?_) | (refine own_mlookup (i := 3) (b := mi) (k := d) (f := fi) rfl rfl rfl rfl und_mb und_i zero_b hO rfl H2.out ?_))
    go_ret
    exact ⟨by rw [HR.out]; rfl, hO, hS⟩
set_option maxHeartbeats 800000 in
theorem idxf_ready (v : Value) (n : Nat) (l : List Int) (hn : n = l.length) (hO : Own w (r1L bw mw bi mi fw fi L)) (hr : ∀ w', Own w' (r1L bw mw bi mi fw fi L) → Rd w' 1 v n (zs l)) (hw : BSet fw W) (hi : BSet fi C) :
    Calls Try.prog 74 #[v, .func (.func 81) #[] #[.pointer (some ⟨bw, 0, none⟩), .pointer (some ⟨bi, 0, none⟩)]] w (Ret w (.int .i64 (fidx (notIn W C) l 0)) (r1L bw mw bi mi fw fi L)) := by
  subst hn
  have HR := Lib.hid hr
  have HWW := Lib.hid hw
  have HII := Lib.hid hi
  obtain ⟨A, c, rfl⟩ := (hr w hO).slice
  have hmx := (hr w hO).max
  clear hr hw hi
  go_enter Try.func74, Try.ntmps74
  go_wp2
  go_loopw [8] (fun i wr => ∃ k : Nat, k ≤ l.length ∧ i = .int .i64 k ∧ fidx (notIn W C) l 0 = fidx (notIn W C) (l.drop k) k ∧ Own wr (r1L bw mw bi mi fw fi L) ∧ Same w wr) (fun i _ => l.length - (intOf i).toNat)
  case atStart => exact ⟨0, Nat.zero_le _, rfl, rfl, hO, Same.refl _⟩
  case round =>
    clear hO
    obtain ⟨k, hk, rfl, hf, hO, hS⟩ := hrel
    have HF := Lib.hid hf
    clear hf
    by_cases hlt : k < l.length
    · obtain ⟨y, hy⟩ : ∃ y, l[k]? = some y := ⟨_, List.getElem?_eq_getElem hlt⟩
      obtain ⟨ad, rfl⟩ := (HR.out _ hO).addr (by unfold zs; rw [List.length_map]; omega)
      have hcell := zs_cell (HR.out _ hO) hy
      have hm1 : (k : Int) < l.length := by omega
      have HD := Lib.hid (fidx_drop (notIn W C) hy)
      clear hy
      obtain ⟨r, hrr⟩ : ∃ r, notIn W C y = r := ⟨_, rfl⟩
      have HC : Hid (∀ w', Own w' (r1L bw mw bi mi fw fi L) → Calls Try.prog 81 #[.int .i64 y, .pointer (some ⟨bw, 0, none⟩), .pointer (some ⟨bi, 0, none⟩)] w' (Ret w' (.bool r) (r1L bw mw bi mi fw fi L))) := Lib.hid fun w' h => by rw [← hrr]; exact ready1_c w' L bw mw bi mi fw fi W C y h HWW.out HII.out
      cases r with
      | true =>
        have HX : Hid (fidx (notIn W C) l 0 = (k : Int)) := by show _ = _; rw [HF.out, HD.out, hrr]; rfl
        clear hrr
        go_wp2_with (first | (refine own_load1_at (ad := ad.add k) (v := .int .i64 y) rfl rfl rfl row_int hcell ?_) | (go_at_call 81; (with_reducible refine Calls.mono (HC.out _ hO) ?_); clear hO; rintro e u ⟨rfl, hO, hSn⟩; replace hS := hS.trans hSn; clear hSn))
        go_ret
        exact ⟨by rw [HX.out]; rfl, hO, hS⟩
      | false =>
        have HX : Hid (fidx (notIn W C) l 0 = fidx (notIn W C) (l.drop (k + 1)) (k + 1)) := by show _ = _; rw [HF.out, HD.out, hrr]; rfl
        clear hrr
        go_wp2_with (first | (refine own_load1_at (ad := ad.add k) (v := .int .i64 y) rfl rfl rfl row_int hcell ?_) | (go_at_call 81; (with_reducible refine Calls.mono (HC.out _ hO) ?_); clear hO; rintro e u ⟨rfl, hO, hSn⟩; replace hS := hS.trans hSn; clear hSn))
        go_roundw
        case rel => exact ⟨k + 1, by omega, by go_num, HX.out, hO, hS⟩
        case measure => simp [intOf]; omega
    · have hke : k = l.length := by omega
      subst hke
      have HX : Hid (fidx (notIn W C) l 0 = -1) := by show _ = _; rw [HF.out, fidx_end]
      go_wp2
      go_ret
      exact ⟨by rw [HX.out]; rfl, hO, hS⟩
theorem cf_ready (v : Value) (n : Nat) (l : List Int) {r : Bool} (hn : n = l.length) (hx : l.any (notIn W C) = r) (hO : Own w (r1L bw mw bi mi fw fi L)) (hr : ∀ w', Own w' (r1L bw mw bi mi fw fi L) → Rd w' 1 v n (zs l)) (hw : BSet fw W) (hi : BSet fi C) :
    Calls Try.prog 38 #[v, .func (.func 81) #[] #[.pointer (some ⟨bw, 0, none⟩), .pointer (some ⟨bi, 0, none⟩)]] w (Ret w (.bool r) (r1L bw mw bi mi fw fi L)) := by
  obtain ⟨z, hz⟩ : ∃ z, z = fidx (notIn W C) l 0 := ⟨_, rfl⟩
  have hd : decide (0 ≤ z) = r := by rw [hz, fidx_any, hx]
  have HI : Hid (Calls Try.prog 74 #[v, .func (.func 81) #[] #[.pointer (some ⟨bw, 0, none⟩), .pointer (some ⟨bi, 0, none⟩)]] w (Ret w (.int .i64 z) (r1L bw mw bi mi fw fi L))) := Lib.hid (by rw [hz]; exact idxf_ready w L bw mw bi mi fw fi W C v n l hn hO hr hw hi)
  have hS := Same.refl w
  clear hr hx hn hz hw hi
  cases r with
  | true =>
    have h1 : 0 ≤ z := by simpa using hd
    go_enter Try.func38, Try.ntmps38
    go_wp2_with (first | (go_at_call 74; (with_reducible refine Calls.mono (HI.out) ?_); clear hO; rintro e u ⟨rfl, hO, hSn⟩; replace hS := hS.trans hSn; clear hSn))
    go_ret
    exact ⟨rfl, hO, hS⟩
  | false =>
    have h1 : ¬ (0 ≤ z) := by simpa using hd
    go_enter Try.func38, Try.ntmps38
    go_wp2_with (first | (go_at_call 74; (with_reducible refine Calls.mono (HI.out) ?_); clear hO; rintro e u ⟨rfl, hO, hSn⟩; replace hS := hS.trans hSn; clear hSn))
    go_ret
    exact ⟨rfl, hO, hS⟩
end
end Go.Proofs.Ytonohjhmnlfakaa.H
