/- slices.Clone, Load, New of the program's disk. -/
import Derived.Test.YtjilkbkafigloaaK6
set_option linter.unusedVariables false
set_option linter.unusedSimpArgs false
set_option maxRecDepth 100000
namespace Go.Proofs.Ytjilkbkafigloaa.H
open Go.RowKit
section
variable (w : World) (L : List HP)
theorem eqs_nil (w : World) : (binOp .eql 23 (.slice none 0 0) (.slice none 0 0)).run Try.prog w = .ok (.bool true) w := by
  simp [binOp, run_equal_slice_nil _ _ _ _ _ _ Try.underlying23]
theorem eqs_some (w : World) (ad : Addr) (n c : Nat) : (binOp .eql 23 (.slice (some ad) n c) (.slice none 0 0)).run Try.prog w = .ok (.bool false) w := by
  simp [binOp, run_equal_slice_nil _ _ _ _ _ _ Try.underlying23]
theorem clone_nil (hO : Own w L) : Calls Try.prog 28 #[.slice none 0 0] w (Ret w (.slice none 0 0) L) := by
  go_enter Try.func28, Try.ntmps28
  have he := eqs_nil w
  go_wp2
  go_ret
  exact ⟨rfl, hO, Same.refl _⟩
theorem clone_c (ad : Addr) (n c : Nat) (xs : List Value) (hO : Own w L) (hr : ∀ w', Own w' L → Rd w' 32 (.slice (some ad) n c) n xs) (h1 : ∀ u ∈ xs, u.oneCell' = true) (hn : n ≤ 1000000) :
    Calls Try.prog 28 #[.slice (some ad) n c] w (RetX w (fun v => v) (fun v => owns 26 32 v n xs :: L)) := by
  have HR := Lib.hid hr
  have H1 := Lib.hid h1
  have HN := Lib.hid hn
  have hS := Same.refl w
  have he := eqs_some w ad n c
  clear hr h1 hn
  go_enter Try.func28, Try.ntmps28
  go_wp2_with (first | (refine own_lit0 rfl rfl Try.underlying23 sz_sec hO ?_; clear hO; intro g0 u hO hSn; replace hS := hS.trans hSn; clear hSn) | (refine own_append (m := n) (news := xs) rfl rfl rfl rfl Try.underlying23 info_sec3 (by simp [Value.cells]) (by decide) hO (HR.out _ (own_drop hO)) H1.out ?_ ?_ ?_; (have := HN.out; simp only [maxLen]; omega); (have := HN.out; omega); clear hO; intro v' u hO hSn hv'; clear hv'; replace hS := hS.trans hSn; clear hSn))
  rw [Nat.zero_add, List.nil_append] at hO
  go_ret
  exact ⟨v', rfl, hO, hS⟩
theorem secs_one {l : List Sec} : ∀ u ∈ secs l, u.oneCell' = true := by
  intro u hu
  obtain ⟨s, _, h⟩ := List.mem_flatMap.1 hu
  exact bcs_one s u h
/-- A disk where nothing was written. -/
abbrev fresh (l : List Sec) : List Blk := l.map fun s => ⟨s, [], false⟩
theorem fresh_s (l : List Sec) : (fresh l).map (·.s) = l := by simp [fresh, Function.comp_def]
theorem fresh_ok {l : List Sec} (hl : l.length ≤ 96) (h32 : ∀ s ∈ l, s.length = 32) : DiskOk (fresh l) [] [] [(.slice none 0 0, [])] where
  len := by simpa [fresh] using hl
  s32 := fun b hb => by obtain ⟨s, hs, rfl⟩ := List.mem_map.1 hb; exact h32 s hs
  v32 := fun b hb s hs => by obtain ⟨s0, _, rfl⟩ := List.mem_map.1 hb; simp at hs
  keyv := fun q hq => by simp at hq
  vers := fun i b hb => by
    obtain ⟨s, _, rfl⟩ := List.mem_map.1 (List.mem_of_getElem? hb)
    exact ⟨none, 0, rfl, by simp⟩
  keyb := fun q hq => by simp at hq
  bads := fun i b hb => by
    obtain ⟨s, _, rfl⟩ := List.mem_map.1 (List.mem_of_getElem? hb)
    rfl
theorem fresh_close {w : World} {L : List HP} {d b0 b1 : Nat} {v : Value} {l : List Sec} (hl : l.length ≤ 96) (h32 : ∀ s ∈ l, s.length = 32) (hO : Own w (pts d (.cells #[v, .map (some b0), .map (some b1)] 66) :: mapP b1 [] :: mapP b0 [] :: owns 26 32 v l.length (secs l) :: L)) : Own w (diskP d (fresh l) :: L) := by
  refine disk_open.2 ⟨v, b0, b1, [], [], _, fresh_ok hl h32, ?_⟩
  rw [fresh_s, List.length_map]
  have hO2 := rdV_cons (l := []) (v := .slice none 0 0) (ss := []) (rdA_nil (size := 32) (rdV_nil hO))
  exact own_perm hO2 ((List.Perm.swap _ _ _).trans (List.Perm.cons _ ((List.reverse_perm [_, _, _, _]).symm.append_right L)))
theorem load_no (A : Option Addr) (n c : Nat) (hO : Own w L) (h : n = 0 ∨ 96 < n) : Calls Try.prog 11 #[.slice A n c] w (Ret w (.pointer none) L) := by
  rcases h with rfl | h
  · go_enter Try.func11, Try.ntmps11
    go_wp2
    go_ret
    exact ⟨rfl, hO, Same.refl _⟩
  · have h1 : (96 : Int) < n := by omega
    have h2 : ((n : Int) == 0) = false := by rw [beq_eq_false_iff_ne]; omega
    clear h
    go_enter Try.func11, Try.ntmps11
    go_wp2
    go_ret
    exact ⟨rfl, hO, Same.refl _⟩
theorem load_ok (v : Value) (l : List Sec) (hO : Own w L) (hr : ∀ w', Own w' L → Rd w' 32 v l.length (secs l)) (h0 : 0 < l.length) (hl : l.length ≤ 96) (h32 : ∀ s ∈ l, s.length = 32) :
    Calls Try.prog 11 #[v] w (RetX w (fun d : Nat => .pointer (some ⟨d, 0, none⟩)) (fun d => diskP d (fresh l) :: L)) := by
  obtain ⟨A, c, rfl⟩ := (hr w hO).slice
  obtain ⟨ad, rfl⟩ := (hr w hO).addr (by rw [secs_length h32]; omega)
  have HR := Lib.hid hr
  have HL := Lib.hid hl
  have H32 := Lib.hid h32
  have hS := Same.refl w
  have h1 : ¬ ((96 : Int) < l.length) := by omega
  have h2 : ((l.length : Int) == 0) = false := by rw [beq_eq_false_iff_ne]; omega
  clear hr h0 hl h32
  go_enter Try.func11, Try.ntmps11
  go_upto_region 3 with fail
  go_wp2_with (first | (go_at_call 28; (with_reducible refine Calls.mono (clone_c _ _ ad l.length c (secs l) hO HR.out secs_one (by have := HL.out; omega)) ?_); clear hO; rintro e u ⟨v, rfl, hO, hSn⟩; replace hS := hS.trans hSn; clear hSn; obtain ⟨Av, cv, rfl⟩ := (owns_rd hO).slice) | (refine own_mkmap rfl rfl hO ?_; clear hO; intro b1 u hO hSn; replace hS := hS.trans hSn; clear hSn) | (refine own_box_agg (x := .tmp 15) rfl rfl rfl hO ?_; clear hO; intro d u hO hSn; replace hS := hS.trans hSn; clear hSn))
  go_ret
  refine ⟨d, rfl, ?_, hS⟩
  exact fresh_close HL.out H32.out hO
/-- Zero sectors. -/
theorem secs_zero (n : Nat) : secs (List.replicate n sec0) = List.replicate (n * 32) (.int .u8 0) := by
  induction n with
  | zero => simp [secs]
  | succ n ih =>
    rw [List.replicate_succ]
    have e : secs (sec0 :: List.replicate n sec0) = bcs sec0 ++ secs (List.replicate n sec0) := rfl
    rw [e, ih, show (n + 1) * 32 = 32 + n * 32 by omega, ← List.replicate_append_replicate]
    rfl
theorem made_secs (n : Nat) : madeCells (Value.agg (Array.replicate 32 (Value.int .u8 0))).cells (n * 32) = (List.replicate (n * 32) (Value.int .u8 0)).toArray := by
  apply Array.ext'
  simp only [madeCells, Array.toList_map, Array.toList_range]
  rw [List.eq_replicate_iff]
  refine ⟨by simp, fun b hb => ?_⟩
  obtain ⟨i, _, rfl⟩ := List.mem_map.1 hb
  have : i % 32 < 32 := Nat.mod_lt _ (by decide)
  simp [Value.cells]
  try (rw [getElem!_pos _ _ (by simpa using this)]; simp)
theorem new_no (n : Int) (hO : Own w L) (h : n < 1 ∨ 96 < n) : Calls Try.prog 14 #[.int .i64 n] w (Ret w (.pointer none) L) := by
  by_cases h1 : n < 1
  · clear h
    go_enter Try.func14, Try.ntmps14
    go_wp2
    go_ret
    exact ⟨rfl, hO, Same.refl _⟩
  · have h2 : 96 < n := by omega
    clear h
    go_enter Try.func14, Try.ntmps14
    go_wp2
    go_ret
    exact ⟨rfl, hO, Same.refl _⟩
theorem made_rd {w : World} {L : List HP} {g n : Nat} (hn : n ≤ 96) (h : Own w (pts g (.cells (List.replicate (n * 32) (Value.int .u8 0)).toArray 26) :: L)) : Rd w 32 (.slice (some ⟨g, 0, none⟩) n n) (List.replicate n sec0).length (secs (List.replicate n sec0)) := by
  rw [List.length_replicate]
  exact rd_block (own_pts h) (by rw [secs_zero]; simp) (by simp) (Nat.le_refl _) (by omega)
theorem new_ok (n : Nat) (hO : Own w L) (h0 : 0 < n) (h : n ≤ 96) : Calls Try.prog 14 #[.int .i64 n] w (RetX w (fun d : Nat => .pointer (some ⟨d, 0, none⟩)) (fun d => diskP d (fresh (List.replicate n sec0)) :: L)) := by
  have h1 : ¬ ((n : Int) < 1) := by omega
  have h2 : ¬ (96 < (n : Int)) := by omega
  have H0 := Lib.hid h0
  have HN := Lib.hid h
  have hS := Same.refl w
  clear h0 h
  go_enter Try.func14, Try.ntmps14
  go_wp2_with (first | (at_make; refine own_make (n := n) rfl rfl rfl rfl Try.underlying23 info_sec3 (by have := HN.out; omega) (by have := HN.out; omega) (made_secs n) hO ?_; clear hO; intro g u hO hSn; replace hS := hS.trans hSn; clear hSn) | (go_at_call 11; (with_reducible refine Calls.mono (load_ok _ _ (.slice (some ⟨g, 0, none⟩) n n) (List.replicate n sec0) hO (fun w' h => made_rd HN.out h) (by simpa using H0.out) (by simpa using HN.out) (fun s hs => by rw [List.eq_of_mem_replicate hs]; simp)) ?_); clear hO; rintro e u ⟨d, rfl, hO, hSn⟩; replace hS := hS.trans hSn; clear hSn))
  go_ret
  exact ⟨d, rfl, own_perm (own_drop (own_perm hO (List.Perm.swap _ _ _))) (List.Perm.refl _), hS⟩
end
end Go.Proofs.Ytjilkbkafigloaa.H
