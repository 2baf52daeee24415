/- What the reference's disk's memory is; its may, Size, Versions. -/
import Derived.Test.YtjilkbkafigloaaK15
set_option linter.unusedVariables false
set_option linter.unusedSimpArgs false
set_option maxRecDepth 100000
namespace Go.Proofs.Ytjilkbkafigloaa.H
open Go.RowKit
/-- A block of the reference's disk: what its slice of versions is, and the block. -/
abbrev RB := Value × Blk
def rbs (l : List RB) : List Value := l.flatMap fun x => rblk x.1 x.2
theorem rblk_len {v : Value} {b : Blk} (h : b.s.length = 32) : (rblk v b).length = 34 := by
  unfold rblk
  rw [List.length_append, bcs_length, h]
  rfl
theorem rbs_cons (x : RB) (l : List RB) : rbs (x :: l) = rblk x.1 x.2 ++ rbs l := rfl
theorem rbs_length {l : List RB} (h : ∀ x ∈ l, x.2.s.length = 32) : (rbs l).length = l.length * 34 := by
  induction l with
  | nil => rfl
  | cons x l ih =>
    rw [rbs_cons, List.length_append, rblk_len (h x (List.mem_cons_self ..)), ih (fun y hy => h y (List.mem_cons_of_mem _ hy)), List.length_cons]
    omega
theorem rbs_split (rest : List Value) : ∀ {l : List RB}, (∀ x ∈ l, x.2.s.length = 32) → ∀ {i : Nat} {x : RB}, l[i]? = some x → ∃ P S, rbs l ++ rest = P ++ (rblk x.1 x.2 ++ S) ∧ P.length = i * 34 ∧ ∀ y : RB, rbs (l.set i y) ++ rest = P ++ (rblk y.1 y.2 ++ S)
  | [], _, i, x, hi => by simp at hi
  | a :: l, h, 0, x, hi => by
    have e : a = x := by simpa using hi
    subst e
    exact ⟨[], rbs l ++ rest, by rw [rbs_cons, List.append_assoc]; rfl, rfl, fun y => by rw [List.set_cons_zero, rbs_cons, List.append_assoc]; rfl⟩
  | a :: l, h, i + 1, x, hi => by
    obtain ⟨P, S, h1, h2, h3⟩ := rbs_split rest (fun y hy => h y (List.mem_cons_of_mem _ hy)) (show l[i]? = some x by simpa using hi)
    refine ⟨rblk a.1 a.2 ++ P, S, ?_, ?_, fun y => ?_⟩
    · rw [rbs_cons, List.append_assoc, h1, List.append_assoc]
    · rw [List.length_append, rblk_len (h a (List.mem_cons_self ..)), h2]; omega
    · rw [List.set_cons_succ, rbs_cons, List.append_assoc, h3, List.append_assoc]
section
variable {rest : List Value} {l : List RB} {i : Nat} {x : RB}
theorem rb_s (h : ∀ x ∈ l, x.2.s.length = 32) (hi : l[i]? = some x) : (bcs x.2.s).length = 32 := by rw [bcs_length, h x (List.mem_of_getElem? hi)]
theorem rb_v (h : ∀ x ∈ l, x.2.s.length = 32) (hi : l[i]? = some x) : (rbs l ++ rest).toArray[i * 34 + 32]? = some x.1 := by
  obtain ⟨P, S, h1, h2, _⟩ := rbs_split rest h hi
  have hs := rb_s h hi
  rw [h1, List.getElem?_toArray, List.getElem?_append_right (by omega), List.getElem?_append_left (by rw [rblk_len (h x (List.mem_of_getElem? hi))]; omega), show i * 34 + 32 - P.length = 32 by omega]
  unfold rblk
  rw [List.getElem?_append_right (by omega), hs]
  rfl
theorem rb_b (h : ∀ x ∈ l, x.2.s.length = 32) (hi : l[i]? = some x) : (rbs l ++ rest).toArray[i * 34 + 33]? = some (.bool x.2.bad) := by
  obtain ⟨P, S, h1, h2, _⟩ := rbs_split rest h hi
  have hs := rb_s h hi
  rw [h1, List.getElem?_toArray, List.getElem?_append_right (by omega), List.getElem?_append_left (by rw [rblk_len (h x (List.mem_of_getElem? hi))]; omega), show i * 34 + 33 - P.length = 33 by omega]
  unfold rblk
  rw [List.getElem?_append_right (by omega), hs]
  rfl
theorem rb_fit (h : ∀ x ∈ l, x.2.s.length = 32) (hi : l[i]? = some x) : i * 34 + 34 ≤ (rbs l ++ rest).toArray.size := by
  obtain ⟨P, S, h1, h2, _⟩ := rbs_split rest h hi
  rw [h1, List.size_toArray, List.length_append, List.length_append, rblk_len (h x (List.mem_of_getElem? hi))]
  omega
theorem rb_row (h : ∀ x ∈ l, x.2.s.length = 32) (hi : l[i]? = some x) : ((rbs l ++ rest).toArray.toList.drop (i * 34)).take 32 = bcs x.2.s := by
  obtain ⟨P, S, h1, h2, _⟩ := rbs_split rest h hi
  have hs := rb_s h hi
  show ((rbs l ++ rest).drop (i * 34)).take 32 = _
  rw [h1, ← h2, List.drop_left]
  unfold rblk
  rw [List.append_assoc, ← hs, List.take_left]
theorem rb_setv (h : ∀ x ∈ l, x.2.s.length = 32) (hi : l[i]? = some x) (v : Value) (vs : List Sec) : (rbs l ++ rest).toArray.setIfInBounds (i * 34 + 32) v = (rbs (l.set i (v, ⟨x.2.s, vs, x.2.bad⟩)) ++ rest).toArray := by
  obtain ⟨P, S, h1, h2, h3⟩ := rbs_split rest h hi
  have hs := rb_s h hi
  rw [h1, h3, List.setIfInBounds_toArray]
  unfold rblk
  rw [List.set_append_right _ _ (by omega), show i * 34 + 32 - P.length = 32 by omega, List.append_assoc, List.append_assoc, List.set_append_right _ _ (by omega), hs]
  rfl
theorem rb_setb (h : ∀ x ∈ l, x.2.s.length = 32) (hi : l[i]? = some x) (b : Bool) : (rbs l ++ rest).toArray.setIfInBounds (i * 34 + 33) (.bool b) = (rbs (l.set i (x.1, ⟨x.2.s, x.2.vs, b⟩)) ++ rest).toArray := by
  obtain ⟨P, S, h1, h2, h3⟩ := rbs_split rest h hi
  have hs := rb_s h hi
  rw [h1, h3, List.setIfInBounds_toArray]
  unfold rblk
  rw [List.set_append_right _ _ (by omega), show i * 34 + 33 - P.length = 33 by omega, List.append_assoc, List.append_assoc, List.set_append_right _ _ (by omega), hs]
  rfl
theorem rb_sets (h : ∀ x ∈ l, x.2.s.length = 32) (hi : l[i]? = some x) (s : Sec) : (rbs l ++ rest).toArray.toList.take (i * 34) ++ bcs s ++ (rbs l ++ rest).toArray.toList.drop (i * 34 + 32) = rbs (l.set i (x.1, ⟨s, x.2.vs, x.2.bad⟩)) ++ rest := by
  obtain ⟨P, S, h1, h2, h3⟩ := rbs_split rest h hi
  have hs := rb_s h hi
  show (rbs l ++ rest).take (i * 34) ++ bcs s ++ (rbs l ++ rest).drop (i * 34 + 32) = _
  rw [h1, h3, ← h2, List.take_left, List.drop_length_add_append]
  unfold rblk
  rw [List.append_assoc, ← hs, List.append_assoc (bcs x.2.s), List.drop_left]
  show _ = P ++ ((bcs s ++ [x.1, .bool x.2.bad]) ++ S)
  rw [List.append_assoc]
end
/-- What the reference's memory says of the blocks m. -/
structure ROk (m : List Blk) (rb : List RB) (l : List (Value × List Sec)) : Prop where
  eq : rb.map (·.2) = m
  pos : 0 < m.length
  len : m.length ≤ 96
  s32 : ∀ x ∈ rb, x.2.s.length = 32
  v32 : ∀ x ∈ rb, ∀ s ∈ x.2.vs, s.length = 32
  vers : ∀ x ∈ rb, ∃ A c, x.1 = .slice A x.2.vs.length c ∧ ((.slice A x.2.vs.length c, x.2.vs) ∈ l)
theorem ROk.at_ {m : List Blk} {rb : List RB} {l : List (Value × List Sec)} (h : ROk m rb l) {i : Nat} {b : Blk} (hi : m[i]? = some b) : ∃ A c, rb[i]? = some (.slice A b.vs.length c, b) ∧ ((.slice A b.vs.length c, b.vs) ∈ l) := by
  rw [← h.eq, List.getElem?_map, Option.map_eq_some_iff] at hi
  obtain ⟨x, hx, rfl⟩ := hi
  obtain ⟨A, c, h1, h2⟩ := h.vers x (List.mem_of_getElem? hx)
  exact ⟨A, c, by rw [hx, ← h1], h2⟩
theorem ROk.rlen {m : List Blk} {rb : List RB} {l : List (Value × List Sec)} (h : ROk m rb l) : rb.length = m.length := by rw [← h.eq, List.length_map]
/-- The room of the row of blocks. -/
structure Room (m : List Blk) (rb : List RB) (rest : List Value) (cap : Nat) : Prop where
  le : m.length ≤ cap
  max : cap ≤ maxLen
  size : (rbs rb ++ rest).length = cap * 34
def rdiskX (q : Nat) (m : List Blk) (g cap : Nat) (rest : List Value) (rb : List RB) (l : List (Value × List Sec)) : HP :=
  sep (pur (ROk m rb l ∧ Room m rb rest cap)) (seps [pts q (.cells #[.slice (some ⟨g, 0, none⟩) m.length cap] 72), pts g (.cells (rbs rb ++ rest).toArray 69), rdV l])
/-- Block q is the reference's disk of these blocks. -/
def rdiskP (q : Nat) (m : List Blk) : HP := ex fun g => ex fun cap => ex fun rest => ex fun rb => ex fun l => rdiskX q m g cap rest rb l
theorem rdisk_open {w : World} {L : List HP} {q : Nat} {m : List Blk} : Own w (rdiskP q m :: L) ↔ ∃ g cap rest rb l, (ROk m rb l ∧ Room m rb rest cap) ∧ Own w (pts q (.cells #[.slice (some ⟨g, 0, none⟩) m.length cap] 72) :: pts g (.cells (rbs rb ++ rest).toArray 69) :: rdV l :: L) := by
  unfold rdiskP rdiskX
  simp only [own_ex, own_sep, own_pur, own_seps, List.cons_append, List.nil_append]
theorem row_blks : isRowB Try.prog 70 = some false := by kernel_rfl
theorem row_rsecs : isRowB Try.prog 24 = some false := by kernel_rfl
theorem row_rsec : isRowB Try.prog 28 = some true := by kernel_rfl
theorem row_boolD : isRowB Try.prog 4 = some false := by kernel_rfl
theorem sz_rsec : (Try.prog.info? 28).map (·.size) = some 32 := by kernel_rfl
theorem zero_rsec : (Try.prog.info? 28).map (·.zero) = some (some (.agg (Array.replicate 32 (.int .u8 0)))) := by kernel_rfl
theorem info_rsec {s : Sec} (h : s.length = 32) : (Try.prog.info? 28).map (·.size) = some (bcs s).toArray.size := by rw [secA_size h]; exact sz_rsec
section
variable (w : World) (L : List HP) (q : Nat) (m : List Blk)
theorem rmay_ok (i : Nat) (b : Blk) (hO : Own w (rdiskP q m :: L)) (hi : m[i]? = some b) : Calls Try.prog 44 #[.pointer (some ⟨q, 0, none⟩), .int .i64 i] w (Ret w (.int .i64 0) (rdiskP q m :: L)) := by
  have hO0 := hO
  obtain ⟨g, cap, rest, rb, l, hk, hO⟩ := rdisk_open.1 hO
  have hK := Lib.hid hO0
  have hl : i < m.length := (List.getElem?_eq_some_iff.1 hi).1
  have h1 : ¬ ((i : Int) < 0) := by omega
  have h2 : ¬ ((m.length : Int) ≤ i) := by omega
  clear hO0 hk hi
  go_enter Try.func44, Try.ntmps44
  go_wp2_with (first | (apply own_load1 rfl rfl rfl; (first | exact row_blks); (first | exact own_get 0 hO rfl | exact own_get 1 hO rfl | exact own_get 2 hO rfl | exact own_get 3 hO rfl | exact own_get 4 hO rfl | exact own_get 5 hO rfl | exact own_get 6 hO rfl | exact own_get 7 hO rfl); (first | (simp only [List.getElem?_toArray, List.getElem?_cons_succ, List.getElem?_cons_zero]; rfl) | rfl)))
  go_ret
  exact ⟨rfl, hK.out, Same.refl _⟩
theorem rmay_no (i : Int) (hO : Own w (rdiskP q m :: L)) (hi : i < 0 ∨ (m.length : Int) ≤ i) : Calls Try.prog 44 #[.pointer (some ⟨q, 0, none⟩), .int .i64 i] w (Ret w (.int .i64 2) (rdiskP q m :: L)) := by
  have hO0 := hO
  obtain ⟨g, cap, rest, rb, l, hk, hO⟩ := rdisk_open.1 hO
  have hK := Lib.hid hO0
  clear hO0 hk
  rcases hi with h1 | h2
  · go_enter Try.func44, Try.ntmps44
    go_wp2_with (first | (apply own_load1 rfl rfl rfl; (first | exact row_blks); (first | exact own_get 0 hO rfl | exact own_get 1 hO rfl | exact own_get 2 hO rfl | exact own_get 3 hO rfl | exact own_get 4 hO rfl | exact own_get 5 hO rfl | exact own_get 6 hO rfl | exact own_get 7 hO rfl); (first | (simp only [List.getElem?_toArray, List.getElem?_cons_succ, List.getElem?_cons_zero]; rfl) | rfl)))
    go_ret
    exact ⟨rfl, hK.out, Same.refl _⟩
  · have h1 : ¬ (i < 0) := by omega
    go_enter Try.func44, Try.ntmps44
    go_wp2_with (first | (apply own_load1 rfl rfl rfl; (first | exact row_blks); (first | exact own_get 0 hO rfl | exact own_get 1 hO rfl | exact own_get 2 hO rfl | exact own_get 3 hO rfl | exact own_get 4 hO rfl | exact own_get 5 hO rfl | exact own_get 6 hO rfl | exact own_get 7 hO rfl); (first | (simp only [List.getElem?_toArray, List.getElem?_cons_succ, List.getElem?_cons_zero]; rfl) | rfl)))
    go_ret
    exact ⟨rfl, hK.out, Same.refl _⟩
theorem rsize_c (hO : Own w (rdiskP q m :: L)) : Calls Try.prog 30 #[.pointer (some ⟨q, 0, none⟩)] w (Ret w (.int .i64 m.length) (rdiskP q m :: L)) := by
  have hO0 := hO
  obtain ⟨g, cap, rest, rb, l, hk, hO⟩ := rdisk_open.1 hO
  have hK := Lib.hid hO0
  clear hO0 hk
  go_enter Try.func30, Try.ntmps30
  go_wp2_with (first | (apply own_load1 rfl rfl rfl; (first | exact row_blks); (first | exact own_get 0 hO rfl | exact own_get 1 hO rfl | exact own_get 2 hO rfl | exact own_get 3 hO rfl | exact own_get 4 hO rfl | exact own_get 5 hO rfl | exact own_get 6 hO rfl | exact own_get 7 hO rfl); (first | (simp only [List.getElem?_toArray, List.getElem?_cons_succ, List.getElem?_cons_zero]; rfl) | rfl)))
  go_ret
  exact ⟨rfl, hK.out, Same.refl _⟩
theorem rversions_no (i : Int) (hO : Own w (rdiskP q m :: L)) (hi : i < 0 ∨ (m.length : Int) ≤ i) : Calls Try.prog 33 #[.pointer (some ⟨q, 0, none⟩), .int .i64 i] w (Ret w (.int .i64 0) (rdiskP q m :: L)) := by
  have HI := Lib.hid hi
  have hS := Same.refl w
  clear hi
  go_enter Try.func33, Try.ntmps33
  go_wp2_with (first | (go_at_call 44; (with_reducible refine Calls.mono (rmay_no _ _ q m i hO HI.out) ?_); clear hO; rintro e u ⟨rfl, hO, hSn⟩; replace hS := hS.trans hSn; clear hSn))
  go_ret
  exact ⟨rfl, hO, hS⟩
theorem rversions_ok (i : Nat) (b : Blk) (hO : Own w (rdiskP q m :: L)) (hi : m[i]? = some b) : Calls Try.prog 33 #[.pointer (some ⟨q, 0, none⟩), .int .i64 i] w (Ret w (.int .i64 b.vs.length) (rdiskP q m :: L)) := by
  have HI := Lib.hid hi
  have hS := Same.refl w
  clear hi
  go_enter Try.func33, Try.ntmps33
  go_upto_region 3 with (first | (go_at_call 44; (with_reducible refine Calls.mono (rmay_ok _ _ q m i b hO HI.out) ?_); clear hO; rintro e u ⟨rfl, hO, hSn⟩; replace hS := hS.trans hSn; clear hSn))
  have hK := Lib.hid hO
  obtain ⟨g, cap, rest, rb, l, ⟨hk, _⟩, hO⟩ := rdisk_open.1 hO
  obtain ⟨A, c, hrb, _⟩ := hk.at_ HI.out
  have HV := Lib.hid (rb_v (rest := rest) hk.s32 hrb)
  have hl : (i : Int) < m.length := by have := (List.getElem?_eq_some_iff.1 HI.out).1; omega
  clear hk hrb
  go_wp2_with (first | (refine own_load1 (b := g) (off := i * 34 + 32) (v := .slice A b.vs.length c) rfl rfl rfl row_rsecs (own_get 1 hO rfl) HV.out ?_) | (apply own_load1 rfl rfl rfl; (first | exact row_blks); (first | exact own_get 0 hO rfl | exact own_get 1 hO rfl | exact own_get 2 hO rfl | exact own_get 3 hO rfl | exact own_get 4 hO rfl | exact own_get 5 hO rfl | exact own_get 6 hO rfl | exact own_get 7 hO rfl); (first | (simp only [List.getElem?_toArray, List.getElem?_cons_succ, List.getElem?_cons_zero]; rfl) | rfl)))
  go_ret
  exact ⟨rfl, hK.out, hS⟩
end
end Go.Proofs.Ytjilkbkafigloaa.H
