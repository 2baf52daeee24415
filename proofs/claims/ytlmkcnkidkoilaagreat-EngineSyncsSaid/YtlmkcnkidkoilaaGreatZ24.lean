/- What the reference's disk's memory is; its may, Size, Versions. The reference's engine in memory. The reference's graph: Has, Right, Closed. The reference's engine: simple functions. -/
import Derived.Test.YtlmkcnkidkoilaaGreatZ17
import Derived.Test.YtlmkcnkidkoilaaGreatZ11
import Derived.Test.YtlmkcnkidkoilaaGreatZ20
set_option linter.unusedVariables false
set_option linter.unusedSimpArgs false
set_option maxRecDepth 100000
namespace Go.Proofs.YtlmkcnkidkoilaaGreat.H
open Go.RowKit
/-- A block of the reference's disk: what its slice of versions is, and the block. -/
abbrev RB := Value × Blk
def rbs (l : List RB) : List Value := l.flatMap fun x => rblk x.1 x.2
theorem rblk_len {v : Value} {b : Blk} (h : b.s.length = 32) : (rblk v b).length = 34 := by
  unfold rblk
  rw [List.length_append, bcs_length, h]
  rfl
theorem rbs_cons (x : RB) (l : List RB) : rbs (x :: l) = rblk x.1 x.2 ++ rbs l := rfl
theorem rbs_length {l : List RB} (h : ∀ x ∈ l, x.2.s.length = 32) : (rbs l).length = l.length * 34 := by
  induction l with
  | nil => rfl
  | cons x l ih =>
    rw [rbs_cons, List.length_append, rblk_len (h x (List.mem_cons_self ..)), ih (fun y hy => h y (List.mem_cons_of_mem _ hy)), List.length_cons]
    omega
theorem rbs_split (rest : List Value) : ∀ {l : List RB}, (∀ x ∈ l, x.2.s.length = 32) → ∀ {i : Nat} {x : RB}, l[i]? = some x → ∃ P S, rbs l ++ rest = P ++ (rblk x.1 x.2 ++ S) ∧ P.length = i * 34 ∧ ∀ y : RB, rbs (l.set i y) ++ rest = P ++ (rblk y.1 y.2 ++ S)
  | [], _, i, x, hi => by simp at hi
  | a :: l, h, 0, x, hi => by
    have e : a = x := by simpa using hi
    subst e
    exact ⟨[], rbs l ++ rest, by rw [rbs_cons, List.append_assoc]; rfl, rfl, fun y => by rw [List.set_cons_zero, rbs_cons, List.append_assoc]; rfl⟩
  | a :: l, h, i + 1, x, hi => by
    obtain ⟨P, S, h1, h2, h3⟩ := rbs_split rest (fun y hy => h y (List.mem_cons_of_mem _ hy)) (show l[i]? = some x by simpa using hi)
    refine ⟨rblk a.1 a.2 ++ P, S, ?_, ?_, fun y => ?_⟩
    · rw [rbs_cons, List.append_assoc, h1, List.append_assoc]
    · rw [List.length_append, rblk_len (h a (List.mem_cons_self ..)), h2]; omega
    · rw [List.set_cons_succ, rbs_cons, List.append_assoc, h3, List.append_assoc]
section
variable {rest : List Value} {l : List RB} {i : Nat} {x : RB}
theorem rb_s (h : ∀ x ∈ l, x.2.s.length = 32) (hi : l[i]? = some x) : (bcs x.2.s).length = 32 := by rw [bcs_length, h x (List.mem_of_getElem? hi)]
theorem rb_v (h : ∀ x ∈ l, x.2.s.length = 32) (hi : l[i]? = some x) : (rbs l ++ rest).toArray[i * 34 + 32]? = some x.1 := by
  obtain ⟨P, S, h1, h2, _⟩ := rbs_split rest h hi
  have hs := rb_s h hi
  rw [h1, List.getElem?_toArray, List.getElem?_append_right (by omega), List.getElem?_append_left (by rw [rblk_len (h x (List.mem_of_getElem? hi))]; omega), show i * 34 + 32 - P.length = 32 by omega]
  unfold rblk
  rw [List.getElem?_append_right (by omega), hs]
  rfl
theorem rb_b (h : ∀ x ∈ l, x.2.s.length = 32) (hi : l[i]? = some x) : (rbs l ++ rest).toArray[i * 34 + 33]? = some (.bool x.2.bad) := by
  obtain ⟨P, S, h1, h2, _⟩ := rbs_split rest h hi
  have hs := rb_s h hi
  rw [h1, List.getElem?_toArray, List.getElem?_append_right (by omega), List.getElem?_append_left (by rw [rblk_len (h x (List.mem_of_getElem? hi))]; omega), show i * 34 + 33 - P.length = 33 by omega]
  unfold rblk
  rw [List.getElem?_append_right (by omega), hs]
  rfl
theorem rb_fit (h : ∀ x ∈ l, x.2.s.length = 32) (hi : l[i]? = some x) : i * 34 + 34 ≤ (rbs l ++ rest).toArray.size := by
  obtain ⟨P, S, h1, h2, _⟩ := rbs_split rest h hi
  rw [h1, List.size_toArray, List.length_append, List.length_append, rblk_len (h x (List.mem_of_getElem? hi))]
  omega
theorem rb_row (h : ∀ x ∈ l, x.2.s.length = 32) (hi : l[i]? = some x) : ((rbs l ++ rest).toArray.toList.drop (i * 34)).take 32 = bcs x.2.s := by
  obtain ⟨P, S, h1, h2, _⟩ := rbs_split rest h hi
  have hs := rb_s h hi
  show ((rbs l ++ rest).drop (i * 34)).take 32 = _
  rw [h1, ← h2, List.drop_left]
  unfold rblk
  rw [List.append_assoc, ← hs, List.take_left]
theorem rb_setv (h : ∀ x ∈ l, x.2.s.length = 32) (hi : l[i]? = some x) (v : Value) (vs : List Sec) : (rbs l ++ rest).toArray.setIfInBounds (i * 34 + 32) v = (rbs (l.set i (v, ⟨x.2.s, vs, x.2.bad⟩)) ++ rest).toArray := by
  obtain ⟨P, S, h1, h2, h3⟩ := rbs_split rest h hi
  have hs := rb_s h hi
  rw [h1, h3, List.setIfInBounds_toArray]
  unfold rblk
  rw [List.set_append_right _ _ (by omega), show i * 34 + 32 - P.length = 32 by omega, List.append_assoc, List.append_assoc, List.set_append_right _ _ (by omega), hs]
  rfl
theorem rb_setb (h : ∀ x ∈ l, x.2.s.length = 32) (hi : l[i]? = some x) (b : Bool) : (rbs l ++ rest).toArray.setIfInBounds (i * 34 + 33) (.bool b) = (rbs (l.set i (x.1, ⟨x.2.s, x.2.vs, b⟩)) ++ rest).toArray := by
  obtain ⟨P, S, h1, h2, h3⟩ := rbs_split rest h hi
  have hs := rb_s h hi
  rw [h1, h3, List.setIfInBounds_toArray]
  unfold rblk
  rw [List.set_append_right _ _ (by omega), show i * 34 + 33 - P.length = 33 by omega, List.append_assoc, List.append_assoc, List.set_append_right _ _ (by omega), hs]
  rfl
theorem rb_sets (h : ∀ x ∈ l, x.2.s.length = 32) (hi : l[i]? = some x) (s : Sec) : (rbs l ++ rest).toArray.toList.take (i * 34) ++ bcs s ++ (rbs l ++ rest).toArray.toList.drop (i * 34 + 32) = rbs (l.set i (x.1, ⟨s, x.2.vs, x.2.bad⟩)) ++ rest := by
  obtain ⟨P, S, h1, h2, h3⟩ := rbs_split rest h hi
  have hs := rb_s h hi
  show (rbs l ++ rest).take (i * 34) ++ bcs s ++ (rbs l ++ rest).drop (i * 34 + 32) = _
  rw [h1, h3, ← h2, List.take_left, List.drop_length_add_append]
  unfold rblk
  rw [List.append_assoc, ← hs, List.append_assoc (bcs x.2.s), List.drop_left]
  show _ = P ++ ((bcs s ++ [x.1, .bool x.2.bad]) ++ S)
  rw [List.append_assoc]
end
/-- What the reference's memory says of the blocks m. -/
structure ROk (m : List Blk) (rb : List RB) (l : List (Value × List Sec)) : Prop where
  eq : rb.map (·.2) = m
  pos : 0 < m.length
  len : m.length ≤ 96
  s32 : ∀ x ∈ rb, x.2.s.length = 32
  v32 : ∀ x ∈ rb, ∀ s ∈ x.2.vs, s.length = 32
  vers : ∀ x ∈ rb, ∃ A c, x.1 = .slice A x.2.vs.length c ∧ ((.slice A x.2.vs.length c, x.2.vs) ∈ l)
theorem ROk.at_ {m : List Blk} {rb : List RB} {l : List (Value × List Sec)} (h : ROk m rb l) {i : Nat} {b : Blk} (hi : m[i]? = some b) : ∃ A c, rb[i]? = some (.slice A b.vs.length c, b) ∧ ((.slice A b.vs.length c, b.vs) ∈ l) := by
  rw [← h.eq, List.getElem?_map, Option.map_eq_some_iff] at hi
  obtain ⟨x, hx, rfl⟩ := hi
  obtain ⟨A, c, h1, h2⟩ := h.vers x (List.mem_of_getElem? hx)
  exact ⟨A, c, by rw [hx, ← h1], h2⟩
theorem ROk.rlen {m : List Blk} {rb : List RB} {l : List (Value × List Sec)} (h : ROk m rb l) : rb.length = m.length := by rw [← h.eq, List.length_map]
/-- The room of the row of blocks. -/
structure Room (m : List Blk) (rb : List RB) (rest : List Value) (cap : Nat) : Prop where
  le : m.length ≤ cap
  max : cap ≤ maxLen
  size : (rbs rb ++ rest).length = cap * 34
def rdiskX (q : Nat) (m : List Blk) (g cap : Nat) (rest : List Value) (rb : List RB) (l : List (Value × List Sec)) : HP :=
  sep (pur (ROk m rb l ∧ Room m rb rest cap)) (seps [pts q (.cells #[.slice (some ⟨g, 0, none⟩) m.length cap] 112), pts g (.cells (rbs rb ++ rest).toArray 128), rdV l])
/-- Block q is the reference's disk of these blocks. -/
def rdiskP (q : Nat) (m : List Blk) : HP := ex fun g => ex fun cap => ex fun rest => ex fun rb => ex fun l => rdiskX q m g cap rest rb l
theorem rdisk_open {w : World} {L : List HP} {q : Nat} {m : List Blk} : Own w (rdiskP q m :: L) ↔ ∃ g cap rest rb l, (ROk m rb l ∧ Room m rb rest cap) ∧ Own w (pts q (.cells #[.slice (some ⟨g, 0, none⟩) m.length cap] 112) :: pts g (.cells (rbs rb ++ rest).toArray 128) :: rdV l :: L) := by
  unfold rdiskP rdiskX
  simp only [own_ex, own_sep, own_pur, own_seps, List.cons_append, List.nil_append]
theorem row_blks : isRowB Tryz.prog 110 = some false := by kernel_rfl
theorem row_rsecs : isRowB Tryz.prog 126 = some false := by kernel_rfl
theorem row_rsec : isRowB Tryz.prog 94 = some true := by kernel_rfl
theorem row_boolD : isRowB Tryz.prog 4 = some false := by kernel_rfl
theorem sz_rsec : (Tryz.prog.info? 94).map (·.size) = some 32 := by kernel_rfl
theorem zero_rsec : (Tryz.prog.info? 94).map (·.zero) = some (some (.agg (Array.replicate 32 (.int .u8 0)))) := by kernel_rfl
theorem info_rsec {s : Sec} (h : s.length = 32) : (Tryz.prog.info? 94).map (·.size) = some (bcs s).toArray.size := by rw [secA_size h]; exact sz_rsec
section
variable (w : World) (L : List HP) (q : Nat) (m : List Blk)
theorem rmay_ok (i : Nat) (b : Blk) (hO : Own w (rdiskP q m :: L)) (hi : m[i]? = some b) : Calls Tryz.prog 92 #[.pointer (some ⟨q, 0, none⟩), .int .i64 i] w (Ret w (.int .i64 0) (rdiskP q m :: L)) := by
  have hO0 := hO
  obtain ⟨g, cap, rest, rb, l, hk, hO⟩ := rdisk_open.1 hO
  have hK := Lib.hid hO0
  have hl : i < m.length := (List.getElem?_eq_some_iff.1 hi).1
  have h1 : ¬ ((i : Int) < 0) := by omega
  have h2 : ¬ ((m.length : Int) ≤ i) := by omega
  clear hO0 hk hi
  go_enter Tryz.func92, Tryz.ntmps92
  go_wp2_with (first | (apply own_load1 rfl rfl rfl; (first | exact row_blks); (first | exact own_get 0 hO rfl | exact own_get 1 hO rfl | exact own_get 2 hO rfl | exact own_get 3 hO rfl | exact own_get 4 hO rfl | exact own_get 5 hO rfl | exact own_get 6 hO rfl | exact own_get 7 hO rfl); (first | (simp only [List.getElem?_toArray, List.getElem?_cons_succ, List.getElem?_cons_zero]; rfl) | rfl)))
  go_ret
  exact ⟨rfl, hK.out, Same.refl _⟩
theorem rmay_no (i : Int) (hO : Own w (rdiskP q m :: L)) (hi : i < 0 ∨ (m.length : Int) ≤ i) : Calls Tryz.prog 92 #[.pointer (some ⟨q, 0, none⟩), .int .i64 i] w (Ret w (.int .i64 2) (rdiskP q m :: L)) := by
  have hO0 := hO
  obtain ⟨g, cap, rest, rb, l, hk, hO⟩ := rdisk_open.1 hO
  have hK := Lib.hid hO0
  clear hO0 hk
  rcases hi with h1 | h2
  · go_enter Tryz.func92, Tryz.ntmps92
    go_wp2_with (first | (apply own_load1 rfl rfl rfl; (first | exact row_blks); (first | exact own_get 0 hO rfl | exact own_get 1 hO rfl | exact own_get 2 hO rfl | exact own_get 3 hO rfl | exact own_get 4 hO rfl | exact own_get 5 hO rfl | exact own_get 6 hO rfl | exact own_get 7 hO rfl); (first | (simp only [List.getElem?_toArray, List.getElem?_cons_succ, List.getElem?_cons_zero]; rfl) | rfl)))
    go_ret
    exact ⟨rfl, hK.out, Same.refl _⟩
  · have h1 : ¬ (i < 0) := by omega
    go_enter Tryz.func92, Tryz.ntmps92
    go_wp2_with (first | (apply own_load1 rfl rfl rfl; (first | exact row_blks); (first | exact own_get 0 hO rfl | exact own_get 1 hO rfl | exact own_get 2 hO rfl | exact own_get 3 hO rfl | exact own_get 4 hO rfl | exact own_get 5 hO rfl | exact own_get 6 hO rfl | exact own_get 7 hO rfl); (first | (simp only [List.getElem?_toArray, List.getElem?_cons_succ, List.getElem?_cons_zero]; rfl) | rfl)))
    go_ret
    exact ⟨rfl, hK.out, Same.refl _⟩
theorem rsize_c (hO : Own w (rdiskP q m :: L)) : Calls Tryz.prog 86 #[.pointer (some ⟨q, 0, none⟩)] w (Ret w (.int .i64 m.length) (rdiskP q m :: L)) := by
  have hO0 := hO
  obtain ⟨g, cap, rest, rb, l, hk, hO⟩ := rdisk_open.1 hO
  have hK := Lib.hid hO0
  clear hO0 hk
  go_enter Tryz.func86, Tryz.ntmps86
  go_wp2_with (first | (apply own_load1 rfl rfl rfl; (first | exact row_blks); (first | exact own_get 0 hO rfl | exact own_get 1 hO rfl | exact own_get 2 hO rfl | exact own_get 3 hO rfl | exact own_get 4 hO rfl | exact own_get 5 hO rfl | exact own_get 6 hO rfl | exact own_get 7 hO rfl); (first | (simp only [List.getElem?_toArray, List.getElem?_cons_succ, List.getElem?_cons_zero]; rfl) | rfl)))
  go_ret
  exact ⟨rfl, hK.out, Same.refl _⟩
end
end Go.Proofs.YtlmkcnkidkoilaaGreat.H
set_option linter.unusedVariables false
set_option linter.unusedSimpArgs false
namespace Go.Proofs.YtlmkcnkidkoilaaGreat.H
open Go.RowKit
/-- What stood in the last Write of a block, as it lies in memory. -/
structure Ws where
  blk : Nat
  set : List Int
  v : Value
def Ws.cells (x : Ws) : List Value := [.int .i64 x.blk, x.v]
def cellsS (l : List Ws) : List Value := l.flatMap Ws.cells
theorem cellsS_length (l : List Ws) : (cellsS l).length = l.length * 2 := by
  induction l with
  | nil => rfl
  | cons d l ih => simp only [cellsS, List.flatMap_cons, List.length_append, List.length_cons] at ih ⊢; rw [ih]; simp [Ws.cells]; omega
theorem cellsS_app (a b : List Ws) : cellsS (a ++ b) = cellsS a ++ cellsS b := List.flatMap_append
theorem cellsS_at (l : List Ws) (k : Nat) (d : Ws) (hk : l[k]? = some d) (j : Nat) (u : Value) (hu : d.cells[j]? = some u) : (cellsS l)[k * 2 + j]? = some u := by
  induction l generalizing k with
  | nil => simp at hk
  | cons e l ih =>
    have h5 : e.cells.length = 2 := rfl
    have e1 : cellsS (e :: l) = e.cells ++ cellsS l := rfl
    rw [e1]
    cases k with
    | zero =>
      have ed : e = d := by simpa using hk
      subst ed
      rw [Nat.zero_mul, Nat.zero_add, List.getElem?_append_left (List.getElem?_eq_some_iff.1 hu).1]
      exact hu
    | succ k =>
      rw [List.getElem?_append_right (by omega), h5, show (k + 1) * 2 + j - 2 = k * 2 + j by omega]
      exact ih k (by simpa using hk)
def lookS (l : List Ws) (i : Nat) : List Int := ((l.find? fun x => decide (x.blk = i)).map (·.set)).getD []
/-- These stood in the last Writes; what g reads has them. -/
structure RSOk (n : Nat) (s : Nat → List Int) (ws : List Ws) (wv : Value) (g : List RdI) : Prop where
  rd : ∃ A c, wv = .slice A ws.length c ∧ (⟨2, .slice A ws.length c, ws.length, cellsS ws⟩ : RdI) ∈ g
  sets : ∀ x ∈ ws, ∃ A c, x.v = .slice A x.set.length c ∧ (⟨1, .slice A x.set.length c, x.set.length, zs x.set⟩ : RdI) ∈ g
  key : ∀ x ∈ ws, x.blk < n
  nod : (ws.map (·.blk)).Nodup
  look : ∀ i, s i = lookS ws i
theorem RSOk.mono {n : Nat} {s : Nat → List Int} {ws : List Ws} {wv : Value} {g g' : List RdI} (h : RSOk n s ws wv g) (hs : ∀ x ∈ g, x ∈ g') : RSOk n s ws wv g' :=
  ⟨let ⟨A, c, e, h1⟩ := h.rd; ⟨A, c, e, hs _ h1⟩, fun x hx => let ⟨A, c, e, h1⟩ := h.sets x hx; ⟨A, c, e, hs _ h1⟩, h.key, h.nod, h.look⟩
theorem look_mem {l : List Ws} (hn : (l.map (·.blk)).Nodup) {x : Ws} (hx : x ∈ l) : lookS l x.blk = x.set := by
  induction l with
  | nil => cases hx
  | cons a l ih =>
    rw [List.map_cons, List.nodup_cons] at hn
    unfold lookS
    rw [List.find?_cons]
    by_cases e : a.blk = x.blk
    · rcases List.mem_cons.1 hx with rfl | hx
      · simp
      · exact absurd (by rw [e]; exact List.mem_map_of_mem hx) hn.1
    · rcases List.mem_cons.1 hx with rfl | hx
      · exact absurd rfl e
      · simp only [e, decide_false]
        exact ih hn.2 hx
theorem RSOk.any {n : Nat} {s : Nat → List Int} {ws : List Ws} {wv : Value} {g : List RdI} (h : RSOk n s ws wv g) (x : Int) : inAny n s x = ws.any fun y => y.set.contains x := by
  rw [Bool.eq_iff_iff]
  unfold inAny
  rw [List.any_eq_true, List.any_eq_true]
  constructor
  · rintro ⟨i, hi, hx⟩
    rw [h.look i] at hx
    unfold lookS at hx
    cases hf : ws.find? fun x => decide (x.blk = i) with
    | none => rw [hf] at hx; simp at hx
    | some y =>
      rw [hf] at hx
      exact ⟨y, List.mem_of_find?_eq_some hf, by simpa using hx⟩
  · rintro ⟨y, hy, hx⟩
    refine ⟨y.blk, List.mem_range.2 (h.key y hy), ?_⟩
    rw [h.look, look_mem h.nod hy]
    exact hx
/-- Block r is the reference's engine. -/
def rengX (r : Nat) (E : Eng) (q : Nat) (lv wv : Value) (we : List We) (ws : List Ws) (g : List RdI) : HP :=
  sep (pur (we.map (·.1) = E.l ∧ WOk we lv g ∧ RSOk E.m.length E.s ws wv g)) (seps [pts r (.cells #[.pointer (some ⟨q, 0, none⟩), lv, wv, .int .i64 E.next] 106), rdiskP q E.m, rdG g])
def rengP (r : Nat) (E : Eng) : HP := ex fun q => ex fun lv => ex fun wv => ex fun we => ex fun ws => ex fun g => rengX r E q lv wv we ws g
theorem reng_open {w : World} {L : List HP} {r : Nat} {E : Eng} : Own w (rengP r E :: L) ↔ ∃ q lv wv we ws g, (we.map (·.1) = E.l ∧ WOk we lv g ∧ RSOk E.m.length E.s ws wv g) ∧ Own w (pts r (.cells #[.pointer (some ⟨q, 0, none⟩), lv, wv, .int .i64 E.next] 106) :: rdiskP q E.m :: rdG g :: L) := by
  unfold rengP rengX
  simp only [own_ex, own_sep, own_pur, own_seps, List.cons_append, List.nil_append]
end Go.Proofs.YtlmkcnkidkoilaaGreat.H
set_option linter.unusedVariables false
set_option linter.unusedSimpArgs false
set_option maxRecDepth 100000
namespace Go.Proofs.YtlmkcnkidkoilaaGreat.H
open Go.RowKit
/-- Bools as cells. -/
def bvs (l : List Bool) : List Value := l.map fun b => Value.bool b
theorem bvs_set (l : List Bool) (i : Nat) (b : Bool) : (bvs l).toArray.setIfInBounds i (.bool b) = (bvs (l.set i b)).toArray := by
  simp [bvs, List.map_set]
theorem made_bvs (n : Nat) : madeCells #[.bool false] n = (bvs (List.replicate n false)).toArray := by
  rw [made_one]; simp [bvs]
theorem made_bvs1 (n : Nat) : madeCells (Value.bool false).cells (n * 1) = (bvs (List.replicate n false)).toArray := by rw [Nat.mul_one]; exact made_bvs n
theorem bvs_at {l : List Bool} {i : Nat} {b : Bool} (h : l[i]? = some b) : (bvs l).toArray[i]? = some (.bool b) := by
  simp [bvs, h]
theorem bvs_length (l : List Bool) : (bvs l).length = l.length := by simp [bvs]
/-- Those of some numbers are marked. -/
def marksL (n : Nat) (s : List Int) : List Bool := (List.range n).map fun i : Nat => s.contains (i : Int)
theorem marks_len (n : Nat) (s : List Int) : (marksL n s).length = n := by simp [marksL]
theorem marks_none (n : Nat) : marksL n [] = List.replicate n false := by
  refine List.ext_getElem? (fun i => ?_)
  by_cases h : i < n <;> simp [marksL, h]
theorem marks_at {n i : Nat} {s : List Int} (h : i < n) : (marksL n s)[i]? = some (s.contains (i : Int)) := by
  simp [marksL, h]
theorem marks_set (n j : Nat) (s : List Int) : (marksL n s).set j true = marksL n (s ++ [(j : Int)]) := by
  refine List.ext_getElem? (fun i => ?_)
  by_cases h : i < n
  · rw [marks_at h, List.getElem?_set]
    by_cases e : j = i
    · subst e
      rw [if_pos rfl, marks_len, if_pos h]
      simp
    · rw [if_neg e, marks_at h]
      have : ¬ ((i : Int) = (j : Int)) := by omega
      simp [this]
  · rw [List.getElem?_eq_none (by rw [List.length_set, marks_len]; omega), List.getElem?_eq_none (by rw [marks_len]; omega)]
/-- v reads as these slices of numbers. -/
structure DRd (w : World) (v : Value) (vs : List Value) (ds : List (List Int)) : Prop where
  rd : Rd w 1 v ds.length vs
  el : ∀ (k : Nat) (l : List Int), ds[k]? = some l → ∃ A c, vs[k]? = some (.slice A l.length c) ∧ Rd w 1 (.slice A l.length c) l.length (zs l)
theorem drd_at {w : World} {L : List HP} {VA : Option Addr} {n c : Nat} {vs : List Value} {ds : List (List Int)} (hr : ∀ w', Own w' L → DRd w' (.slice VA n c) vs ds) (hO : Own w L) {k : Nat} {l : List Int} (hk : ds[k]? = some l) :
    ∃ ad A cc, VA = some ad ∧ ∀ w', Own w' L → w'.cell? (ad.add k) = some (.slice A l.length cc) ∧ Rd w' 1 (.slice A l.length cc) l.length (zs l) := by
  have h0 := (hr w hO).rd
  obtain ⟨A, cc, e1, _⟩ := (hr w hO).el k l hk
  have hn : n = ds.length := by
    obtain ⟨A', c', e⟩ := h0.slice
    injection e
  subst hn
  obtain ⟨ad, rfl⟩ := h0.addr (by have := (List.getElem?_eq_some_iff.1 e1).1; omega)
  refine ⟨ad, A, cc, rfl, fun w' h' => ?_⟩
  have h1 : w'.cell? ((ad.add (k * 1)).add 0) = some (.slice A l.length cc) := (hr w' h').rd.cell (by rw [Nat.mul_one, Nat.add_zero]; exact e1)
  obtain ⟨A2, c2, e2, h2⟩ := (hr w' h').el k l hk
  rw [e1] at e2
  cases e2
  exact ⟨by rwa [addr_add, Nat.mul_one, Nat.add_zero] at h1, h2⟩
section
variable (w : World) (L : List HP)
theorem ghas_c (v : Value) (n : Nat) (l : List Int) (d : Int) {r : Bool} (hn : n = l.length) (hx : l.contains d = r) (hO : Own w L) (hr : ∀ w', Own w' L → Rd w' 1 v n (zs l)) : Calls Tryz.prog 90 #[v, .int .i64 d] w (Ret w (.bool r) L) := by
  subst hn
  have HR := Lib.hid hr
  have HX := Lib.hid hx
  have hS := Same.refl w
  obtain ⟨A, c, rfl⟩ := (hr w hO).slice
  have hmx := (hr w hO).max
  clear hr hx
  go_enter Tryz.func90, Tryz.ntmps90
  go_wp2
  go_loopw [5] (fun i wr => ∃ k : Nat, k ≤ l.length ∧ i = .int .i64 k ∧ Hid ((l.take k).contains d = false) ∧ Own wr L ∧ Same w wr) (fun i _ => l.length - (intOf i).toNat)
  case atStart => exact ⟨0, Nat.zero_le _, rfl, Lib.hid rfl, hO, hS⟩
  case round =>
    clear hO hS
    obtain ⟨k, hk, rfl, HNO, hO, hS⟩ := hrel
    by_cases hlt : k < l.length
    · obtain ⟨x, hx⟩ : ∃ y, l[k]? = some y := ⟨_, List.getElem?_eq_getElem hlt⟩
      obtain ⟨ad, rfl⟩ := (HR.out _ hO).addr (by unfold zs; rw [List.length_map]; omega)
      have HC := Lib.hid (zs_cell (HR.out _ hO) hx)
      have hm1 : (k : Int) < l.length := by omega
      by_cases he : x = d
      · have HT : Hid (r = true) := by
          show r = true
          rw [← HX.out]
          simp only [List.contains_eq_mem, decide_eq_true_eq]
          rw [← he]
          exact List.mem_of_getElem? hx
        clear hx
        subst he
        go_wp2_with (first | (refine own_load1_at (ad := ad.add k) (v := .int .i64 x) rfl rfl rfl row_int HC.out ?_))
        go_ret
        exact ⟨by rw [HT.out]; rfl, hO, hS⟩
      · have HNX : Hid ((l.take (k + 1)).contains d = false) := by
          show _ = _
          rw [List.take_add_one, hx]
          have h1 := HNO.out
          simp only [List.contains_eq_mem, decide_eq_false_iff_not, Option.toList_some, List.mem_append, List.mem_singleton, not_or] at h1 ⊢
          exact ⟨h1, fun e => he e.symm⟩
        have hne : (x == d) = false := by simpa using he
        clear hx he
        go_wp2_with (first | (refine own_load1_at (ad := ad.add k) (v := .int .i64 x) rfl rfl rfl row_int HC.out ?_))
        go_roundw
        case rel => exact ⟨k + 1, by omega, by go_num, HNX, hO, hS⟩
        case measure => simp [intOf]; omega
    · have hke : k = l.length := by omega
      subst hke
      have HF : Hid (r = false) := by
        show r = false
        rw [← HX.out]
        have := HNO.out
        rwa [List.take_length] at this
      go_wp2
      go_ret
      exact ⟨by rw [HF.out]; rfl, hO, hS⟩
theorem row_bl : isRowB Tryz.prog 4 = some false := by kernel_rfl
theorem sz_bl : (Tryz.prog.info? 4).map (·.size) = some 1 := by kernel_rfl
theorem info_bl3 : (Tryz.prog.info? 4).map (fun i => (i.zero, i.size, i.bytes)) = some (some (.bool false), 1, 1) := by kernel_rfl
end
end Go.Proofs.YtlmkcnkidkoilaaGreat.H
set_option linter.unusedVariables false
set_option linter.unusedSimpArgs false
set_option maxRecDepth 100000
namespace Go.Proofs.YtlmkcnkidkoilaaGreat.H
open Go.RowKit
theorem row_rdptr : isRowB Tryz.prog 61 = some false := by kernel_rfl
theorem row_wts : isRowB Tryz.prog 103 = some false := by kernel_rfl
theorem row_wrs : isRowB Tryz.prog 104 = some false := by kernel_rfl
theorem row_wt : isRowB Tryz.prog 125 = some true := by kernel_rfl
theorem sz_wt : (Tryz.prog.info? 125).map (·.size) = some 5 := by kernel_rfl
theorem zero_wt : (Tryz.prog.info? 125).map (·.zero) = some (some (.agg #[.int .i64 0, .int .i64 0, .int .i64 0, .string ⟨#[]⟩, .slice none 0 0])) := by kernel_rfl
theorem info_wt3 : (Tryz.prog.info? 125).map (fun i => (i.zero, i.size, i.bytes)) = some (some (.agg #[.int .i64 0, .int .i64 0, .int .i64 0, .string ⟨#[]⟩, .slice none 0 0]), 5, 64) := by kernel_rfl
theorem ent_cell0 {w : World} {ad : Addr} {n : Nat} {x : We} (h : ∀ (j : Nat) (u : Value), (We.cells x)[j]? = some u → w.cell? ((ad.add n).add j) = some u) : w.cell? (ad.add n) = some (.int .i64 x.1.n) := by
  have := h 0 _ rfl
  rwa [addr_add, Nat.add_zero] at this
theorem own_flr {w : World} {L : List HP} {A : HP} {v : Value} {fl : List Int} {q : Int} (h : Own w (owns 3 1 v (fl.length + 1) (zs fl ++ [.int .i64 q]) :: A :: L)) : Own w (owns 3 1 v (fl ++ [q]).length (zs (fl ++ [q])) :: L) := by
  have e1 : (fl ++ [q]).length = fl.length + 1 := by simp
  have e2 : zs (fl ++ [q]) = zs fl ++ [.int .i64 q] := by simp [zs, encZ]
  rw [e1, e2]
  exact own_drop (own_swap h)
/-- The reference's engine, laid open. -/
abbrev rO (r q : Nat) (lv wv : Value) (next : Nat) (m : List Blk) (g : List RdI) (L : List HP) : List HP := pts r (.cells #[.pointer (some ⟨q, 0, none⟩), lv, wv, .int .i64 next] 106) :: rdiskP q m :: rdG g :: L
section
variable (w : World) (L : List HP) (r : Nat) (E : Eng)
theorem rsize_e (hO : Own w (rengP r E :: L)) : Calls Tryz.prog 50 #[.pointer (some ⟨r, 0, none⟩)] w (Ret w (.int .i64 E.m.length) (rengP r E :: L)) := by
  obtain ⟨q, lv, wv, we, ws, g, hk, hO⟩ := reng_open.1 hO
  have HK := Lib.hid hk
  have hS := Same.refl w
  clear hk
  go_enter Tryz.func50, Tryz.ntmps50
  go_wp2_with (first | (apply own_load1 rfl rfl rfl; (first | exact row_rdptr | exact row_wts | exact row_wrs | exact row_int); (first | exact own_get 0 hO rfl | exact own_get 1 hO rfl | exact own_get 2 hO rfl | exact own_get 3 hO rfl | exact own_get 4 hO rfl | exact own_get 5 hO rfl | exact own_get 6 hO rfl | exact own_get 7 hO rfl); (first | (simp only [List.getElem?_toArray, List.getElem?_cons_succ, List.getElem?_cons_zero]; rfl) | rfl)) | (go_at_call 86; (with_reducible refine Calls.mono (call_at 1 (fun L' h => rsize_c _ L' q E.m h) rfl hO) ?_); clear hO; rintro e u ⟨rfl, hO, hSn⟩; replace hS := hS.trans hSn; clear hSn; simp only [List.set_cons_zero, List.set_cons_succ] at hO))
  go_ret
  exact ⟨rfl, reng_open.2 ⟨_, _, _, _, _, _, HK.out, hO⟩, hS⟩
theorem rnext_e (hO : Own w (rengP r E :: L)) : Calls Tryz.prog 24 #[.pointer (some ⟨r, 0, none⟩)] w (Ret w (.int .i64 E.next) (rengP r E :: L)) := by
  obtain ⟨q, lv, wv, we, ws, g, hk, hO⟩ := reng_open.1 hO
  have HK := Lib.hid hk
  have hS := Same.refl w
  clear hk
  go_enter Tryz.func24, Tryz.ntmps24
  go_wp2_with (first | (apply own_load1 rfl rfl rfl; (first | exact row_rdptr | exact row_wts | exact row_wrs | exact row_int); (first | exact own_get 0 hO rfl | exact own_get 1 hO rfl | exact own_get 2 hO rfl | exact own_get 3 hO rfl | exact own_get 4 hO rfl | exact own_get 5 hO rfl | exact own_get 6 hO rfl | exact own_get 7 hO rfl); (first | (simp only [List.getElem?_toArray, List.getElem?_cons_succ, List.getElem?_cons_zero]; rfl) | rfl)))
  go_ret
  exact ⟨rfl, reng_open.2 ⟨_, _, _, _, _, _, HK.out, hO⟩, hS⟩
theorem rmay_e_ok (i : Nat) (hO : Own w (rengP r E :: L)) (hi : i < E.m.length) : Calls Tryz.prog 87 #[.pointer (some ⟨r, 0, none⟩), .int .i64 i] w (Ret w (.int .i64 0) (rengP r E :: L)) := by
  obtain ⟨q, lv, wv, we, ws, g, hk, hO⟩ := reng_open.1 hO
  have HK := Lib.hid hk
  have hS := Same.refl w
  have hl : (i : Int) < E.m.length := by omega
  have h0 : 0 ≤ (i : Int) := by omega
  clear hk
  go_enter Tryz.func87, Tryz.ntmps87
  go_wp2_with (first | (apply own_load1 rfl rfl rfl; (first | exact row_rdptr | exact row_wts | exact row_wrs | exact row_int); (first | exact own_get 0 hO rfl | exact own_get 1 hO rfl | exact own_get 2 hO rfl | exact own_get 3 hO rfl | exact own_get 4 hO rfl | exact own_get 5 hO rfl | exact own_get 6 hO rfl | exact own_get 7 hO rfl); (first | (simp only [List.getElem?_toArray, List.getElem?_cons_succ, List.getElem?_cons_zero]; rfl) | rfl)) | (go_at_call 86; (with_reducible refine Calls.mono (call_at 1 (fun L' h => rsize_c _ L' q E.m h) rfl hO) ?_); clear hO; rintro e u ⟨rfl, hO, hSn⟩; replace hS := hS.trans hSn; clear hSn; simp only [List.set_cons_zero, List.set_cons_succ] at hO))
  go_ret
  exact ⟨rfl, reng_open.2 ⟨_, _, _, _, _, _, HK.out, hO⟩, hS⟩
theorem rmay_e_no (i : Int) (hO : Own w (rengP r E :: L)) (hi : i < 0 ∨ (E.m.length : Int) ≤ i) : Calls Tryz.prog 87 #[.pointer (some ⟨r, 0, none⟩), .int .i64 i] w (Ret w (.int .i64 2) (rengP r E :: L)) := by
  obtain ⟨q, lv, wv, we, ws, g, hk, hO⟩ := reng_open.1 hO
  have HK := Lib.hid hk
  have hS := Same.refl w
  clear hk
  rcases hi with hi | hi
  · go_enter Tryz.func87, Tryz.ntmps87
    go_wp2_with (first | (apply own_load1 rfl rfl rfl; (first | exact row_rdptr | exact row_wts | exact row_wrs | exact row_int); (first | exact own_get 0 hO rfl | exact own_get 1 hO rfl | exact own_get 2 hO rfl | exact own_get 3 hO rfl | exact own_get 4 hO rfl | exact own_get 5 hO rfl | exact own_get 6 hO rfl | exact own_get 7 hO rfl); (first | (simp only [List.getElem?_toArray, List.getElem?_cons_succ, List.getElem?_cons_zero]; rfl) | rfl)) | (go_at_call 86; (with_reducible refine Calls.mono (call_at 1 (fun L' h => rsize_c _ L' q E.m h) rfl hO) ?_); clear hO; rintro e u ⟨rfl, hO, hSn⟩; replace hS := hS.trans hSn; clear hSn; simp only [List.set_cons_zero, List.set_cons_succ] at hO))
    go_ret
    exact ⟨rfl, reng_open.2 ⟨_, _, _, _, _, _, HK.out, hO⟩, hS⟩
  · have h1 : ¬ (i < 0) := by omega
    go_enter Tryz.func87, Tryz.ntmps87
    go_wp2_with (first | (apply own_load1 rfl rfl rfl; (first | exact row_rdptr | exact row_wts | exact row_wrs | exact row_int); (first | exact own_get 0 hO rfl | exact own_get 1 hO rfl | exact own_get 2 hO rfl | exact own_get 3 hO rfl | exact own_get 4 hO rfl | exact own_get 5 hO rfl | exact own_get 6 hO rfl | exact own_get 7 hO rfl); (first | (simp only [List.getElem?_toArray, List.getElem?_cons_succ, List.getElem?_cons_zero]; rfl) | rfl)) | (go_at_call 86; (with_reducible refine Calls.mono (call_at 1 (fun L' h => rsize_c _ L' q E.m h) rfl hO) ?_); clear hO; rintro e u ⟨rfl, hO, hSn⟩; replace hS := hS.trans hSn; clear hSn; simp only [List.set_cons_zero, List.set_cons_succ] at hO))
    go_ret
    exact ⟨rfl, reng_open.2 ⟨_, _, _, _, _, _, HK.out, hO⟩, hS⟩
/-- A call of the disk's that turns its blocks. -/
theorem rspoil_e (i : Int) (b : Bool) (x : Int) (m' : List Blk) (hO : Own w (rengP r E :: L)) (hl : m'.length = E.m.length)
    (h : ∀ (w : World) (L : List HP) (d : Nat), Own w (rdiskP d E.m :: L) → Calls Tryz.prog 101 #[.pointer (some ⟨d, 0, none⟩), .int .i64 i, .bool b] w (Ret w (.int .i64 x) (rdiskP d m' :: L))) :
    Calls Tryz.prog 71 #[.pointer (some ⟨r, 0, none⟩), .int .i64 i, .bool b] w (Ret w (.int .i64 x) (rengP r ⟨m', E.l, E.s, E.next⟩ :: L)) := by
  obtain ⟨q, lv, wv, we, ws, g, ⟨h1, h2, h3⟩, hO⟩ := reng_open.1 hO
  have HK : Hid (we.map (·.1) = E.l ∧ WOk we lv g ∧ RSOk m'.length E.s ws wv g) := ⟨h1, h2, by rw [hl]; exact h3⟩
  have HS := Lib.hid h
  have hS := Same.refl w
  clear h1 h2 h3 h hl
  go_enter Tryz.func71, Tryz.ntmps71
  go_wp2_with (first | (apply own_load1 rfl rfl rfl; (first | exact row_rdptr | exact row_wts | exact row_wrs | exact row_int); (first | exact own_get 0 hO rfl | exact own_get 1 hO rfl | exact own_get 2 hO rfl | exact own_get 3 hO rfl | exact own_get 4 hO rfl | exact own_get 5 hO rfl | exact own_get 6 hO rfl | exact own_get 7 hO rfl); (first | (simp only [List.getElem?_toArray, List.getElem?_cons_succ, List.getElem?_cons_zero]; rfl) | rfl)) | (go_at_call 101; (with_reducible refine Calls.mono (call_at 1 (fun L' h => HS.out _ L' q h) rfl hO) ?_); clear hO; rintro e u ⟨rfl, hO, hSn⟩; replace hS := hS.trans hSn; clear hSn; simp only [List.set_cons_zero, List.set_cons_succ] at hO))
  go_ret
  exact ⟨rfl, reng_open.2 ⟨q, lv, wv, we, ws, g, HK.out, hO⟩, hS⟩
theorem rwaits_o (q : Nat) (lv wv : Value) (we : List We) (g : List RdI) (next : Nat) (m : List Blk) (hW : WOk we lv g) (d : Int) {b : Bool} (hx : (wnums (we.map (·.1))).contains d = b) (hO : Own w (rO r q lv wv next m g L)) : Calls Tryz.prog 89 #[.pointer (some ⟨r, 0, none⟩), .int .i64 d] w (Ret w (.bool b) (rO r q lv wv next m g L)) := by
  have HX : Hid ((wnums (we.map (·.1))).contains d = b) := hx
  obtain ⟨A, c, rfl, hm⟩ := hW.rd
  have HW := Lib.hid hW
  have hmw := (rdG_rd (own_at hO (k := 2) rfl) hm).max
  have hS := Same.refl w
  clear hx hm hW
  go_enter Tryz.func89, Tryz.ntmps89
  go_wp2
  go_loopw [5] (fun iv wr => ∃ k : Nat, k ≤ we.length ∧ iv = .int .i64 k ∧ Hid ((wnums ((we.take k).map (·.1))).contains d = false) ∧ Own wr (rO r q (.slice A we.length c) wv next m g L) ∧ Same w wr) (fun iv _ => we.length - (intOf iv).toNat)
  case atStart => exact ⟨0, Nat.zero_le _, rfl, Lib.hid rfl, hO, hS⟩
  case round =>
    clear hO hS
    obtain ⟨k, hk, rfl, HNO, hO, hS⟩ := hrel
    by_cases hlt : k < we.length
    · obtain ⟨⟨x, xv⟩, hx⟩ : ∃ x, we[k]? = some x := ⟨_, List.getElem?_eq_getElem hlt⟩
      obtain ⟨ad, c', e1, hc⟩ := wat HW.out hx (own_at hO (k := 2) rfl)
      have HC := Lib.hid (ent_cell0 (hc _ wr (own_at hO (k := 2) rfl)))
      have e3 : A = some ad := by injection e1
      subst e3
      have hm1 : (k : Int) < we.length := by omega
      have HNX : Hid ((wnums ((we.take (k + 1)).map (·.1))).contains d = ((x.n : Int) == d)) := by
        have h1 : d ∉ wnums ((we.take k).map (·.1)) := by simpa using HNO.out
        have e : wnums ((we.take (k + 1)).map (·.1)) = wnums ((we.take k).map (·.1)) ++ [(x.n : Int)] := by
          rw [List.take_add_one, hx]
          simp [wnums]
        show _ = _
        rw [e, Bool.eq_iff_iff]
        simp only [List.contains_eq_mem, decide_eq_true_eq, List.mem_append, List.mem_singleton, beq_iff_eq]
        constructor
        · rintro (h | h)
          · exact absurd h h1
          · exact h.symm
        · exact fun h => .inr h.symm
      by_cases he : (x.n : Int) = d
      · have HT : Hid (b = true) := by
          show b = true
          rw [← HX.out]
          simp only [List.contains_eq_mem, decide_eq_true_eq]
          rw [← he]
          exact List.mem_map.2 ⟨x, List.mem_map.2 ⟨_, List.mem_of_getElem? hx, rfl⟩, rfl⟩
        have he2 : ((x.n : Int) == d) = true := by simpa using he
        clear hx hc e1 he
        go_wp2_with (first | (apply own_load1 rfl rfl rfl; (first | exact row_rdptr | exact row_wts | exact row_wrs | exact row_int); (first | exact own_get 0 hO rfl | exact own_get 1 hO rfl | exact own_get 2 hO rfl | exact own_get 3 hO rfl | exact own_get 4 hO rfl | exact own_get 5 hO rfl | exact own_get 6 hO rfl | exact own_get 7 hO rfl); (first | (simp only [List.getElem?_toArray, List.getElem?_cons_succ, List.getElem?_cons_zero]; rfl) | rfl)) | (refine own_load1_at (ad := ad.add (k * 5)) (v := .int .i64 x.n) rfl rfl rfl row_int HC.out ?_))
        go_ret
        exact ⟨by rw [HT.out]; rfl, hO, hS⟩
      · have he2 : ((x.n : Int) == d) = false := by simpa using he
        have HN2 : Hid ((wnums ((we.take (k + 1)).map (·.1))).contains d = false) := by show _ = _; rw [HNX.out, he2]
        clear hx hc e1 he
        go_wp2_with (first | (apply own_load1 rfl rfl rfl; (first | exact row_rdptr | exact row_wts | exact row_wrs | exact row_int); (first | exact own_get 0 hO rfl | exact own_get 1 hO rfl | exact own_get 2 hO rfl | exact own_get 3 hO rfl | exact own_get 4 hO rfl | exact own_get 5 hO rfl | exact own_get 6 hO rfl | exact own_get 7 hO rfl); (first | (simp only [List.getElem?_toArray, List.getElem?_cons_succ, List.getElem?_cons_zero]; rfl) | rfl)) | (refine own_load1_at (ad := ad.add (k * 5)) (v := .int .i64 x.n) rfl rfl rfl row_int HC.out ?_))
        go_roundw
        case rel => exact ⟨k + 1, by omega, by go_num, HN2, hO, hS⟩
        case measure => simp [intOf]; omega
    · have hke : k = we.length := by omega
      subst hke
      have HF : Hid (b = false) := by
        show b = false
        rw [← HX.out]
        have := HNO.out
        rwa [List.take_length] at this
      go_wp2_with (first | (apply own_load1 rfl rfl rfl; (first | exact row_rdptr | exact row_wts | exact row_wrs | exact row_int); (first | exact own_get 0 hO rfl | exact own_get 1 hO rfl | exact own_get 2 hO rfl | exact own_get 3 hO rfl | exact own_get 4 hO rfl | exact own_get 5 hO rfl | exact own_get 6 hO rfl | exact own_get 7 hO rfl); (first | (simp only [List.getElem?_toArray, List.getElem?_cons_succ, List.getElem?_cons_zero]; rfl) | rfl)))
      go_ret
      exact ⟨by rw [HF.out]; rfl, hO, hS⟩
end
end Go.Proofs.YtlmkcnkidkoilaaGreat.H
