/- What the reference's disk's memory is; its may, Size, Versions. Lasting, Read, Spoil, New, Load of the reference's disk. Spoil, New, Load of the reference's disk. Regions of open order whose calls hand over what they make, and whose last operation is a store into what is owned all the time. -/
import Derived.Test.YtjilkbkafigloaaZ08
import Derived.Test.YtjilkbkafigloaaZ04
set_option linter.unusedVariables false
set_option linter.unusedSimpArgs false
set_option maxRecDepth 100000
namespace Go.Proofs.Ytjilkbkafigloaa.H
open Go.RowKit
/-- A block of the reference's disk: what its slice of versions is, and the block. -/
abbrev RB := Value × Blk
def rbs (l : List RB) : List Value := l.flatMap fun x => rblk x.1 x.2
theorem rblk_len {v : Value} {b : Blk} (h : b.s.length = 32) : (rblk v b).length = 34 := by
  unfold rblk
  rw [List.length_append, bcs_length, h]
  rfl
theorem rbs_cons (x : RB) (l : List RB) : rbs (x :: l) = rblk x.1 x.2 ++ rbs l := rfl
theorem rbs_length {l : List RB} (h : ∀ x ∈ l, x.2.s.length = 32) : (rbs l).length = l.length * 34 := by
  induction l with
  | nil => rfl
  | cons x l ih =>
    rw [rbs_cons, List.length_append, rblk_len (h x (List.mem_cons_self ..)), ih (fun y hy => h y (List.mem_cons_of_mem _ hy)), List.length_cons]
    omega
theorem rbs_split (rest : List Value) : ∀ {l : List RB}, (∀ x ∈ l, x.2.s.length = 32) → ∀ {i : Nat} {x : RB}, l[i]? = some x → ∃ P S, rbs l ++ rest = P ++ (rblk x.1 x.2 ++ S) ∧ P.length = i * 34 ∧ ∀ y : RB, rbs (l.set i y) ++ rest = P ++ (rblk y.1 y.2 ++ S)
  | [], _, i, x, hi => by simp at hi
  | a :: l, h, 0, x, hi => by
    have e : a = x := by simpa using hi
    subst e
    exact ⟨[], rbs l ++ rest, by rw [rbs_cons, List.append_assoc]; rfl, rfl, fun y => by rw [List.set_cons_zero, rbs_cons, List.append_assoc]; rfl⟩
  | a :: l, h, i + 1, x, hi => by
    obtain ⟨P, S, h1, h2, h3⟩ := rbs_split rest (fun y hy => h y (List.mem_cons_of_mem _ hy)) (show l[i]? = some x by simpa using hi)
    refine ⟨rblk a.1 a.2 ++ P, S, ?_, ?_, fun y => ?_⟩
    · rw [rbs_cons, List.append_assoc, h1, List.append_assoc]
    · rw [List.length_append, rblk_len (h a (List.mem_cons_self ..)), h2]; omega
    · rw [List.set_cons_succ, rbs_cons, List.append_assoc, h3, List.append_assoc]
section
variable {rest : List Value} {l : List RB} {i : Nat} {x : RB}
theorem rb_s (h : ∀ x ∈ l, x.2.s.length = 32) (hi : l[i]? = some x) : (bcs x.2.s).length = 32 := by rw [bcs_length, h x (List.mem_of_getElem? hi)]
theorem rb_v (h : ∀ x ∈ l, x.2.s.length = 32) (hi : l[i]? = some x) : (rbs l ++ rest).toArray[i * 34 + 32]? = some x.1 := by
  obtain ⟨P, S, h1, h2, _⟩ := rbs_split rest h hi
  have hs := rb_s h hi
  rw [h1, List.getElem?_toArray, List.getElem?_append_right (by omega), List.getElem?_append_left (by rw [rblk_len (h x (List.mem_of_getElem? hi))]; omega), show i * 34 + 32 - P.length = 32 by omega]
  unfold rblk
  rw [List.getElem?_append_right (by omega), hs]
  rfl
theorem rb_b (h : ∀ x ∈ l, x.2.s.length = 32) (hi : l[i]? = some x) : (rbs l ++ rest).toArray[i * 34 + 33]? = some (.bool x.2.bad) := by
  obtain ⟨P, S, h1, h2, _⟩ := rbs_split rest h hi
  have hs := rb_s h hi
  rw [h1, List.getElem?_toArray, List.getElem?_append_right (by omega), List.getElem?_append_left (by rw [rblk_len (h x (List.mem_of_getElem? hi))]; omega), show i * 34 + 33 - P.length = 33 by omega]
  unfold rblk
  rw [List.getElem?_append_right (by omega), hs]
  rfl
theorem rb_fit (h : ∀ x ∈ l, x.2.s.length = 32) (hi : l[i]? = some x) : i * 34 + 34 ≤ (rbs l ++ rest).toArray.size := by
  obtain ⟨P, S, h1, h2, _⟩ := rbs_split rest h hi
  rw [h1, List.size_toArray, List.length_append, List.length_append, rblk_len (h x (List.mem_of_getElem? hi))]
  omega
theorem rb_row (h : ∀ x ∈ l, x.2.s.length = 32) (hi : l[i]? = some x) : ((rbs l ++ rest).toArray.toList.drop (i * 34)).take 32 = bcs x.2.s := by
  obtain ⟨P, S, h1, h2, _⟩ := rbs_split rest h hi
  have hs := rb_s h hi
  show ((rbs l ++ rest).drop (i * 34)).take 32 = _
  rw [h1, ← h2, List.drop_left]
  unfold rblk
  rw [List.append_assoc, ← hs, List.take_left]
theorem rb_setv (h : ∀ x ∈ l, x.2.s.length = 32) (hi : l[i]? = some x) (v : Value) (vs : List Sec) : (rbs l ++ rest).toArray.setIfInBounds (i * 34 + 32) v = (rbs (l.set i (v, ⟨x.2.s, vs, x.2.bad⟩)) ++ rest).toArray := by
  obtain ⟨P, S, h1, h2, h3⟩ := rbs_split rest h hi
  have hs := rb_s h hi
  rw [h1, h3, List.setIfInBounds_toArray]
  unfold rblk
  rw [List.set_append_right _ _ (by omega), show i * 34 + 32 - P.length = 32 by omega, List.append_assoc, List.append_assoc, List.set_append_right _ _ (by omega), hs]
  rfl
theorem rb_setb (h : ∀ x ∈ l, x.2.s.length = 32) (hi : l[i]? = some x) (b : Bool) : (rbs l ++ rest).toArray.setIfInBounds (i * 34 + 33) (.bool b) = (rbs (l.set i (x.1, ⟨x.2.s, x.2.vs, b⟩)) ++ rest).toArray := by
  obtain ⟨P, S, h1, h2, h3⟩ := rbs_split rest h hi
  have hs := rb_s h hi
  rw [h1, h3, List.setIfInBounds_toArray]
  unfold rblk
  rw [List.set_append_right _ _ (by omega), show i * 34 + 33 - P.length = 33 by omega, List.append_assoc, List.append_assoc, List.set_append_right _ _ (by omega), hs]
  rfl
theorem rb_sets (h : ∀ x ∈ l, x.2.s.length = 32) (hi : l[i]? = some x) (s : Sec) : (rbs l ++ rest).toArray.toList.take (i * 34) ++ bcs s ++ (rbs l ++ rest).toArray.toList.drop (i * 34 + 32) = rbs (l.set i (x.1, ⟨s, x.2.vs, x.2.bad⟩)) ++ rest := by
  obtain ⟨P, S, h1, h2, h3⟩ := rbs_split rest h hi
  have hs := rb_s h hi
  show (rbs l ++ rest).take (i * 34) ++ bcs s ++ (rbs l ++ rest).drop (i * 34 + 32) = _
  rw [h1, h3, ← h2, List.take_left, List.drop_length_add_append]
  unfold rblk
  rw [List.append_assoc, ← hs, List.append_assoc (bcs x.2.s), List.drop_left]
  show _ = P ++ ((bcs s ++ [x.1, .bool x.2.bad]) ++ S)
  rw [List.append_assoc]
end
/-- What the reference's memory says of the blocks m. -/
structure ROk (m : List Blk) (rb : List RB) (l : List (Value × List Sec)) : Prop where
  eq : rb.map (·.2) = m
  pos : 0 < m.length
  len : m.length ≤ 96
  s32 : ∀ x ∈ rb, x.2.s.length = 32
  v32 : ∀ x ∈ rb, ∀ s ∈ x.2.vs, s.length = 32
  vers : ∀ x ∈ rb, ∃ A c, x.1 = .slice A x.2.vs.length c ∧ ((.slice A x.2.vs.length c, x.2.vs) ∈ l)
theorem ROk.at_ {m : List Blk} {rb : List RB} {l : List (Value × List Sec)} (h : ROk m rb l) {i : Nat} {b : Blk} (hi : m[i]? = some b) : ∃ A c, rb[i]? = some (.slice A b.vs.length c, b) ∧ ((.slice A b.vs.length c, b.vs) ∈ l) := by
  rw [← h.eq, List.getElem?_map, Option.map_eq_some_iff] at hi
  obtain ⟨x, hx, rfl⟩ := hi
  obtain ⟨A, c, h1, h2⟩ := h.vers x (List.mem_of_getElem? hx)
  exact ⟨A, c, by rw [hx, ← h1], h2⟩
theorem ROk.rlen {m : List Blk} {rb : List RB} {l : List (Value × List Sec)} (h : ROk m rb l) : rb.length = m.length := by rw [← h.eq, List.length_map]
/-- The room of the row of blocks. -/
structure Room (m : List Blk) (rb : List RB) (rest : List Value) (cap : Nat) : Prop where
  le : m.length ≤ cap
  max : cap ≤ maxLen
  size : (rbs rb ++ rest).length = cap * 34
def rdiskX (q : Nat) (m : List Blk) (g cap : Nat) (rest : List Value) (rb : List RB) (l : List (Value × List Sec)) : HP :=
  sep (pur (ROk m rb l ∧ Room m rb rest cap)) (seps [pts q (.cells #[.slice (some ⟨g, 0, none⟩) m.length cap] 72), pts g (.cells (rbs rb ++ rest).toArray 69), rdV l])
/-- Block q is the reference's disk of these blocks. -/
def rdiskP (q : Nat) (m : List Blk) : HP := ex fun g => ex fun cap => ex fun rest => ex fun rb => ex fun l => rdiskX q m g cap rest rb l
theorem rdisk_open {w : World} {L : List HP} {q : Nat} {m : List Blk} : Own w (rdiskP q m :: L) ↔ ∃ g cap rest rb l, (ROk m rb l ∧ Room m rb rest cap) ∧ Own w (pts q (.cells #[.slice (some ⟨g, 0, none⟩) m.length cap] 72) :: pts g (.cells (rbs rb ++ rest).toArray 69) :: rdV l :: L) := by
  unfold rdiskP rdiskX
  simp only [own_ex, own_sep, own_pur, own_seps, List.cons_append, List.nil_append]
theorem row_blks : isRowB Try.prog 70 = some false := by kernel_rfl
theorem row_rsecs : isRowB Try.prog 24 = some false := by kernel_rfl
theorem row_rsec : isRowB Try.prog 28 = some true := by kernel_rfl
theorem row_boolD : isRowB Try.prog 4 = some false := by kernel_rfl
theorem sz_rsec : (Try.prog.info? 28).map (·.size) = some 32 := by kernel_rfl
theorem zero_rsec : (Try.prog.info? 28).map (·.zero) = some (some (.agg (Array.replicate 32 (.int .u8 0)))) := by kernel_rfl
theorem info_rsec {s : Sec} (h : s.length = 32) : (Try.prog.info? 28).map (·.size) = some (bcs s).toArray.size := by rw [secA_size h]; exact sz_rsec
section
variable (w : World) (L : List HP) (q : Nat) (m : List Blk)
theorem rmay_ok (i : Nat) (b : Blk) (hO : Own w (rdiskP q m :: L)) (hi : m[i]? = some b) : Calls Try.prog 44 #[.pointer (some ⟨q, 0, none⟩), .int .i64 i] w (Ret w (.int .i64 0) (rdiskP q m :: L)) := by
  have hO0 := hO
  obtain ⟨g, cap, rest, rb, l, hk, hO⟩ := rdisk_open.1 hO
  have hK := Lib.hid hO0
  have hl : i < m.length := (List.getElem?_eq_some_iff.1 hi).1
  have h1 : ¬ ((i : Int) < 0) := by omega
  have h2 : ¬ ((m.length : Int) ≤ i) := by omega
  clear hO0 hk hi
  go_enter Try.func44, Try.ntmps44
  go_wp2_with (first | (apply own_load1 rfl rfl rfl; (first | exact row_blks); (first | exact own_get 0 hO rfl | exact own_get 1 hO rfl | exact own_get 2 hO rfl | exact own_get 3 hO rfl | exact own_get 4 hO rfl | exact own_get 5 hO rfl | exact own_get 6 hO rfl | exact own_get 7 hO rfl); (first | (simp only [List.getElem?_toArray, List.getElem?_cons_succ, List.getElem?_cons_zero]; rfl) | rfl)))
  go_ret
  exact ⟨rfl, hK.out, Same.refl _⟩
theorem rmay_no (i : Int) (hO : Own w (rdiskP q m :: L)) (hi : i < 0 ∨ (m.length : Int) ≤ i) : Calls Try.prog 44 #[.pointer (some ⟨q, 0, none⟩), .int .i64 i] w (Ret w (.int .i64 2) (rdiskP q m :: L)) := by
  have hO0 := hO
  obtain ⟨g, cap, rest, rb, l, hk, hO⟩ := rdisk_open.1 hO
  have hK := Lib.hid hO0
  clear hO0 hk
  rcases hi with h1 | h2
  · go_enter Try.func44, Try.ntmps44
    go_wp2_with (first | (apply own_load1 rfl rfl rfl; (first | exact row_blks); (first | exact own_get 0 hO rfl | exact own_get 1 hO rfl | exact own_get 2 hO rfl | exact own_get 3 hO rfl | exact own_get 4 hO rfl | exact own_get 5 hO rfl | exact own_get 6 hO rfl | exact own_get 7 hO rfl); (first | (simp only [List.getElem?_toArray, List.getElem?_cons_succ, List.getElem?_cons_zero]; rfl) | rfl)))
    go_ret
    exact ⟨rfl, hK.out, Same.refl _⟩
  · have h1 : ¬ (i < 0) := by omega
    go_enter Try.func44, Try.ntmps44
    go_wp2_with (first | (apply own_load1 rfl rfl rfl; (first | exact row_blks); (first | exact own_get 0 hO rfl | exact own_get 1 hO rfl | exact own_get 2 hO rfl | exact own_get 3 hO rfl | exact own_get 4 hO rfl | exact own_get 5 hO rfl | exact own_get 6 hO rfl | exact own_get 7 hO rfl); (first | (simp only [List.getElem?_toArray, List.getElem?_cons_succ, List.getElem?_cons_zero]; rfl) | rfl)))
    go_ret
    exact ⟨rfl, hK.out, Same.refl _⟩
theorem rsize_c (hO : Own w (rdiskP q m :: L)) : Calls Try.prog 30 #[.pointer (some ⟨q, 0, none⟩)] w (Ret w (.int .i64 m.length) (rdiskP q m :: L)) := by
  have hO0 := hO
  obtain ⟨g, cap, rest, rb, l, hk, hO⟩ := rdisk_open.1 hO
  have hK := Lib.hid hO0
  clear hO0 hk
  go_enter Try.func30, Try.ntmps30
  go_wp2_with (first | (apply own_load1 rfl rfl rfl; (first | exact row_blks); (first | exact own_get 0 hO rfl | exact own_get 1 hO rfl | exact own_get 2 hO rfl | exact own_get 3 hO rfl | exact own_get 4 hO rfl | exact own_get 5 hO rfl | exact own_get 6 hO rfl | exact own_get 7 hO rfl); (first | (simp only [List.getElem?_toArray, List.getElem?_cons_succ, List.getElem?_cons_zero]; rfl) | rfl)))
  go_ret
  exact ⟨rfl, hK.out, Same.refl _⟩
theorem rversions_no (i : Int) (hO : Own w (rdiskP q m :: L)) (hi : i < 0 ∨ (m.length : Int) ≤ i) : Calls Try.prog 33 #[.pointer (some ⟨q, 0, none⟩), .int .i64 i] w (Ret w (.int .i64 0) (rdiskP q m :: L)) := by
  have HI := Lib.hid hi
  have hS := Same.refl w
  clear hi
  go_enter Try.func33, Try.ntmps33
  go_wp2_with (first | (go_at_call 44; (with_reducible refine Calls.mono (rmay_no _ _ q m i hO HI.out) ?_); clear hO; rintro e u ⟨rfl, hO, hSn⟩; replace hS := hS.trans hSn; clear hSn))
  go_ret
  exact ⟨rfl, hO, hS⟩
theorem rversions_ok (i : Nat) (b : Blk) (hO : Own w (rdiskP q m :: L)) (hi : m[i]? = some b) : Calls Try.prog 33 #[.pointer (some ⟨q, 0, none⟩), .int .i64 i] w (Ret w (.int .i64 b.vs.length) (rdiskP q m :: L)) := by
  have HI := Lib.hid hi
  have hS := Same.refl w
  clear hi
  go_enter Try.func33, Try.ntmps33
  go_upto_region 3 with (first | (go_at_call 44; (with_reducible refine Calls.mono (rmay_ok _ _ q m i b hO HI.out) ?_); clear hO; rintro e u ⟨rfl, hO, hSn⟩; replace hS := hS.trans hSn; clear hSn))
  have hK := Lib.hid hO
  obtain ⟨g, cap, rest, rb, l, ⟨hk, _⟩, hO⟩ := rdisk_open.1 hO
  obtain ⟨A, c, hrb, _⟩ := hk.at_ HI.out
  have HV := Lib.hid (rb_v (rest := rest) hk.s32 hrb)
  have hl : (i : Int) < m.length := by have := (List.getElem?_eq_some_iff.1 HI.out).1; omega
  clear hk hrb
  go_wp2_with (first | (refine own_load1 (b := g) (off := i * 34 + 32) (v := .slice A b.vs.length c) rfl rfl rfl row_rsecs (own_get 1 hO rfl) HV.out ?_) | (apply own_load1 rfl rfl rfl; (first | exact row_blks); (first | exact own_get 0 hO rfl | exact own_get 1 hO rfl | exact own_get 2 hO rfl | exact own_get 3 hO rfl | exact own_get 4 hO rfl | exact own_get 5 hO rfl | exact own_get 6 hO rfl | exact own_get 7 hO rfl); (first | (simp only [List.getElem?_toArray, List.getElem?_cons_succ, List.getElem?_cons_zero]; rfl) | rfl)))
  go_ret
  exact ⟨rfl, hK.out, hS⟩
end
end Go.Proofs.Ytjilkbkafigloaa.H
set_option linter.unusedVariables false
set_option linter.unusedSimpArgs false
set_option maxRecDepth 100000
namespace Go.Proofs.Ytjilkbkafigloaa.H
open Go.RowKit
theorem ROk.put {m : List Blk} {rb : List RB} {l l' : List (Value × List Sec)} (h : ROk m rb l) (hl : ∀ x ∈ l, x ∈ l') {i : Nat} {b' : Blk} (h1 : b'.s.length = 32) (h2 : ∀ s ∈ b'.vs, s.length = 32) {A : Option Addr} {c : Nat} (h3 : (.slice A b'.vs.length c, b'.vs) ∈ l') : ROk (m.set i b') (rb.set i (.slice A b'.vs.length c, b')) l' where
  eq := by rw [List.map_set, h.eq]
  pos := by rw [List.length_set]; exact h.pos
  len := by rw [List.length_set]; exact h.len
  s32 := fun x hx => by
    rcases List.mem_or_eq_of_mem_set hx with hx | rfl
    · exact h.s32 x hx
    · exact h1
  v32 := fun x hx => by
    rcases List.mem_or_eq_of_mem_set hx with hx | rfl
    · exact h.v32 x hx
    · exact h2
  vers := fun x hx => by
    rcases List.mem_or_eq_of_mem_set hx with hx | rfl
    · obtain ⟨A', c', e1, e2⟩ := h.vers x hx
      exact ⟨A', c', e1, hl _ e2⟩
    · exact ⟨A, c, rfl, h3⟩
theorem Room.put {m : List Blk} {rb : List RB} {l : List (Value × List Sec)} {rest : List Value} {cap : Nat} (h : Room m rb rest cap) (hk : ROk m rb l) {i : Nat} {x : RB} (h1 : x.2.s.length = 32) : Room (m.set i x.2) (rb.set i x) rest cap where
  le := by rw [List.length_set]; exact h.le
  max := h.max
  size := by
    have h2 := h.size
    rw [List.length_append, rbs_length hk.s32] at h2
    rw [List.length_append, rbs_length (fun y hy => by rcases List.mem_or_eq_of_mem_set hy with hy | rfl; exact hk.s32 y hy; exact h1), List.length_set]
    exact h2
theorem build_rsec (w : World) : (Instr.build 28 #[]).run Try.prog w = .ok (secV sec0) w := by
  first | kernel_rfl | (go_simp; done)
theorem own_rbuild0 {ops : Array Oper} {rest : List Oper} {o : Oper} {a : Act} {Q : Exit → Act → World → Prop} {w : World} (hw : Region.wanted o (yielded ops a.tmps) = true) (ho : o.op = .build 28 #[]) (h : wpList Try.prog ops Q rest (a.put o.dst (secV sec0)) w) : wpList Try.prog ops Q (o :: rest) a w := by
  refine ev hw ?_ h
  simp only [execOp, ho]
  simp [build_rsec, Sem.run_bind]
section
variable (w : World) (L : List HP) (q : Nat) (m : List Blk)
theorem rlasting_no (i : Int) (hO : Own w (rdiskP q m :: L)) (hi : i < 0 ∨ (m.length : Int) ≤ i) : Calls Try.prog 32 #[.pointer (some ⟨q, 0, none⟩), .int .i64 i] w (Ret w (.tuple #[secV sec0, .int .i64 2]) (rdiskP q m :: L)) := by
  have HI := Lib.hid hi
  have hS := Same.refl w
  clear hi
  go_enter Try.func32, Try.ntmps32
  go_wp2_with (first | (refine own_alloc (T := 28) rfl rfl zero_rsec rfl hO ?_; clear hO; intro g u hO hSn; replace hS := hS.trans hSn; clear hSn) | (go_at_call 44; (with_reducible refine Calls.mono (call_at 1 (fun L' h => rmay_no _ L' q m i h HI.out) rfl hO) ?_); clear hO; rintro e u ⟨rfl, hO, hSn⟩; replace hS := hS.trans hSn; clear hSn; simp only [List.set_cons_zero, List.set_cons_succ] at hO) | (refine own_rbuild0 rfl rfl ?_) | (refine own_store_all (k := 0) rfl rfl rfl rfl sz_rsec hO rfl (secA_size (by simp)) (by rfl) (bcs_all _) ?_; clear hO; intro u hO hSn; replace hS := hS.trans hSn; clear hSn; simp only [List.set_cons_zero, List.set_cons_succ] at hO))
  refine bodyPost_ret (results_cell_tmp rfl rfl (own_get 0 hO rfl) row_rsec (info_rsec (by simp))) rfl ⟨rfl, own_drop hO, hS⟩
theorem rread_no (i : Int) (hO : Own w (rdiskP q m :: L)) (hi : i < 0 ∨ (m.length : Int) ≤ i) : Calls Try.prog 31 #[.pointer (some ⟨q, 0, none⟩), .int .i64 i] w (Ret w (.tuple #[secV sec0, .int .i64 2]) (rdiskP q m :: L)) := by
  have HI := Lib.hid hi
  have hS := Same.refl w
  clear hi
  go_enter Try.func31, Try.ntmps31
  go_wp2_with (first | (refine own_alloc (T := 28) rfl rfl zero_rsec rfl hO ?_; clear hO; intro g u hO hSn; replace hS := hS.trans hSn; clear hSn) | (go_at_call 44; (with_reducible refine Calls.mono (call_at 1 (fun L' h => rmay_no _ L' q m i h HI.out) rfl hO) ?_); clear hO; rintro e u ⟨rfl, hO, hSn⟩; replace hS := hS.trans hSn; clear hSn; simp only [List.set_cons_zero, List.set_cons_succ] at hO) | (refine own_rbuild0 rfl rfl ?_) | (refine own_store_all (k := 0) rfl rfl rfl rfl sz_rsec hO rfl (secA_size (by simp)) (by rfl) (bcs_all _) ?_; clear hO; intro u hO hSn; replace hS := hS.trans hSn; clear hSn; simp only [List.set_cons_zero, List.set_cons_succ] at hO))
  refine bodyPost_ret (results_cell_tmp rfl rfl (own_get 0 hO rfl) row_rsec (info_rsec (by simp))) rfl ⟨rfl, own_drop hO, hS⟩
theorem rlasting_ok (i : Nat) (b : Blk) (hO : Own w (rdiskP q m :: L)) (hi : m[i]? = some b) : Calls Try.prog 32 #[.pointer (some ⟨q, 0, none⟩), .int .i64 i] w (Ret w (.tuple #[secV b.s, .int .i64 0]) (rdiskP q m :: L)) := by
  have HI := Lib.hid hi
  have hS := Same.refl w
  clear hi
  go_enter Try.func32, Try.ntmps32
  go_upto_region 4 with (first | (refine own_alloc (T := 28) rfl rfl zero_rsec rfl hO ?_; clear hO; intro g u hO hSn; replace hS := hS.trans hSn; clear hSn) | (go_at_call 44; (with_reducible refine Calls.mono (call_at 1 (fun L' h => rmay_ok _ L' q m i b h HI.out) rfl hO) ?_); clear hO; rintro e u ⟨rfl, hO, hSn⟩; replace hS := hS.trans hSn; clear hSn; simp only [List.set_cons_zero, List.set_cons_succ] at hO))
  obtain ⟨g1, cap, rest, rb, l, ⟨hk, hroom⟩, hO⟩ := rdisk_open.1 (own_perm hO (List.Perm.swap _ _ _))
  have HK := Lib.hid (And.intro hk hroom)
  obtain ⟨A, c, hrb, _⟩ := hk.at_ HI.out
  have hb32 := hk.s32 _ (List.mem_of_getElem? hrb)
  have h32 : Hid (b.s.length = 32) := hb32
  have HR := Lib.hid (rb_row (rest := rest) hk.s32 hrb)
  have HF := Lib.hid (rb_fit (rest := rest) hk.s32 hrb)
  have hl : (i : Int) < m.length := by have := (List.getElem?_eq_some_iff.1 HI.out).1; omega
  clear hk hrb hroom hb32
  go_wp2_with (first | (refine own_loadrow (b := g1) (off := i * 34) (vs := bcs b.s) rfl rfl rfl row_rsec sz_rsec (own_get 1 hO rfl) (by have := HF.out; omega) HR.out ?_) | (apply own_load1 rfl rfl rfl; (first | exact row_blks); (first | exact own_get 0 hO rfl | exact own_get 1 hO rfl | exact own_get 2 hO rfl | exact own_get 3 hO rfl | exact own_get 4 hO rfl | exact own_get 5 hO rfl | exact own_get 6 hO rfl | exact own_get 7 hO rfl); (first | (simp only [List.getElem?_toArray, List.getElem?_cons_succ, List.getElem?_cons_zero]; rfl) | rfl)) | (refine own_store_all (k := 3) rfl rfl rfl rfl sz_rsec hO rfl (secA_size h32.out) (by rfl) (bcs_all _) ?_; clear hO; intro u hO hSn; replace hS := hS.trans hSn; clear hSn; simp only [List.set_cons_zero, List.set_cons_succ] at hO))
  refine bodyPost_ret (results_cell_tmp rfl rfl (own_get 3 hO rfl) row_rsec (info_rsec h32.out)) rfl ⟨rfl, ?_, hS⟩
  exact rdisk_open.2 ⟨_, _, _, _, _, HK.out, own_drop (own_at hO (k := 3) rfl)⟩
theorem rread_ok (i : Nat) (b : Blk) (hO : Own w (rdiskP q m :: L)) (hi : m[i]? = some b) : Calls Try.prog 31 #[.pointer (some ⟨q, 0, none⟩), .int .i64 i] w (Ret w (.tuple #[secV b.now, .int .i64 0]) (rdiskP q m :: L)) := by
  have HI := Lib.hid hi
  have hS := Same.refl w
  clear hi
  go_enter Try.func31, Try.ntmps31
  go_upto_region 4 with (first | (refine own_alloc (T := 28) rfl rfl zero_rsec rfl hO ?_; clear hO; intro g u hO hSn; replace hS := hS.trans hSn; clear hSn) | (go_at_call 44; (with_reducible refine Calls.mono (call_at 1 (fun L' h => rmay_ok _ L' q m i b h HI.out) rfl hO) ?_); clear hO; rintro e u ⟨rfl, hO, hSn⟩; replace hS := hS.trans hSn; clear hSn; simp only [List.set_cons_zero, List.set_cons_succ] at hO))
  obtain ⟨g1, cap, rest, rb, l, ⟨hk, hroom⟩, hO⟩ := rdisk_open.1 (own_perm hO (List.Perm.swap _ _ _))
  have HK := Lib.hid (And.intro hk hroom)
  obtain ⟨A, c, hrb, hmem⟩ := hk.at_ HI.out
  have hb32 := hk.s32 _ (List.mem_of_getElem? hrb)
  have h32 : Hid (b.s.length = 32) := hb32
  have HR := Lib.hid (rb_row (rest := rest) hk.s32 hrb)
  have HF := Lib.hid (rb_fit (rest := rest) hk.s32 hrb)
  have HV := Lib.hid (rb_v (rest := rest) hk.s32 hrb)
  have hl : (i : Int) < m.length := by have := (List.getElem?_eq_some_iff.1 HI.out).1; omega
  have hr2 := rdV_rd (own_at hO (k := 2) rfl) hmem
  have hmx := hr2.max
  have hv32 := hk.v32 _ (List.mem_of_getElem? hrb)
  cases hvs : b.vs.getLast? with
  | none =>
    have e0 : b.vs = [] := List.getLast?_eq_none_iff.1 hvs
    have enow : Hid (b.now = b.s) := by show _ = _; simp [Blk.now, hvs]
    rw [e0] at HV
    clear hk hrb hmem hr2 hmx hvs e0 hv32 hroom hb32
    go_wp2_with (first | (refine own_load1 (b := g1) (off := i * 34 + 32) (v := .slice A 0 c) rfl rfl rfl row_rsecs (own_get 1 hO rfl) HV.out ?_) | (refine own_loadrow (b := g1) (off := i * 34) (vs := bcs b.s) rfl rfl rfl row_rsec sz_rsec (own_get 1 hO rfl) (by have := HF.out; omega) HR.out ?_) | (apply own_load1 rfl rfl rfl; (first | exact row_blks); (first | exact own_get 0 hO rfl | exact own_get 1 hO rfl | exact own_get 2 hO rfl | exact own_get 3 hO rfl | exact own_get 4 hO rfl | exact own_get 5 hO rfl | exact own_get 6 hO rfl | exact own_get 7 hO rfl); (first | (simp only [List.getElem?_toArray, List.getElem?_cons_succ, List.getElem?_cons_zero]; rfl) | rfl)) | (refine own_store_all (k := 3) rfl rfl rfl rfl sz_rsec hO rfl (secA_size h32.out) (by rfl) (bcs_all _) ?_; clear hO; intro u hO hSn; replace hS := hS.trans hSn; clear hSn; simp only [List.set_cons_zero, List.set_cons_succ] at hO))
    refine bodyPost_ret (results_cell_tmp rfl rfl (own_get 3 hO rfl) row_rsec (info_rsec h32.out)) rfl ⟨by rw [enow.out]; rfl, ?_, hS⟩
    exact rdisk_open.2 ⟨_, _, _, _, _, HK.out, own_drop (own_at hO (k := 3) rfl)⟩
  | some s =>
    have hne : b.vs ≠ [] := fun e => by rw [e] at hvs; cases hvs
    have hlen : 0 < b.vs.length := List.length_pos_iff.2 hne
    have hat : b.vs[b.vs.length - 1]? = some s := by rw [← List.getLast?_eq_getElem?]; exact hvs
    have enow : Hid (b.now = s) := by show _ = _; simp [Blk.now, hvs]
    have h32s : Hid (s.length = 32) := hv32 s (List.mem_of_getElem? hat)
    obtain ⟨ad2, rfl, hc2⟩ := vers_cell hr2 hv32 hat
    have HC2 := Lib.hid hc2
    have hlt : ((b.vs.length - 1 : Nat) : Int) < b.vs.length := by omega
    have hpos : (0 : Int) < b.vs.length := by omega
    have hsub : IntKind.i64.wrap ((b.vs.length : Int) - 1) = ((b.vs.length - 1 : Nat) : Int) := by rw [IntKind.wrap_i64] <;> omega
    clear hk hrb hmem hr2 hvs hc2 hat hv32 hne hlen hroom hb32
    go_wp2_with (first | (refine own_load1 (b := g1) (off := i * 34 + 32) (v := .slice (some ad2) b.vs.length c) rfl rfl rfl row_rsecs (own_get 1 hO rfl) HV.out ?_) | (refine own_loadrow_at (ad := ad2.add ((b.vs.length - 1) * 32)) (vs := bcs s) rfl rfl rfl row_rsec sz_rsec (by rw [bcs_length]; exact h32s.out) HC2.out ?_) | (apply own_load1 rfl rfl rfl; (first | exact row_blks); (first | exact own_get 0 hO rfl | exact own_get 1 hO rfl | exact own_get 2 hO rfl | exact own_get 3 hO rfl | exact own_get 4 hO rfl | exact own_get 5 hO rfl | exact own_get 6 hO rfl | exact own_get 7 hO rfl); (first | (simp only [List.getElem?_toArray, List.getElem?_cons_succ, List.getElem?_cons_zero]; rfl) | rfl)) | (refine own_store_all (k := 3) rfl rfl rfl rfl sz_rsec hO rfl (secA_size h32s.out) (by rfl) (bcs_all _) ?_; clear hO; intro u hO hSn; replace hS := hS.trans hSn; clear hSn; simp only [List.set_cons_zero, List.set_cons_succ] at hO))
    refine bodyPost_ret (results_cell_tmp rfl rfl (own_get 3 hO rfl) row_rsec (info_rsec h32s.out)) rfl ⟨by rw [enow.out]; rfl, ?_, hS⟩
    exact rdisk_open.2 ⟨_, _, _, _, _, HK.out, own_drop (own_at hO (k := 3) rfl)⟩
theorem rspoil_no (i : Int) (bad : Bool) (hO : Own w (rdiskP q m :: L)) (hi : i < 0 ∨ (m.length : Int) ≤ i) : Calls Try.prog 43 #[.pointer (some ⟨q, 0, none⟩), .int .i64 i, .bool bad] w (Ret w (.int .i64 2) (rdiskP q m :: L)) := by
  have HI := Lib.hid hi
  have hS := Same.refl w
  clear hi
  go_enter Try.func43, Try.ntmps43
  go_wp2_with (first | (go_at_call 44; (with_reducible refine Calls.mono (rmay_no _ _ q m i hO HI.out) ?_); clear hO; rintro e u ⟨rfl, hO, hSn⟩; replace hS := hS.trans hSn; clear hSn))
  go_ret
  exact ⟨rfl, hO, hS⟩
end
end Go.Proofs.Ytjilkbkafigloaa.H
set_option linter.unusedVariables false
set_option linter.unusedSimpArgs false
set_option maxRecDepth 100000
namespace Go.Proofs.Ytjilkbkafigloaa.H
open Go.RowKit
theorem info_blk3 : (Try.prog.info? 69).map (fun i => (i.zero, i.size, i.bytes)) = some (some (.agg (rblk (.slice none 0 0) ⟨sec0, [], false⟩).toArray), 34, 64) := by kernel_rfl
theorem sz_boolD : (Try.prog.info? 4).map (·.size) = some 1 := by kernel_rfl
theorem rep_flat {r : List Value} {k : Nat} (hr : r.length = k) : ∀ (n i : Nat), i < n * k → (List.replicate n r).flatten[i]? = r[i % k]?
  | 0, i, h => by omega
  | n + 1, i, h => by
    rw [List.replicate_succ, List.flatten_cons]
    by_cases hi : i < k
    · rw [List.getElem?_append_left (by omega), Nat.mod_eq_of_lt hi]
    · rw [List.getElem?_append_right (by omega), hr, rep_flat hr n (i - k) (by rw [Nat.succ_mul] at h; omega), Nat.mod_eq_sub_mod (a := i) (by omega)]
theorem made_rows {r : List Value} {k : Nat} (hr : r.length = k) (hk : 0 < k) (n : Nat) : madeCells r.toArray (n * k) = (List.replicate n r).flatten.toArray := by
  apply Array.ext'
  refine List.ext_getElem? (fun i => ?_)
  have hl : (List.replicate n r).flatten.length = n * k := by simp [hr]
  simp only [madeCells, Array.toList_map, Array.toList_range]
  by_cases h : i < n * k
  · show _ = (List.replicate n r).flatten[i]?
    have hm : i % k < r.length := by rw [hr]; exact Nat.mod_lt _ hk
    rw [rep_flat hr n i h, List.getElem?_map, List.getElem?_range h, List.getElem?_eq_getElem hm]
    simp only [Option.map_some, List.size_toArray, hr]
    rw [getElem!_pos _ _ (by simpa using hm)]
    simp
  · rw [List.getElem?_eq_none (by simp; omega)]
    show _ = (List.replicate n r).flatten[i]?
    rw [List.getElem?_eq_none (by omega)]
theorem rbs_rep (n : Nat) (x : RB) : rbs (List.replicate n x) = (List.replicate n (rblk x.1 x.2)).flatten := by
  unfold rbs
  rw [List.flatMap_def, List.map_replicate]
theorem made_blks (n : Nat) : madeCells (Value.agg (rblk (.slice none 0 0) ⟨sec0, [], false⟩).toArray).cells (n * 34) = (rbs (List.replicate n (.slice none 0 0, ⟨sec0, [], false⟩))).toArray := by
  rw [rbs_rep]
  exact made_rows (rblk_len (by simp)) (by decide) n
section
variable (w : World) (L : List HP) (q : Nat) (m : List Blk)
theorem rspoil_ok (i : Nat) (b : Blk) (bad : Bool) (hO : Own w (rdiskP q m :: L)) (hi : m[i]? = some b) : Calls Try.prog 43 #[.pointer (some ⟨q, 0, none⟩), .int .i64 i, .bool bad] w (Ret w (.int .i64 0) (rdiskP q (m.set i ⟨b.s, b.vs, bad⟩) :: L)) := by
  have HI := Lib.hid hi
  have hS := Same.refl w
  clear hi
  go_enter Try.func43, Try.ntmps43
  go_upto_region 3 with (first | (go_at_call 44; (with_reducible refine Calls.mono (rmay_ok _ _ q m i b hO HI.out) ?_); clear hO; rintro e u ⟨rfl, hO, hSn⟩; replace hS := hS.trans hSn; clear hSn))
  obtain ⟨g1, cap, rest, rb, l, ⟨hk, hroom⟩, hO⟩ := rdisk_open.1 hO
  obtain ⟨A, c, hrb, hmem⟩ := hk.at_ HI.out
  have HF := Lib.hid (rb_fit (rest := rest) hk.s32 hrb)
  have hb32 : b.s.length = 32 := hk.s32 _ (List.mem_of_getElem? hrb)
  have hv32 : ∀ s ∈ b.vs, s.length = 32 := hk.v32 _ (List.mem_of_getElem? hrb)
  have HK : Hid (ROk (m.set i ⟨b.s, b.vs, bad⟩) (rb.set i (.slice A b.vs.length c, ⟨b.s, b.vs, bad⟩)) l ∧ Room (m.set i ⟨b.s, b.vs, bad⟩) (rb.set i (.slice A b.vs.length c, ⟨b.s, b.vs, bad⟩)) rest cap) := Lib.hid ⟨hk.put (b' := ⟨b.s, b.vs, bad⟩) (fun _ h => h) hb32 hv32 hmem, hroom.put (x := (.slice A b.vs.length c, ⟨b.s, b.vs, bad⟩)) hk hb32⟩
  have HB := Lib.hid (rb_setb (rest := rest) hk.s32 hrb bad)
  have hl : (i : Int) < m.length := by have := (List.getElem?_eq_some_iff.1 HI.out).1; omega
  clear hk hrb hroom hmem hb32 hv32
  go_wp2_with (first | (apply own_load1 rfl rfl rfl; (first | exact row_blks); (first | exact own_get 0 hO rfl | exact own_get 1 hO rfl | exact own_get 2 hO rfl | exact own_get 3 hO rfl | exact own_get 4 hO rfl | exact own_get 5 hO rfl | exact own_get 6 hO rfl | exact own_get 7 hO rfl); (first | (simp only [List.getElem?_toArray, List.getElem?_cons_succ, List.getElem?_cons_zero]; rfl) | rfl)) | (refine own_store1 (k := 1) (b := g1) (off := i * 34 + 33) rfl rfl rfl rfl sz_boolD hO rfl rfl (by have := HF.out; omega) HB.out ?_; clear hO; intro u hO hSn; replace hS := hS.trans hSn; clear hSn; simp only [List.set_cons_zero, List.set_cons_succ] at hO))
  go_ret
  refine ⟨rfl, rdisk_open.2 ⟨g1, cap, rest, _, l, HK.out, ?_⟩, hS⟩
  rw [List.length_set]
  exact hO
theorem rnew_no (n : Int) (hO : Own w L) (h : n < 1 ∨ 96 < n) : Calls Try.prog 29 #[.int .i64 n] w (Ret w (.pointer none) L) := by
  by_cases h1 : n < 1
  · clear h
    go_enter Try.func29, Try.ntmps29
    go_wp2
    go_ret
    exact ⟨rfl, hO, Same.refl _⟩
  · have h2 : 96 < n := by omega
    clear h
    go_enter Try.func29, Try.ntmps29
    go_wp2
    go_ret
    exact ⟨rfl, hO, Same.refl _⟩
theorem rnew_close {w : World} {L : List HP} {q g n : Nat} (h0 : 0 < n) (h : n ≤ 96) (hO : Own w (pts q (.cells #[.slice (some ⟨g, 0, none⟩) n n] 72) :: pts g (.cells (rbs (List.replicate n (.slice none 0 0, ⟨sec0, [], false⟩))).toArray 69) :: L)) : Own w (rdiskP q (fresh (List.replicate n sec0)) :: L) := by
  have hs : ∀ x ∈ List.replicate n ((.slice none 0 0, ⟨sec0, [], false⟩) : RB), x.2.s.length = 32 := fun x hx => by rw [List.eq_of_mem_replicate hx]; simp
  refine rdisk_open.2 ⟨g, n, [], List.replicate n (.slice none 0 0, ⟨sec0, [], false⟩), [(.slice none 0 0, [])], ⟨⟨?_, ?_, ?_, hs, ?_, ?_⟩, ⟨?_, ?_, ?_⟩⟩, ?_⟩
  · simp [fresh]
  · simpa [fresh] using h0
  · simpa [fresh] using h
  · intro x hx; rw [List.eq_of_mem_replicate hx]; simp
  · intro x hx; rw [List.eq_of_mem_replicate hx]; exact ⟨none, 0, rfl, by simp⟩
  · simp [fresh]
  · unfold maxLen; omega
  · rw [List.append_nil, rbs_length hs, List.length_replicate]
  · rw [List.append_nil]
    have e : (fresh (List.replicate n sec0)).length = n := by simp [fresh]
    rw [e]
    have h2 := rdV_cons (l := []) (v := .slice none 0 0) (ss := []) (rdA_nil (size := 32) (rdV_nil hO))
    exact own_perm h2 ((List.Perm.swap _ _ _).trans (List.Perm.cons _ (List.Perm.swap _ _ _)))
theorem rnew_ok (n : Nat) (hO : Own w L) (h0 : 0 < n) (h : n ≤ 96) : Calls Try.prog 29 #[.int .i64 n] w (RetX w (fun d : Nat => .pointer (some ⟨d, 0, none⟩)) (fun d => rdiskP d (fresh (List.replicate n sec0)) :: L)) := by
  have h1 : ¬ ((n : Int) < 1) := by omega
  have h2 : ¬ (96 < (n : Int)) := by omega
  have H0 := Lib.hid h0
  have HN := Lib.hid h
  have hS := Same.refl w
  clear h0 h
  go_enter Try.func29, Try.ntmps29
  go_wp2_with (first | (at_make; refine own_make (n := n) rfl rfl rfl rfl Try.underlying70 info_blk3 (by have := HN.out; omega) (by have := HN.out; omega) (made_blks n) hO ?_; clear hO; intro g u hO hSn; replace hS := hS.trans hSn; clear hSn) | (refine own_box_agg (x := .tmp 11) rfl rfl rfl hO ?_; clear hO; intro q u hO hSn; replace hS := hS.trans hSn; clear hSn))
  go_ret
  have h := rnew_close H0.out HN.out hO
  simp only [fresh, List.map_replicate] at h
  exact ⟨q, rfl, h, hS⟩
theorem rload_no (A : Option Addr) (n c : Nat) (hO : Own w L) (h : n = 0 ∨ 96 < n) : Calls Try.prog 12 #[.slice A n c] w (Ret w (.pointer none) L) := by
  have hS := Same.refl w
  have hn : (n : Int) < 1 ∨ 96 < (n : Int) := by omega
  have HN := Lib.hid hn
  clear h hn
  go_enter Try.func12, Try.ntmps12
  go_wp2_with (first | (go_at_call 29; (with_reducible refine Calls.mono (rnew_no _ _ n hO HN.out) ?_); clear hO; rintro e u ⟨rfl, hO, hSn⟩; replace hS := hS.trans hSn; clear hSn))
  go_loopw [4] (fun i wr => i = .int .i64 0 ∧ Own wr L ∧ Same w wr) (fun i _ => 0)
  case atStart => exact ⟨rfl, hO, hS⟩
  case round =>
    clear hO hS
    obtain ⟨rfl, hO, hS⟩ := hrel
    go_wp2
    go_ret
    exact ⟨rfl, hO, hS⟩
set_option maxHeartbeats 1600000 in
theorem rload_ok (v : Value) (l : List Sec) (hO : Own w L) (hr : ∀ w', Own w' L → Rd w' 32 v l.length (secs l)) (h0 : 0 < l.length) (hl : l.length ≤ 96) (h32 : ∀ s ∈ l, s.length = 32) :
    Calls Try.prog 12 #[v] w (RetX w (fun d : Nat => .pointer (some ⟨d, 0, none⟩)) (fun d => rdiskP d (fresh l) :: L)) := by
  obtain ⟨A, c, rfl⟩ := (hr w hO).slice
  obtain ⟨ad, rfl⟩ := (hr w hO).addr (by rw [secs_length h32]; omega)
  have HR := Lib.hid hr
  have H0 := Lib.hid h0
  have HL := Lib.hid hl
  have H32 := Lib.hid h32
  have hS := Same.refl w
  clear hr h0 hl h32
  go_enter Try.func12, Try.ntmps12
  go_wp2_with (first | (go_at_call 29; (with_reducible refine Calls.mono (rnew_ok _ _ l.length hO H0.out HL.out) ?_); clear hO; rintro e u ⟨q, rfl, hO, hSn⟩; replace hS := hS.trans hSn; clear hSn))
  go_loopw [4] (fun i wr => ∃ k : Nat, k ≤ l.length ∧ i = .int .i64 k ∧ Own wr (rdiskP q (fresh (l.take k ++ List.replicate (l.length - k) sec0)) :: L) ∧ Same w wr) (fun i _ => l.length - (intOf i).toNat)
  case atStart => exact ⟨0, Nat.zero_le _, rfl, hO, hS⟩
  case round =>
    clear hO hS
    obtain ⟨k, hk, rfl, hO, hS⟩ := hrel
    by_cases hlt : k < l.length
    · obtain ⟨s, hs⟩ : ∃ s, l[k]? = some s := ⟨_, List.getElem?_eq_getElem hlt⟩
      have hs32 : s.length = 32 := H32.out s (List.mem_of_getElem? hs)
      generalize hm : fresh (l.take k ++ List.replicate (l.length - k) sec0) = m at hO
      have hml : m.length = l.length := by rw [← hm]; simp [fresh]; omega
      have hmk : m[k]? = some ⟨sec0, [], false⟩ := by
        rw [← hm]
        simp only [fresh, List.getElem?_map]
        rw [List.getElem?_append_right (by simp; omega)]
        simp [Nat.min_eq_left hk, List.getElem?_replicate, hlt]
        omega
      have hnext : Hid (m.set k ⟨s, [], false⟩ = fresh (l.take (k + 1) ++ List.replicate (l.length - (k + 1)) sec0)) := by
        show _ = _
        rw [← hm, List.take_add_one, hs]
        simp only [fresh, List.map_append]
        rw [List.set_append_right _ _ (by simp [Nat.min_eq_left hk])]
        simp only [List.length_map, List.length_take, Nat.min_eq_left hk, Nat.sub_self]
        rw [show l.length - k = (l.length - (k + 1)) + 1 by omega, List.replicate_succ]
        simp
      have hO0 := hO
      obtain ⟨g1, cap, rest, rb, lv, ⟨hok, hroom⟩, hO⟩ := rdisk_open.1 hO
      obtain ⟨A2, c2, hrb, hmem⟩ := hok.at_ hmk
      have HF := Lib.hid (rb_fit (rest := rest) hok.s32 hrb)
      have HST := Lib.hid (rb_sets (rest := rest) hok.s32 hrb s)
      have HK : Hid (ROk (m.set k ⟨s, [], false⟩) (rb.set k (.slice A2 0 c2, ⟨s, [], false⟩)) lv ∧ Room (m.set k ⟨s, [], false⟩) (rb.set k (.slice A2 0 c2, ⟨s, [], false⟩)) rest cap) := Lib.hid ⟨hok.put (b' := ⟨s, [], false⟩) (fun _ h => h) hs32 (fun s hs => by simp at hs) hmem, hroom.put (x := (.slice A2 0 c2, ⟨s, [], false⟩)) hok hs32⟩
      have H32s := Lib.hid hs32
      have hk1 : (k : Int) < l.length := by omega
      have hk2 : (k : Int) < m.length := by omega
      obtain ⟨_, A', c', e, _, _, hcl⟩ := (HR.out _ (own_drop (own_drop (own_drop hO)))).out
      cases e
      have HC : Hid (∀ w', Own w' (pts q (.cells #[.slice (some ⟨g1, 0, none⟩) m.length cap] 72) :: pts g1 (.cells (rbs rb ++ rest).toArray 69) :: rdV lv :: L) → ∀ (j : Nat) (u : Value), (bcs s)[j]? = some u → w'.cell? ((ad.add (k * 32)).add j) = some u) := Lib.hid fun w' h => by
        obtain ⟨ad3, e3, h3⟩ := vers_cell (HR.out _ (own_drop (own_drop (own_drop h)))) H32.out hs
        cases e3
        exact h3
      clear hok hroom hrb hmem hs32 hmk hm hO0 hcl hs
      go_upto_region 5 with fail
      refine wp_region_seq (Cls _ (_)) 11 30 mixed (by kernel_rfl) rfl (cls_drew hO) ?_
      simp only [List.append_eq, List.cons_append, List.nil_append, List.take_succ_cons, List.take_zero]
      repeat (first
        | (apply wv_skip rfl; simp only [Act.put, List.setIfInBounds_toArray, List.set_cons_zero, List.set_cons_succ])
        | (refine wv_load1 (b := q) (off := 0) (cs := #[.slice (some ⟨g1, 0, none⟩) m.length cap]) (t := 72) (v := .slice (some ⟨g1, 0, none⟩) m.length cap) rfl rfl rfl row_blks (fun w h => own_get 0 h.1 rfl) rfl ?_; simp only [Act.put, List.setIfInBounds_toArray, List.set_cons_zero, List.set_cons_succ])
        | (refine wv_loadrow_at (ad := ad.add (k * 32)) (vs := bcs s) rfl rfl rfl row_rsec sz_rsec (by rw [bcs_length]; exact H32s.out) (fun w h => HC.out w h.1) ?_; simp only [Act.put, List.setIfInBounds_toArray, List.set_cons_zero, List.set_cons_succ])
        | (apply wv_load1 rfl rfl rfl; (first | exact row_int | exact row_str | exact row_bool | exact row_u8 | exact row_bys | exact row_pats | exact row_err); (intro w h; (first | exact own_get 0 h.1 rfl | exact own_get 1 h.1 rfl | exact own_get 2 h.1 rfl | exact own_get 3 h.1 rfl | exact own_get 4 h.1 rfl | exact own_get 5 h.1 rfl | exact own_get 6 h.1 rfl | exact own_get 7 h.1 rfl)); (first | (simp only [List.getElem?_toArray, List.getElem?_cons_succ, List.getElem?_cons_zero]; rfl) | rfl); simp only [Act.put, List.setIfInBounds_toArray, List.set_cons_zero, List.set_cons_succ])
        | (apply wv_loadrow rfl rfl rfl; (first | exact row_pat); exact sz_pat; (intro w h; (first | exact own_get 0 h.1 rfl | exact own_get 1 h.1 rfl | exact own_get 2 h.1 rfl | exact own_get 3 h.1 rfl | exact own_get 4 h.1 rfl | exact own_get 5 h.1 rfl | exact own_get 6 h.1 rfl | exact own_get 7 h.1 rfl)); (focus (simp; done)); (first | (simp only [List.drop_zero, List.drop_succ_cons, List.take_succ_cons, List.take_zero]; rfl) | rfl); simp only [Act.put, List.setIfInBounds_toArray, List.set_cons_zero, List.set_cons_succ])
        | (apply wv_run rfl; (focus (intro w h; go_simp; first | done | rfl)); simp only [Act.put, List.setIfInBounds_toArray, List.set_cons_zero, List.set_cons_succ])
        | (apply wv_call rfl; (focus (intro w; go_simp; first | done | exact ⟨rfl, rfl⟩)); (focus (intro w h; apply cls_call h; fail)); simp only [Act.put, List.setIfInBounds_toArray, List.set_cons_zero, List.set_cons_succ]))
      refine wv_nil ?_
      simp only [List.drop_succ_cons, List.drop_zero]
      intro w10 ⟨hO10, hS10⟩
      replace hS := hS.trans hS10
      clear hO hS10
      refine own_store (k := 1) (b := g1) (off := k * 34) (n := 32) (v := secV s) (vs := bcs s) rfl rfl rfl rfl sz_rsec hO10 rfl rfl (by rw [bcs_length]; exact H32s.out) (bcs_one s) (by have := HF.out; omega) HST.out ?_
      intro w11 hO hS11
      replace hS := hS.trans hS11
      clear hO10 hS11
      refine wpList_nil ?_
      simp only [Act.put, List.setIfInBounds_toArray, List.set_cons_zero, List.set_cons_succ]
      try simp only [Exit.then]
      go_wp2
      go_roundw
      case rel =>
        refine ⟨k + 1, by omega, by go_num, ?_, hS⟩
        rw [← hnext.out]
        refine rdisk_open.2 ⟨g1, cap, rest, _, lv, HK.out, ?_⟩
        rw [List.length_set]
        exact hO
      case measure => simp [intOf]; omega
    · have hke : k = l.length := by omega
      subst hke
      rw [List.take_length, Nat.sub_self, List.replicate_zero, List.append_nil] at hO
      go_wp2
      go_ret
      exact ⟨q, rfl, hO, hS⟩
end
end Go.Proofs.Ytjilkbkafigloaa.H
set_option linter.unusedVariables false
set_option linter.unusedSimpArgs false
namespace Go.Proofs.Ytjilkbkafigloaa.H
open Go.RowKit
/-- What is owned: bA till t is done, then bB; and what is handed over. -/
def stB (t : Nat) (bA : List HP) (bB : (Nat → Value) → List HP) (cs : List Ent) (D : Nat → Bool) (x : Nat → Value) : List HP := (if D t then bB x else bA) ++ owL cs D x
theorem stB_no {t : Nat} {bA : List HP} {bB : (Nat → Value) → List HP} {cs : List Ent} {D : Nat → Bool} {x : Nat → Value} (h : D t = false) : stB t bA bB cs D x = bA ++ owL cs D x := by unfold stB; rw [h]; rfl
theorem stB_yes {t : Nat} {bA : List HP} {bB : (Nat → Value) → List HP} {cs : List Ent} {D : Nat → Bool} {x : Nat → Value} (h : D t = true) : stB t bA bB cs D x = bB x ++ owL cs D x := by unfold stB; rw [h]; rfl
theorem owL_till {cs : List Ent} {D : Nat → Bool} {x : Nat → Value} {t : Nat} (hD : ∀ i, i < t → D i = true) (ht : D t = false) (hb : cs.all (fun c => decide (c.1 < t) && (match c.2.1 with | none => true | some j => decide (j ≤ t))) = true) : owL cs D x = (cs.filter fun c => c.2.1.isNone || c.2.1 == some t).map fun c => c.2.2 (x c.1) := by
  induction cs with
  | nil => rfl
  | cons c cs ih =>
    simp only [List.all_cons, Bool.and_eq_true, decide_eq_true_eq] at hb
    rw [owL_cons, ih hb.2]
    obtain ⟨i, con, A⟩ := c
    have h1 := hD i hb.1.1
    cases con with
    | none => simp [live, h1, mk]
    | some j =>
      have hj : j ≤ t := by simpa using hb.1.2
      by_cases e : j = t
      · subst e; simp [live, h1, ht, mk]
      · have h2 := hD j (by omega)
        simp [live, h1, h2, mk, e]
section
variable {P : Program} {Q : Exit → Act → World → Prop}
theorem fs_lift {l : List Oper} {a : Act} {vs : (Nat → Value) → List Value} {bA : List HP} {bB : (Nat → Value) → List HP} {cs : List Ent} {w0 : World} {i : Nat} {o : Oper} (t : Nat) (hne : t ≠ i) (hb : (behL l i).getD t false = true)
    (h : FS P l Q a vs (fun D x => bA ++ owL cs D x) w0 i o) : FS P l Q a vs (stB t bA bB cs) w0 i o := by
  intro D x w hD hcl hp hO hS
  have ht : D t = false := behL_ok hcl hD hb
  have ht2 : upd D i t = false := by unfold upd; rw [if_neg hne]; exact ht
  rw [stB_no ht] at hO
  have := h D x w hD hcl hp hO hS
  simp only [stB_no ht2]
  exact this
theorem fs_end {l : List Oper} {a : Act} {vs : (Nat → Value) → List Value} {bA : List HP} {bB : (Nat → Value) → List HP} {cs : List Ent} {w0 : World} {t : Nat} {o : Oper} (ho : l.toArray[t]? = some o) (hd : o.dst = none) (hall : (List.range t).all (fun j => (behL l j).getD t false) = true) (hb : cs.all (fun c => decide (c.1 < t) && (match c.2.1 with | none => true | some j => decide (j ≤ t))) = true)
    (hc : ∀ x w, Own w (bA ++ (cs.filter fun c => c.2.1.isNone || c.2.1 == some t).map fun c => c.2.2 (x c.1)) → Same w0 w → ∀ N : Exit → Act → World → Prop,
      (∀ (a' : Act) w', a'.defers = a.defers → Own w' (bB x ++ (cs.filter fun c => c.2.1.isNone).map fun c => c.2.2 (x c.1)) → Same w w' → wpList P l.toArray N [] a' w') → wpList P l.toArray N [o] (putO a l (vs x)) w) :
    FS P l Q a vs (stB t bA bB cs) w0 t o := by
  intro D x w hD hcl hp hO hS
  have hall' : ∀ j, j < t → D j = true := fun j hj => by
    have := List.all_eq_true.1 hall j (List.mem_range.2 hj)
    exact ahead_yes ho hcl hp (by omega) this
  rw [stB_no hD, owL_till hall' hD hb] at hO
  refine hc x w hO hS _ (fun a' w' hdf hO' hS' => ?_)
  refine wpList_nil ⟨hdf, x, fun _ _ => rfl, fun d hd' _ => (by rw [hd] at hd'; cases hd'), ?_, hS.trans hS'⟩
  have ht2 : upd D t t = true := by simp [upd]
  have h2 : ∀ j, j < t + 1 → upd D t j = true := fun j hj => by
    unfold upd
    by_cases e : j = t
    · rw [if_pos e]
    · rw [if_neg e]; exact hall' j (by omega)
  rw [stB_yes ht2, owL_end h2 (by
    rw [List.all_eq_true] at hb ⊢
    intro c hcm
    have := hb c hcm
    simp only [Bool.and_eq_true, decide_eq_true_eq] at this ⊢
    refine ⟨by omega, ?_⟩
    cases hcc : c.2.1 with
    | none => rfl
    | some j =>
      have h3 := this.2
      rw [hcc] at h3
      simp only [decide_eq_true_eq] at h3
      simp only [decide_eq_true_eq]
      omega)]
  exact hO'
/-- The same with nothing handed over; some operations may come behind the store. -/
def st0 (t : Nat) (bA bB : List HP) (D : Nat → Bool) (_ : Unit) : List HP := if D t then bB else bA
theorem fs_lift0 {l : List Oper} {a : Act} {vs : Unit → List Value} {bA bB : List HP} {w0 : World} {i : Nat} {o : Oper} (t : Nat) (hne : t ≠ i) (hb : (behL l i).getD t false = true)
    (h : FS P l Q a vs (fun _ _ => bA) w0 i o) : FS P l Q a vs (st0 t bA bB) w0 i o := by
  intro D x w hD hcl hp hO hS
  have ht : D t = false := behL_ok hcl hD hb
  have ht2 : upd D i t = false := by unfold upd; rw [if_neg hne]; exact ht
  have e1 : st0 t bA bB D x = bA := by unfold st0; rw [ht]; rfl
  have e2 : st0 t bA bB (upd D i) = fun _ => bA := funext fun x' => by unfold st0; rw [ht2]; rfl
  rw [e1] at hO
  have := h D x w hD hcl hp hO hS
  rw [e2]
  exact this
theorem fs_free0 {l : List Oper} {a : Act} {vs : Unit → List Value} {bA bB : List HP} {w0 : World} {i : Nat} {o : Oper} (t : Nat) (hne : t ≠ i)
    (hy : ∀ D x, D i = false → (∀ (j : Nat) (oj : Oper), l.toArray[j]? = some oj → D j = true → ∀ e ∈ oj.after, Region.binds .any e = true → D e.on = true) → (∀ e ∈ o.after, Region.binds .any e = true → D e.on = true) → YieldsIn P l.toArray (Cls w0 (st0 t bA bB D x)) o ((vs x).getD i undef) (putO a l (vs x))) : FS P l Q a vs (st0 t bA bB) w0 i o :=
  fs_pure (fun D x => by
    have : upd D i t = D t := by unfold upd; rw [if_neg hne]
    unfold st0
    rw [this]) hy
theorem fs_end0 {l : List Oper} {a : Act} {vs : Unit → List Value} {bA bB : List HP} {w0 : World} {t : Nat} {o : Oper} (hd : o.dst = none)
    (hc : ∀ w, Own w bA → Same w0 w → ∀ N : Exit → Act → World → Prop,
      (∀ (a' : Act) w', a'.defers = a.defers → Own w' bB → Same w w' → wpList P l.toArray N [] a' w') → wpList P l.toArray N [o] (putO a l (vs ())) w) :
    FS P l Q a vs (st0 t bA bB) w0 t o := by
  intro D x w hD hcl hp hO hS
  have e1 : st0 t bA bB D x = bA := by unfold st0; rw [hD]; rfl
  rw [e1] at hO
  refine hc w hO hS _ (fun a' w' hdf hO' hS' => ?_)
  refine wpList_nil ⟨hdf, x, fun _ _ => rfl, fun d hd' _ => (by rw [hd] at hd'; cases hd'), ?_, hS.trans hS'⟩
  have ht2 : upd D t t = true := by simp [upd]
  have e2 : st0 t bA bB (upd D t) x = bB := by unfold st0; rw [ht2]; rfl
  rw [e2]
  exact hO'
end
end Go.Proofs.Ytjilkbkafigloaa.H
