/- Pure laws of a disk's maps; append onto a full slice that is read; slices.Clip. -/
import Derived.Test.YtjilkbkafigloaaK3
import Derived.ArgAppend
set_option linter.unusedVariables false
set_option linter.unusedSimpArgs false
set_option maxRecDepth 100000
namespace Go.Proofs.Ytjilkbkafigloaa.H
open Go.RowKit
theorem mset_nil (k : Int) (v : Value) : mset [] k v = [(k, v)] := rfl
theorem mset_cons (q : Int × Value) (f : List (Int × Value)) (k : Int) (v : Value) : mset (q :: f) k v = if q.1 = k then (k, v) :: f else q :: mset f k v := by
  unfold mset
  rw [List.findIdx?_cons]
  by_cases h : q.1 = k
  · simp [h]
  · simp only [h, decide_false, if_false, Bool.false_eq_true]
    cases f.findIdx? (fun q => decide (q.1 = k)) <;> simp
theorem mget_nil (k : Int) : mget [] k = none := rfl
theorem mget_cons (q : Int × Value) (f : List (Int × Value)) (k : Int) : mget (q :: f) k = if q.1 = k then some q.2 else mget f k := by
  unfold mget
  rw [List.find?_cons]
  by_cases h : q.1 = k <;> simp [h]
theorem mget_mset {f : List (Int × Value)} {k : Int} {v : Value} (k' : Int) : mget (mset f k v) k' = if k' = k then some v else mget f k' := by
  induction f with
  | nil =>
    rw [mset_nil, mget_cons, mget_nil]
    by_cases h : k' = k
    · simp [h]
    · have h1 : ¬ k = k' := fun e => h e.symm
      simp [h, h1]
  | cons q f ih =>
    rw [mset_cons]
    by_cases hq : q.1 = k
    · rw [if_pos hq, mget_cons, mget_cons]
      by_cases h : k' = k
      · simp [h]
      · have h1 : ¬ k = k' := fun e => h e.symm
        have h2 : ¬ q.1 = k' := fun e => h (by rw [← e, hq])
        simp [h, h1, h2]
    · rw [if_neg hq, mget_cons, ih, mget_cons]
      by_cases h : k' = k
      · subst h; simp [hq]
      · simp [h]
theorem mem_mset {f : List (Int × Value)} {k : Int} {v : Value} {q : Int × Value} (h : q ∈ mset f k v) : q = (k, v) ∨ q ∈ f := by
  induction f with
  | nil => rw [mset_nil] at h; simpa using h
  | cons x f ih =>
    rw [mset_cons] at h
    split at h
    · rcases List.mem_cons.1 h with h | h
      · exact .inl h
      · exact .inr (List.mem_cons_of_mem _ h)
    · rcases List.mem_cons.1 h with h | h
      · exact .inr (h ▸ List.mem_cons_self ..)
      · rcases ih h with h | h
        · exact .inl h
        · exact .inr (List.mem_cons_of_mem _ h)
theorem mget_mdel {f : List (Int × Value)} {k : Int} (k' : Int) : mget (mdel f k) k' = if k' = k then none else mget f k' := by
  induction f with
  | nil => simp [mdel, mget_nil]
  | cons q f ih =>
    have e : mdel (q :: f) k = if q.1 = k then mdel f k else q :: mdel f k := by unfold mdel; rw [List.filter_cons]; by_cases h : q.1 = k <;> simp [h]
    rw [e]
    by_cases hq : q.1 = k
    · rw [if_pos hq, ih, mget_cons]
      by_cases h : k' = k
      · simp [h]
      · have h2 : ¬ q.1 = k' := fun e => h (by rw [← e, hq])
        simp [h, h2]
    · rw [if_neg hq, mget_cons, ih, mget_cons]
      by_cases h : k' = k
      · subst h; simp [hq]
      · simp [h]
theorem mem_mdel {f : List (Int × Value)} {k : Int} {q : Int × Value} (h : q ∈ mdel f k) : q ∈ f ∧ q.1 ≠ k := by
  unfold mdel at h
  rw [List.mem_filter] at h
  exact ⟨h.1, by simpa using h.2⟩
/-- A block with one version more. -/
abbrev Blk.wr (b : Blk) (s : Sec) : Blk := ⟨b.s, b.vs ++ [s], b.bad⟩
theorem map_set_s {m : List Blk} {i : Nat} {b b' : Blk} (hi : m[i]? = some b) (h : b'.s = b.s) : (m.set i b').map (·.s) = m.map (·.s) := by
  refine List.ext_getElem? (fun t => ?_)
  rw [List.getElem?_map, List.getElem?_map, List.getElem?_set]
  split
  · rename_i e
    subst e
    rw [if_pos (List.getElem?_eq_some_iff.1 hi).1, hi]
    simp [h]
  · rfl
theorem set_at {m : List Blk} {i j : Nat} {b' x : Blk} (h : (m.set i b')[j]? = some x) : (j = i ∧ x = b') ∨ (j ≠ i ∧ m[j]? = some x) := by
  rw [List.getElem?_set] at h
  split at h
  · rename_i e
    split at h
    · cases h; exact .inl ⟨e.symm, rfl⟩
    · cases h
  · rename_i e
    exact .inr ⟨fun e' => e e'.symm, h⟩
theorem DiskOk.write {m : List Blk} {fv fb : List (Int × Value)} {l : List (Value × List Sec)} (hk : DiskOk m fv fb l) {i : Nat} {b : Blk} (hi : m[i]? = some b) {s : Sec} (hs : s.length = 32) {A : Option Addr} {c : Nat} :
    DiskOk (m.set i (b.wr s)) (mset fv i (.slice A (b.vs.length + 1) c)) fb ((.slice A (b.vs.length + 1) c, b.vs ++ [s]) :: l) where
  len := by rw [List.length_set]; exact hk.len
  s32 := fun x hx => by
    rcases List.mem_or_eq_of_mem_set hx with hx | rfl
    · exact hk.s32 x hx
    · exact hk.s32 b (List.mem_of_getElem? hi)
  v32 := fun x hx y hy => by
    rcases List.mem_or_eq_of_mem_set hx with hx | rfl
    · exact hk.v32 x hx y hy
    · rcases List.mem_append.1 hy with hy | hy
      · exact hk.v32 b (List.mem_of_getElem? hi) y hy
      · rw [List.mem_singleton.1 hy]; exact hs
  keyv := fun q hq => by
    have hl := (List.getElem?_eq_some_iff.1 hi).1
    rcases mem_mset hq with rfl | hq
    · exact ⟨i, b.wr s, by rw [List.getElem?_set, if_pos rfl, if_pos hl], rfl, by simp⟩
    · obtain ⟨j, x, h1, h2, h3⟩ := hk.keyv q hq
      by_cases e : j = i
      · subst e; exact ⟨j, b.wr s, by rw [List.getElem?_set, if_pos rfl, if_pos hl], h2, by simp⟩
      · exact ⟨j, x, by rw [List.getElem?_set, if_neg (fun h => e h.symm)]; exact h1, h2, h3⟩
  vers := fun j x hx => by
    rcases set_at hx with ⟨rfl, rfl⟩ | ⟨hne, hx⟩
    · exact ⟨A, c, by rw [mget_mset, if_pos rfl]; simp, by simp⟩
    · obtain ⟨A', c', h1, h2⟩ := hk.vers j x hx
      exact ⟨A', c', by rw [mget_mset, if_neg (by omega)]; exact h1, List.mem_cons_of_mem _ h2⟩
  keyb := fun q hq => by rw [List.length_set]; exact hk.keyb q hq
  bads := fun j x hx => by
    rcases set_at hx with ⟨rfl, rfl⟩ | ⟨hne, hx⟩
    · exact hk.bads j b hi
    · exact hk.bads j x hx
theorem DiskOk.spoil {m : List Blk} {fv fb : List (Int × Value)} {l : List (Value × List Sec)} (hk : DiskOk m fv fb l) {i : Nat} {b : Blk} (hi : m[i]? = some b) (bad : Bool) :
    DiskOk (m.set i ⟨b.s, b.vs, bad⟩) fv (mset fb i (.bool bad)) l where
  len := by rw [List.length_set]; exact hk.len
  s32 := fun x hx => by
    rcases List.mem_or_eq_of_mem_set hx with hx | rfl
    · exact hk.s32 x hx
    · exact hk.s32 b (List.mem_of_getElem? hi)
  v32 := fun x hx y hy => by
    rcases List.mem_or_eq_of_mem_set hx with hx | rfl
    · exact hk.v32 x hx y hy
    · exact hk.v32 b (List.mem_of_getElem? hi) y hy
  keyv := fun q hq => by
    have hl := (List.getElem?_eq_some_iff.1 hi).1
    obtain ⟨j, x, h1, h2, h3⟩ := hk.keyv q hq
    by_cases e : j = i
    · subst e
      rw [hi] at h1
      cases h1
      exact ⟨j, ⟨b.s, b.vs, bad⟩, by rw [List.getElem?_set, if_pos rfl, if_pos hl], h2, h3⟩
    · exact ⟨j, x, by rw [List.getElem?_set, if_neg (fun h => e h.symm)]; exact h1, h2, h3⟩
  vers := fun j x hx => by
    rcases set_at hx with ⟨rfl, rfl⟩ | ⟨hne, hx⟩
    · exact hk.vers j b hi
    · exact hk.vers j x hx
  keyb := fun q hq => by
    rw [List.length_set]
    rcases mem_mset hq with rfl | hq
    · exact ⟨i, (List.getElem?_eq_some_iff.1 hi).1, rfl⟩
    · exact hk.keyb q hq
  bads := fun j x hx => by
    rcases set_at hx with ⟨rfl, rfl⟩ | ⟨hne, hx⟩
    · rw [mget_mset, if_pos rfl]; rfl
    · rw [mget_mset, if_neg (by omega)]; exact hk.bads j x hx
theorem DiskOk.none {m : List Blk} {fv fb : List (Int × Value)} {l : List (Value × List Sec)} (hk : DiskOk m fv fb l) {i : Nat} {b : Blk} (hi : m[i]? = some b) (h : b.vs = []) : mget fv i = none := by
  refine mget_none (fun q hq e => ?_)
  obtain ⟨j, x, h1, h2, h3⟩ := hk.keyv q hq
  have : j = i := by omega
  subst this
  rw [hi] at h1
  cases h1
  exact h3 h
section
variable {P : Program} {ops : Array Oper} {rest : List Oper} {o : Oper} {a : Act} {Q : Exit → Act → World → Prop} {w : World} {L : List HP}
/-- append onto a full slice that is read: always a new one. -/
theorem run_append_full {T e ty : TypeId} {z : Value} {size bytes n m : Nat} {A : Option Addr} {vx : Value} {xs news : List Value} (ht : P.underlying T = some (.slice e)) (hinfo : (P.info? e).map (fun i => (i.zero, i.size, i.bytes)) = some (some z, size, bytes)) (hz : z.cells.size = size) (hsz : 0 < size)
    (hO : Own w L) (hold : Rd w size (.slice A n n) n xs) (hr : Rd w size vx m news) (hm : 0 < m) (h1 : ∀ u ∈ news, u.oneCell' = true) (h63 : n + m ≤ maxLen) (hb : (n + m) * bytes ≤ 140737488355328) :
    ∃ v' w', (Builtin.append_ #[T, T] ty #[.slice A n n, vx]).run P w = .ok v' w' ∧ Own w' (owns e size v' (n + m) (xs ++ news) :: L) ∧ Same w w' := by
  obtain ⟨i, hi, hzz⟩ := Option.map_eq_some_iff.1 hinfo
  simp only [Prod.mk.injEq] at hzz
  obtain ⟨hz', hsz', hby⟩ := hzz
  obtain ⟨hl, A2, c, rfl, hc, hcm, hcell⟩ := hr.out
  have hpos : 0 < news.length := by rw [hl]; exact Nat.mul_pos hm hsz
  obtain ⟨ad, rfl⟩ := hr.addr hpos
  have hcl : ∀ (j : Nat) (u : Value), news[j]? = some u → w.cell? (ad.add j) = some u := fun j u hu => by
    obtain ⟨ad', h1, h2⟩ := hcell j u hu
    cases h1
    exact h2
  obtain ⟨hol, A3, c3, e3, _, _, hocell⟩ := hold.out
  cases e3
  have key : ∃ v' w', (Builtin.append_ #[T, T] ty #[.slice A n n, .slice (some ad) m c]).run P w = .ok v' w' ∧ w'.ownsRow w.heap.size e size v' (n + m) (xs ++ news) ∧ w.grownBy w' none := by
    cases A with
    | some b => exact run_append_arg_grows (P := P) w T ty e i z size bytes ht hi hz' hsz' hby hz hsz b n n xs hol (fun j u hj => by obtain ⟨ad', h1, h2⟩ := hocell j u hj; cases h1; exact h2) ad m c news hl hcl (by omega) h63 hb
    | none =>
      have hx : xs = [] := by
        cases xs with
        | nil => rfl
        | cons u r => obtain ⟨ad', h1, _⟩ := hocell 0 u (by simp); cases h1
      subst hx
      have hn0 : n = 0 := by
        have h0 : n * size = 0 := by simpa using hol.symm
        rcases Nat.mul_eq_zero.1 h0 with h | h
        · exact h
        · omega
      subst hn0
      obtain ⟨v', w', hrun, r1, r2, _⟩ := run_append_own (P := P) w w.heap.size T ty e i z size bytes ht hi hz' hsz' hby hz hsz (.slice none 0 0) 0 [] (World.ownsRow_nil w _ e size) ad m c news hl hcl h1 h63 hb (Nat.le_refl _)
      exact ⟨v', w', hrun, r1, r2⟩
  obtain ⟨v', w', hrun, hrow, hg⟩ := key
  have hb : Below w.heap.size w w' := ⟨hg.os, hg.tape, hg.output, hg.size, fun k hk => hg.block k hk (by simp)⟩
  exact ⟨v', w', hrun, owns_new hO hrow hb, same_below hb⟩
end
section
variable (w : World) (L : List HP)
theorem clip_c (A : Option Addr) (n c : Nat) (hO : Own w L) {l : List Value} (h : Rd w 32 (.slice A n c) n l) (hA : A = none → c = 0) : Calls Try.prog 37 #[.slice A n c] w (Ret w (.slice A n n) L) := by
  have hm := h.max
  clear h
  cases A with
  | none =>
    have h0 : c = 0 := hA rfl
    have h1 : n = 0 := by omega
    subst h0
    subst h1
    clear hA
    go_enter Try.func37, Try.ntmps37
    go_wp2
    go_ret
    exact ⟨rfl, hO, Same.refl _⟩
  | some ad =>
    clear hA
    go_enter Try.func37, Try.ntmps37
    go_wp2
    go_ret
    exact ⟨rfl, hO, Same.refl _⟩
end
end Go.Proofs.Ytjilkbkafigloaa.H
