/- The plain law behind EngineBlock: what a block is does not hang on what was written. What an engine keeps true, whatever is done. Write, Add and New of the program's engine, each in one. live: what must be whatever is asked. The plain law behind EngineBehind: what lasts has all that it comes behind. -/
import Derived.Test.YtonohjhmnlfakaaZ15
import Derived.Test.YtonohjhmnlfakaaZ04
import Derived.Test.YtonohjhmnlfakaaZ24
import Derived.Test.YtonohjhmnlfakaaZ25
set_option linter.unusedVariables false
set_option linter.unusedSimpArgs false
namespace Go.Proofs.Ytonohjhmnlfakaa.H
open Go.RowKit
/-- What an engine keeps true of its Writes. -/
structure Eng.Inv (E : Eng) : Prop where
  blk : ∀ (i : Nat) (d : Int), d ∈ E.s i → ∃ x ∈ E.l, (x.n : Int) = d ∧ x.p.blk = (i : Int)
  closed : ∀ (i : Nat), ∀ x ∈ E.l, (x.n : Int) ∈ E.s i → ∀ d ∈ x.beh, d ∈ wnums E.l → d ∈ E.s i
  over : ∀ a ∈ E.l, ∀ b ∈ E.l, a.n < b.n → overB a.p b.p = true → (a.n : Int) ∈ b.beh
  vers : ∀ (i : Nat) (b : Blk), E.m[i]? = some b → (b.vs = [] ∧ E.s i = []) ∨ (b.vs ≠ [] ∧ b.now = E.bytes i b fun x => (E.s i).contains (x.n : Int))
  s32 : ∀ b ∈ E.m, b.s.length = 32
theorem appAll_app (b : List UInt8) (l l' : List Pat) : appAll b (l ++ l') = appAll (appAll b l) l' := List.foldl_append
theorem app_32 {b : List UInt8} {p : Pat} (hb : b.length = 32) (h : rightB p = true) : (app b p).length = 32 := appAll_32 (ps := [p]) hb (fun q hq => by rw [List.mem_singleton.1 hq]; exact h)
/-- One is moved behind some that do not overlap it. -/
theorem app_past {b : List UInt8} {p : Pat} {l : List Pat} (hb : b.length = 32) (hp : rightB p = true) (hl : ∀ q ∈ l, rightB q = true ∧ p.blk = q.blk ∧ overB p q = false) : app (appAll b l) p = appAll (app b p) l := by
  induction l generalizing b with
  | nil => rfl
  | cons q l ih =>
    obtain ⟨h1, h2, h3⟩ := hl q (List.mem_cons_self ..)
    show app (appAll (app b q) l) p = appAll (app (app b p) q) l
    rw [ih (app_32 hb h1) (fun x hx => hl x (List.mem_cons_of_mem _ hx)), app_comm b p q hb hp h1 h2 h3]
/-- Those that f tells first, then the others: the same, where none of the others comes ahead of one of them that it overlaps. -/
theorem app_parts (f : Wt → Bool) : ∀ (l : List Wt) (b : List UInt8), b.length = 32 → (∀ x ∈ l, rightB x.p = true) → (∀ x ∈ l, ∀ y ∈ l, x.p.blk = y.p.blk) → l.Pairwise (fun x y => f x = false → f y = true → overB x.p y.p = false) →
    appAll (appAll b ((l.filter f).map (·.p))) ((l.filter fun x => !f x).map (·.p)) = appAll b (l.map (·.p))
  | [], b, _, _, _, _ => rfl
  | x :: l, b, hb, hr, hk, ho => by
    rw [List.pairwise_cons] at ho
    have hrx := hr x (List.mem_cons_self ..)
    have hr' : ∀ y ∈ l, rightB y.p = true := fun y hy => hr y (List.mem_cons_of_mem _ hy)
    have hk' : ∀ y ∈ l, ∀ z ∈ l, y.p.blk = z.p.blk := fun y hy z hz => hk y (List.mem_cons_of_mem _ hy) z (List.mem_cons_of_mem _ hz)
    have ih := app_parts f l (app b x.p) (app_32 hb hrx) hr' hk' ho.2
    cases hf : f x with
    | true =>
      rw [List.filter_cons, if_pos hf, List.filter_cons, if_neg (by simp [hf])]
      exact ih
    | false =>
      rw [List.filter_cons, if_neg (by simp [hf]), List.filter_cons, if_pos (by simp [hf])]
      show appAll (app (appAll b ((l.filter f).map (·.p))) x.p) ((l.filter fun x => !f x).map (·.p)) = _
      rw [app_past hb hrx (fun q hq => by
        obtain ⟨y, hy, rfl⟩ := List.mem_map.1 hq
        obtain ⟨hy1, hy2⟩ := List.mem_filter.1 hy
        exact ⟨hr' y hy1, hk x (List.mem_cons_self ..) y (List.mem_cons_of_mem _ hy1), ho.1 y hy1 hf hy2⟩)]
      exact ih
/-- A block's bytes behind all patches. -/
def Eng.blockM (E : Eng) (i : Nat) (b : Blk) : Sec := E.bytes i b fun _ => true
theorem crashL_all (m : List Blk) (k : Nat) : crashL allV k m = m.map fun b => ⟨b.now, [], b.bad⟩ := by
  induction m generalizing k with
  | nil => rfl
  | cons b r ih =>
    unfold crashL
    by_cases h : b.vs = []
    · rw [if_pos h, ih k]
      obtain ⟨s, vs, bad⟩ := b
      have h : vs = [] := h
      subst h
      rfl
    · rw [if_neg h, ih (k + 1)]
      have hlen : 0 < b.vs.length := List.length_pos_iff.2 h
      have e : sett (allV k b.vs.length) b = b.now := by
        unfold sett Blk.now
        rw [if_pos ⟨by show (1 : Int) ≤ (b.vs.length : Int); omega, Int.le_refl _⟩, List.getLast?_eq_getElem?]
        have : ((allV k b.vs.length : Int) - 1).toNat = b.vs.length - 1 := by show ((b.vs.length : Int) - 1).toNat = _; omega
        rw [this]
      rw [e]
      rfl
theorem inAny_at {E : Eng} (hI : E.Inv) (hA : E.Ok) {i : Nat} (hi : i < E.m.length) {x : Wt} (hx : x ∈ E.l) (hb : x.p.blk = (i : Int)) : inAny E.m.length E.s x.n = (E.s i).contains (x.n : Int) := by
  rw [Bool.eq_iff_iff]
  unfold inAny
  rw [List.any_eq_true]
  constructor
  · rintro ⟨j, hj, h⟩
    obtain ⟨y, hy, e1, e2⟩ := hI.blk j x.n (by simpa using h)
    have : y = x := asc_inj hA.asc.asc hy hx (by omega)
    subst this
    have : j = i := by omega
    subst this
    exact h
  · intro h
    exact ⟨i, List.mem_range.2 hi, h⟩
/-- Flush leaves each block as it is. -/
theorem flush_block {E : Eng} (hI : E.Inv) (hA : E.Ok) {i : Nat} {b : Blk} (hb : E.m[i]? = some b) : ∃ b', E.flushed.m[i]? = some b' ∧ E.flushed.blockM i b' = E.blockM i b := by
  have hi := (List.getElem?_eq_some_iff.1 hb).1
  refine ⟨⟨b.now, [], b.bad⟩, ?_, ?_⟩
  · show (crashL allV 0 E.m)[i]? = _
    rw [crashL_all, List.getElem?_map, hb]
    rfl
  · have e1 : E.flushed.blockM i ⟨b.now, [], b.bad⟩ = appAll b.now (((E.l.filter fun x => decide (x.p.blk = (i : Int))).filter fun x => !(E.s i).contains (x.n : Int)).map (·.p)) := by
      show appAll b.now (((E.l.filter fun x => !inAny E.m.length E.s x.n).filter fun x => decide (x.p.blk = (i : Int)) && true).map (·.p)) = _
      rw [List.filter_filter, List.filter_filter]
      congr 2
      refine List.filter_congr (fun x hx => ?_)
      by_cases hk : x.p.blk = (i : Int)
      · rw [inAny_at hI hA hi hx hk]; simp [hk]
      · simp [hk]
    have e2 : E.blockM i b = appAll b.s ((E.l.filter fun x => decide (x.p.blk = (i : Int))).map (·.p)) := by
      show appAll b.s ((E.l.filter fun x => decide (x.p.blk = (i : Int)) && true).map (·.p)) = _
      simp
    rw [e1, e2]
    rcases hI.vers i b hb with ⟨hv, hs⟩ | ⟨hv, hn⟩
    · have hnow : b.now = b.s := by simp [Blk.now, hv]
      rw [hnow, hs]
      congr 2
      exact List.filter_eq_self.2 fun x _ => rfl
    · have e3 : b.now = appAll b.s (((E.l.filter fun x => decide (x.p.blk = (i : Int))).filter fun x => (E.s i).contains (x.n : Int)).map (·.p)) := by
        rw [hn, List.filter_filter]
        unfold Eng.bytes
        congr 2
        refine List.filter_congr (fun x _ => ?_)
        rw [Bool.and_comm]
      rw [e3]
      refine app_parts (fun x => (E.s i).contains (x.n : Int)) _ _ (hI.s32 b (List.mem_of_getElem? hb)) (fun x hx => (hA.right x (List.filter_sublist.subset hx)).1) (fun x hx y hy => ?_) ?_
      · have h1 := (List.mem_filter.1 hx).2
        have h2 := (List.mem_filter.1 hy).2
        simp only [decide_eq_true_eq] at h1 h2
        rw [h1, h2]
      · refine List.Pairwise.imp_of_mem ?_ (List.Pairwise.filter _ hA.asc.asc)
        intro x y hx hy hlt hfx hfy
        have hx1 := List.filter_sublist.subset hx
        have hy1 := List.filter_sublist.subset hy
        cases ho : overB x.p y.p with
        | false => rfl
        | true =>
          have h1 := hI.over x hx1 y hy1 hlt ho
          have h2 := hI.closed i y hy1 (by simpa using hfy) x.n h1 (List.mem_map.2 ⟨x, hx1, rfl⟩)
          simp only [List.contains_eq_mem, decide_eq_false_iff_not] at hfx
          exact absurd h2 hfx
/-- A Write leaves each block as it is. -/
theorem write_block {E : Eng} {i j : Nat} {b : Blk} (hb : E.m[j]? = some b) : ∃ b', ((E.writeM i).2).m[j]? = some b' ∧ ((E.writeM i).2).blockM j b' = E.blockM j b := by
  unfold Eng.writeM
  cases hi : E.m[i]? with
  | none => exact ⟨b, hb, rfl⟩
  | some c =>
    simp only
    split
    · exact ⟨b, hb, rfl⟩
    · split
      · exact ⟨b, hb, rfl⟩
      · by_cases e : i = j
        · subst e
          rw [hi] at hb
          cases hb
          exact ⟨b.wr (E.bytes i b fun x => (readyL E.l i).contains (x.n : Int)), by show (E.m.set i _)[i]? = _; rw [List.getElem?_set, if_pos rfl, if_pos (List.getElem?_eq_some_iff.1 hi).1], rfl⟩
        · exact ⟨b, by show (E.m.set i _)[j]? = _; rw [List.getElem?_set, if_neg e]; exact hb, rfl⟩
end Go.Proofs.Ytonohjhmnlfakaa.H
set_option linter.unusedVariables false
set_option linter.unusedSimpArgs false
namespace Go.Proofs.Ytonohjhmnlfakaa.H
open Go.RowKit
theorem ready_sub (l : List Wt) (i : Int) : (readyL l i).Sublist (wnums l) := by
  obtain ⟨t, h1, h2⟩ := readyGo_app (wnums l) i l []
  unfold readyL
  rw [h1, List.nil_append]
  exact h2
theorem ready_at {l : List Wt} {i d : Int} (hA : Asc l) (h : d ∈ readyL l i) : ∃ x ∈ l, (x.n : Int) = d ∧ x.p.blk = i := by
  obtain ⟨x, hx, e⟩ := List.mem_map.1 ((ready_sub l i).subset h)
  have e : (x.n : Int) = d := e
  exact ⟨x, hx, e, ((ready_iff hA hx).1 (by rw [e]; exact h)).1⟩
/-- The three cases of Write. -/
theorem write_cases (E : Eng) (i : Nat) : ((E.writeM i).2 = E) ∨ ∃ b, E.m[i]? = some b ∧ b.bad = false ∧ readyL E.l i ≠ [] ∧ readyL E.l i ≠ E.s i ∧ (E.writeM i).2 = ⟨E.m.set i (b.wr (E.bytes i b fun x => (readyL E.l i).contains (x.n : Int))), E.l, fun j => if j = i then readyL E.l i else E.s j, E.next⟩ := by
  unfold Eng.writeM
  cases hb : E.m[i]? with
  | none => exact .inl rfl
  | some b =>
    by_cases h1 : readyL E.l i = [] ∨ readyL E.l i = E.s i
    · exact .inl (by simp only [if_pos h1])
    · by_cases h2 : b.bad = true
      · exact .inl (by simp only [if_neg h1, if_pos h2])
      · refine .inr ⟨b, rfl, by simpa using h2, fun h => h1 (.inl h), fun h => h1 (.inr h), ?_⟩
        simp only [if_neg h1, if_neg h2]
theorem Eng.Inv.write {E : Eng} (hI : E.Inv) (hA : E.Ok) (i : Nat) : ((E.writeM i).2).Inv := by
  rcases write_cases E i with h | ⟨b, hb, hbad, hr, hs, h⟩
  · rw [h]; exact hI
  · rw [h]
    have h32 := hI.s32 b (List.mem_of_getElem? hb)
    refine ⟨fun j d hd => ?_, fun j x hx hn d hd hw => ?_, hI.over, fun j c hc => ?_, fun c hc => ?_⟩
    · have hd : d ∈ (if j = i then readyL E.l i else E.s j) := hd
      by_cases e : j = i
      · subst e
        rw [if_pos rfl] at hd
        exact ready_at hA.asc hd
      · rw [if_neg e] at hd
        exact hI.blk j d hd
    · have hn : (x.n : Int) ∈ (if j = i then readyL E.l i else E.s j) := hn
      show d ∈ (if j = i then readyL E.l i else E.s j)
      by_cases e : j = i
      · subst e
        rw [if_pos rfl] at hn ⊢
        exact ((ready_iff hA.asc hx).1 hn).2 d hd hw
      · rw [if_neg e] at hn ⊢
        exact hI.closed j x hx hn d hd hw
    · have hc : (E.m.set i (b.wr (E.bytes i b fun x => (readyL E.l i).contains (x.n : Int))))[j]? = some c := hc
      show (c.vs = [] ∧ (if j = i then readyL E.l i else E.s j) = []) ∨ (c.vs ≠ [] ∧ c.now = appAll c.s ((E.l.filter fun x => decide (x.p.blk = (j : Int)) && ((if j = i then readyL E.l i else E.s j)).contains (x.n : Int)).map (·.p)))
      by_cases e : j = i
      · subst e
        rw [List.getElem?_set, if_pos rfl, if_pos (List.getElem?_eq_some_iff.1 hb).1] at hc
        cases hc
        refine .inr ⟨by simp, ?_⟩
        rw [if_pos rfl]
        show Blk.now _ = E.bytes j b fun x => (readyL E.l j).contains (x.n : Int)
        simp [Blk.now]
      · rw [List.getElem?_set, if_neg (fun h => e h.symm)] at hc
        rw [if_neg e]
        exact hI.vers j c hc
    · rcases List.mem_or_eq_of_mem_set hc with hc | rfl
      · exact hI.s32 c hc
      · exact h32
theorem now_32 {E : Eng} (hI : E.Inv) (hA : E.Ok) {b : Blk} (hb : b ∈ E.m) : b.now.length = 32 := by
  obtain ⟨i, hi⟩ := List.mem_iff_getElem?.1 hb
  rcases hI.vers i b hi with ⟨h1, _⟩ | ⟨_, h2⟩
  · have e : b.now = b.s := by simp [Blk.now, h1]
    rw [e]; exact hI.s32 b hb
  · rw [h2]
    unfold Eng.bytes
    refine appAll_32 (hI.s32 b hb) (fun p hp => ?_)
    obtain ⟨x, hx, rfl⟩ := List.mem_map.1 hp
    exact (hA.right x (List.filter_sublist.subset hx)).1
theorem Eng.Inv.flushed {E : Eng} (hI : E.Inv) (hA : E.Ok) : E.flushed.Inv := by
  refine ⟨fun j d hd => (by cases hd), fun j x hx hn => (by cases hn), fun a ha b hb => hI.over a (List.filter_sublist.subset ha) b (List.filter_sublist.subset hb), fun i b hb => ?_, fun b hb => ?_⟩
  · have hb : (crashL allV 0 E.m)[i]? = some b := hb
    rw [crashL_all, List.getElem?_map] at hb
    obtain ⟨c, _, rfl⟩ := Option.map_eq_some_iff.1 hb
    exact .inl ⟨rfl, rfl⟩
  · have hb : b ∈ crashL allV 0 E.m := hb
    rw [crashL_all] at hb
    obtain ⟨c, hc, rfl⟩ := List.mem_map.1 hb
    exact now_32 hI hA hc
/-- Items that Add takes. -/
structure Good (E : Eng) (first k : Nat) (x : It) : Prop where
  right : rightB x.p = true ∧ x.p.blk < (E.m.length : Int)
  deps : ∀ d ∈ x.deps, d < (first : Int) ∧ -(k : Int) ≤ d
  len : x.deps.length ≤ 1000
theorem depOf_lt {first k n : Nat} {d : Int} (h1 : d < (first : Int)) (h2 : -(k : Int) ≤ d) (hn : n = first + k) : Eng.depOf first d < (n : Int) := by
  unfold Eng.depOf
  split <;> omega
theorem Eng.Ok.add1 {E : Eng} (h : E.Ok) {first k : Nat} {x : It} (hg : Good E first k x) (hn : E.next = first + k) (hl : E.l.length < 200) (hnx : E.next < 1000000) : (E.add1 first x).Ok := by
  have hnum : ∀ y ∈ E.l, y.n < E.next := h.lt
  refine ⟨⟨?_, fun y hy d hd => ?_⟩, h.pos, fun y hy => ?_, fun y hy => ?_, ?_, by show E.next + 1 ≤ 1000000; omega, fun y hy => ?_, h.sl⟩
  · show (E.l ++ [_]).Pairwise _
    rw [List.pairwise_append]
    refine ⟨h.asc.asc, List.pairwise_singleton _ _, fun a ha b hb => ?_⟩
    rw [List.mem_singleton.1 hb]
    exact hnum a ha
  · have hy : y ∈ E.l ++ [_] := hy
    rcases List.mem_append.1 hy with hy | hy
    · exact h.asc.beh y hy d hd
    · rw [List.mem_singleton.1 hy] at hd ⊢
      show d < (E.next : Int)
      have hd : d ∈ x.deps.map (Eng.depOf first) ++ wnums (E.l.filter fun w => overB w.p x.p) := hd
      rcases List.mem_append.1 hd with hd | hd
      · obtain ⟨d', hd', rfl⟩ := List.mem_map.1 hd
        exact depOf_lt (hg.deps d' hd').1 (hg.deps d' hd').2 hn
      · obtain ⟨z, hz, rfl⟩ := List.mem_map.1 hd
        have := hnum z (List.filter_sublist.subset hz)
        omega
  · have hy : y ∈ E.l ++ [_] := hy
    rcases List.mem_append.1 hy with hy | hy
    · exact h.right y hy
    · rw [List.mem_singleton.1 hy]; exact hg.right
  · have hy : y ∈ E.l ++ [_] := hy
    show y.n < E.next + 1
    rcases List.mem_append.1 hy with hy | hy
    · have := hnum y hy; omega
    · rw [List.mem_singleton.1 hy]; exact Nat.lt_succ_self _
  · show (E.l ++ [_]).length ≤ 200
    rw [List.length_append, List.length_singleton]; omega
  · have hy : y ∈ E.l ++ [_] := hy
    rcases List.mem_append.1 hy with hy | hy
    · exact h.behl y hy
    · rw [List.mem_singleton.1 hy]
      show (x.deps.map (Eng.depOf first) ++ wnums (E.l.filter fun w => overB w.p x.p)).length ≤ 1000000
      rw [List.length_append, List.length_map]
      have h1 := List.length_filter_le (fun w : Wt => overB w.p x.p) E.l
      have h2 := hg.len
      unfold wnums
      rw [List.length_map]
      omega
theorem Eng.Inv.add1 {E : Eng} (hI : E.Inv) (h : E.Ok) (first : Nat) (x : It) : (E.add1 first x).Inv := by
  have hs : ∀ j, ((E.next : Nat) : Int) ∉ E.s j := fun j hj => by
    obtain ⟨y, hy, e, _⟩ := hI.blk j _ hj
    have := h.lt y hy
    omega
  refine ⟨fun j d hd => ?_, fun j y hy hn d hd hw => ?_, fun a ha b hb hlt ho => ?_, fun j c hc => ?_, hI.s32⟩
  · obtain ⟨y, hy, e⟩ := hI.blk j d hd
    exact ⟨y, List.mem_append_left _ hy, e⟩
  · have hy : y ∈ E.l ++ [_] := hy
    have hw : d ∈ wnums (E.l ++ [_]) := hw
    rcases List.mem_append.1 hy with hy | hy
    · refine hI.closed j y hy hn d hd ?_
      unfold wnums at hw ⊢
      rw [List.map_append] at hw
      rcases List.mem_append.1 hw with hw | hw
      · exact hw
      · exfalso
        have e := List.mem_singleton.1 hw
        have h1 := h.asc.beh y hy d hd
        have h2 := h.lt y hy
        have e : d = (E.next : Int) := e
        omega
    · exfalso
      rw [List.mem_singleton.1 hy] at hn
      exact hs j hn
  · have ha : a ∈ E.l ++ [_] := ha
    have hb : b ∈ E.l ++ [_] := hb
    rcases List.mem_append.1 ha with ha | ha
    · rcases List.mem_append.1 hb with hb | hb
      · exact hI.over a ha b hb hlt ho
      · rw [List.mem_singleton.1 hb] at ho ⊢
        exact List.mem_append_right _ (List.mem_map.2 ⟨a, List.mem_filter.2 ⟨ha, ho⟩, rfl⟩)
    · exfalso
      rw [List.mem_singleton.1 ha] at hlt
      have hlt : E.next < b.n := hlt
      rcases List.mem_append.1 hb with hb | hb
      · have := h.lt b hb; omega
      · rw [List.mem_singleton.1 hb] at hlt
        exact Nat.lt_irrefl _ hlt
  · rcases hI.vers j c hc with h1 | ⟨h1, h2⟩
    · exact .inl h1
    · refine .inr ⟨h1, ?_⟩
      rw [h2]
      show appAll c.s _ = appAll c.s _
      have e : ((E.add1 first x).l.filter fun y => decide (y.p.blk = (j : Int)) && ((E.add1 first x).s j).contains (y.n : Int)) = E.l.filter fun y => decide (y.p.blk = (j : Int)) && (E.s j).contains (y.n : Int) := by
        show (E.l ++ [_]).filter _ = _
        rw [List.filter_append]
        have e2 : (E.s j).contains ((E.next : Nat) : Int) = false := by simpa using hs j
        have : List.filter (fun y : Wt => decide (y.p.blk = (j : Int)) && (E.s j).contains (y.n : Int)) [⟨E.next, x.p, x.deps.map (Eng.depOf first) ++ wnums (E.l.filter fun w => overB w.p x.p)⟩] = [] := by
          rw [List.filter_cons, if_neg (by rw [e2]; simp)]
          rfl
        show _ ++ List.filter (fun y : Wt => decide (y.p.blk = (j : Int)) && (E.s j).contains (y.n : Int)) [⟨E.next, x.p, x.deps.map (Eng.depOf first) ++ wnums (E.l.filter fun w => overB w.p x.p)⟩] = _
        rw [this, List.append_nil]
        rfl
      rw [e]
/-- The blocks turn bad or good. -/
theorem Eng.Inv.spoil {E : Eng} (hI : E.Inv) {i : Nat} {b : Blk} (bad : Bool) (hb : E.m[i]? = some b) : Eng.Inv ⟨E.m.set i ⟨b.s, b.vs, bad⟩, E.l, E.s, E.next⟩ := by
  refine ⟨hI.blk, hI.closed, hI.over, fun j c hc => ?_, fun c hc => ?_⟩
  · have hc : (E.m.set i ⟨b.s, b.vs, bad⟩)[j]? = some c := hc
    by_cases e : i = j
    · subst e
      rw [List.getElem?_set, if_pos rfl, if_pos (List.getElem?_eq_some_iff.1 hb).1] at hc
      cases hc
      exact hI.vers i b hb
    · rw [List.getElem?_set, if_neg e] at hc
      exact hI.vers j c hc
  · rcases List.mem_or_eq_of_mem_set hc with hc | rfl
    · exact hI.s32 c hc
    · exact hI.s32 b (List.mem_of_getElem? hb)
theorem Eng.Ok.spoil {E : Eng} (h : E.Ok) (m' : List Blk) (hl : m'.length = E.m.length) : Eng.Ok ⟨m', E.l, E.s, E.next⟩ :=
  ⟨h.asc, by show 0 < m'.length; rw [hl]; exact h.pos, fun x hx => by show _ ∧ _ < (m'.length : Int); rw [hl]; exact h.right x hx, h.lt, h.len, h.lim, h.behl, h.sl⟩
theorem Eng.Inv.fresh (m : List Blk) (h1 : ∀ b ∈ m, b.vs = []) (h2 : ∀ b ∈ m, b.s.length = 32) : Eng.Inv ⟨m, [], fun _ => [], 0⟩ :=
  ⟨fun i d hd => (by cases hd), fun i x hx => (by cases hx), fun a ha => (by cases ha), fun i b hb => .inl ⟨h1 b (List.mem_of_getElem? hb), rfl⟩, h2⟩
theorem Eng.Ok.fresh (m : List Blk) (h : 0 < m.length) : Eng.Ok ⟨m, [], fun _ => [], 0⟩ :=
  ⟨⟨List.Pairwise.nil, fun x hx => (by cases hx)⟩, h, fun x hx => (by cases hx), fun x hx => (by cases hx), Nat.zero_le _, Nat.zero_le _, fun x hx => (by cases hx), fun _ => Nat.zero_le _⟩
theorem good_at {E : Eng} {l : List It} (hf : E.formB l = false) (hr : E.rangeB l = false) (hlen : ∀ x ∈ l, x.deps.length ≤ 1000) {k : Nat} {x : It} (hx : l[k]? = some x) : Good E E.next k x := by
  have hm := List.mem_of_getElem? hx
  refine ⟨?_, fun d hd => ?_, hlen x hm⟩
  · unfold Eng.formB at hf
    have h1 := List.any_eq_false.1 hf x hm
    simp only [Bool.or_eq_true, Bool.not_eq_true', decide_eq_true_eq, not_or, Bool.not_eq_false] at h1
    exact ⟨h1.1, by omega⟩
  · have h1 := range_no hr hx
    have h2 := List.any_eq_false.1 h1 d hd
    unfold Eng.depI at h2
    simp only [Bool.or_eq_true, decide_eq_true_eq, not_or] at h2
    omega
theorem addK_ok {E : Eng} (h : E.Ok) (hI : E.Inv) {l : List It} (hf : E.formB l = false) (hr : E.rangeB l = false) (hroom : E.l.length + l.length ≤ 200) (hlen : ∀ x ∈ l, x.deps.length ≤ 1000) (hn : E.next + l.length ≤ 1000000) : ∀ k, k ≤ l.length → ((l.take k).foldl (Eng.add1 E.next) E).Ok ∧ ((l.take k).foldl (Eng.add1 E.next) E).Inv
  | 0, _ => ⟨h, hI⟩
  | k + 1, hk => by
    obtain ⟨h1, h2⟩ := addK_ok h hI hf hr hroom hlen hn k (by omega)
    obtain ⟨x, hx⟩ : ∃ x, l[k]? = some x := ⟨_, List.getElem?_eq_getElem (by omega)⟩
    have hl : (l.take k).length = k := by rw [List.length_take]; omega
    have e1 := Eng.addK_next E E.next (l.take k)
    have e2 := Eng.addK_len E E.next (l.take k)
    have e3 := Eng.addK_m E E.next (l.take k)
    rw [hl] at e1 e2
    have hg := good_at hf hr hlen hx
    rw [List.take_add_one, hx, List.foldl_append]
    exact ⟨h1.add1 (first := E.next) (k := k) (x := x) ⟨by rw [e3]; exact hg.right, hg.deps, hg.len⟩ e1 (by omega) (by omega), h2.add1 h1 E.next x⟩
theorem addM_ok {E : Eng} (h : E.Ok) (hI : E.Inv) {l : List It} (hlen : ∀ x ∈ l, x.deps.length ≤ 1000) (hn : E.next + l.length ≤ 1000000) : ((E.addM l).2).Ok ∧ ((E.addM l).2).Inv := by
  unfold Eng.addM
  by_cases h1 : E.formB l = true
  · rw [if_pos h1]; exact ⟨h, hI⟩
  · rw [if_neg h1]
    by_cases h2 : E.rangeB l = true
    · rw [if_pos h2]; exact ⟨h, hI⟩
    · rw [if_neg h2]
      by_cases h3 : 200 < E.l.length + l.length
      · rw [if_pos h3]; exact ⟨h, hI⟩
      · rw [if_neg h3]
        have := addK_ok h hI (by simpa using h1) (by simpa using h2) (by omega) hlen hn l.length (Nat.le_refl _)
        rw [List.take_length] at this
        exact this
end Go.Proofs.Ytonohjhmnlfakaa.H
set_option linter.unusedVariables false
set_option linter.unusedSimpArgs false
set_option maxRecDepth 100000
namespace Go.Proofs.Ytonohjhmnlfakaa.H
open Go.RowKit
section
variable (w : World) (L : List HP) (e : Nat) (E : Eng)
theorem ewrite_c (i : Nat) (hO : Own w (engP e E :: L)) (hk : E.Ok) (hi : i < E.m.length) (hlim : ∀ b ∈ E.m, b.vs.length ≤ 1000000) : Calls Try.prog 17 #[.pointer (some ⟨e, 0, none⟩), .int .i64 i] w (Ret w (.tuple #[.int .i64 (E.writeM i).1.1, .int .i64 (E.writeM i).1.2]) (engP e (E.writeM i).2 :: L)) := by
  obtain ⟨b, hb⟩ : ∃ b, E.m[i]? = some b := ⟨_, List.getElem?_eq_getElem hi⟩
  unfold Eng.writeM
  rw [hb]
  simp only
  by_cases h1 : readyL E.l i = []
  · rw [if_pos (.inl h1)]
    exact ewrite_none w L e E i b hO hk hb h1
  · by_cases h2 : readyL E.l i = E.s i
    · rw [if_pos (.inr h2)]
      exact ewrite_same w L e E i b hO hk hb h1 h2
    · rw [if_neg (fun h => h.elim h1 h2)]
      by_cases h3 : b.bad = true
      · rw [if_pos h3]
        exact ewrite_bad w L e E i b hO hk hb h1 h2 h3
      · rw [if_neg h3]
        exact ewrite_did w L e E i b hO hk hb h1 h2 (by simpa using h3) (hlim b (List.mem_of_getElem? hb))
theorem eadd_c (v : Value) (n : Nat) (is : List Iv) (hO : Own w (engP e E :: L)) (hk : E.Ok) (hn : n = is.length) (h6 : n ≤ 1000000) (hrd : ∀ w', Own w' L → Rd w' 4 v n (cellsI is)) (hdep : ∀ x ∈ is, ∃ A c, x.2 = .slice A x.1.deps.length c ∧ ∀ w', Own w' L → Rd w' 1 (.slice A x.1.deps.length c) x.1.deps.length (zs x.1.deps)) (hlo : ∀ x ∈ is, ∀ d ∈ x.1.deps, -9223372036854775808 ≤ d) (hdl : ∀ x ∈ is, x.1.deps.length ≤ 1000000) :
    Calls Try.prog 9 #[.pointer (some ⟨e, 0, none⟩), v] w (Ret w (.tuple #[.int .i64 (E.addM (is.map (·.1))).1.1, .int .i64 (E.addM (is.map (·.1))).1.2]) (engP e (E.addM (is.map (·.1))).2 :: L)) := by
  unfold Eng.addM
  by_cases h1 : E.formB (is.map (·.1)) = true
  · rw [if_pos h1]
    exact eadd_form w L e E v n is hO hk hn h6 hrd hdep hlo h1
  · rw [if_neg h1]
    have h1 : E.formB (is.map (·.1)) = false := by simpa using h1
    by_cases h2 : E.rangeB (is.map (·.1)) = true
    · rw [if_pos h2]
      exact eadd_range w L e E v n is hO hk hn h6 hrd hdep hlo h1 h2
    · rw [if_neg h2]
      have h2 : E.rangeB (is.map (·.1)) = false := by simpa using h2
      rw [List.length_map]
      by_cases h3 : 200 < E.l.length + is.length
      · rw [if_pos h3]
        exact eadd_full w L e E v n is hO hk hn h6 hrd hdep hlo h1 h2 h3
      · rw [if_neg h3]
        exact eadd_did w L e E v n is hO hk hn h6 hrd hdep hlo h1 h2 (by omega) hdl
end
theorem wok_nil {g : List RdI} (h : (⟨5, .slice none 0 0, 0, []⟩ : RdI) ∈ g) : WOk [] (.slice none 0 0) g :=
  ⟨fun A n c e _ => by cases e; rfl, ⟨none, 0, rfl, h⟩, fun x hx => by cases hx⟩
theorem enew_c (w : World) (L : List HP) (d : Nat) (m : List Blk) (hO : Own w (diskP d m :: L)) (h0 : 0 < m.length) (hlim : ∀ b ∈ m, b.vs.length ≤ 1000000) : Calls Try.prog 6 #[.pointer (some ⟨d, 0, none⟩)] w (RetX w (fun e : Nat => .pointer (some ⟨e, 0, none⟩)) (fun e => engP e ⟨crashL allV 0 m, [], fun _ => [], 0⟩ :: diskP d m :: L)) := by
  have HLIM := Lib.hid hlim
  have H0 := Lib.hid h0
  have hS := Same.refl w
  clear hlim h0
  go_enter Try.func6, Try.ntmps6
  go_wp2_with (first | (go_at_call 31; (with_reducible refine Calls.mono (fork_ok _ _ d m hO H0.out HLIM.out) ?_); clear hO; rintro e u ⟨f, rfl, hO, hSn⟩; replace hS := hS.trans hSn; clear hSn) | (go_at_call 32; (with_reducible refine Calls.mono (call_at 0 (fun L' h => flush_c _ L' f m h H0.out HLIM.out) rfl hO) ?_); clear hO; rintro e u ⟨rfl, hO, hSn⟩; replace hS := hS.trans hSn; clear hSn; simp only [List.set_cons_zero, List.set_cons_succ] at hO) | (refine own_mkmap rfl rfl hO ?_; clear hO; intro bs u hO hSn; replace hS := hS.trans hSn; clear hSn) | (refine own_box_agg (x := .tmp 13) rfl rfl rfl hO ?_; clear hO; intro ee u hO hSn; replace hS := hS.trans hSn; clear hSn))
  go_ret
  have hO := rdG_nil (rdG_nil (rdG_none hO) 1) 5
  exact ⟨ee, rfl, eng_open.2 ⟨f, .slice none 0 0, bs, [], [], _, ⟨rfl, wok_nil (List.mem_cons_self ..), sok_nil (List.mem_cons_of_mem _ (List.mem_cons_self ..))⟩, own_order [1, 2, 1, 0] hO rfl⟩, hS⟩
end Go.Proofs.Ytonohjhmnlfakaa.H
set_option linter.unusedVariables false
set_option linter.unusedSimpArgs false
set_option maxRecDepth 100000
namespace Go.Proofs.Ytonohjhmnlfakaa.H
open Go.RowKit
abbrev eng0 (n : Nat) : Eng := ⟨crashL allV 0 (fresh (List.replicate n sec0)), [], fun _ => [], 0⟩
theorem eng0_ok (n : Nat) (h : 0 < n) : (eng0 n).Ok := Eng.Ok.fresh _ (by rw [crashL_len]; unfold fresh; simpa using h)
theorem run_zs1 (d : Int) (w : World) : (Instr.buildSlice 34 1 #[(0, .int .i64 d)]).run Try.prog w = .ok (.slice (some ⟨w.heap.size, 0, none⟩) 1 1) (w.alloc (.cells #[.int .i64 d] 3)) := by
  obtain ⟨i, hi, hz⟩ := Option.map_eq_some_iff.1 zero_i
  have hsz : i.size = 1 := by have := sz_z; rw [hi] at this; simpa using this
  simp [Instr.buildSlice, run_underlying Try.underlying34, sizeOf, typeInfo, zeroValue, hi, hz, hsz, Value.cells, newRow, Instr.fill, (by decide : Array.range 1 = #[0])]
theorem run_is1 (x : Iv) (w : World) : (Instr.buildSlice 73 1 #[(0, .agg (Iv.cells x).toArray)]).run Try.prog w = .ok (.slice (some ⟨w.heap.size, 0, none⟩) 1 1) (w.alloc (.cells (cellsI [x]).toArray 36)) := by
  obtain ⟨i, hi, hz⟩ := Option.map_eq_some_iff.1 zero_item
  have hsz : i.size = 4 := by have := sz_item; rw [hi] at this; simpa using this
  simp [Instr.buildSlice, run_underlying Try.underlying73, sizeOf, typeInfo, zeroValue, hi, hz, hsz, Value.cells, newRow, Instr.fill, Iv.cells, cellsI, (by decide : Array.range 4 = #[0, 1, 2, 3])]
theorem run_is2 (x y : Iv) (w : World) : (Instr.buildSlice 73 2 #[(0, .agg (Iv.cells x).toArray), (1, .agg (Iv.cells y).toArray)]).run Try.prog w = .ok (.slice (some ⟨w.heap.size, 0, none⟩) 2 2) (w.alloc (.cells (cellsI [x, y]).toArray 36)) := by
  obtain ⟨i, hi, hz⟩ := Option.map_eq_some_iff.1 zero_item
  have hsz : i.size = 4 := by have := sz_item; rw [hi] at this; simpa using this
  simp [Instr.buildSlice, run_underlying Try.underlying73, sizeOf, typeInfo, zeroValue, hi, hz, hsz, Value.cells, newRow, Instr.fill, Iv.cells, cellsI, (by decide : Array.range 8 = #[0, 1, 2, 3, 4, 5, 6, 7])]
section
variable {ops : Array Oper} {rest : List Oper} {o : Oper} {a : Act} {Q : Exit → Act → World → Prop} {w : World}
theorem own_is1 {p : Operand} (x : Iv) (hw : Region.wanted o (yielded ops a.tmps) = true) (ho : o.op = .buildSlice 73 1 #[(0, p)]) (hp : a.eval p = .agg (Iv.cells x).toArray) (h : wpList Try.prog ops Q rest (a.put o.dst (.slice (some ⟨w.heap.size, 0, none⟩) 1 1)) (w.alloc (.cells (cellsI [x]).toArray 36))) : wpList Try.prog ops Q (o :: rest) a w := by
  refine ev hw ?_ h
  have e : (#[(0, p)] : Array (Nat × Operand)).map (fun (i, x) => (i, a.eval x)) = #[(0, .agg (Iv.cells x).toArray)] := by simp [hp]
  simp only [execOp, ho, e, Sem.run_bind, run_is1 x]
  rfl
theorem own_is2 {p q : Operand} (x y : Iv) (hw : Region.wanted o (yielded ops a.tmps) = true) (ho : o.op = .buildSlice 73 2 #[(0, p), (1, q)]) (hp : a.eval p = .agg (Iv.cells x).toArray) (hq : a.eval q = .agg (Iv.cells y).toArray) (h : wpList Try.prog ops Q rest (a.put o.dst (.slice (some ⟨w.heap.size, 0, none⟩) 2 2)) (w.alloc (.cells (cellsI [x, y]).toArray 36))) : wpList Try.prog ops Q (o :: rest) a w := by
  refine ev hw ?_ h
  have e : (#[(0, p), (1, q)] : Array (Nat × Operand)).map (fun (i, x) => (i, a.eval x)) = #[(0, .agg (Iv.cells x).toArray), (1, .agg (Iv.cells y).toArray)] := by simp [hp, hq]
  simp only [execOp, ho, e, Sem.run_bind, run_is2 x y]
  rfl
theorem own_is2g {L : List HP} {p q : Operand} (x y : Iv) (hw : Region.wanted o (yielded ops a.tmps) = true) (ho : o.op = .buildSlice 73 2 #[(0, p), (1, q)]) (hp : a.eval p = .agg (Iv.cells x).toArray) (hq : a.eval q = .agg (Iv.cells y).toArray) (hO : Own w L) (h : ∀ g w', Own w' (pts g (.cells (cellsI [x, y]).toArray 36) :: L) → Same w w' → wpList Try.prog ops Q rest (a.put o.dst (.slice (some ⟨g, 0, none⟩) 2 2)) w') : wpList Try.prog ops Q (o :: rest) a w :=
  own_is2 x y hw ho hp hq (h _ _ (own_alloc_new hO _) (Same.alloc _ _))
theorem own_is1g {L : List HP} {p : Operand} (x : Iv) (hw : Region.wanted o (yielded ops a.tmps) = true) (ho : o.op = .buildSlice 73 1 #[(0, p)]) (hp : a.eval p = .agg (Iv.cells x).toArray) (hO : Own w L) (h : ∀ g w', Own w' (pts g (.cells (cellsI [x]).toArray 36) :: L) → Same w w' → wpList Try.prog ops Q rest (a.put o.dst (.slice (some ⟨g, 0, none⟩) 1 1)) w') : wpList Try.prog ops Q (o :: rest) a w :=
  own_is1 x hw ho hp (h _ _ (own_alloc_new hO _) (Same.alloc _ _))
theorem own_zs1g {L : List HP} {p : Operand} (d : Int) (hw : Region.wanted o (yielded ops a.tmps) = true) (ho : o.op = .buildSlice 34 1 #[(0, p)]) (hp : a.eval p = .int .i64 d) (hO : Own w L) (h : ∀ g w', Own w' (pts g (.cells #[.int .i64 d] 3) :: L) → Same w w' → wpList Try.prog ops Q rest (a.put o.dst (.slice (some ⟨g, 0, none⟩) 1 1)) w') : wpList Try.prog ops Q (o :: rest) a w := by
  refine ev hw ?_ (h _ _ (own_alloc_new hO _) (Same.alloc _ _))
  have e : (#[(0, p)] : Array (Nat × Operand)).map (fun (i, x) => (i, a.eval x)) = #[(0, .int .i64 d)] := by simp [hp]
  simp only [execOp, ho, e, Sem.run_bind, run_zs1 d]
  rfl
end
theorem rd_items {w : World} {g : Nat} {is : List Iv} {L : List HP} (h : Own w (pts g (.cells (cellsI is).toArray 36) :: L)) (hn : is.length ≤ 1000000) : Rd w 4 (.slice (some ⟨g, 0, none⟩) is.length is.length) is.length (cellsI is) :=
  rd_block (own_get 0 h rfl) (by rw [← cellsI_length]; exact List.take_length) (by simp [cellsI_length]) (Nat.le_refl _) (by omega)
theorem rd_z1 {w : World} {g : Nat} {d : Int} {L : List HP} (h : Own w (pts g (.cells #[.int .i64 d] 3) :: L)) : Rd w 1 (.slice (some ⟨g, 0, none⟩) 1 1) 1 (zs [d]) :=
  rd_block (own_get 0 h rfl) rfl (by simp) (Nat.le_refl _) (by decide)
abbrev it0 : It := ⟨⟨0, 0, ⟨#[97]⟩⟩, []⟩
abbrev it1 : It := ⟨⟨1, 0, ⟨#[98]⟩⟩, [-1]⟩
/-- No block has more versions than so many. -/
def Vl (n : Nat) (E : Eng) : Prop := ∀ b ∈ E.m, b.vs.length ≤ n
theorem Vl.mono {n n' : Nat} {E : Eng} (h : Vl n E) (hn : n ≤ n') : Vl n' E := fun b hb => Nat.le_trans (h b hb) hn
theorem Vl.write {n : Nat} {E : Eng} (h : Vl n E) (i : Nat) : Vl (n + 1) (E.writeM i).2 := by
  rcases write_cases E i with e | ⟨b, hb, _, _, _, e⟩
  · rw [e]; exact h.mono (Nat.le_succ _)
  · rw [e]
    intro c hc
    rcases List.mem_or_eq_of_mem_set hc with hc | rfl
    · exact Nat.le_succ_of_le (h c hc)
    · show (b.vs ++ [_]).length ≤ n + 1
      rw [List.length_append, List.length_singleton]
      exact Nat.succ_le_succ (h b (List.mem_of_getElem? hb))
theorem Vl.flushed {E : Eng} (n : Nat) : Vl n E.flushed := by
  intro b hb
  have hb : b ∈ crashL allV 0 E.m := hb
  rw [crashL_all] at hb
  obtain ⟨c, _, rfl⟩ := List.mem_map.1 hb
  exact Nat.zero_le _
theorem addM_m (E : Eng) (l : List It) : (E.addM l).2.m = E.m := by
  unfold Eng.addM
  split
  · rfl
  · split
    · rfl
    · split
      · rfl
      · exact Eng.addK_m E E.next l
theorem Vl.add {n : Nat} {E : Eng} (h : Vl n E) (l : List It) : Vl n (E.addM l).2 := by
  unfold Vl
  rw [addM_m]
  exact h
theorem Vl.fresh0 (n k : Nat) : Vl n (eng0 k) := by
  intro b hb
  have hb : b ∈ crashL allV 0 _ := hb
  rw [crashL_all] at hb
  obtain ⟨c, _, rfl⟩ := List.mem_map.1 hb
  exact Nat.zero_le _
theorem eng0_inv (n : Nat) : (eng0 n).Inv := by
  refine Eng.Inv.fresh _ (fun b hb => ?_) (fun b hb => ?_)
  · rw [crashL_all] at hb
    obtain ⟨c, _, rfl⟩ := List.mem_map.1 hb
    rfl
  · rw [crashL_all] at hb
    obtain ⟨c, hc, rfl⟩ := List.mem_map.1 hb
    obtain ⟨s, hs, rfl⟩ := List.mem_map.1 hc
    rw [(List.mem_replicate.1 hs).2]
    rfl
/-- What is met on the way of live. -/
abbrev engA : Eng := ((eng0 3).addM [it0, it1]).2
abbrev engB : Eng := (engA.writeM 1).2
abbrev engC : Eng := (engB.writeM 0).2
abbrev engD : Eng := engC.flushed
abbrev engF : Eng := (engD.writeM 1).2
theorem engA_ok : engA.Ok ∧ engA.Inv := addM_ok (eng0_ok 3 (by decide)) (eng0_inv 3) (by decide) (by decide)
theorem engB_ok : engB.Ok ∧ engB.Inv := ⟨engA_ok.1.write 1, engA_ok.2.write engA_ok.1 1⟩
theorem engC_ok : engC.Ok ∧ engC.Inv := ⟨engB_ok.1.write 0, engB_ok.2.write engB_ok.1 0⟩
theorem engD_ok : engD.Ok ∧ engD.Inv := ⟨engC_ok.1.flushed, engC_ok.2.flushed engC_ok.1⟩
theorem engF_ok : engF.Ok ∧ engF.Inv := ⟨engD_ok.1.write 1, engD_ok.2.write engD_ok.1 1⟩
theorem engA_vl : Vl 0 engA := (Vl.fresh0 0 3).add _
theorem engB_vl : Vl 1 engB := engA_vl.write 1
theorem engC_vl : Vl 2 engC := engB_vl.write 0
theorem engD_vl : Vl 0 engD := Vl.flushed 0
theorem engA_m3 : engA.m.length = 3 := by kernel_rfl
theorem engA_m : 1 < engA.m.length := by rw [engA_m3]; decide
theorem engB_m3 : engB.m.length = 3 := by kernel_rfl
theorem engB_m : 0 < engB.m.length := by rw [engB_m3]; decide
theorem engD_m3 : engD.m.length = 3 := by kernel_rfl
theorem engD_m : 1 < engD.m.length := by rw [engD_m3]; decide
theorem engA_r : ((eng0 3).addM [it0, it1]).1 = (0, 0) := by kernel_rfl
theorem engB_r : (engA.writeM 1).1 = (0, 0) := by kernel_rfl
theorem engC_r : (engB.writeM 0).1 = (1, 0) := by kernel_rfl
theorem engF_r : (engD.writeM 1).1 = (1, 0) := by kernel_rfl
theorem engF_l : engF.l.length = 1 := by kernel_rfl
theorem engF_n : engF.next = 2 := by kernel_rfl
section
variable (w : World) (L : List HP) (e : Nat)
theorem ladd_c (g1 g2 : Nat) (hO : Own w (engP e (eng0 3) :: pts g2 (.cells (cellsI [(it0, .slice none 0 0), (it1, .slice (some ⟨g1, 0, none⟩) 1 1)]).toArray 36) :: pts g1 (.cells #[.int .i64 (-1)] 3) :: L)) :
    Calls Try.prog 9 #[.pointer (some ⟨e, 0, none⟩), .slice (some ⟨g2, 0, none⟩) 2 2] w (Ret w (.tuple #[.int .i64 0, .int .i64 0]) (engP e engA :: pts g2 (.cells (cellsI [(it0, .slice none 0 0), (it1, .slice (some ⟨g1, 0, none⟩) 1 1)]).toArray 36) :: pts g1 (.cells #[.int .i64 (-1)] 3) :: L)) := by
  have h := eadd_c w _ e (eng0 3) (.slice (some ⟨g2, 0, none⟩) 2 2) 2 [(it0, .slice none 0 0), (it1, .slice (some ⟨g1, 0, none⟩) 1 1)] hO (eng0_ok 3 (by decide)) rfl (by decide) (fun w' h => rd_items h (by show 2 ≤ 1000000; decide)) (fun x hx => ?_) (fun x hx => ?_) (fun x hx => ?_)
  · have e1 : List.map (fun x : Iv => x.1) [(it0, .slice none 0 0), (it1, .slice (some ⟨g1, 0, none⟩) 1 1)] = [it0, it1] := rfl
    rw [e1, engA_r] at h
    exact h
  · simp only [List.mem_cons, List.not_mem_nil, or_false] at hx
    rcases hx with rfl | rfl
    · exact ⟨none, 0, rfl, fun w' _ => rd_nil _ _⟩
    · exact ⟨some ⟨g1, 0, none⟩, 1, rfl, fun w' h => rd_z1 (own_order [1] h rfl)⟩
  · simp only [List.mem_cons, List.not_mem_nil, or_false] at hx
    rcases hx with rfl | rfl
    · intro d hd; cases hd
    · intro d hd
      rw [List.mem_singleton.1 hd]
      decide
  · simp only [List.mem_cons, List.not_mem_nil, or_false] at hx
    rcases hx with rfl | rfl <;> simp
theorem lwrite_c (E : Eng) (i n : Nat) (x : Int) (r : (E.writeM i).1 = (n, x)) (hk : E.Ok) (hi : i < E.m.length) (hv : Vl 1000000 E) (hO : Own w (engP e E :: L)) : Calls Try.prog 17 #[.pointer (some ⟨e, 0, none⟩), .int .i64 i] w (Ret w (.tuple #[.int .i64 n, .int .i64 x]) (engP e (E.writeM i).2 :: L)) := by
  have h := ewrite_c w L e E i hO hk hi hv
  rw [r] at h
  exact h
theorem lflush_c (E : Eng) (hk : E.Ok) (hv : Vl 1000000 E) (hO : Own w (engP e E :: L)) : Calls Try.prog 18 #[.pointer (some ⟨e, 0, none⟩)] w (Ret w (.int .i64 0) (engP e E.flushed :: L)) := eflush_c w L e E hO hk hv
theorem lwait_c (E : Eng) (n : Nat) (hn : E.l.length = n) (hk : E.Ok) (hO : Own w (engP e E :: L)) : Calls Try.prog 22 #[.pointer (some ⟨e, 0, none⟩)] w (RetX w (fun v : Value => v) (fun v => owns 3 1 v n (zs E.waiting) :: engP e E :: L)) := by
  have h := ewaiting_c w L e E hO hk
  rw [hn] at h
  exact h
end
end Go.Proofs.Ytonohjhmnlfakaa.H
set_option linter.unusedVariables false
set_option linter.unusedSimpArgs false
namespace Go.Proofs.Ytonohjhmnlfakaa.H
open Go.RowKit
/-- What is said of each number: what it must come behind. -/
structure Beh (ds : List (List Int)) (E : Eng) : Prop where
  next : E.next = ds.length
  right : ∀ (n : Nat) (l : List Int), ds[n]? = some l → ∀ d ∈ l, 0 ≤ d ∧ d < (n : Int)
  up : ∀ (n : Nat) (l : List Int), ds[n]? = some l → (n : Int) ∉ wnums E.l → ∀ d ∈ l, d ∉ wnums E.l
  link : ∀ x ∈ E.l, ∀ l, ds[x.n]? = some l → ∀ d ∈ l, d ∈ x.beh
theorem Beh.fresh (m : List Blk) : Beh [] ⟨m, [], fun _ => [], 0⟩ :=
  ⟨rfl, fun n l h => by simp at h, fun n l h => by simp at h, fun x hx => (by cases hx)⟩
theorem write_l (E : Eng) (i : Nat) : (E.writeM i).2.l = E.l := by
  rcases write_cases E i with h | ⟨b, _, _, _, _, h⟩ <;> rw [h]
theorem write_next (E : Eng) (i : Nat) : (E.writeM i).2.next = E.next := by
  rcases write_cases E i with h | ⟨b, _, _, _, _, h⟩ <;> rw [h]
theorem write_len (E : Eng) (i : Nat) : (E.writeM i).2.m.length = E.m.length := by
  rcases write_cases E i with h | ⟨b, _, _, _, _, h⟩ <;> rw [h]
  exact List.length_set
theorem flushed_len (E : Eng) : E.flushed.m.length = E.m.length := by
  show (crashL allV 0 E.m).length = _
  rw [crashL_len]
theorem Beh.write {ds : List (List Int)} {E : Eng} (h : Beh ds E) (i : Nat) : Beh ds (E.writeM i).2 :=
  ⟨by rw [write_next]; exact h.next, h.right, by rw [write_l]; exact h.up, by rw [write_l]; exact h.link⟩
theorem wnums_filter_sub {l : List Wt} {f : Wt → Bool} {d : Int} (h : d ∈ wnums (l.filter f)) : d ∈ wnums l := by
  obtain ⟨x, hx, e⟩ := List.mem_map.1 h
  exact List.mem_map.2 ⟨x, List.filter_sublist.subset hx, e⟩
theorem Beh.flushed {ds : List (List Int)} {E : Eng} (h : Beh ds E) (hI : E.Inv) (hA : E.Ok) : Beh ds E.flushed := by
  refine ⟨h.next, h.right, fun n l hl hn d hd hw => ?_, fun x hx l hl => h.link x (List.filter_sublist.subset hx) l hl⟩
  have hn : (n : Int) ∉ wnums (E.l.filter fun x => !inAny E.m.length E.s x.n) := hn
  have hw : d ∈ wnums (E.l.filter fun x => !inAny E.m.length E.s x.n) := hw
  have hwl := wnums_filter_sub hw
  by_cases h1 : (n : Int) ∈ wnums E.l
  · obtain ⟨x, hx, e⟩ := List.mem_map.1 h1
    have e : (x.n : Int) = n := e
    have e2 : x.n = n := by omega
    subst e2
    have h2 : inAny E.m.length E.s x.n = true := by
      cases h3 : inAny E.m.length E.s x.n with
      | true => rfl
      | false => exact absurd (List.mem_map.2 ⟨x, List.mem_filter.2 ⟨hx, by rw [h3]; rfl⟩, rfl⟩) hn
    unfold inAny at h2
    obtain ⟨i, hi, h4⟩ := List.any_eq_true.1 h2
    have h5 := hI.closed i x hx (by simpa using h4) d (h.link x hx l hl d hd) hwl
    obtain ⟨y, hy, e3⟩ := List.mem_map.1 hw
    have e3 : (y.n : Int) = d := e3
    have h6 := (List.mem_filter.1 hy).2
    have h7 : inAny E.m.length E.s y.n = true := by
      unfold inAny
      exact List.any_eq_true.2 ⟨i, hi, by rw [e3]; simpa using h5⟩
    have h6 : (!inAny E.m.length E.s (y.n : Int)) = true := h6
    rw [h7] at h6
    cases h6
  · exact h.up n l hl h1 d hd hwl
theorem Beh.add1 {ds : List (List Int)} {E : Eng} (h : Beh ds E) (hA : E.Ok) (first : Nat) (x : It) (hx : ∀ d ∈ x.deps, 0 ≤ d ∧ d < (E.next : Int)) : Beh (ds ++ [x.deps]) (E.add1 first x) := by
  have hw : wnums (E.add1 first x).l = wnums E.l ++ [(E.next : Int)] := by
    show wnums (E.l ++ [_]) = _
    unfold wnums
    rw [List.map_append]
    rfl
  have hold : ∀ (n : Nat) (l : List Int), (ds ++ [x.deps])[n]? = some l → (n < ds.length ∧ ds[n]? = some l) ∨ (n = E.next ∧ l = x.deps) := fun n l hl => by
    by_cases hn : n < ds.length
    · rw [List.getElem?_append_left hn] at hl
      exact .inl ⟨hn, hl⟩
    · rw [List.getElem?_append_right (by omega)] at hl
      have h1 := (List.getElem?_eq_some_iff.1 hl).1
      rw [List.length_singleton] at h1
      have e : n - ds.length = 0 := by omega
      rw [e] at hl
      have e2 : x.deps = l := by simpa using hl
      exact .inr ⟨by rw [h.next]; omega, e2.symm⟩
  refine ⟨?_, fun n l hl => ?_, fun n l hl hn d hd hd2 => ?_, fun y hy l hl d hd => ?_⟩
  · show E.next + 1 = _
    rw [List.length_append, List.length_singleton, h.next]
  · rcases hold n l hl with ⟨_, h1⟩ | ⟨rfl, rfl⟩
    · exact h.right n l h1
    · exact hx
  · rw [hw] at hn hd2
    rcases hold n l hl with ⟨h0, h1⟩ | ⟨rfl, rfl⟩
    · rcases List.mem_append.1 hd2 with hd2 | hd2
      · exact h.up n l h1 (fun hh => hn (List.mem_append_left _ hh)) d hd hd2
      · have h2 := (h.right n l h1 d hd).2
        have h3 := List.mem_singleton.1 hd2
        rw [h.next] at h3
        omega
    · exact hn (List.mem_append_right _ (List.mem_singleton.2 rfl))
  · have hy : y ∈ E.l ++ [_] := hy
    rcases List.mem_append.1 hy with hy | hy
    · rcases hold y.n l hl with ⟨h0, h1⟩ | ⟨h0, _⟩
      · exact h.link y hy l h1 d hd
      · have := hA.lt y hy
        omega
    · rw [List.mem_singleton.1 hy] at hl ⊢
      rcases hold E.next l hl with ⟨h0, _⟩ | ⟨_, rfl⟩
      · rw [h.next] at h0; omega
      · refine List.mem_append_left _ (List.mem_map.2 ⟨d, hd, ?_⟩)
        unfold Eng.depOf
        rw [if_neg (by have := (hx d hd).1; omega)]
/-- Those that last. -/
def doneL (ds : List (List Int)) (E : Eng) : List Nat := (List.range ds.length).filter fun n : Nat => !(wnums E.l).contains (n : Int)
theorem Beh.closed {ds : List (List Int)} {E : Eng} (h : Beh ds E) {n : Nat} {l : List Int} (hl : ds[n]? = some l) (hn : n ∈ doneL ds E) {d : Int} (hd : d ∈ l) : d.toNat ∈ doneL ds E ∧ 0 ≤ d ∧ d < (n : Int) := by
  have h1 := (List.mem_filter.1 hn).2
  have h2 := h.right n l hl d hd
  have h3 := (List.getElem?_eq_some_iff.1 hl).1
  have h4 := h.up n l hl (by simpa using h1) d hd
  refine ⟨List.mem_filter.2 ⟨List.mem_range.2 (by omega), ?_⟩, h2⟩
  have e : ((d.toNat : Nat) : Int) = d := Int.toNat_of_nonneg h2.1
  rw [e]
  simpa using h4
end Go.Proofs.Ytonohjhmnlfakaa.H
