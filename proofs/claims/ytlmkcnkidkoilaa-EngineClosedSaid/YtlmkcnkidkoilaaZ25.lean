/- What a crash leaves: kept true by what is done. EngineClosed's walk: pieces. EngineClosed: the image, what is seen, what is wanted, in plain words. -/
import Derived.Test.YtlmkcnkidkoilaaZ24
import Derived.Test.YtlmkcnkidkoilaaZ21
import Derived.Test.YtlmkcnkidkoilaaZ23
set_option linter.unusedVariables false
set_option linter.unusedSimpArgs false
namespace Go.Proofs.Ytlmkcnkidkoilaa.H
open Go.RowKit
theorem Cl.start (k : Nat) : Cl [] [] (eng0 k) := by
  refine ⟨rfl, rfl, fun x hx => (by cases hx), fun n p h => (by simp at h), fun n l h => (by simp at h), fun n l h => (by simp at h), fun x hx => (by cases hx), fun m n p p' l _ h => (by simp at h), fun i b hb q hq => ?_, fun i b v hb hv => ?_⟩
  · have hb : (crashL allV 0 (fresh (List.replicate k sec0)))[i]? = some b := hb
    rw [crashL_all] at hb
    rw [List.getElem?_map] at hb
    obtain ⟨c, hc, rfl⟩ := Option.map_eq_some_iff.1 hb
    rw [List.getElem?_map] at hc
    obtain ⟨s, hs, rfl⟩ := Option.map_eq_some_iff.1 hc
    have e := (List.mem_replicate.1 (List.mem_of_getElem? hs)).2
    refine ⟨0, ?_, .inl ⟨rfl, fun n p h => (by simp at h)⟩⟩
    show s[q]? = _
    rw [e]
    show (List.replicate 32 (0 : UInt8))[q]? = _
    rw [List.getElem?_replicate, if_pos hq]
    rfl
  · exfalso
    have hb : (crashL allV 0 (fresh (List.replicate k sec0)))[i]? = some b := hb
    rw [crashL_all, List.getElem?_map] at hb
    obtain ⟨c, hc, rfl⟩ := Option.map_eq_some_iff.1 hb
    cases hv
theorem Cl.write {all : List Pat} {ds : List (List Int)} {E : Eng} (h : Cl all ds E) (hI : E.Inv) (hA : E.Ok) (i : Nat) : Cl all ds (E.writeM i).2 := by
  rcases write_cases E i with e | ⟨b, hb, _, hr, _, e⟩
  · rw [e]; exact h
  · rw [e]
    refine ⟨h.next, h.len, h.hist, fun n p hp => ?_, h.right, h.up, h.link, h.lap, fun j c hc q hq => ?_, fun j c v hc hv => ?_⟩
    · have := h.pat n p hp
      simpa using this
    · have hc : (E.m.set i (b.wr (E.bytes i b fun x => (readyL E.l i).contains (x.n : Int))))[j]? = some c := hc
      by_cases hj : i = j
      · subst hj
        rw [List.getElem?_set, if_pos rfl, if_pos (List.getElem?_eq_some_iff.1 hb).1] at hc
        cases hc
        exact h.base i b hb q hq
      · rw [List.getElem?_set, if_neg hj] at hc
        exact h.base j c hc q hq
    · have hc : (E.m.set i (b.wr (E.bytes i b fun x => (readyL E.l i).contains (x.n : Int))))[j]? = some c := hc
      by_cases hj : i = j
      · subst hj
        rw [List.getElem?_set, if_pos rfl, if_pos (List.getElem?_eq_some_iff.1 hb).1] at hc
        cases hc
        have hv : v ∈ b.vs ++ [E.bytes i b fun x => (readyL E.l i).contains (x.n : Int)] := hv
        rcases List.mem_append.1 hv with hv | hv
        · exact h.vers i b v hb hv
        · refine ⟨readyL E.l i, fun d hd => ready_at hA.asc hd, fun x hx hn d hd hw => ((ready_iff hA.asc hx).1 hn).2 d hd hw, ?_⟩
          rw [List.mem_singleton.1 hv]
          rfl
      · rw [List.getElem?_set, if_neg hj] at hc
        exact h.vers j c v hc hv
theorem Cl.flushed {all : List Pat} {ds : List (List Int)} {E : Eng} (h : Cl all ds E) (hI : E.Inv) (hA : E.Ok) : Cl all ds E.flushed := by
  have hout : ∀ (n : Nat), (n : Int) ∉ wnums (E.l.filter fun x => !inAny E.m.length E.s x.n) → (n : Int) ∉ wnums E.l ∨ ∃ x ∈ E.l, x.n = n ∧ ∃ i, i < E.m.length ∧ (n : Int) ∈ E.s i := fun n hn => by
    by_cases h1 : (n : Int) ∈ wnums E.l
    · obtain ⟨x, hx, e⟩ := List.mem_map.1 h1
      have e : (x.n : Int) = n := e
      have e2 : x.n = n := by omega
      subst e2
      have h2 : inAny E.m.length E.s x.n = true := by
        cases h3 : inAny E.m.length E.s x.n with
        | true => rfl
        | false => exact absurd (List.mem_map.2 ⟨x, List.mem_filter.2 ⟨hx, by rw [h3]; rfl⟩, rfl⟩) hn
      unfold inAny at h2
      obtain ⟨i, hi, h4⟩ := List.any_eq_true.1 h2
      exact .inr ⟨x, hx, rfl, i, List.mem_range.1 hi, by simpa using h4⟩
    · exact .inl h1
  refine ⟨h.next, h.len, fun x hx => h.hist x (List.filter_sublist.subset hx), fun n p hp => ?_, h.right, fun n l hl hn d hd hw => ?_, fun x hx l hl d hd hw => h.link x (List.filter_sublist.subset hx) l hl d hd (wnums_filter_sub hw), h.lap, fun i b hb q hq => ?_, fun i b v hb hv => ?_⟩
  · have := h.pat n p hp
    rw [flushed_len]
    exact this
  · have hw : d ∈ wnums (E.l.filter fun x => !inAny E.m.length E.s x.n) := hw
    have hwl := wnums_filter_sub hw
    rcases hout n hn with h1 | ⟨x, hx, e2, i, hi, h4⟩
    · exact h.up n l hl h1 d hd hwl
    · subst e2
      have h5 := hI.closed i x hx h4 d (h.link x hx l hl d hd hwl) hwl
      obtain ⟨y, hy, e3⟩ := List.mem_map.1 hw
      have e3 : (y.n : Int) = d := e3
      have h6 : (!inAny E.m.length E.s (y.n : Int)) = true := (List.mem_filter.1 hy).2
      have h7 : inAny E.m.length E.s y.n = true := by
        unfold inAny
        exact List.any_eq_true.2 ⟨i, List.mem_range.2 hi, by rw [e3]; simpa using h5⟩
      rw [h7] at h6
      cases h6
  · have hb : (crashL allV 0 E.m)[i]? = some b := hb
    rw [crashL_all, List.getElem?_map] at hb
    obtain ⟨c, hc, rfl⟩ := Option.map_eq_some_iff.1 hb
    have hi := (List.getElem?_eq_some_iff.1 hc).1
    have hnow : c.now = E.bytes i c fun x => (E.s i).contains (x.n : Int) := by
      rcases hI.vers i c hc with ⟨g1, g2⟩ | ⟨_, g2⟩
      · have e : c.now = c.s := by simp [Blk.now, g1]
        rw [e, g2]
        unfold Eng.bytes
        have e2 : (E.l.filter fun x => decide (x.p.blk = (i : Int)) && ([] : List Int).contains (x.n : Int)) = [] := by
          rw [List.filter_eq_nil_iff]
          intro x _
          simp
        rw [e2]
        rfl
      · exact g2
    obtain ⟨r, h1, h2⟩ := h.pic hI hA hc (hI.blk i) hq
    refine ⟨r, by show c.now[q]? = _; rw [hnow]; exact h1, h2.congr (fun n p hp hcv => ?_)⟩
    show ((n : Int) ∉ wnums E.l ∨ (n : Int) ∈ E.s i) ↔ (n : Int) ∉ wnums (E.l.filter fun x => !inAny E.m.length E.s x.n)
    constructor
    · rintro (g | g)
      · exact fun hw => g (wnums_filter_sub hw)
      · intro hw
        obtain ⟨y, hy, e3⟩ := List.mem_map.1 hw
        have e3 : (y.n : Int) = n := e3
        have h6 : (!inAny E.m.length E.s (y.n : Int)) = true := (List.mem_filter.1 hy).2
        have h7 : inAny E.m.length E.s y.n = true := by
          unfold inAny
          exact List.any_eq_true.2 ⟨i, List.mem_range.2 hi, by rw [e3]; simpa using g⟩
        rw [h7] at h6
        cases h6
    · intro g
      rcases hout n g with g | ⟨x, hx, e2, j, hj, h4⟩
      · exact .inl g
      · subst e2
        have h5 := h.hist x hx
        rw [hp] at h5
        cases h5
        obtain ⟨y, hy, e4, e5⟩ := hI.blk j _ h4
        have : y = x := asc_inj hA.asc.asc hy hx (by omega)
        subst this
        have h6 := hcv.1
        have : j = i := by omega
        subst this
        exact .inr h4
  · exfalso
    have hb : (crashL allV 0 E.m)[i]? = some b := hb
    rw [crashL_all, List.getElem?_map] at hb
    obtain ⟨c, hc, rfl⟩ := Option.map_eq_some_iff.1 hb
    cases hv
theorem getElem?_snoc {α : Type} {l : List α} {a x : α} {k : Nat} (h : (l ++ [a])[k]? = some x) : (k < l.length ∧ l[k]? = some x) ∨ (k = l.length ∧ x = a) := by
  by_cases h1 : k < l.length
  · rw [List.getElem?_append_left h1] at h
    exact .inl ⟨h1, h⟩
  · rw [List.getElem?_append_right (by omega)] at h
    have h2 := (List.getElem?_eq_some_iff.1 h).1
    rw [List.length_singleton] at h2
    have e : k - l.length = 0 := by omega
    rw [e] at h
    have e2 : a = x := by simpa using h
    exact .inr ⟨by omega, e2.symm⟩
theorem Cl.add {all : List Pat} {ds : List (List Int)} {E : Eng} (h : Cl all ds E) (hI : E.Inv) (hA : E.Ok) {p : Pat} {deps dl : List Int} (hp : rightB p = true ∧ p.blk < (E.m.length : Int)) (ho : Own1 all.length p) (hd0 : ∀ d ∈ deps, 0 ≤ d) (h1 : ∀ d ∈ dl, 0 ≤ d ∧ d < (all.length : Int)) (h2 : ∀ d ∈ dl, d ∈ deps ∨ ∃ (m : Nat) (p' : Pat), d = (m : Int) ∧ all[m]? = some p' ∧ overB p' p = true) (h3 : ∀ (m : Nat) (p' : Pat), all[m]? = some p' → overB p' p = true → (m : Int) ∈ dl) :
    Cl (all ++ [p]) (ds ++ [dl]) (E.add1 E.next ⟨p, deps⟩) := by
  have hw : wnums (E.add1 E.next ⟨p, deps⟩).l = wnums E.l ++ [(E.next : Int)] := by
    show wnums (E.l ++ [_]) = _
    unfold wnums
    rw [List.map_append]
    rfl
  have hlt : ∀ d ∈ wnums E.l, d < (E.next : Int) := fun d hd => by
    obtain ⟨x, hx, e⟩ := List.mem_map.1 hd
    have e : (x.n : Int) = d := e
    have := hA.lt x hx
    omega
  have hnx := h.next
  refine ⟨by show E.next + 1 = _; rw [List.length_append, List.length_singleton, h.next], by rw [List.length_append, List.length_append, h.len]; rfl, fun x hx => ?_, fun n p' hn => ?_, fun n l hl => ?_, fun n l hl hn d hd hd2 => ?_, fun x hx l hl d hd hd2 => ?_, fun m n p1 p2 l hmn hm hn hov hl => ?_, fun i b hb q hq => ?_, fun i b v hb hv => ?_⟩
  · have hx : x ∈ E.l ++ [_] := hx
    rcases List.mem_append.1 hx with hx | hx
    · have := h.hist x hx
      rw [List.getElem?_append_left (List.getElem?_eq_some_iff.1 this).1]
      exact this
    · rw [List.mem_singleton.1 hx]
      show (all ++ [p])[E.next]? = some p
      rw [h.next, List.getElem?_append_right (Nat.le_refl _), Nat.sub_self]
      rfl
  · rcases getElem?_snoc hn with ⟨_, hn⟩ | ⟨rfl, rfl⟩
    · exact h.pat n p' hn
    · exact ⟨hp.1, hp.2, ho⟩
  · rcases getElem?_snoc hl with ⟨_, hl⟩ | ⟨rfl, rfl⟩
    · exact h.right n l hl
    · rw [h.len]; exact h1
  · rw [hw] at hn hd2
    rcases getElem?_snoc hl with ⟨hlt2, hl⟩ | ⟨rfl, rfl⟩
    · rcases List.mem_append.1 hd2 with hd2 | hd2
      · exact h.up n l hl (fun g => hn (List.mem_append_left _ g)) d hd hd2
      · have e := List.mem_singleton.1 hd2
        have := h.right n l hl d hd
        have := h.len
        omega
    · exact hn (List.mem_append_right _ (List.mem_singleton.2 (by rw [h.len, ← h.next])))
  · have hx : x ∈ E.l ++ [_] := hx
    rw [hw] at hd2
    rcases List.mem_append.1 hx with hx | hx
    · have hxn := hA.lt x hx
      rcases getElem?_snoc hl with ⟨_, hl⟩ | ⟨e, _⟩
      · rcases List.mem_append.1 hd2 with hd2 | hd2
        · exact h.link x hx l hl d hd hd2
        · have e := List.mem_singleton.1 hd2
          have := h.right x.n l hl d hd
          omega
      · have := h.len; omega
    · rw [List.mem_singleton.1 hx] at hl ⊢
      rcases getElem?_snoc hl with ⟨g, _⟩ | ⟨_, rfl⟩
      · have g : E.next < ds.length := g
        have := h.len; omega
      · have hdl := h1 d hd
        rcases List.mem_append.1 hd2 with hd2 | hd2
        · show d ∈ deps.map (Eng.depOf E.next) ++ wnums (E.l.filter fun w => overB w.p p)
          rcases h2 d hd with g | ⟨m, p', rfl, g1, g2⟩
          · refine List.mem_append_left _ (List.mem_map.2 ⟨d, g, ?_⟩)
            unfold Eng.depOf
            rw [if_neg (by omega)]
          · obtain ⟨y, hy, e⟩ := List.mem_map.1 hd2
            have e : (y.n : Int) = m := e
            have e2 : y.n = m := by omega
            have g3 := h.hist y hy
            rw [e2, g1] at g3
            cases g3
            exact List.mem_append_right _ (List.mem_map.2 ⟨y, List.mem_filter.2 ⟨hy, g2⟩, e⟩)
        · have := List.mem_singleton.1 hd2
          omega
  · rcases getElem?_snoc hn with ⟨g, hn⟩ | ⟨rfl, rfl⟩
    · rcases getElem?_snoc hm with ⟨_, hm⟩ | ⟨e, _⟩
      · rcases getElem?_snoc hl with ⟨_, hl⟩ | ⟨e, _⟩
        · exact h.lap m n p1 p2 l hmn hm hn hov hl
        · have := h.len; omega
      · omega
    · rcases getElem?_snoc hm with ⟨_, hm⟩ | ⟨e, _⟩
      · rcases getElem?_snoc hl with ⟨g, _⟩ | ⟨_, rfl⟩
        · have := h.len; omega
        · exact h3 m p1 hm hov
      · omega
  · obtain ⟨r, g1, g2⟩ := h.base i b hb q hq
    refine ⟨r, g1, ?_⟩
    rw [hw]
    rcases g2 with ⟨e, g⟩ | ⟨n, p', e, g1, g2, g3, g4⟩
    · refine .inl ⟨e, fun n p' hn ht => ?_⟩
      rcases getElem?_snoc hn with ⟨_, hn⟩ | ⟨rfl, _⟩
      · exact g n p' hn (fun hh => ht (List.mem_append_left _ hh))
      · exact absurd (List.mem_append_right _ (List.mem_singleton.2 (by rw [h.next]))) ht
    · have hn := (List.getElem?_eq_some_iff.1 g1).1
      refine .inr ⟨n, p', e, by rw [List.getElem?_append_left hn]; exact g1, fun hh => ?_, g3, fun m p2 hm hp2 ht => ?_⟩
      · rcases List.mem_append.1 hh with hh | hh
        · exact g2 hh
        · have := List.mem_singleton.1 hh
          omega
      · rcases getElem?_snoc hp2 with ⟨_, hp2⟩ | ⟨rfl, _⟩
        · exact g4 m p2 hm hp2 (fun hh => ht (List.mem_append_left _ hh))
        · exact absurd (List.mem_append_right _ (List.mem_singleton.2 (by rw [h.next]))) ht
  · obtain ⟨V, g1, g2, g3⟩ := h.vers i b v hb hv
    have hV : ((E.next : Nat) : Int) ∉ V := fun hh => by
      obtain ⟨x, hx, e, _⟩ := g1 _ hh
      have := hA.lt x hx
      omega
    refine ⟨V, fun d hd => ?_, fun x hx hn d hd hd2 => ?_, ?_⟩
    · obtain ⟨x, hx, e⟩ := g1 d hd
      exact ⟨x, List.mem_append_left _ hx, e⟩
    · have hx : x ∈ E.l ++ [_] := hx
      rw [hw] at hd2
      rcases List.mem_append.1 hx with hx | hx
      · rcases List.mem_append.1 hd2 with hd2 | hd2
        · exact g2 x hx hn d hd hd2
        · have := List.mem_singleton.1 hd2
          have := hA.asc.beh x hx d hd
          have := hA.lt x hx
          omega
      · rw [List.mem_singleton.1 hx] at hn
        exact absurd hn hV
    · rw [g3]
      show appAll b.s _ = appAll b.s _
      congr 2
      show E.l.filter _ = (E.l ++ [_]).filter _
      rw [List.filter_append]
      have e2 : V.contains ((E.next : Nat) : Int) = false := by simpa using hV
      rw [List.filter_cons, if_neg (by show ¬ ((decide (p.blk = (i : Int)) && V.contains ((E.next : Nat) : Int)) = true); rw [e2]; simp), List.filter_nil, List.append_nil]
/-- Behind a crash each block is as it lasted, or one of its versions. -/
theorem crash_at (pk : Nat → Nat → Int) : ∀ (m : List Blk) (k0 i : Nat) (b' : Blk), (crashL pk k0 m)[i]? = some b' → ∃ b, m[i]? = some b ∧ (b'.s = b.s ∨ b'.s ∈ b.vs)
  | [], _, i, b', h => by simp [crashL] at h
  | b :: r, k0, i, b', h => by
    unfold crashL at h
    by_cases hv : b.vs = []
    · rw [if_pos hv] at h
      cases i with
      | zero =>
        have e : b = b' := by simpa using h
        exact ⟨b, rfl, .inl (by rw [e])⟩
      | succ i =>
        obtain ⟨c, h1, h2⟩ := crash_at pk r k0 i b' (by simpa using h)
        exact ⟨c, by simpa using h1, h2⟩
    · rw [if_neg hv] at h
      cases i with
      | zero =>
        have e : (⟨sett (pk k0 b.vs.length) b, [], b.bad⟩ : Blk) = b' := by simpa using h
        refine ⟨b, rfl, ?_⟩
        rw [← e]
        show sett (pk k0 b.vs.length) b = b.s ∨ sett (pk k0 b.vs.length) b ∈ b.vs
        unfold sett
        by_cases hc : 1 ≤ pk k0 b.vs.length ∧ pk k0 b.vs.length ≤ (b.vs.length : Int)
        · rw [if_pos hc]
          have hlt : (pk k0 b.vs.length - 1).toNat < b.vs.length := by omega
          rw [List.getElem?_eq_getElem hlt]
          exact .inr (List.getElem_mem hlt)
        · rw [if_neg hc]; exact .inl rfl
      | succ i =>
        obtain ⟨c, h1, h2⟩ := crash_at pk r (k0 + 1) i b' (by simpa using h)
        exact ⟨c, by simpa using h1, h2⟩
/-- What a crash leaves is what a closed set of patches makes, that has all that last. -/
theorem Cl.crash {all : List Pat} {ds : List (List Int)} {E : Eng} (h : Cl all ds E) (hI : E.Inv) (hA : E.Ok) (pk : Nat → Nat → Int) :
    ∃ T : Nat → Prop, (∀ n : Nat, (n : Int) ∉ wnums E.l → T n) ∧ (∀ (n : Nat) (l : List Int), ds[n]? = some l → T n → ∀ d ∈ l, T d.toNat) ∧ ∀ (i : Nat) (b' : Blk), (crashL pk 0 E.m)[i]? = some b' → ∀ q, q < 32 → ∃ r, b'.s[q]? = some (UInt8.ofNat r) ∧ Lastf all T i q r := by
  have hV : ∀ i : Nat, ∃ V : List Int, (∀ d ∈ V, ∃ x ∈ E.l, (x.n : Int) = d ∧ x.p.blk = (i : Int)) ∧ (∀ x ∈ E.l, (x.n : Int) ∈ V → ∀ d ∈ x.beh, d ∈ wnums E.l → d ∈ V) ∧ ∀ b', (crashL pk 0 E.m)[i]? = some b' → ∃ b, E.m[i]? = some b ∧ b'.s = E.bytes i b fun x => V.contains (x.n : Int) := fun i => by
    have hno : ∀ b : Blk, b.s = E.bytes i b fun x => ([] : List Int).contains (x.n : Int) := fun b => by
      unfold Eng.bytes
      have e2 : (E.l.filter fun x => decide (x.p.blk = (i : Int)) && ([] : List Int).contains (x.n : Int)) = [] := by
        rw [List.filter_eq_nil_iff]
        intro x _
        simp
      rw [e2]
      rfl
    cases hc : (crashL pk 0 E.m)[i]? with
    | none => exact ⟨[], fun d hd => (by cases hd), fun x _ hd => (by cases hd), fun b' hb => (by cases hb)⟩
    | some b' =>
      obtain ⟨b, hb, e | e⟩ := crash_at pk E.m 0 i b' hc
      · exact ⟨[], fun d hd => (by cases hd), fun x _ hd => (by cases hd), fun b2 hb2 => (by cases hb2; exact ⟨b, hb, by rw [e]; exact hno b⟩)⟩
      · obtain ⟨V, g1, g2, g3⟩ := h.vers i b b'.s hb e
        exact ⟨V, g1, g2, fun b2 hb2 => (by cases hb2; exact ⟨b, hb, g3⟩)⟩
  obtain ⟨V, hV⟩ : ∃ V : Nat → List Int, ∀ i, (∀ d ∈ V i, ∃ x ∈ E.l, (x.n : Int) = d ∧ x.p.blk = (i : Int)) ∧ (∀ x ∈ E.l, (x.n : Int) ∈ V i → ∀ d ∈ x.beh, d ∈ wnums E.l → d ∈ V i) ∧ ∀ b', (crashL pk 0 E.m)[i]? = some b' → ∃ b, E.m[i]? = some b ∧ b'.s = E.bytes i b fun x => (V i).contains (x.n : Int) := ⟨fun i => Classical.choose (hV i), fun i => Classical.choose_spec (hV i)⟩
  refine ⟨fun n => (n : Int) ∉ wnums E.l ∨ ∃ i, (n : Int) ∈ V i, fun n hn => .inl hn, fun n l hl ht d hd => ?_, fun i b' hb q hq => ?_⟩
  · have h0 := (h.right n l hl d hd).1
    have e : ((d.toNat : Nat) : Int) = d := Int.toNat_of_nonneg h0
    show ((d.toNat : Nat) : Int) ∉ wnums E.l ∨ ∃ i, ((d.toNat : Nat) : Int) ∈ V i
    rw [e]
    by_cases hw : d ∈ wnums E.l
    · rcases ht with ht | ⟨i, ht⟩
      · exact .inl (h.up n l hl ht d hd)
      · obtain ⟨x, hx, e2, _⟩ := (hV i).1 _ ht
        have e3 : x.n = n := by omega
        subst e3
        exact .inr ⟨i, (hV i).2.1 x hx ht d (h.link x hx l hl d hd hw) hw⟩
    · exact .inl hw
  · obtain ⟨b, hb1, e⟩ := (hV i).2.2 b' hb
    obtain ⟨r, h1, h2⟩ := h.pic hI hA hb1 (hV i).1 hq
    refine ⟨r, by rw [e]; exact h1, h2.congr (fun n p hp hc => ⟨fun g => g.elim .inl fun g => .inr ⟨i, g⟩, fun g => g.elim .inl fun ⟨j, g⟩ => .inr ?_⟩)⟩
    obtain ⟨x, hx, e2, e3⟩ := (hV j).1 _ g
    have e4 : x.n = n := by omega
    subst e4
    have h5 := h.hist x hx
    rw [hp] at h5
    cases h5
    have h6 := hc.1
    have : j = i := by omega
    subst this
    exact g
end Go.Proofs.Ytlmkcnkidkoilaa.H
set_option linter.unusedVariables false
set_option linter.unusedSimpArgs false
set_option maxRecDepth 100000
namespace Go.Proofs.Ytlmkcnkidkoilaa.H
open Go.RowKit
/-- A patch with bytes of its own: its number and one. -/
def labP (n : Nat) (p : Pat) : Pat := ⟨p.blk, p.off, bstr (List.replicate p.dat.size (UInt8.ofNat (n + 1)))⟩
theorem labP_own (n : Nat) (p : Pat) : Own1 n (labP n p) := by
  intro j b h
  have h : (List.replicate p.dat.size (UInt8.ofNat (n + 1)))[j]? = some b := h
  exact (List.mem_replicate.1 (List.mem_of_getElem? h)).2
theorem rep_set {α : Type} (n j : Nat) (c z : α) (h : j < n) : (List.replicate j c ++ List.replicate (n - j) z).set j c = List.replicate (j + 1) c ++ List.replicate (n - (j + 1)) z := by
  rw [List.set_append_right _ _ (by simp), List.length_replicate, Nat.sub_self]
  have e : n - j = (n - (j + 1)) + 1 := by omega
  rw [e, List.replicate_succ, List.set_cons_zero, List.replicate_succ' (n := j), List.append_assoc]
  rfl
theorem bcs_setA (l : List UInt8) (j : Nat) (c : UInt8) : (bcs l).toArray.setIfInBounds j (.int .u8 (c.toNat : Int)) = (bcs (l.set j c)).toArray := by
  rw [← bcs_set]
  simp
/-- What is true behind some items. -/
structure Ck (k : Nat) (E : Eng) (all : List Pat) (ds : List (List Int)) : Prop where
  cl : Cl all ds E
  ok : E.Ok
  inv : E.Inv
  vl : Vl k E
  next : E.next ≤ k
  len : E.l.length ≤ k
  m5 : E.m.length = 5
  few : ∀ l ∈ ds, l.length ≤ 100
theorem Ck.start : Ck 0 (eng0 5) [] [] := ⟨Cl.start 5, eng0_ok 5 (by decide), eng0_inv 5, Vl.fresh0 0 5, Nat.zero_le _, Nat.zero_le _, by show (crashL allV 0 _).length = 5; rw [crashL_len]; simp, fun l h => (by cases h)⟩
theorem Ck.mono {k k' : Nat} {E : Eng} {all : List Pat} {ds : List (List Int)} (h : Ck k E all ds) (hk : k ≤ k') : Ck k' E all ds := ⟨h.cl, h.ok, h.inv, h.vl.mono hk, Nat.le_trans h.next hk, Nat.le_trans h.len hk, h.m5, h.few⟩
theorem Ck.n {k : Nat} {E : Eng} {all : List Pat} {ds : List (List Int)} (h : Ck k E all ds) : all.length ≤ k := by have h1 := h.cl.next; have h2 := h.next; omega
theorem Ck.add {k : Nat} {E : Eng} {all : List Pat} {ds : List (List Int)} (h : Ck k E all ds) (hk : k ≤ 14) {p : Pat} {deps dl : List Int} (hd : ∀ d ∈ deps, 0 ≤ d ∧ d < (all.length : Int)) (h6 : deps.length ≤ 6) (hdl : dl.length ≤ 100) (ho : Own1 all.length p) (hf : E.addM [⟨p, deps⟩] = (((E.next : Int), 0), E.add1 E.next ⟨p, deps⟩)) (hform : E.formB [⟨p, deps⟩] = false)
    (h1 : ∀ d ∈ dl, 0 ≤ d ∧ d < (all.length : Int)) (h2 : ∀ d ∈ dl, d ∈ deps ∨ ∃ (m : Nat) (p' : Pat), d = (m : Int) ∧ all[m]? = some p' ∧ overB p' p = true) (h3 : ∀ (m : Nat) (p' : Pat), all[m]? = some p' → overB p' p = true → (m : Int) ∈ dl) : Ck (k + 1) (E.add1 E.next ⟨p, deps⟩) (all ++ [p]) (ds ++ [dl]) := by
  have hn := h.next
  have hl := h.len
  have hok := addM_ok h.ok h.inv (l := [⟨p, deps⟩]) (fun y hy => by rw [List.mem_singleton.1 hy]; show deps.length ≤ 1000; omega) (by rw [List.length_singleton]; omega)
  rw [hf] at hok
  have hright : rightB p = true ∧ p.blk < (E.m.length : Int) := by
    unfold Eng.formB at hform
    simp only [List.any_cons, List.any_nil, Bool.or_false, Bool.or_eq_false_iff, Bool.not_eq_false', decide_eq_false_iff_not] at hform
    exact ⟨hform.1, by omega⟩
  refine ⟨h.cl.add h.inv h.ok hright ho (fun d hh => (hd d hh).1) h1 h2 h3, hok.1, hok.2, h.vl.mono (Nat.le_succ _), by show E.next + 1 ≤ k + 1; omega, by show (E.l ++ [_]).length ≤ k + 1; rw [List.length_append, List.length_singleton]; omega, h.m5, fun l hl => ?_⟩
  rcases List.mem_append.1 hl with hl | hl
  · exact h.few l hl
  · rw [List.mem_singleton.1 hl]; exact hdl
theorem Ck.write {k : Nat} {E : Eng} {all : List Pat} {ds : List (List Int)} (h : Ck k E all ds) (hv : Vl (k - 1) E) (hk : 0 < k) (q : Nat) : Ck k (E.writeM q).2 all ds := ⟨h.cl.write h.inv h.ok q, h.ok.write q, h.inv.write h.ok q, (hv.write q).mono (by omega), by rw [write_next]; exact h.next, by rw [write_l]; exact h.len, by rw [write_len]; exact h.m5, h.few⟩
theorem Ck.flushed {k : Nat} {E : Eng} {all : List Pat} {ds : List (List Int)} (h : Ck k E all ds) : Ck k E.flushed all ds := ⟨h.cl.flushed h.inv h.ok, h.ok.flushed, h.inv.flushed h.ok, Vl.flushed k, h.next, Nat.le_trans (List.length_filter_le _ _) h.len, by rw [flushed_len]; exact h.m5, h.few⟩
theorem cellsP_more {w : World} {L : List HP} {t : TypeId} {v : Value} {all : List Pat} {p : Pat} (h : Own w (owns t 3 v (all.length + 1) (cellsP all ++ [.int .i64 p.blk, .int .i64 p.off, .string p.dat]) :: L)) : Own w (owns t 3 v (all ++ [p]).length (cellsP (all ++ [p])) :: L) := by
  have e1 : (all ++ [p]).length = all.length + 1 := by simp
  have e2 : cellsP (all ++ [p]) = cellsP all ++ [.int .i64 p.blk, .int .i64 p.off, .string p.dat] := by simp [cellsP, Pat.cells]
  rw [e1, e2]
  exact h
/-- The cells of a patch among some. -/
theorem pats_cells {w : World} {ad : Addr} {n c : Nat} {all : List Pat} (h : Rd w 3 (.slice (some ad) n c) n (cellsP all)) {k : Nat} {p : Pat} (hp : all[k]? = some p) : ∀ (j : Nat) (u : Value), (Pat.cells p)[j]? = some u → w.cell? ((ad.add (k * 3)).add j) = some u := by
  intro j u hu
  obtain ⟨hk, e⟩ := List.getElem?_eq_some_iff.1 hp
  exact h.cell (cellsP_at all k hk j u (by rw [e]; exact hu))
/-- Numbers behind which a patch comes: those that it asks for, and of the first j those that it overlaps. -/
structure Dl (all : List Pat) (p : Pat) (deps : List Int) (j : Nat) (dl : List Int) : Prop where
  len : dl.length ≤ deps.length + j
  of : ∀ d ∈ dl, d ∈ deps ∨ ∃ (m : Nat) (p' : Pat), d = (m : Int) ∧ all[m]? = some p' ∧ overB p' p = true
  all : ∀ (m : Nat) (p' : Pat), m < j → all[m]? = some p' → overB p' p = true → (m : Int) ∈ dl
  dep : ∀ d ∈ deps, d ∈ dl
theorem Dl.start (all : List Pat) (p : Pat) (deps : List Int) : Dl all p deps 0 deps := ⟨Nat.le_refl _, fun d h => .inl h, fun m p' h => by omega, fun d h => h⟩
theorem Dl.yes {all : List Pat} {p p' : Pat} {deps dl : List Int} {j : Nat} (h : Dl all p deps j dl) (hp : all[j]? = some p') (ho : overB p' p = true) : Dl all p deps (j + 1) (dl ++ [(j : Int)]) :=
  ⟨by rw [List.length_append, List.length_singleton]; have := h.len; omega, fun d hd => by
    rcases List.mem_append.1 hd with hd | hd
    · exact h.of d hd
    · exact .inr ⟨j, p', List.mem_singleton.1 hd, hp, ho⟩, fun m q hm hq hov => by
    by_cases e : m = j
    · subst e; exact List.mem_append_right _ (List.mem_singleton.2 rfl)
    · exact List.mem_append_left _ (h.all m q (by omega) hq hov), fun d hd => List.mem_append_left _ (h.dep d hd)⟩
theorem Dl.no {all : List Pat} {p p' : Pat} {deps dl : List Int} {j : Nat} (h : Dl all p deps j dl) (hp : all[j]? = some p') (ho : overB p' p = false) : Dl all p deps (j + 1) dl :=
  ⟨by have := h.len; omega, h.of, fun m q hm hq hov => by
    by_cases e : m = j
    · subst e; rw [hp] at hq; cases hq; rw [ho] at hov; cases hov
    · exact h.all m q (by omega) hq hov, h.dep⟩
theorem Dl.range {all : List Pat} {p : Pat} {deps dl : List Int} {j : Nat} (h : Dl all p deps j dl) (hd : ∀ d ∈ deps, 0 ≤ d ∧ d < (all.length : Int)) : ∀ d ∈ dl, 0 ≤ d ∧ d < (all.length : Int) := fun d hh => by
  rcases h.of d hh with g | ⟨m, p', rfl, g, _⟩
  · exact hd d g
  · have := (List.getElem?_eq_some_iff.1 g).1
    omega
end Go.Proofs.Ytlmkcnkidkoilaa.H
set_option linter.unusedVariables false
set_option linter.unusedSimpArgs false
set_option maxRecDepth 100000
namespace Go.Proofs.Ytlmkcnkidkoilaa.H
open Go.RowKit
theorem flat_at : ∀ (m : List Blk), (∀ b ∈ m, b.s.length = 32) → ∀ (i q : Nat) (b : Blk), m[i]? = some b → q < 32 → (m.flatMap fun b => b.s)[i * 32 + q]? = b.s[q]?
  | [], _, i, q, b, h, _ => by simp at h
  | a :: m, h32, i, q, b, h, hq => by
    have ha := h32 a (List.mem_cons_self ..)
    rw [List.flatMap_cons]
    cases i with
    | zero =>
      have e : a = b := by simpa using h
      subst e
      rw [Nat.zero_mul, Nat.zero_add, List.getElem?_append_left (by omega)]
    | succ i =>
      rw [List.getElem?_append_right (by omega), ha, show (i + 1) * 32 + q - 32 = i * 32 + q by omega]
      exact flat_at m (fun b hb => h32 b (List.mem_cons_of_mem _ hb)) i q b (by simpa using h) hq
theorem flat_len : ∀ (m : List Blk), (∀ b ∈ m, b.s.length = 32) → (m.flatMap fun b => b.s).length = m.length * 32
  | [], _ => rfl
  | a :: m, h => by
    rw [List.flatMap_cons, List.length_append, h a (List.mem_cons_self ..), flat_len m (fun b hb => h b (List.mem_cons_of_mem _ hb)), List.length_cons]
    omega
/-- Can be seen, or lasts. -/
def Sn (E : Eng) (img : List UInt8) (n : Nat) : Prop := (n : Int) ∉ wnums E.l ∨ ∃ y ∈ img, y.toNat = n + 1
/-- The image of a crash. -/
structure Img (E : Eng) (all : List Pat) (ds : List (List Int)) (img : List UInt8) : Prop where
  len : img.length = 160
  ex : ∃ T : Nat → Prop, (∀ n : Nat, (n : Int) ∉ wnums E.l → T n) ∧ (∀ (n : Nat) (l : List Int), ds[n]? = some l → T n → ∀ d ∈ l, T d.toNat) ∧ ∀ i q, i < 5 → q < 32 → ∃ r, img[i * 32 + q]? = some (UInt8.ofNat r) ∧ Lastf all T i q r
theorem Ck.img {k : Nat} {E : Eng} {all : List Pat} {ds : List (List Int)} (h : Ck k E all ds) (pk : Nat → Nat → Int) (h32 : ∀ b ∈ crashL pk 0 E.m, b.s.length = 32) : Img E all ds ((crashL pk 0 E.m).flatMap fun b => b.s) := by
  have hm : (crashL pk 0 E.m).length = 5 := by rw [crashL_len]; exact h.m5
  refine ⟨by rw [flat_len _ h32, hm], ?_⟩
  obtain ⟨T, h1, h2, h3⟩ := h.cl.crash h.inv h.ok pk
  refine ⟨T, h1, h2, fun i q hi hq => ?_⟩
  obtain ⟨b, hb⟩ : ∃ b, (crashL pk 0 E.m)[i]? = some b := ⟨_, List.getElem?_eq_getElem (by omega)⟩
  obtain ⟨r, g1, g2⟩ := h3 i b hb q hq
  exact ⟨r, by rw [flat_at _ h32 i q b hb hq]; exact g1, g2⟩
/-- What is seen. -/
structure Seen (E : Eng) (img : List UInt8) (n : Nat) (sl : List Int) : Prop where
  of : ∀ d ∈ sl, ∃ m : Nat, d = (m : Int) ∧ m < n ∧ Sn E img m
  all : ∀ m, m < n → Sn E img m → (m : Int) ∈ sl
  len : sl.length ≤ n
theorem Seen.start (E : Eng) (img : List UInt8) : Seen E img 0 [] := ⟨fun d h => (by cases h), fun m h => (by omega), Nat.le_refl _⟩
theorem Seen.yes {E : Eng} {img : List UInt8} {n : Nat} {sl : List Int} (h : Seen E img n sl) (hs : Sn E img n) : Seen E img (n + 1) (sl ++ [(n : Int)]) :=
  ⟨fun d hd => by
    rcases List.mem_append.1 hd with hd | hd
    · obtain ⟨m, e, h1, h2⟩ := h.of d hd
      exact ⟨m, e, by omega, h2⟩
    · exact ⟨n, List.mem_singleton.1 hd, Nat.lt_succ_self _, hs⟩, fun m hm hsm => by
    by_cases e : m = n
    · subst e; exact List.mem_append_right _ (List.mem_singleton.2 rfl)
    · exact List.mem_append_left _ (h.all m (by omega) hsm), by rw [List.length_append, List.length_singleton]; have := h.len; omega⟩
theorem Seen.no {E : Eng} {img : List UInt8} {n : Nat} {sl : List Int} (h : Seen E img n sl) (hs : ¬ Sn E img n) : Seen E img (n + 1) sl :=
  ⟨fun d hd => by
    obtain ⟨m, e, h1, h2⟩ := h.of d hd
    exact ⟨m, e, by omega, h2⟩, fun m hm hsm => by
    by_cases e : m = n
    · subst e; exact absurd hsm hs
    · exact h.all m (by omega) hsm, by have := h.len; omega⟩
/-- The image is what the numbers of the marks make. -/
theorem img_set {E : Eng} {all : List Pat} {ds : List (List Int)} {img : List UInt8} {sl : List Int} {M : List Bool} (h : Img E all ds img) (h14 : all.length ≤ 14) (hlen : ds.length = all.length) (hs : Seen E img all.length sl) (hM : ClS ds sl M) : ∀ i q, i < 5 → q < 32 → ∃ r, img[i * 32 + q]? = some (UInt8.ofNat r) ∧ Lastf all (fun n => M[n]? = some true) i q r := by
  obtain ⟨T, h1, h2, h3⟩ := h.ex
  have hST : ∀ n, n < all.length → Sn E img n → T n := fun n hn hsn => by
    rcases hsn with g | ⟨y, hy, e⟩
    · exact h1 n g
    · obtain ⟨idx, hidx⟩ := List.mem_iff_getElem?.1 hy
      have hlt := (List.getElem?_eq_some_iff.1 hidx).1
      rw [h.len] at hlt
      obtain ⟨r, g1, g2⟩ := h3 (idx / 32) (idx % 32) (by omega) (by omega)
      rw [show idx / 32 * 32 + idx % 32 = idx by omega, hidx] at g1
      have hr := lastf_lt g2
      have e2 : y = UInt8.ofNat r := by simpa using g1
      have e3 : r = n + 1 := by rw [e2, UInt8.toNat_ofNat'] at e; omega
      rcases g2 with ⟨e4, _⟩ | ⟨m, p, e4, _, ht, _⟩
      · omega
      · have : m = n := by omega
        subst this
        exact ht
  intro i q hi hq
  obtain ⟨r, g1, g2⟩ := h3 i q hi hq
  refine ⟨r, g1, g2.seen (fun n hn => ?_) (fun n e => ?_)⟩
  · refine hM.low T (fun d hd => ?_) h2 n hn
    obtain ⟨m, e, hm, hsn⟩ := hs.of d hd
    rw [e, Int.toNat_natCast]
    exact hST m hm hsn
  · have hr := lastf_lt g2
    have hm : (n : Int) ∈ sl := by
      refine hs.all n (by omega) (.inr ⟨UInt8.ofNat r, List.mem_of_getElem? g1, ?_⟩)
      rw [UInt8.toNat_ofNat']
      omega
    have := hM.has _ hm
    rwa [Int.toNat_natCast] at this
/-- What is wanted behind the first numbers of some. -/
structure Want (all : List Pat) (S : List Int) (j : Nat) (wl : List UInt8) : Prop where
  len : wl.length = 160
  at_ : ∀ i q, i < 5 → q < 32 → ∃ r, wl[i * 32 + q]? = some (UInt8.ofNat r) ∧ Lastf all (fun n => (n : Int) ∈ S.take j) i q r
theorem Want.start (all : List Pat) (S : List Int) : Want all S 0 (List.replicate 160 0) :=
  ⟨by simp, fun i q hi hq => ⟨0, by rw [List.getElem?_replicate, if_pos (by omega)]; rfl, .inl ⟨rfl, fun n p _ h => by simp at h⟩⟩⟩
theorem Want.next {all : List Pat} {S : List Int} {j n : Nat} {wl : List UInt8} {p : Pat} (h : Want all S j wl) (hasc : S.Pairwise (· < ·)) (hn : S[j]? = some (n : Int)) (hp : all[n]? = some p) (hr : rightB p = true) (h5 : p.blk < 5) (ho : Own1 n p) : Want all S (j + 1) (over wl (p.blk * 32 + p.off).toNat p.dat.data.toList) := by
  obtain ⟨p1, p2, p3, p4, p5, p6⟩ := rightB_iff.1 hr
  have hs : p.dat.size = p.dat.data.toList.length := by rw [Array.length_toList]; rfl
  have hlen := h.len
  have ht : S.take (j + 1) = S.take j ++ [(n : Int)] := by rw [List.take_add_one, hn]; rfl
  have hlast : ∀ m : Nat, (m : Int) ∈ S.take (j + 1) → m ≤ n := fun m hm => by
    rw [ht] at hm
    rcases List.mem_append.1 hm with hm | hm
    · obtain ⟨a, ha⟩ := List.mem_iff_getElem?.1 hm
      have hal := (List.getElem?_eq_some_iff.1 ha).1
      rw [List.length_take] at hal
      rw [List.getElem?_take, if_pos (by omega)] at ha
      obtain ⟨l1, g1⟩ := List.getElem?_eq_some_iff.1 ha
      obtain ⟨l2, g2⟩ := List.getElem?_eq_some_iff.1 hn
      have := List.pairwise_iff_getElem.1 hasc a j l1 l2 (by omega)
      omega
    · have := List.mem_singleton.1 hm
      omega
  refine ⟨by rw [over_length _ _ _ (by omega)]; exact hlen, fun i q hi hq => ?_⟩
  rw [over_get _ _ _ _ (by omega)]
  by_cases hc : cov p i q
  · obtain ⟨c1, c2, c3⟩ := hc
    rw [if_pos (by omega)]
    have hlt : i * 32 + q - (p.blk * 32 + p.off).toNat < p.dat.data.toList.length := by omega
    refine ⟨n + 1, ?_, .inr ⟨n, p, rfl, hp, by rw [ht]; exact List.mem_append_right _ (List.mem_singleton.2 rfl), ⟨c1, c2, c3⟩, fun m p' hm hp' hT => ?_⟩⟩
    · rw [List.getElem?_eq_getElem hlt, ho _ _ (List.getElem?_eq_getElem hlt)]
    · have := hlast m hT
      omega
  · rw [if_neg (fun g => hc ⟨by omega, by omega, by omega⟩)]
    obtain ⟨r, g1, g2⟩ := h.at_ i q hi hq
    refine ⟨r, g1, g2.congr (fun m p' hp' hcv => ?_)⟩
    rw [ht]
    constructor
    · exact fun g => List.mem_append_left _ g
    · intro g
      rcases List.mem_append.1 g with g | g
      · exact g
      · exfalso
        have e : m = n := by have := List.mem_singleton.1 g; omega
        subst e
        rw [hp] at hp'
        cases hp'
        exact hc hcv
theorem thoseZ_asc (l : List Bool) (j : Nat) : (thoseZ l j).Pairwise (· < ·) := by
  unfold thoseZ
  rw [List.pairwise_map]
  exact (List.Pairwise.filter _ List.pairwise_lt_range).imp fun h => by omega
theorem thoseZ_mem {l : List Bool} {j n : Nat} : (n : Int) ∈ thoseZ l j ↔ n < j ∧ l[n]? = some true := by
  unfold thoseZ
  rw [List.mem_map]
  constructor
  · rintro ⟨m, hm, e⟩
    have : m = n := by omega
    subst this
    have h := List.mem_filter.1 hm
    refine ⟨List.mem_range.1 h.1, ?_⟩
    cases hl : l[m]? with
    | none => rw [hl] at h; cases h.2
    | some b =>
      rw [hl] at h
      have h2 : b = true := h.2
      rw [h2]
  · rintro ⟨h1, h2⟩
    exact ⟨n, List.mem_filter.2 ⟨List.mem_range.2 h1, by rw [h2]; rfl⟩, rfl⟩
/-- The image is what is wanted. -/
theorem img_want {E : Eng} {all : List Pat} {ds : List (List Int)} {img wl : List UInt8} {sl : List Int} {M : List Bool} (h : Img E all ds img) (h14 : all.length ≤ 14) (hlen : ds.length = all.length) (hs : Seen E img all.length sl) (hM : ClS ds sl M) (hw : Want all (thoseZ M ds.length) (thoseZ M ds.length).length wl) : img = wl := by
  refine List.ext_getElem? (fun idx => ?_)
  by_cases hlt : idx < 160
  · obtain ⟨r, g1, g2⟩ := img_set h h14 hlen hs hM (idx / 32) (idx % 32) (by omega) (by omega)
    obtain ⟨r', g3, g4⟩ := hw.at_ (idx / 32) (idx % 32) (by omega) (by omega)
    rw [show idx / 32 * 32 + idx % 32 = idx by omega] at g1 g3
    rw [List.take_length] at g4
    have e := g2.unique (g4.congr (fun n p hp _ => by
      show (n : Int) ∈ thoseZ M ds.length ↔ M[n]? = some true
      rw [thoseZ_mem]
      have := (List.getElem?_eq_some_iff.1 hp).1
      exact ⟨fun g => g.2, fun g => ⟨by omega, g⟩⟩))
    rw [g1, g3, e]
  · rw [List.getElem?_eq_none (by rw [h.len]; omega), List.getElem?_eq_none (by rw [hw.len]; omega)]
end Go.Proofs.Ytlmkcnkidkoilaa.H
