/- A region of open order whose operations but the last few yield known values in every world of a class: it comes, in whatever order, to one frame. Plain words on patches: what a patch is, whether it is right, a block's bytes behind it. Contracts of package patch: Right, end, Apply. Contracts of package patch: Apply. Contract of patch.Overlap. Contracts of patch.Undo and patch.Idle. Contracts of patch.Apply and patch.Undo at what may not be; of patch.Idle. Contract of patch.All. -/
import Derived.Test.YtonohjhmnlfakaaZ01
import Derived.StillTail
import Derived.Deep.Quiet
import Derived.Deep.Cut
import Derived.Test.YtonohjhmnlfakaaProg
import Derived.WalkLawsBesides
import Derived.WalkSpells
set_option linter.unusedVariables false
set_option linter.unusedSimpArgs false
namespace Go.Proofs.Ytonohjhmnlfakaa.H
open Go.RowKit

/-- Slots filled, one after the other. -/
def putL (a : Act) : List (Tmp × Value) → Act
  | [] => a
  | e :: r => putL (a.put (some e.1) e.2) r
theorem put_at (a : Act) (d t : Tmp) (v : Value) : (a.put (some d) v).tmps[t]? = if t = d ∧ d < a.tmps.size then some v else a.tmps[t]? := by
  simp only [Act.put, Array.getElem?_setIfInBounds]
  by_cases h : d = t
  · subst h
    by_cases h2 : d < a.tmps.size
    · simp [h2]
    · simp [h2]
  · have : ¬ t = d := fun e => h e.symm
    simp [h, this]
theorem put_size (a : Act) (d : Tmp) (v : Value) : (a.put (some d) v).tmps.size = a.tmps.size := by simp [Act.put]
theorem putL_size : ∀ (l : List (Tmp × Value)) (a : Act), (putL a l).tmps.size = a.tmps.size
  | [], a => rfl
  | e :: r, a => by rw [putL, putL_size r, put_size]
theorem putL_defers : ∀ (l : List (Tmp × Value)) (a : Act), (putL a l).defers = a.defers
  | [], a => rfl
  | e :: r, a => by rw [putL, putL_defers r]; rfl
theorem putL_out : ∀ (l : List (Tmp × Value)) (a : Act) (t : Tmp), (∀ e ∈ l, e.1 ≠ t) → (putL a l).tmps[t]? = a.tmps[t]?
  | [], a, t, _ => rfl
  | e :: r, a, t, h => by
    rw [putL, putL_out r _ t (fun x hx => h x (List.mem_cons_of_mem _ hx)), put_at, if_neg]
    intro h2
    exact h e List.mem_cons_self h2.1.symm
theorem putL_in : ∀ (l : List (Tmp × Value)) (a : Act) (j : Nat) (e : Tmp × Value), (l.map (·.1)).Nodup → l[j]? = some e → e.1 < a.tmps.size → (putL a l).tmps[e.1]? = some e.2
  | [], a, j, e, _, hj, _ => by simp at hj
  | x :: r, a, 0, e, hn, hj, hs => by
    have : x = e := by simpa using hj
    subst this
    rw [putL, putL_out, put_at, if_pos ⟨rfl, hs⟩]
    intro y hy heq
    rw [List.map_cons, List.nodup_cons] at hn
    exact hn.1 (heq ▸ List.mem_map_of_mem hy)
  | x :: r, a, j + 1, e, hn, hj, hs => by
    rw [List.map_cons, List.nodup_cons] at hn
    rw [putL]
    exact putL_in r _ j e hn.2 (by simpa using hj) (by rw [put_size]; exact hs)

/-- What is asked of a region's text: the first n operations fill the slots ds, each once; what one looks at is filled ahead of it by an edge; edges go back. -/
def regOk (ops : Array Oper) (n : Nat) (ds : List Tmp) : Bool :=
  Region.noSelect ops && decide (n ≤ ops.size) && decide (ds.length = n) && decide ds.Nodup &&
  ((List.range n).all fun i => match ops[i]? with
    | some o => o.dst == ds[i]? && (o.after.all fun e => !Region.binds .any e || decide (e.on < i)) &&
      ((o.looksAt ops).all fun t => (List.range n).all fun j => !(ds[j]? == some t) || o.after.any fun e => Region.binds .any e && e.on == j)
    | none => false) &&
  (decide (n = ops.size) || (Region.sinkB .any ops n && Region.chainB .any ops n)) &&
  Region.seqB .any ops (ops.size - n) n ((List.range ops.size).map fun i => decide (i < n)).toArray

section
variable {P : Program} {ops : Array Oper} {Q : Exit → Act → World → Prop} {C : World → Prop} {n : Nat} {ds : List Tmp} {vals : List Value} {a0 : Act}

structure Part1 (ops : Array Oper) (n : Nat) (ds : List Tmp) (aF a0 : Act) (C : World → Prop) (listed : Array Bool) (a : Act) (w : World) : Prop where
  head : HeadInv .any ops n listed
  cls : C w
  defers : a.defers = a0.defers
  size : a.tmps.size = a0.tmps.size
  at_ : ∀ t, (∀ j, j < n → ds[j]? = some t → listed.getD j false = true → a.tmps[t]? = aF.tmps[t]?) ∧ ((∀ j, j < n → ds[j]? = some t → listed.getD j false = false) → a.tmps[t]? = a0.tmps[t]?)

def unl (n : Nat) (listed : Array Bool) : Nat := ((List.range n).filter fun i => !listed.getD i false).length
theorem unl_zero {listed : Array Bool} (h : unl n listed = 0) : ∀ i, i < n → listed.getD i false = true := by
  intro i hi
  cases hb : listed.getD i false with
  | true => rfl
  | false =>
    have : i ∈ (List.range n).filter fun i => !listed.getD i false := List.mem_filter.2 ⟨List.mem_range.2 hi, by rw [hb]; rfl⟩
    unfold unl at h
    rw [List.eq_nil_of_length_eq_zero h] at this
    cases this
theorem filter_drop {p q : Nat → Bool} {i : Nat} : ∀ {l : List Nat}, l.Nodup → i ∈ l → p i = true → q i = false → (∀ j, j ≠ i → q j = p j) → (l.filter q).length + 1 = (l.filter p).length
  | [], _, hi, _, _, _ => by cases hi
  | x :: r, hn, hi, hp, hq, h => by
    rw [List.nodup_cons] at hn
    by_cases e : x = i
    · subst e
      have : r.filter q = r.filter p := List.filter_congr (fun j hj => h j (fun e => hn.1 (e ▸ hj)))
      simp [List.filter_cons, hp, hq, this]
    · rcases List.mem_cons.1 hi with rfl | hi
      · exact absurd rfl e
      · have ih := filter_drop hn.2 hi hp hq h
        have hx := h x e
        cases hpx : p x <;> simp [List.filter_cons, hx, hpx] <;> omega
theorem unl_set {listed : Array Bool} {i : Nat} (hi : i < n) (hs : i < listed.size) (hb : listed.getD i false = false) : unl n (listed.setIfInBounds i true) + 1 = unl n listed := by
  unfold unl
  refine filter_drop List.nodup_range (List.mem_range.2 hi) (by rw [hb]; rfl) ?_ (fun j hj => ?_)
  · have : (listed.setIfInBounds i true).getD i false = true := by simp [hs]
    rw [this]; rfl
  · rw [getD_set_ne false (Ne.symm hj)]

theorem regOk_parts (h : regOk ops n ds = true) : Region.noSelect ops = true ∧ n ≤ ops.size ∧ ds.length = n ∧ ds.Nodup ∧
    (∀ i, i < n → ∃ o, ops[i]? = some o ∧ o.dst = ds[i]? ∧ (∀ e ∈ o.after, Region.binds .any e = true → e.on < i) ∧ ∀ t ∈ o.looksAt ops, ∀ j, j < n → ds[j]? = some t → ∃ e ∈ o.after, Region.binds .any e = true ∧ e.on = j) ∧
    (n = ops.size ∨ (Region.sinkB .any ops n = true ∧ Region.chainB .any ops n = true)) ∧ Region.seqB .any ops (ops.size - n) n ((List.range ops.size).map fun i => decide (i < n)).toArray = true := by
  simp only [regOk, Bool.and_eq_true, decide_eq_true_eq] at h
  obtain ⟨⟨⟨⟨⟨⟨h1, h2⟩, h3⟩, h4⟩, h5⟩, h6⟩, h7⟩ := h
  refine ⟨h1, h2, h3, h4, fun i hi => ?_, ?_, h7⟩
  · have := List.all_eq_true.1 h5 i (List.mem_range.2 hi)
    cases ho : ops[i]? with
    | none => rw [ho] at this; cases this
    | some o =>
      rw [ho] at this
      simp only [Bool.and_eq_true, beq_iff_eq] at this
      obtain ⟨⟨g1, g2⟩, g3⟩ := this
      refine ⟨o, rfl, g1, fun e he hb => ?_, fun t ht j hj hd => ?_⟩
      · have := (Array.all_eq_true_iff_forall_mem.1 g2) e he
        simpa [hb] using this
      · have := List.all_eq_true.1 (List.all_eq_true.1 g3 t ht) j (List.mem_range.2 hj)
        rw [hd] at this
        simp only [beq_self_eq_true, Bool.not_true, Bool.false_or] at this
        obtain ⟨e, he, hb⟩ := Array.any_eq_true'.1 this
        simp only [Bool.and_eq_true, beq_iff_eq] at hb
        exact ⟨e, he, hb.1, hb.2⟩
  · simpa using h6

theorem yieldsIn_agree {o : Oper} {v : Value} {a a' : Act} (hsel : ∀ cs b, o.op ≠ .select cs b) (h : ∀ t ∈ o.looksAt ops, a'.tmps[t]? = a.tmps[t]?) (hy : YieldsIn P ops C o v a) : YieldsIn P ops C o v a' := by
  have hsz : True := trivial
  refine hy.of_same (execOp_congr o hsel (fun x hx => ?_)) ?_
  · cases x with
    | tmp t =>
      have ht : t ∈ o.looksAt ops := by
        unfold Oper.looksAt
        refine List.mem_append.2 (.inl (List.mem_filterMap.2 ⟨.tmp t, ?_, rfl⟩))
        first | exact Array.mem_toList_iff.2 hx | exact hx.val | simpa using hx
      simp [Act.eval, h t ht]
    | const v => rfl
    | global g => rfl
    | func f => rfl
  · unfold Region.wanted
    cases hg : o.guard with
    | none => rfl
    | some g =>
      obtain ⟨j, want⟩ := g
      have : yielded ops a'.tmps j = yielded ops a.tmps j := by
        unfold yielded
        cases hj : ops[j]? with
        | none => rfl
        | some oj =>
          cases hd : oj.dst with
          | none => simp [hd]
          | some d =>
            have ht : d ∈ o.looksAt ops := by
              unfold Oper.looksAt
              refine List.mem_append.2 (.inr ?_)
              simp [hg, hj, hd]
            simp [hd, h d ht]
      simp only [this]

theorem Part1.step {aF : Act} {listed : Array Bool} {a : Act} {w : World} {i : Nat} {d : Tmp} {v : Value} {w' : World} (h : Part1 ops n ds aF a0 C listed a w) (hds : ds.Nodup) (hi : i ∈ Region.ready .any ops listed) (hin : i < n) (hd : ds[i]? = some d) (hs : d < a0.tmps.size) (hv : aF.tmps[d]? = some v) (hC : C w') :
    Part1 ops n ds aF a0 C (listed.setIfInBounds i true) (a.put (some d) v) w' := by
  refine ⟨h.head.set hi hin, hC, h.defers, by rw [put_size, h.size], fun t => ⟨fun j hj hdj hl => ?_, fun hall => ?_⟩⟩
  · rw [put_at]
    by_cases e : t = d
    · subst e
      rw [if_pos ⟨rfl, by rw [h.size]; exact hs⟩, hv]
    · rw [if_neg (fun h2 => e h2.1)]
      have hne : i ≠ j := fun e2 => by subst e2; rw [hd] at hdj; exact e (Option.some.inj hdj).symm
      rw [getD_set_ne false hne] at hl
      exact (h.at_ t).1 j hj hdj hl
  · have hne : t ≠ d := fun e => by
      subst e
      have := hall i hin hd
      have hsz : i < listed.size := by rw [h.head.size]; have := (mem_ready.1 hi).2; obtain ⟨o, ho, _⟩ := this; exact (Array.getElem?_eq_some_iff.1 ho).1
      simp [hsz] at this
    rw [put_at, if_neg (fun h2 => hne h2.1)]
    refine (h.at_ t).2 (fun j hj hdj => ?_)
    have := hall j hj hdj
    by_cases e : i = j
    · subst e; rw [hd] at hdj; exact absurd (Option.some.inj hdj).symm hne
    · rwa [getD_set_ne false e] at this

theorem getElem?_lt_of {α : Type} {l : List α} {i : Nat} (h : i < l.length) : ∃ x, l[i]? = some x := ⟨l[i], List.getElem?_eq_getElem h⟩

theorem head_all {l : List Oper} (aF : Act) (hB : regOk l.toArray n ds = true) (hlen : vals.length = n) (haF : aF = putL a0 (ds.zip vals)) (hsz : ∀ d ∈ ds, d < a0.tmps.size)
    (hy : ∀ i o v, i < n → l.toArray[i]? = some o → vals[i]? = some v → YieldsIn P l.toArray C o v aF)
    (htail : ∀ w, C w → wpList P l.toArray Q (l.drop n) aF w) :
    ∀ (f : Nat) (listed : Array Bool) (a : Act) (w : World), unl n listed = f → Part1 l.toArray n ds aF a0 C listed a w → wpAny P .any l.toArray Q (f + (l.toArray.size - n)) listed a w := by
  obtain ⟨hsel, hn, hdl, hnd, hops, htl, hseq⟩ := regOk_parts hB
  have hzip : (ds.zip vals).map (·.1) = ds := by
    rw [List.map_fst_zip]
    omega
  have hFin : ∀ i d v, ds[i]? = some d → vals[i]? = some v → aF.tmps[d]? = some v := fun i d v hd hv => by
    rw [haF]
    exact putL_in (ds.zip vals) a0 i (d, v) (by rw [hzip]; exact hnd) (by rw [List.getElem?_zip_eq_some]; exact ⟨hd, hv⟩) (hsz d (List.mem_of_getElem? hd))
  have hFout : ∀ t, (∀ j, j < n → ds[j]? ≠ some t) → aF.tmps[t]? = a0.tmps[t]? := fun t ht => by
    rw [haF]
    refine putL_out _ _ _ (fun e he hte => ?_)
    have h1 : e.1 ∈ ds := by rw [← hzip]; exact List.mem_map_of_mem he
    obtain ⟨j, hj, hjd⟩ := List.mem_iff_getElem.1 h1
    exact ht j (by omega) (by rw [List.getElem?_eq_getElem hj, hjd, hte])
  intro f
  induction f with
  | zero =>
    intro listed a w hu h
    have hall := unl_zero hu
    have hlist : listed = ((List.range l.toArray.size).map fun i => decide (i < n)).toArray := by
      apply Array.ext
      · rw [h.head.size]; simp
      · intro i h1 h2
        have hi2 : i < l.length := by have := h.head.size; simp at this; omega
        by_cases hi : i < n
        · have := hall i hi
          simp only [Array.getD, h1, dif_pos] at this
          simpa [hi] using this
        · have := h.head.tail i (by omega) (by simpa using hi2)
          simp only [Array.getD, h1, dif_pos] at this
          simpa [hi] using this
    have ha : a = aF := by
      have hd : a.defers = aF.defers := by rw [haF, putL_defers, h.defers]
      have ht : a.tmps = aF.tmps := by
        apply Array.ext_getElem?
        intro t
        by_cases hx : ∃ j, j < n ∧ ds[j]? = some t
        · obtain ⟨j, hj, hdj⟩ := hx
          exact (h.at_ t).1 j hj hdj (hall j hj)
        · rw [hFout t (fun j hj e => hx ⟨j, hj, e⟩)]
          exact (h.at_ t).2 (fun j hj e => absurd ⟨j, hj, e⟩ hx)
      cases a; cases aF; simp_all
    subst ha
    have := wpAny_of_seq (P := P) (md := .any) (Q' := Q) (l.drop n) n listed a w (fun j => by simp [List.getElem?_drop]) (by rw [hlist]; simpa using hseq) (htail w h.cls)
    simpa using this
  | succ f ih =>
    intro listed a w hu h
    have hex : ∃ i, i < n ∧ listed.getD i false = false := by
      have : ((List.range n).filter fun i => !listed.getD i false) ≠ [] := fun e => by unfold unl at hu; rw [e] at hu; simp at hu
      obtain ⟨i, hi⟩ := List.exists_mem_of_ne_nil _ this
      rw [List.mem_filter, List.mem_range] at hi
      exact ⟨i, hi.1, by simpa using hi.2⟩
    have hless : ∀ i ∈ Region.ready .any l.toArray listed, i < n := fun i hi => by
      rcases Nat.lt_or_ge i n with h1 | h1
      · exact h1
      · obtain ⟨j, hj, hb⟩ := hex
        have hil : i < l.toArray.size := by obtain ⟨o, ho, _⟩ := (mem_ready.1 hi).2; exact (Array.getElem?_eq_some_iff.1 ho).1
        rcases htl with htl | htl
        · omega
        · exact absurd hi (tail_waits htl.1 htl.2 (by omega) h.head _ j rfl hj (getD_in (by rw [h.head.size]; omega) hb) i h1)
    rw [show f + 1 + (l.toArray.size - n) = (f + (l.toArray.size - n)) + 1 by omega]
    refine ⟨fun hr => ?_, fun i hi => ?_⟩
    · exfalso
      have hmin : ∀ k, (∃ i, i ≤ k ∧ i < n ∧ listed.getD i false = false) → ∃ i, i < n ∧ listed.getD i false = false ∧ ∀ j, j < i → listed.getD j false = true := by
        intro k
        induction k with
        | zero =>
          rintro ⟨i, hi, h1, h2⟩
          exact ⟨i, h1, h2, fun j hj => by omega⟩
        | succ k ihk =>
          rintro ⟨i, hi, h1, h2⟩
          by_cases hlow : ∃ j, j ≤ k ∧ j < n ∧ listed.getD j false = false
          · exact ihk hlow
          · refine ⟨i, h1, h2, fun j hj => ?_⟩
            cases hb : listed.getD j false with
            | true => rfl
            | false => exact absurd ⟨j, by omega, by omega, hb⟩ hlow
      obtain ⟨i0, h1, h2⟩ := hex
      obtain ⟨i, hin, hb, hlow⟩ := hmin i0 ⟨i0, Nat.le_refl _, h1, h2⟩
      obtain ⟨o, ho, _, hback, _⟩ := hops i hin
      have : i ∈ Region.ready .any l.toArray listed := mem_ready.2 ⟨getD_in (by rw [h.head.size]; omega) hb, o, ho, fun e he hbd => hlow _ (hback e he hbd)⟩
      rw [hr] at this
      cases this
    · have hin := hless i hi
      obtain ⟨o, ho, hdst, hback, hlook⟩ := hops i hin
      obtain ⟨hun, o', ho', hready⟩ := mem_ready.1 hi
      have : o' = o := Option.some.inj (ho'.symm.trans ho)
      subst this
      obtain ⟨d, hd⟩ := getElem?_lt_of (l := ds) (i := i) (by omega)
      obtain ⟨v, hv⟩ := getElem?_lt_of (l := vals) (i := i) (by omega)
      have hagree : ∀ t ∈ o'.looksAt l.toArray, a.tmps[t]? = aF.tmps[t]? := fun t ht => by
        by_cases hx : ∃ j, j < n ∧ ds[j]? = some t
        · obtain ⟨j, hj, hdj⟩ := hx
          obtain ⟨e, he, hb, hon⟩ := hlook t ht j hj hdj
          exact (h.at_ t).1 j hj hdj (hon ▸ hready e he hb)
        · rw [hFout t (fun j hj e => hx ⟨j, hj, e⟩)]
          exact (h.at_ t).2 (fun j hj e => absurd ⟨j, hj, e⟩ hx)
      have hyi := yieldsIn_agree (ops := l.toArray) (fun cs b => Region.noSelect_spec hsel i o' cs b ho) hagree (hy i o' v hin ho hv)
      have hnext : ∀ w', C w' → wpAny P .any l.toArray Q (f + (l.toArray.size - n)) (listed.setIfInBounds i true) (a.put o'.dst v) w' := fun w' hw' => by
        rw [hdst, hd]
        have hib : i < listed.size := by rw [h.head.size]; exact (Array.getElem?_eq_some_iff.1 ho).1
        have hus := unl_set (n := n) hin hib (getD_both hun)
        exact ih _ _ w' (by omega) (h.step hnd hi hin hd (hsz d (List.mem_of_getElem? hd)) (hFin i d v hd hv) hw')
      unfold wpOp
      rw [ho]
      simp only
      rcases hyi with ⟨hw, hq⟩ | ⟨hw, rfl⟩
      · rw [if_pos hw]
        exact .inl (Oper.wp_of_quiet (C := C) (K := fun a' => a' = a.put o'.dst v) h.cls (fun a' w' hC ha => by rw [ha]; exact hnext w' hC) ⟨v, hq, rfl⟩)
      · rw [if_neg (by rw [hw]; simp)]
        exact hnext w h.cls

/-- A region of open order. vals: what its first n operations yield, whatever the order, in each world of the class; the rest is walked in order. -/
theorem wp_region_vals {id : Nat} {l : List Oper} {a : Act} {w : World} (C : World → Prop) (n : Nat) (ds : List Tmp) (vals : List Value) (aF : Act) (hm : P.follows .mixedOrders = true) (hB : regOk l.toArray n ds = true) (hlen : vals.length = n) (hsz : ds.all (fun d => decide (d < a.tmps.size)) = true)
    (hC : C w.drew) (haF : putL a (ds.zip vals) = aF)
    (hy : ∀ i o v, i < n → l.toArray[i]? = some o → vals[i]? = some v → YieldsIn P l.toArray C o v aF)
    (htail : ∀ w, C w → wpList P l.toArray Q (l.drop n) aF w) : (Code.region id l.toArray true).wp P Q a w := by
  refine wp_region_any hm ?_
  have hsz' : ∀ d ∈ ds, d < a.tmps.size := fun d hd => by simpa using List.all_eq_true.1 hsz d hd
  have hn : n ≤ l.toArray.size := (regOk_parts hB).2.1
  have hrep : ∀ i, (Array.replicate l.toArray.size false).getD i false = false := fun i => getD_replicate_false _ i
  have h0 : Part1 l.toArray n ds aF a C (Array.replicate l.toArray.size false) a w.drew :=
    ⟨⟨by simp, fun j oj _ hl => (by rw [hrep] at hl; cases hl), fun t _ ht => getD_in (by simpa using ht) (hrep t)⟩, hC, rfl, rfl, fun t => ⟨fun j _ _ hl => (by rw [hrep] at hl; cases hl), fun _ => rfl⟩⟩
  have hu : unl n (Array.replicate l.toArray.size false) = n := by
    unfold unl
    rw [List.filter_eq_self.2 (fun i _ => by rw [hrep]; rfl)]
    simp
  have := head_all (P := P) (Q := Q) aF hB hlen haF.symm hsz' hy htail n _ a w.drew hu h0
  rw [show n + (l.toArray.size - n) = l.toArray.size by omega] at this
  exact this

/-- The slots of operations filled by values. -/
def putO (a : Act) : List Oper → List Value → Act
  | o :: ol, v :: vl => putO (a.put o.dst v) ol vl
  | _, _ => a
def dstsOf : List Oper → List Tmp
  | [] => []
  | o :: r => match o.dst with
    | some d => d :: dstsOf r
    | none => dstsOf r
theorem putO_eq : ∀ (ol : List Oper) (vl : List Value) (a : Act), (∀ o ∈ ol, o.dst.isSome = true) → putO a ol vl = putL a ((dstsOf ol).zip vl)
  | [], vl, a, _ => by simp [putO, dstsOf, putL]
  | o :: ol, [], a, _ => by simp [putO, putL]
  | o :: ol, v :: vl, a, h => by
    have h0 := h o List.mem_cons_self
    cases hd : o.dst with
    | none => rw [hd] at h0; cases h0
    | some d =>
      simp only [putO, dstsOf, hd, List.zip_cons_cons, putL]
      exact putO_eq ol vl _ (fun x hx => h x (List.mem_cons_of_mem _ hx))
/-- What each of some operations yields. -/
def YS (P : Program) (ops : Array Oper) (C : World → Prop) (aF : Act) : List Oper → List Value → Prop
  | o :: ol, v :: vl => YieldsIn P ops C o v aF ∧ YS P ops C aF ol vl
  | [], [] => True
  | _, _ => False
theorem ys_nil {aF : Act} : YS P ops C aF [] [] := trivial
theorem ys_cons {aF : Act} {o : Oper} {ol : List Oper} {v : Value} {vl : List Value} (h : YieldsIn P ops C o v aF) (hs : YS P ops C aF ol vl) : YS P ops C aF (o :: ol) (v :: vl) := ⟨h, hs⟩
theorem ys_get {aF : Act} : ∀ {ol : List Oper} {vl : List Value}, YS P ops C aF ol vl → ol.length = vl.length ∧ ∀ (i : Nat) (o : Oper) (v : Value), ol[i]? = some o → vl[i]? = some v → YieldsIn P ops C o v aF
  | [], [], _ => ⟨rfl, fun i o v h => by simp at h⟩
  | o :: ol, v :: vl, h => by
    obtain ⟨h1, h2⟩ := ys_get h.2
    refine ⟨by simp [h1], fun i o' v' ho hv => ?_⟩
    cases i with
    | zero => simp at ho hv; subst ho; subst hv; exact h.1
    | succ i => exact h2 i o' v' (by simpa using ho) (by simpa using hv)
  | [], _ :: _, h => h.elim
  | _ :: _, [], h => h.elim
def regOk2 (l : List Oper) (n : Nat) (k : Nat) : Bool :=
  regOk l.toArray n (dstsOf (l.take n)) && (l.take n).all (·.dst.isSome) && (dstsOf (l.take n)).all (fun d => decide (d < k))
theorem wp_region {id : Nat} {l : List Oper} {a : Act} {w : World} (C : World → Prop) (n k : Nat) (vals : List Value) (aF : Act) (hm : P.follows .mixedOrders = true) (hB : regOk2 l n k = true) (hk : a.tmps.size = k)
    (hC : C w.drew) (haF : putO a (l.take n) vals = aF) (hy : YS P l.toArray C aF (l.take n) vals) (htail : ∀ w, C w → wpList P l.toArray Q (l.drop n) aF w) : (Code.region id l.toArray true).wp P Q a w := by
  simp only [regOk2, Bool.and_eq_true] at hB
  obtain ⟨⟨h1, h2⟩, h3⟩ := hB
  obtain ⟨g1, g2⟩ := ys_get hy
  have hn : n ≤ l.length := by simpa using (regOk_parts h1).2.1
  have hl : (l.take n).length = n := by simp; omega
  refine wp_region_vals C n (dstsOf (l.take n)) vals aF hm h1 (by rw [← g1, hl]) (by rw [hk]; exact h3) hC ?_ (fun i o v hi ho hv => g2 i o v ?_ hv) htail
  · rw [← haF, putO_eq]
    intro o ho
    exact List.all_eq_true.1 h2 o ho
  · rw [List.getElem?_take, if_pos hi]
    simpa using ho
theorem y_run {aF : Act} {o : Oper} {v : Value} (hw : Region.wanted o (yielded ops aF.tmps) = true) (hrun : ∀ w, C w → (execOp aF.eval o).run P w = .ok (.value v) w) : YieldsIn P ops C o v aF :=
  .inl ⟨hw, fun w hw => by unfold Oper.quietAt; rw [hrun w hw]; exact ⟨rfl, rfl⟩⟩
theorem y_call {aF : Act} {o : Oper} {v : Value} {f : FuncId} {args : Array Value} (hw : Region.wanted o (yielded ops aF.tmps) = true) (hrun : ∀ w, C w → (execOp aF.eval o).run P w = .ok (.enter f args) w)
    (hc : ∀ w, C w → Calls P f args w (fun e w' => e = .returned v ∧ C w')) : YieldsIn P ops C o v aF :=
  .inl ⟨hw, fun w hw => by unfold Oper.quietAt; rw [hrun w hw]; exact ⟨rfl, hc w hw⟩⟩
theorem y_skip {aF : Act} {o : Oper} (hw : Region.wanted o (yielded ops aF.tmps) = false) : YieldsIn P ops C o undef aF := .inr ⟨hw, rfl⟩

/-- The walk of operations in the order of the text, each yielding one value in every world of the class. -/
def wpVals (P : Program) (ops : Array Oper) (C : World → Prop) (K : Act → Prop) : List Oper → Act → Prop
  | [], a => K a
  | o :: ol, a => ∃ v, YieldsIn P ops C o v a ∧ wpVals P ops C K ol (a.put o.dst v)
theorem wpVals_out {K : Act → Prop} : ∀ {ol : List Oper} {a : Act}, wpVals P ops C K ol a → ∃ vl : List Value, vl.length = ol.length ∧ K (putO a ol vl) ∧ ∀ (i : Nat) (o : Oper) (v : Value), ol[i]? = some o → vl[i]? = some v → YieldsIn P ops C o v (putO a (ol.take i) (vl.take i))
  | [], a, h => ⟨[], rfl, h, fun i o v ho => by simp at ho⟩
  | o :: ol, a, h => by
    obtain ⟨v, hy, hn⟩ := h
    obtain ⟨vl, h1, h2, h3⟩ := wpVals_out hn
    refine ⟨v :: vl, by simp [h1], h2, fun i o' v' ho hv => ?_⟩
    cases i with
    | zero => simp at ho hv; subst ho; subst hv; exact hy
    | succ i => exact h3 i o' v' (by simpa using ho) (by simpa using hv)
theorem putO_split : ∀ (ol : List Oper) (vl : List Value) (i : Nat) (a : Act), putO a ol vl = putO (putO a (ol.take i) (vl.take i)) (ol.drop i) (vl.drop i)
  | ol, vl, 0, a => by cases ol <;> cases vl <;> simp [putO]
  | [], vl, i + 1, a => by simp [putO]
  | o :: ol, [], i + 1, a => by simp [putO]
  | o :: ol, v :: vl, i + 1, a => by
    simp only [putO, List.take_succ_cons, List.drop_succ_cons]
    exact putO_split ol vl i _
theorem putO_out : ∀ (ol : List Oper) (vl : List Value) (a : Act) (t : Tmp), (∀ o ∈ ol, o.dst ≠ some t) → (putO a ol vl).tmps[t]? = a.tmps[t]?
  | [], vl, a, t, _ => by simp [putO]
  | o :: ol, [], a, t, _ => by simp [putO]
  | o :: ol, v :: vl, a, t, h => by
    rw [putO, putO_out ol vl _ t (fun x hx => h x (List.mem_cons_of_mem _ hx))]
    have h0 := h o List.mem_cons_self
    cases hd : o.dst with
    | none => rfl
    | some d =>
      rw [put_at, if_neg]
      intro h2
      exact h0 (by rw [hd, h2.1])
theorem ys_of : ∀ {ol : List Oper} {vl : List Value} {aF : Act}, vl.length = ol.length → (∀ (i : Nat) (o : Oper) (v : Value), ol[i]? = some o → vl[i]? = some v → YieldsIn P ops C o v aF) → YS P ops C aF ol vl
  | [], [], aF, _, _ => trivial
  | o :: ol, v :: vl, aF, hl, h => ⟨h 0 o v rfl rfl, ys_of (by simpa using hl) (fun i o' v' ho hv => h (i + 1) o' v' (by simpa using ho) (by simpa using hv))⟩
  | [], _ :: _, aF, hl, _ => by simp at hl
  | _ :: _, [], aF, hl, _ => by simp at hl
/-- A region of open order, walked in the order of the text. -/
theorem wp_region_seq {id : Nat} {l : List Oper} {a : Act} {w : World} (C : World → Prop) (n k : Nat) (hm : P.follows .mixedOrders = true) (hB : regOk2 l n k = true) (hk : a.tmps.size = k) (hC : C w.drew)
    (h : wpVals P l.toArray C (fun aF => ∀ w, C w → wpList P l.toArray Q (l.drop n) aF w) (l.take n) a) : (Code.region id l.toArray true).wp P Q a w := by
  obtain ⟨vl, h1, h2, h3⟩ := wpVals_out h
  have hB' := hB
  simp only [regOk2, Bool.and_eq_true] at hB'
  obtain ⟨hsel, hn, hdl, hnd, hops, htl, hseq⟩ := regOk_parts hB'.1.1
  refine wp_region C n k vl _ hm hB hk hC rfl (ys_of h1 (fun i o v ho hv => ?_)) h2
  have hin : i < n := by
    rcases Nat.lt_or_ge i n with h | h
    · exact h
    · rw [List.getElem?_take, if_neg (by omega)] at ho; cases ho
  have ho2 : l.toArray[i]? = some o := by
    rw [List.getElem?_take, if_pos hin] at ho
    simpa using ho
  obtain ⟨o', ho', hdst, hback, hlook⟩ := hops i hin
  have he : o' = o := Option.some.inj (ho'.symm.trans ho2)
  subst he
  refine yieldsIn_agree (ops := l.toArray) (fun cs b => Region.noSelect_spec hsel i o' cs b ho2) (fun t ht => ?_) (h3 i o' v ho hv)
  rw [putO_split (l.take n) vl i a]
  refine putO_out _ _ _ _ (fun x hx hxd => ?_)
  obtain ⟨j, hj, hxj⟩ := List.mem_iff_getElem.1 hx
  have hjn : i + j < n := by simp at hj; omega
  have hxo : l.toArray[i + j]? = some x := by
    have e : ((l.take n).drop i)[j]? = some x := by rw [List.getElem?_eq_getElem hj, hxj]
    rw [List.getElem?_drop, List.getElem?_take, if_pos hjn] at e
    simpa using e
  obtain ⟨o2, ho2', hd2, _⟩ := hops (i + j) hjn
  have e2 : o2 = x := Option.some.inj (ho2'.symm.trans hxo)
  subst e2
  obtain ⟨e, hem, heb, hon⟩ := hlook t ht (i + j) hjn (by rw [← hd2, hxd])
  have := hback e hem heb
  omega
theorem wv_run {K : Act → Prop} {o : Oper} {ol : List Oper} {a : Act} {v : Value} (hw : Region.wanted o (yielded ops a.tmps) = true) (hrun : ∀ w, C w → (execOp a.eval o).run P w = .ok (.value v) w) (h : wpVals P ops C K ol (a.put o.dst v)) : wpVals P ops C K (o :: ol) a :=
  ⟨v, y_run hw hrun, h⟩
theorem wv_call {K : Act → Prop} {o : Oper} {ol : List Oper} {a : Act} {v : Value} {f : FuncId} {args : Array Value} (hw : Region.wanted o (yielded ops a.tmps) = true) (hrun : ∀ w, (execOp a.eval o).run P w = .ok (.enter f args) w)
    (hc : ∀ w, C w → Calls P f args w (fun e w' => e = .returned v ∧ C w')) (h : wpVals P ops C K ol (a.put o.dst v)) : wpVals P ops C K (o :: ol) a :=
  ⟨v, y_call hw (fun w _ => hrun w) hc, h⟩
theorem wv_skip {K : Act → Prop} {o : Oper} {ol : List Oper} {a : Act} (hw : Region.wanted o (yielded ops a.tmps) = false) (h : wpVals P ops C K ol (a.put o.dst undef)) : wpVals P ops C K (o :: ol) a :=
  ⟨undef, y_skip hw, h⟩
theorem wv_load1 {K : Act → Prop} {o : Oper} {ol : List Oper} {a : Act} {T : TypeId} {x : Operand} {b off : Nat} {cs : Array Value} {t : TypeId} {fr : Nat × Nat} {v : Value} (hw : Region.wanted o (yielded ops a.tmps) = true) (ho : o.op = .load T x) (hx : a.eval x = .pointer (some ⟨b, off, none⟩))
    (hT : isRowB P T = some false) (hg : ∀ w, C w → w.heap[b]? = some (.cells cs t fr)) (hv : cs[off]? = some v) (h : wpVals P ops C K ol (a.put o.dst v)) : wpVals P ops C K (o :: ol) a := by
  refine wv_run hw (fun w hC => ?_) h
  simp only [execOp, ho, hx, Sem.run_bind, run_load1 hT (hg w hC) hv]
  rfl
theorem wv_loadrow {K : Act → Prop} {o : Oper} {ol : List Oper} {a : Act} {T : TypeId} {x : Operand} {b off n : Nat} {cs : Array Value} {vs : List Value} {t : TypeId} {fr : Nat × Nat} (hw : Region.wanted o (yielded ops a.tmps) = true) (ho : o.op = .load T x) (hx : a.eval x = .pointer (some ⟨b, off, none⟩))
    (hT : isRowB P T = some true) (hsz : (P.info? T).map (·.size) = some n) (hg : ∀ w, C w → w.heap[b]? = some (.cells cs t fr)) (hfit : off + n ≤ cs.size) (hv : (cs.toList.drop off).take n = vs) (h : wpVals P ops C K ol (a.put o.dst (.agg vs.toArray))) : wpVals P ops C K (o :: ol) a := by
  refine wv_run hw (fun w hC => ?_) h
  subst hv
  simp only [execOp, ho, hx, Sem.run_bind, run_loadrow hT hsz (hg w hC) hfit]
  rfl
theorem wv_string {K : Act → Prop} {o : Oper} {ol : List Oper} {a : Act} {src dst e : TypeId} {x : Operand} {v : Value} {n : Nat} {bs : List UInt8} (hw : Region.wanted o (yielded ops a.tmps) = true) (ho : o.op = .convert src dst x) (hx : a.eval x = v)
    (hs : P.underlying src = some (.slice e)) (he : P.underlying e = some (.int .u8)) (hd : P.underlying dst = some .string) (hn : n = bs.length) (hr : ∀ w, C w → Rd w 1 v n (bcs bs)) (h : wpVals P ops C K ol (a.put o.dst (.string (bstr bs)))) : wpVals P ops C K (o :: ol) a := by
  refine wv_run hw (fun w hC => ?_) h
  simp only [execOp, ho, hx, Sem.run_bind, run_string hs he hd hn (hr w hC)]
  rfl
theorem wv_nil {K : Act → Prop} {a : Act} (h : K a) : wpVals P ops C K [] a := h
theorem wpList_of_vals {ops : Array Oper} {tail : List Oper} : ∀ {ol : List Oper} {a : Act} {w : World}, C w → wpVals P ops C (fun aF => ∀ w, C w → wpList P ops Q tail aF w) ol a → wpList P ops Q (ol ++ tail) a w
  | [], a, w, hw, h => h w hw
  | o :: ol, a, w, hw, h => by
    obtain ⟨v, hy, hn⟩ := h
    rcases hy with ⟨h1, h2⟩ | ⟨h1, rfl⟩
    · refine wpList_step fun K hK => ?_
      rw [if_pos h1]
      exact Oper.wp_of_quiet (C := C) (K := fun a' => a' = a.put o.dst v) hw (fun a' w' hC ha => hK _ _ (by rw [ha]; exact wpList_of_vals hC hn)) ⟨v, h2, rfl⟩
    · refine wpList_step fun K hK => ?_
      rw [if_neg (by rw [h1]; simp)]
      exact hK _ _ (wpList_of_vals hw hn)
/-- A region in order, its first n operations walked by what they yield. -/
theorem wp_plain_seq {id : Nat} {l : List Oper} {a : Act} {w : World} (C : World → Prop) (n : Nat) (hC : C w)
    (h : wpVals P l.toArray C (fun aF => ∀ w, C w → wpList P l.toArray Q (l.drop n) aF w) (l.take n) a) : (Code.region id l.toArray false).wp P Q a w := by
  refine wp_region_lit ?_
  have := wpList_of_vals hC h
  rwa [List.take_append_drop] at this
/-- The class of worlds that a region is walked in: all that is owned, the streams as they were. -/
def Cls (w : World) (L : List HP) (w' : World) : Prop := Own w' L ∧ Same w w'
theorem cls_here {w : World} {L : List HP} (h : Own w L) : Cls w L w := ⟨h, Same.refl w⟩
theorem cls_drew {w : World} {L : List HP} (h : Own w L) : Cls w L w.drew := ⟨own_heap h (fun _ _ h => h), Same.drew w⟩
/-- A contract that keeps all, met in a region. -/
theorem cls_call {w w1 : World} {L : List HP} {f : FuncId} {args : Array Value} {v : Value} (hC : Cls w L w1) (h : Calls P f args w1 (fun e w' => e = .returned v ∧ Own w' L ∧ Same w1 w')) : Calls P f args w1 (fun e w' => e = .returned v ∧ Cls w L w') :=
  h.mono fun e w' ⟨he, ho, hs⟩ => ⟨he, ho, hC.2.trans hs⟩
end
end Go.Proofs.Ytonohjhmnlfakaa.H
set_option linter.unusedVariables false
set_option linter.unusedSimpArgs false
namespace Go.Proofs.Ytonohjhmnlfakaa.H
structure Pat where
  blk : Int
  off : Int
  dat : ByteArray
def Pat.cells (p : Pat) : List Value := [.int .i64 p.blk, .int .i64 p.off, .string p.dat]
/-- Right, as a Bool. -/
def rightB (p : Pat) : Bool := decide (0 ≤ p.blk ∧ p.blk < 96 ∧ 0 ≤ p.off ∧ p.off < 32 ∧ 1 ≤ p.dat.size ∧ (p.dat.size : Int) ≤ 32 - p.off)
theorem rightB_iff {p : Pat} : rightB p = true ↔ (0 ≤ p.blk ∧ p.blk < 96 ∧ 0 ≤ p.off ∧ p.off < 32 ∧ 1 ≤ p.dat.size ∧ (p.dat.size : Int) ≤ 32 - p.off) := by simp [rightB]
/-- The list with others laid over it from a place on. -/
def over {α : Type} (l : List α) (i : Nat) (d : List α) : List α := l.take i ++ d ++ l.drop (i + d.length)
theorem over_length {α : Type} (l : List α) (i : Nat) (d : List α) (h : i + d.length ≤ l.length) : (over l i d).length = l.length := by simp [over]; omega
theorem bcs_over (b : List UInt8) (i : Nat) (d : ByteArray) (hn : d.size = d.data.toList.length) : (bcs b).toArray.toList.take i ++ bcs d.data.toList ++ (bcs b).toArray.toList.drop (i + d.size) = bcs (over b i d.data.toList) := by
  simp only [bcs, over, List.map_append, List.map_take, List.map_drop, hn]
/-- A block's bytes behind a patch. -/
def app (b : List UInt8) (p : Pat) : List UInt8 := over b p.off.toNat p.dat.data.toList
theorem over_step {α : Type} (b d : List α) (i k : Nat) (hk : k < d.length) (hi : i + d.length ≤ b.length) : (over b i (d.take k)).set (i + k) d[k] = over b i (d.take (k + 1)) := by
  have hl : (d.take k).length = k := by rw [List.length_take]; omega
  have hl1 : (d.take (k + 1)).length = k + 1 := by rw [List.length_take]; omega
  have hbi : (b.take i).length = i := by rw [List.length_take]; omega
  unfold over
  rw [hl, hl1, List.take_succ_eq_append_getElem hk]
  have hd : b.drop (i + k) = b[i + k] :: b.drop (i + k + 1) := (List.drop_eq_getElem_cons (by omega))
  rw [hd, List.set_append_right _ _ (by simp [hl, hbi])]
  simp only [List.length_append, hbi, hl, Nat.sub_self, List.set_cons_zero, List.append_assoc, List.singleton_append, Nat.add_assoc]
theorem bcs_set (l : List UInt8) (i : Nat) (x : UInt8) : (bcs l).set i (.int .u8 (x.toNat : Int)) = bcs (l.set i x) := by
  simp only [bcs, List.map_set]
theorem over_same {α : Type} (b d : List α) (i : Nat) (hi : i + d.length ≤ b.length) : over b i d = b ↔ (b.drop i).take d.length = d := by
  have e : b = b.take i ++ ((b.drop i).take d.length ++ b.drop (i + d.length)) := by
    rw [← List.drop_drop, List.take_append_drop, List.take_append_drop]
  unfold over
  constructor
  · intro h
    rw [List.append_assoc] at h
    have h2 := h.trans e
    have h3 := List.append_cancel_left h2
    exact (List.append_cancel_right h3).symm
  · intro h
    rw [List.append_assoc]
    conv => rhs; rw [e]
    rw [h]
theorem app_idle (b : List UInt8) (p : Pat) (hb : b.length = 32) (hp : rightB p = true) : app b p = b ↔ (b.drop p.off.toNat).take p.dat.size = p.dat.data.toList := by
  obtain ⟨p1, p2, p3, p4, p5, p6⟩ := rightB_iff.1 hp
  have hs : p.dat.size = p.dat.data.toList.length := by rw [Array.length_toList]; rfl
  rw [hs]
  exact over_same _ _ _ (by omega)
/-- Patches as cells. -/
def cellsP (ps : List Pat) : List Value := ps.flatMap Pat.cells
theorem cellsP_length (ps : List Pat) : (cellsP ps).length = ps.length * 3 := by
  induction ps with
  | nil => rfl
  | cons p ps ih => simp only [cellsP, List.flatMap_cons, List.length_append, List.length_cons] at ih ⊢; rw [ih]; simp [Pat.cells]; omega
theorem cellsP_at (ps : List Pat) (k : Nat) (hk : k < ps.length) (j : Nat) (u : Value) (hu : ps[k].cells[j]? = some u) : (cellsP ps)[k * 3 + j]? = some u := by
  induction ps generalizing k with
  | nil => simp at hk
  | cons p ps ih =>
    have h3 : p.cells.length = 3 := rfl
    simp only [cellsP, List.flatMap_cons]
    cases k with
    | zero =>
      have hj : j < 3 := by
        have := (List.getElem?_eq_some_iff.1 hu).1
        simpa [Pat.cells] using this
      rw [List.getElem?_append_left (by rw [h3]; omega)]
      simpa using hu
    | succ k =>
      rw [List.getElem?_append_right (by rw [h3]; omega), h3, show (k + 1) * 3 + j - 3 = k * 3 + j by omega]
      exact ih k (by simpa using hk) (by simpa using hu)
/-- .. behind some, in order. -/
def appAll (b : List UInt8) (ps : List Pat) : List UInt8 := ps.foldl app b
theorem app_length (b : List UInt8) (p : Pat) (hb : b.length = 32) (hp : rightB p = true) : (app b p).length = 32 := by
  obtain ⟨p1, p2, p3, p4, p5, p6⟩ := rightB_iff.1 hp
  have hs : p.dat.size = p.dat.data.toList.length := by rw [Array.length_toList]; rfl
  unfold app
  rw [over_length _ _ _ (by omega), hb]
theorem appAll_snoc (b : List UInt8) (ps : List Pat) (p : Pat) : appAll b (ps ++ [p]) = app (appAll b ps) p := by simp [appAll]
theorem appAll_length (ps : List Pat) : ∀ (b : List UInt8), b.length = 32 → (∀ p ∈ ps, rightB p = true) → (appAll b ps).length = 32 := by
  induction ps with
  | nil => intro b h _; exact h
  | cons p ps ih => intro b h hp; exact ih _ (app_length b p h (hp p List.mem_cons_self)) (fun q hq => hp q (List.mem_cons_of_mem _ hq))
end Go.Proofs.Ytonohjhmnlfakaa.H
set_option linter.unusedVariables false
set_option linter.unusedSimpArgs false
set_option maxRecDepth 100000
namespace Go.Proofs.Ytonohjhmnlfakaa.H
open Go.RowKit
theorem row_int : isRowB Try.prog 3 = some false := by kernel_rfl
theorem row_str : isRowB Try.prog 9 = some false := by kernel_rfl
theorem row_bool : isRowB Try.prog 4 = some false := by kernel_rfl
theorem row_u8 : isRowB Try.prog 5 = some false := by kernel_rfl
theorem row_bys : isRowB Try.prog 22 = some false := by kernel_rfl
theorem row_pats : isRowB Try.prog 51 = some false := by kernel_rfl
theorem row_err : isRowB Try.prog 29 = some false := by kernel_rfl
theorem row_pat : isRowB Try.prog 33 = some true := by kernel_rfl
theorem sz_pat : (Try.prog.info? 33).map (·.size) = some 3 := by kernel_rfl
theorem sz_u8 : (Try.prog.info? 5).map (·.size) = some 1 := by kernel_rfl
theorem info_u8 : (Try.prog.info? 5).map (fun i => (i.zero, i.size, i.bytes)) = some (some (.int .u8 0), 1, 1) := by kernel_rfl
theorem mixed : Try.prog.follows .mixedOrders = true := by kernel_rfl
theorem size_pos_of {s : ByteArray} (h : ¬ s.toList = []) : 1 ≤ s.size := by
  rw [ByteArray.toList_eq] at h
  have : s.data.toList.length ≠ 0 := fun e => h (List.eq_nil_of_length_eq_zero e)
  have h2 : s.size = s.data.toList.length := by rw [Array.length_toList]; rfl
  omega
theorem size_zero_of {s : ByteArray} (h : s.toList = []) : s.size = 0 := by
  rw [ByteArray.toList_eq] at h
  have h2 : s.size = s.data.toList.length := by rw [Array.length_toList]; rfl
  rw [h2, h]; rfl

theorem right_c (w : World) (L : List HP) (a0 a1 : Int) (s : ByteArray) (hO : Own w L) : Calls Try.prog 36 #[.agg #[.int .i64 a0, .int .i64 a1, .string s]] w fun e w' => e = .returned (.bool (rightB ⟨a0, a1, s⟩)) ∧ Own w' L ∧ Same w w' := by
  go_enter Try.func36, Try.ntmps36
  go_wp2_with (refine own_box_agg rfl rfl rfl hO ?_; clear hO; intro b w' hO hS; have c0 := own_cell 0 0 hO rfl rfl; have c1 := own_cell 0 1 hO rfl rfl; have c2 := own_cell 0 2 hO rfl rfl)
  all_goals go_ret
  all_goals refine ⟨congrArg Ending.returned (congrArg Value.bool ?_), own_drop hO, hS⟩
  all_goals rw [Bool.eq_iff_iff]
  all_goals simp [rightB]
  all_goals first | omega | (have h0 := size_zero_of (by assumption); omega) | (have h0 := size_pos_of (by assumption); constructor; (intro h; refine ⟨?_, ?_⟩ <;> omega); (intro h; exact ⟨by assumption, by omega⟩))
theorem right_v (w : World) (L : List HP) (a0 a1 : Int) (s : ByteArray) {r : Bool} (hR : rightB ⟨a0, a1, s⟩ = r) (hO : Own w L) : Calls Try.prog 36 #[.agg #[.int .i64 a0, .int .i64 a1, .string s]] w fun e w' => e = .returned (.bool r) ∧ Own w' L ∧ Same w w' := by
  have := right_c w L a0 a1 s hO
  rw [hR] at this
  exact this
theorem end_c (w : World) (L : List HP) (a0 a1 : Int) (s : ByteArray) (h0 : 0 ≤ a1) (h1 : a1 < 32) (h2 : s.size ≤ 32) (hO : Own w L) : Calls Try.prog 75 #[.agg #[.int .i64 a0, .int .i64 a1, .string s]] w fun e w' => e = .returned (.int .i64 (a1 + s.size)) ∧ Own w' L ∧ Same w w' := by
  go_enter Try.func75, Try.ntmps75
  go_wp2_with (refine own_box_agg rfl rfl rfl hO ?_; clear hO; intro b w' hO hS; have c0 := own_cell 0 0 hO rfl rfl; have c1 := own_cell 0 1 hO rfl rfl; have c2 := own_cell 0 2 hO rfl rfl)
  go_ret
  exact ⟨rfl, own_drop hO, hS⟩
end Go.Proofs.Ytonohjhmnlfakaa.H
set_option linter.unusedVariables false
set_option linter.unusedSimpArgs false
set_option maxRecDepth 100000
namespace Go.Proofs.Ytonohjhmnlfakaa.H
open Go.RowKit
end Go.Proofs.Ytonohjhmnlfakaa.H
set_option linter.unusedVariables false
set_option linter.unusedSimpArgs false
set_option maxRecDepth 100000
namespace Go.Proofs.Ytonohjhmnlfakaa.H
open Go.RowKit
def overB (p q : Pat) : Bool := rightB p && rightB q && decide (p.blk = q.blk) && decide (p.off < q.off + q.dat.size) && decide (q.off < p.off + p.dat.size)
set_option maxHeartbeats 1000000 in
theorem over_c (w : World) (L : List HP) (a0 a1 b0 b1 : Int) (s t : ByteArray) (hO : Own w L) :
    Calls Try.prog 40 #[.agg #[.int .i64 a0, .int .i64 a1, .string s], .agg #[.int .i64 b0, .int .i64 b1, .string t]] w (Ret w (.bool (overB ⟨a0, a1, s⟩ ⟨b0, b1, t⟩)) L) := by
  have key : ∀ (r1 r2 : Bool), rightB ⟨a0, a1, s⟩ = r1 → rightB ⟨b0, b1, t⟩ = r2 → (r1 = true → 0 ≤ a1 ∧ a1 < 32 ∧ s.size ≤ 32) → (r2 = true → 0 ≤ b1 ∧ b1 < 32 ∧ t.size ≤ 32) →
    Calls Try.prog 40 #[.agg #[.int .i64 a0, .int .i64 a1, .string s], .agg #[.int .i64 b0, .int .i64 b1, .string t]] w (Ret w (.bool (r1 && r2 && decide (a0 = b0) && decide (a1 < b1 + t.size) && decide (b1 < a1 + s.size))) L) := by
    intro r1 r2 hR hR2 hp hq
    have HR := Lib.hid hR
    have HR2 := Lib.hid hR2
    have HP := Lib.hid hp
    have HQ := Lib.hid hq
    clear hR hR2 hp hq
    have enter : r1 = false ∨ (r1 = true ∧ r2 = false) ∨ (r1 = true ∧ r2 = true ∧ (a0 == b0) = false) ∨ (r1 = true ∧ r2 = true ∧ a0 = b0 ∧ decide (a1 < b1 + t.size) = false) ∨ (r1 = true ∧ r2 = true ∧ a0 = b0 ∧ decide (a1 < b1 + t.size) = true) := by
      cases r1 <;> cases r2 <;> simp
      by_cases h1 : a0 = b0 <;> simp [h1]
      by_cases h2 : a1 < b1 + t.size <;> simp [h2] <;> omega
    rcases enter with rfl | ⟨rfl, rfl⟩ | ⟨rfl, rfl, h0⟩ | ⟨rfl, rfl, rfl, h1⟩ | ⟨rfl, rfl, rfl, h1⟩
    all_goals
      go_enter Try.func40, Try.ntmps40
      go_wp2_with (first | (refine own_box_agg (x := .tmp 0) rfl rfl rfl hO ?_; clear hO; intro b w1 hO hS1) | (refine own_box_agg (x := .tmp 1) rfl rfl rfl hO ?_; clear hO; intro b' w2 hO hS2))
      refine wp_region_seq (Cls w2 (pts b' (.cells #[.int .i64 _, .int .i64 b1, .string t] 33) :: pts b (.cells #[.int .i64 a0, .int .i64 a1, .string s] 33) :: L)) 27 32 mixed (by kernel_rfl) rfl (cls_drew hO) ?_
      simp only [List.append_eq, List.cons_append, List.nil_append, List.take_succ_cons, List.take_zero]
      repeat (first
        | (apply wv_skip rfl; simp only [Act.put, List.setIfInBounds_toArray, List.set_cons_zero, List.set_cons_succ])
        | (apply wv_load1 rfl rfl rfl; (first | exact row_int | exact row_str | exact row_bool | exact row_u8 | exact row_bys | exact row_pats | exact row_err); (intro w h; (first | exact own_get 0 h.1 rfl | exact own_get 1 h.1 rfl | exact own_get 2 h.1 rfl | exact own_get 3 h.1 rfl | exact own_get 4 h.1 rfl | exact own_get 5 h.1 rfl | exact own_get 6 h.1 rfl | exact own_get 7 h.1 rfl)); (first | (simp only [List.getElem?_toArray, List.getElem?_cons_succ, List.getElem?_cons_zero]; rfl) | rfl); simp only [Act.put, List.setIfInBounds_toArray, List.set_cons_zero, List.set_cons_succ])
        | (apply wv_loadrow rfl rfl rfl; (first | exact row_pat); exact sz_pat; (intro w h; (first | exact own_get 0 h.1 rfl | exact own_get 1 h.1 rfl | exact own_get 2 h.1 rfl | exact own_get 3 h.1 rfl | exact own_get 4 h.1 rfl | exact own_get 5 h.1 rfl | exact own_get 6 h.1 rfl | exact own_get 7 h.1 rfl)); (focus (simp; done)); (first | (simp only [List.drop_zero, List.drop_succ_cons, List.take_succ_cons, List.take_zero]; rfl) | rfl); simp only [Act.put, List.setIfInBounds_toArray, List.set_cons_zero, List.set_cons_succ])
        | (apply wv_run rfl; (focus (intro w h; go_simp; first | done | rfl)); simp only [Act.put, List.setIfInBounds_toArray, List.set_cons_zero, List.set_cons_succ])
        | (apply wv_call rfl; (focus (intro w; go_simp; first | done | exact ⟨rfl, rfl⟩)); (focus (intro w h; apply cls_call h; first | exact right_v _ _ _ _ _ HR.out h.1 | exact right_v _ _ _ _ _ HR2.out h.1 | exact end_c _ _ _ _ _ (HP.out (by simp)).1 (HP.out (by simp)).2.1 (HP.out (by simp)).2.2 h.1 | exact end_c _ _ _ _ _ (HQ.out (by simp)).1 (HQ.out (by simp)).2.1 (HQ.out (by simp)).2.2 h.1)); simp only [Act.put, List.setIfInBounds_toArray, List.set_cons_zero, List.set_cons_succ]))
      refine wv_nil ?_
      simp only [List.drop_succ_cons, List.drop_zero]
      intro w5 h5
      go_wp2
      go_ret
      refine ⟨?_, own_drop (own_drop h5.1), hS1.trans (hS2.trans h5.2)⟩
      first | rfl | (simp [*]; done) | ((have h0n : ¬ a0 = b0 := by simpa using h0); simp [h0n]; done)
  refine key _ _ rfl rfl (fun h => ?_) (fun h => ?_)
  · obtain ⟨p1, p2, p3, p4, p5, p6⟩ := rightB_iff.1 h
    simp only at p1 p2 p3 p4 p5 p6
    omega
  · obtain ⟨p1, p2, p3, p4, p5, p6⟩ := rightB_iff.1 h
    simp only at p1 p2 p3 p4 p5 p6
    omega
end Go.Proofs.Ytonohjhmnlfakaa.H
set_option linter.unusedVariables false
set_option linter.unusedSimpArgs false
set_option maxRecDepth 100000
namespace Go.Proofs.Ytonohjhmnlfakaa.H
open Go.RowKit
theorem zero_pat : (Try.prog.info? 33).map (·.zero) = some (some (.agg #[.int .i64 0, .int .i64 0, .string ⟨#[]⟩])) := by kernel_rfl
end Go.Proofs.Ytonohjhmnlfakaa.H
set_option linter.unusedVariables false
set_option linter.unusedSimpArgs false
set_option maxRecDepth 100000
namespace Go.Proofs.Ytonohjhmnlfakaa.H
open Go.RowKit
def idleB (bs : List UInt8) (p : Pat) : Bool := decide (bs.length = 32) && rightB p && decide ((bs.drop p.off.toNat).take p.dat.size = p.dat.data.toList)
end Go.Proofs.Ytonohjhmnlfakaa.H
set_option linter.unusedVariables false
set_option linter.unusedSimpArgs false
set_option maxRecDepth 100000
namespace Go.Proofs.Ytonohjhmnlfakaa.H
open Go.RowKit
abbrev RdP (w : World) (v : Value) (ps : List Pat) : Prop := Rd w 3 v ps.length (cellsP ps)
/-- What holds at each round of All's loop. -/
def AllInv (L : List HP) (w0 : World) (g : Nat) (bs : List UInt8) (ps : List Pat) (k : Nat) (wr : World) : Prop :=
  (∀ p ∈ ps.take k, rightB p = true) ∧ Own wr (pts g (.cells (bcs (appAll bs (ps.take k))).toArray 5) :: L) ∧ Same w0 wr
/-- What All hands back. -/
def AllPost (L : List HP) (w0 : World) (bs : List UInt8) (ps : List Pat) (e : Ending) (w' : World) : Prop :=
  if (∀ p ∈ ps, rightB p = true) then RetX w0 (fun g => .tuple #[.slice (some ⟨g, 0, none⟩) 32 32, .int .i64 0]) (fun g => pts g (.cells (bcs (appAll bs ps)).toArray 5) :: L) e w'
  else Ret w0 (.tuple #[.slice none 0 0, .int .i64 3]) L e w'
end Go.Proofs.Ytonohjhmnlfakaa.H
