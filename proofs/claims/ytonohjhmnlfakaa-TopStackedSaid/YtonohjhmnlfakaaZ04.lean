/- Regions of open order whose first operations may come late: as long as what they yield is the same in every world between. Contract of the reference's Overlap. Plain law: two patches that don't overlap commute. Plain law: the joined patch is right, and does what both do. -/
import Derived.Test.YtonohjhmnlfakaaZ02
import Derived.Test.YtonohjhmnlfakaaZ03
set_option linter.unusedVariables false
set_option linter.unusedSimpArgs false
namespace Go.Proofs.Ytonohjhmnlfakaa.H
open Go.RowKit
section
variable {P : Program} {ops : Array Oper} {Q : Exit → Act → World → Prop} {C K : World → Prop} {n : Nat} {ds : List Tmp} {F : List Nat}
/-- One operation after the other, K holding ahead of each. -/
def wpListK (P : Program) (ops : Array Oper) (Q : Exit → Act → World → Prop) (K : World → Prop) : List Oper → Act → World → Prop
  | [], a, w => Q .normal a w
  | o :: rest, a, w => K w ∧ wpList P ops (Exit.then (wpListK P ops Q K rest) Q) [o] a w
/-- What an operation yields, changing nothing, in every world of the class. -/
def PlainIn (P : Program) (ops : Array Oper) (K : World → Prop) (o : Oper) (v : Value) (a : Act) : Prop :=
  (Region.wanted o (yielded ops a.tmps) = true ∧ ∀ w, K w → (execOp a.eval o).run P w = .ok (.value v) w) ∨ (Region.wanted o (yielded ops a.tmps) = false ∧ v = undef)
/-- The check of a region's text. -/
def mixOk (ops : Array Oper) (n : Nat) (ds : List Tmp) (F : List Nat) : Bool :=
  Region.noSelect ops && decide (n ≤ ops.size) && decide (ds.length = n) && decide ds.Nodup &&
  ((List.range ops.size).all fun i => match ops[i]? with
    | some o => (o.after.all fun e => !Region.binds .any e || decide (e.on < i)) &&
      ((o.looksAt ops).all fun t => (List.range n).all fun j => !(ds[j]? == some t) || o.after.any fun e => Region.binds .any e && e.on == j) &&
      (if i < n then o.dst == ds[i]? else
        ((decide (i ≤ n) || Region.waitsFor .any ops i (i - 1)) && ((List.range n).all fun j => (match ds[j]? with | some d => !(o.dst == some d) | none => true) &&
          (!F.contains j || (match ops[j]? with | some oj => ((oj.looksAt ops).all fun t => !(o.dst == some t)) | none => true)))))
    | none => false) &&
  ((List.range n).all fun i => F.contains i || (List.range (n + 1)).any fun j => decide (i < j) && !F.contains j && Region.waitsFor .any ops j i) &&
  ((List.range (ops.size - 1)).all fun i => (List.range ops.size).any fun j => decide (i < j) && Region.waitsFor .any ops j i)
structure MixOk (ops : Array Oper) (n : Nat) (ds : List Tmp) (F : List Nat) : Prop where
  sel : Region.noSelect ops = true
  hn : n ≤ ops.size
  len : ds.length = n
  nd : ds.Nodup
  op : ∀ i, i < ops.size → ∃ o, ops[i]? = some o ∧ (∀ e ∈ o.after, Region.binds .any e = true → e.on < i) ∧ (∀ t ∈ o.looksAt ops, ∀ j, j < n → ds[j]? = some t → ∃ e ∈ o.after, Region.binds .any e = true ∧ e.on = j)
  head : ∀ i o, i < n → ops[i]? = some o → o.dst = ds[i]?
  chain : ∀ i, n < i → i < ops.size → Region.waitsFor .any ops i (i - 1) = true
  tail : ∀ i o, n ≤ i → ops[i]? = some o → ∀ j, j < n → (∀ d, ds[j]? = some d → o.dst ≠ some d) ∧ (F.contains j = true → ∀ oj, ops[j]? = some oj → ∀ t ∈ oj.looksAt ops, o.dst ≠ some t)
  sink : ∀ i, i < n → F.contains i = false → ∃ j, i < j ∧ j ≤ n ∧ F.contains j = false ∧ Region.waitsFor .any ops j i = true
  all : ∀ i, i + 1 < ops.size → ∃ j, i < j ∧ j < ops.size ∧ Region.waitsFor .any ops j i = true
theorem mix_of (h : mixOk ops n ds F = true) : MixOk ops n ds F := by
  simp only [mixOk, Bool.and_eq_true, decide_eq_true_eq] at h
  obtain ⟨⟨⟨⟨⟨⟨h1, h2⟩, h3⟩, h4⟩, h5⟩, h6⟩, h7⟩ := h
  have key : ∀ i, i < ops.size → ∃ o, ops[i]? = some o ∧ _ := fun i hi => ⟨ops[i], Array.getElem?_eq_getElem hi, List.all_eq_true.1 h5 i (List.mem_range.2 hi)⟩
  refine ⟨h1, h2, h3, h4, fun i hi => ?_, fun i o hi ho => ?_, fun i hn hi => ?_, fun i o hi ho j hj => ?_, fun i hi hF => ?_, fun i hi => ?_⟩
  · obtain ⟨o, ho, hk⟩ := key i hi
    rw [ho] at hk
    simp only [Bool.and_eq_true] at hk
    obtain ⟨⟨g1, g2⟩, g3⟩ := hk
    refine ⟨o, ho, fun e he hb => ?_, fun t ht j hj hd => ?_⟩
    · have := (Array.all_eq_true_iff_forall_mem.1 g1) e he
      simpa [hb] using this
    · have := List.all_eq_true.1 (List.all_eq_true.1 g2 t ht) j (List.mem_range.2 hj)
      rw [hd] at this
      simp only [beq_self_eq_true, Bool.not_true, Bool.false_or] at this
      obtain ⟨e, he, hb⟩ := Array.any_eq_true'.1 this
      simp only [Bool.and_eq_true, beq_iff_eq] at hb
      exact ⟨e, he, hb.1, hb.2⟩
  · obtain ⟨o', ho', hk⟩ := key i (by omega)
    rw [ho'] at hk
    simp only [Bool.and_eq_true, if_pos hi] at hk
    have : o' = o := Option.some.inj (ho'.symm.trans ho)
    subst this
    exact beq_iff_eq.1 hk.2
  · obtain ⟨o', ho', hk⟩ := key i hi
    rw [ho'] at hk
    simp only [Bool.and_eq_true, if_neg (show ¬ i < n by omega), Bool.or_eq_true, decide_eq_true_eq] at hk
    rcases hk.2.1 with h | h
    · omega
    · exact h
  · have hil : i < ops.size := (Array.getElem?_eq_some_iff.1 ho).1
    obtain ⟨o', ho', hk⟩ := key i hil
    rw [ho'] at hk
    have : o' = o := Option.some.inj (ho'.symm.trans ho)
    subst this
    simp only [Bool.and_eq_true, if_neg (show ¬ i < n by omega)] at hk
    have := List.all_eq_true.1 hk.2.2 j (List.mem_range.2 hj)
    simp only [Bool.and_eq_true, Bool.or_eq_true, Bool.not_eq_true'] at this
    refine ⟨fun d hd => ?_, fun hF oj hoj t ht hdt => ?_⟩
    · have := this.1
      rw [hd] at this
      simpa using this
    · rcases this.2 with h | h
      · rw [hF] at h; cases h
      · rw [hoj] at h
        have := List.all_eq_true.1 h t ht
        rw [hdt] at this
        simp at this
  · have := List.all_eq_true.1 h6 i (List.mem_range.2 hi)
    rw [hF, Bool.false_or] at this
    obtain ⟨j, hj, hj2⟩ := List.any_eq_true.1 this
    simp only [Bool.and_eq_true, decide_eq_true_eq, Bool.not_eq_true'] at hj2
    exact ⟨j, hj2.1.1, by have := List.mem_range.1 hj; omega, hj2.1.2, hj2.2⟩
  · have := List.all_eq_true.1 h7 i (List.mem_range.2 (by omega))
    obtain ⟨j, hj, hj2⟩ := List.any_eq_true.1 this
    simp only [Bool.and_eq_true, decide_eq_true_eq] at hj2
    exact ⟨j, hj2.1, List.mem_range.1 hj, hj2.2⟩
/-- Where a run through the region stands: k operations of the tail are done; ak: the state with all of the head done. -/
structure Sim (ops : Array Oper) (n : Nat) (ds : List Tmp) (F : List Nat) (aF : Act) (k : Nat) (listed : Array Bool) (a ak : Act) : Prop where
  size : listed.size = ops.size
  closed : ∀ (j : Nat) oj, ops[j]? = some oj → listed.getD j false = true → ∀ e ∈ oj.after, Region.binds .any e = true → listed.getD e.on false = true
  tl : ∀ t, n + k ≤ t → t < ops.size → listed.getD t false = false
  td : ∀ t, n ≤ t → t < n + k → listed.getD t false = true
  free : 0 < k → ∀ j, j < n → listed.getD j false = false → F.contains j = true
  nk : n + k ≤ ops.size
  defers : a.defers = ak.defers
  asize : a.tmps.size = ak.tmps.size
  agree : ∀ t, (∀ j, j < n → ds[j]? = some t → listed.getD j false = true) → a.tmps[t]? = ak.tmps[t]?
  vals : ∀ j d, j < n → ds[j]? = some d → ak.tmps[d]? = aF.tmps[d]?
  look : 0 < k → ∀ j oj, j < n → F.contains j = true → ops[j]? = some oj → ∀ t ∈ oj.looksAt ops, ak.tmps[t]? = aF.tmps[t]?
theorem wanted_agree {o : Oper} {a a' : Act} (h : ∀ t ∈ o.looksAt ops, a'.tmps[t]? = a.tmps[t]?) : Region.wanted o (yielded ops a'.tmps) = Region.wanted o (yielded ops a.tmps) := by
  unfold Region.wanted
  cases hg : o.guard with
  | none => rfl
  | some g =>
    obtain ⟨j, want⟩ := g
    have : yielded ops a'.tmps j = yielded ops a.tmps j := by
      unfold yielded
      cases hj : ops[j]? with
      | none => rfl
      | some oj =>
        cases hd : oj.dst with
        | none => simp [hd]
        | some d =>
          have ht : d ∈ o.looksAt ops := by
            unfold Oper.looksAt
            refine List.mem_append.2 (.inr ?_)
            simp [hg, hj, hd]
          simp [hd, h d ht]
    simp only [this]
theorem exec_agree {o : Oper} {a a' : Act} (hsel : ∀ cs b, o.op ≠ .select cs b) (h : ∀ t ∈ o.looksAt ops, a'.tmps[t]? = a.tmps[t]?) : execOp a'.eval o = execOp a.eval o :=
  execOp_congr o hsel (fun x hx => by
    cases x with
    | tmp t =>
      have ht : t ∈ o.looksAt ops := by
        unfold Oper.looksAt
        refine List.mem_append.2 (.inl (List.mem_filterMap.2 ⟨.tmp t, ?_, rfl⟩))
        first | exact Array.mem_toList_iff.2 hx | exact hx.val | simpa using hx
      simp [Act.eval, h t ht]
    | const v => rfl
    | global g => rfl
    | func f => rfl)
theorem plain_agree {o : Oper} {v : Value} {a a' : Act} (hsel : ∀ cs b, o.op ≠ .select cs b) (h : ∀ t ∈ o.looksAt ops, a'.tmps[t]? = a.tmps[t]?) (hy : PlainIn P ops K o v a) : PlainIn P ops K o v a' := by
  unfold PlainIn at *
  rw [wanted_agree h, exec_agree hsel h]
  exact hy
theorem upon_agree {o : Oper} {a a' : Act} {N N' : Act → World → Prop} (hd : a.defers = a'.defers) (hQ : ∀ ch (a a' : Act) w, a.defers = a'.defers → Q (.panic ch) a w → Q (.panic ch) a' w)
    (hN : ∀ (b b' : Act) u w, b.tmps = a.tmps → b'.tmps = a'.tmps → b.defers = b'.defers → N (b.put o.dst u) w → N' (b'.put o.dst u) w) (r : Result Next) (h : o.upon P a N Q r) : o.upon P a' N' Q r := by
  cases r with
  | ok m w' =>
    cases m with
    | value u => exact hN a a' u w' rfl rfl hd h
    | skip => exact hN a a' _ w' rfl rfl hd h
    | defer dd => exact hN { a with defers := dd :: a.defers } { a' with defers := dd :: a'.defers } _ w' rfl rfl (by simp [hd]) h
    | enter f args =>
      simp only [Oper.upon] at h ⊢
      refine Calls.mono h fun e w'' he => ?_
      cases e with
      | returned u => exact hN a a' u w'' rfl rfl hd he
      | panicked ch => exact hQ ch a a' w'' hd he
      | outgrown => exact he
    | row row args =>
      simp only [Oper.upon] at h ⊢
      exact Rows.mono h fun u w'' he => hN a a' u w'' rfl rfl hd he
    | _ => first | exact h | exact (by simpa [Oper.upon] using h)
  | halt x w' =>
    cases x with
    | panic u => exact hQ _ a a' w' hd h
    | _ => exact h
theorem getD_set_self {listed : Array Bool} {i : Nat} (h : i < listed.size) : (listed.setIfInBounds i true).getD i false = true := by simp [h]
theorem put_size' (a : Act) (d : Option Tmp) (v : Value) : (a.put d v).tmps.size = a.tmps.size := by cases d <;> simp [Act.put]
theorem put_defers' (a : Act) (d : Option Tmp) (v : Value) : (a.put d v).defers = a.defers := by cases d <;> rfl
theorem put_ne' (a : Act) (d : Option Tmp) (v : Value) (t : Tmp) (h : d ≠ some t) : (a.put d v).tmps[t]? = a.tmps[t]? := by
  cases d with
  | none => rfl
  | some d => rw [put_at, if_neg (fun e => h (by rw [e.1]))]
theorem put_both (a b : Act) (d : Option Tmp) (v : Value) (t : Tmp) (hs : a.tmps.size = b.tmps.size) (h : d ≠ some t → a.tmps[t]? = b.tmps[t]?) : (a.put d v).tmps[t]? = (b.put d v).tmps[t]? := by
  by_cases e : d = some t
  · subst e
    rw [put_at, put_at, hs]
    by_cases h2 : t < b.tmps.size
    · simp [h2]
    · have ha : a.tmps[t]? = none := Array.getElem?_eq_none (by rw [hs]; exact Nat.le_of_not_lt h2)
      have hb : b.tmps[t]? = none := Array.getElem?_eq_none (Nat.le_of_not_lt h2)
      simp [h2, ha, hb]
  · rw [put_ne' a d v t e, put_ne' b d v t e, h e]
theorem getD_cases {listed : Array Bool} {i : Nat} (h : i < listed.size) : listed.getD i false = false → listed.getD i true = false := getD_in h
theorem set_getD {listed : Array Bool} {i j : Nat} (h : (listed.setIfInBounds i true).getD j false = false) : listed.getD j false = false ∧ (i < listed.size → i ≠ j) := by
  by_cases e : i = j
  · subst e
    by_cases hs : i < listed.size
    · rw [getD_set_self hs] at h; cases h
    · have : (listed.setIfInBounds i true) = listed := by
        apply Array.ext
        · simp
        · intro k h1 h2
          simp at h1
          rw [Array.getElem_setIfInBounds]
          rw [if_neg]
          omega
      rw [this] at h
      exact ⟨h, fun h2 => absurd h2 hs⟩
  · rw [getD_set_ne false e] at h
    exact ⟨h, fun _ => e⟩
/-- All of the tail is done: so is all of the head. -/
theorem all_done {aF a ak : Act} {k : Nat} {listed : Array Bool} (hB : MixOk ops n ds F) (h : Sim ops n ds F aF k listed a ak) (hk : n + k = ops.size) (hk0 : 0 < k) : ∀ d j, ops.size - j = d → j < ops.size → listed.getD j false = true := by
  intro d
  induction d using Nat.strongRecOn with
  | _ d ih =>
    intro j hd hj
    by_cases hl : j + 1 = ops.size
    · exact h.td j (by omega) (by omega)
    · obtain ⟨j', h1, h2, h3⟩ := hB.all j (by omega)
      have := ih (ops.size - j') (by omega) j' rfl h2
      obtain ⟨oj, hoj, e, he, hb, hon⟩ := Region.waitsFor_spec h3
      exact hon ▸ h.closed j' oj hoj this e he hb
theorem tail_next {aF a ak : Act} {k : Nat} {listed : Array Bool} {i : Nat} (hB : MixOk ops n ds F) (h : Sim ops n ds F aF k listed a ak) (hi : i ∈ Region.ready .any ops listed) (hin : n ≤ i) : i = n + k := by
  obtain ⟨h1, o, ho, hr⟩ := mem_ready.1 hi
  have hil : i < ops.size := (Array.getElem?_eq_some_iff.1 ho).1
  rcases Nat.lt_or_ge i (n + k) with hlt | hge
  · have := h.td i hin hlt
    rw [getD_both h1] at this
    cases this
  · by_cases e : i = n + k
    · exact e
    · obtain ⟨o', ho', ed, he, hb, hon⟩ := Region.waitsFor_spec (hB.chain i (by omega) hil)
      have : o' = o := Option.some.inj (ho'.symm.trans ho)
      subst this
      have h2 := hr ed he hb
      rw [hon, h.tl (i - 1) (by omega) (by omega)] at h2
      cases h2
/-- The first of the tail comes behind all of the head that may not come late. -/
theorem tail_first {aF a ak : Act} {listed : Array Bool} (hB : MixOk ops n ds F) (h : Sim ops n ds F aF 0 listed a ak) (hi : n ∈ Region.ready .any ops listed) : ∀ d j, n - j = d → j < n → listed.getD j false = false → F.contains j = true := by
  obtain ⟨h1, o, ho, hr⟩ := mem_ready.1 hi
  intro d
  induction d using Nat.strongRecOn with
  | _ d ih =>
    intro j hd hj hl
    cases hF : F.contains j with
    | true => rfl
    | false =>
      exfalso
      obtain ⟨j', g1, g2, gF, g3⟩ := hB.sink j hj hF
      obtain ⟨oj, hoj, e, he, hb, hon⟩ := Region.waitsFor_spec g3
      by_cases hjn : j' = n
      · subst hjn
        have : oj = o := Option.some.inj (hoj.symm.trans ho)
        subst this
        have := hr e he hb
        rw [hon, hl] at this
        cases this
      · cases hl' : listed.getD j' false with
        | true =>
          have := h.closed j' oj hoj hl' e he hb
          rw [hon, hl] at this
          cases this
        | false =>
          have hF' := ih (n - j') (by omega) j' rfl (by omega) hl'
          rw [gF] at hF'
          cases hF'
/-- A region, whatever the order: what stands between is as the walk in order says. -/
theorem mix_all {l : List Oper} {vals : List Value} (aF : Act) (hB : MixOk l.toArray n ds F) (hKC : ∀ w, C w → K w)
    (hQ : ∀ ch (a a' : Act) w, a.defers = a'.defers → Q (.panic ch) a w → Q (.panic ch) a' w)
    (hlen : vals.length = n) (hF : ∀ (i : Nat) d v, ds[i]? = some d → vals[i]? = some v → aF.tmps[d]? = some v) (hds : ∀ d ∈ ds, d < aF.tmps.size)
    (hy : ∀ i o v, i < n → l.toArray[i]? = some o → vals[i]? = some v → F.contains i = false → YieldsIn P l.toArray C o v aF)
    (hp : ∀ i o v, i < n → l.toArray[i]? = some o → vals[i]? = some v → F.contains i = true → PlainIn P l.toArray K o v aF)
    (htail : ∀ w, C w → wpListK P l.toArray Q K (l.drop n) aF w) :
    ∀ (m : Nat) (k : Nat) (listed : Array Bool) (a ak : Act) (w : World), unl l.toArray.size listed = m → Sim l.toArray n ds F aF k listed a ak →
      (k = 0 → C w ∧ (∀ t, (∀ j, j < n → ds[j]? ≠ some t) → ak.tmps[t]? = aF.tmps[t]?) ∧ ak = aF) → (0 < k → wpListK P l.toArray Q K (l.drop (n + k)) ak w) → wpAny P .any l.toArray Q m listed a w := by
  intro m
  induction m with
  | zero =>
    intro k listed a ak w hu h h0 h1
    have hall := unl_zero hu
    have hkN : n + k = l.toArray.size := by
      rcases Nat.lt_or_ge (n + k) l.toArray.size with hlt | hge
      · have := h.tl (n + k) (Nat.le_refl _) hlt
        rw [hall _ hlt] at this; cases this
      · have := h.nk; omega
    have ha : a = ak := by
      have ht : a.tmps = ak.tmps := by
        apply Array.ext_getElem?
        intro t
        exact h.agree t (fun j hj _ => hall j (by have := hB.hn; omega))
      have hd := h.defers
      cases a; cases ak; simp_all
    subst ha
    have hr : Region.ready .any l.toArray listed = [] := by
      rw [List.eq_nil_iff_forall_not_mem]
      intro i hi
      obtain ⟨g1, o, ho, _⟩ := mem_ready.1 hi
      have := hall i (Array.getElem?_eq_some_iff.1 ho).1
      rw [getD_both g1] at this; cases this
    have hdrop : l.drop (n + k) = [] := by rw [List.drop_eq_nil_iff]; simp at hkN; omega
    refine ⟨hr, ?_⟩
    by_cases hk : 0 < k
    · have := h1 hk
      rw [hdrop] at this
      exact this
    · obtain rfl : k = 0 := by omega
      obtain ⟨hC, _, rfl⟩ := h0 rfl
      have := htail w hC
      rw [Nat.add_zero] at hdrop
      rw [hdrop] at this
      exact this
  | succ m ih =>
    intro k listed a ak w hu h h0 h1
    have hex : ∃ i, i < l.toArray.size ∧ listed.getD i false = false := by
      have : ((List.range l.toArray.size).filter fun i => !listed.getD i false) ≠ [] := fun e => by unfold unl at hu; rw [e] at hu; simp at hu
      obtain ⟨i, hi⟩ := List.exists_mem_of_ne_nil _ this
      rw [List.mem_filter, List.mem_range] at hi
      exact ⟨i, hi.1, by simpa using hi.2⟩
    have hne : Region.ready .any l.toArray listed ≠ [] := by
      have hmin : ∀ k, (∃ i, i ≤ k ∧ i < l.toArray.size ∧ listed.getD i false = false) → ∃ i, i < l.toArray.size ∧ listed.getD i false = false ∧ ∀ j, j < i → listed.getD j false = true := by
        intro k
        induction k with
        | zero =>
          rintro ⟨i, hi, h1, h2⟩
          exact ⟨i, h1, h2, fun j hj => by omega⟩
        | succ k ihk =>
          rintro ⟨i, hi, h1, h2⟩
          by_cases hlow : ∃ j, j ≤ k ∧ j < l.toArray.size ∧ listed.getD j false = false
          · exact ihk hlow
          · refine ⟨i, h1, h2, fun j hj => ?_⟩
            cases hb : listed.getD j false with
            | true => rfl
            | false => exact absurd ⟨j, by omega, by omega, hb⟩ hlow
      obtain ⟨i0, g1, g2⟩ := hex
      obtain ⟨i, hin, hb, hlow⟩ := hmin i0 ⟨i0, Nat.le_refl _, g1, g2⟩
      obtain ⟨o, ho, hback, _⟩ := hB.op i hin
      have : i ∈ Region.ready .any l.toArray listed := mem_ready.2 ⟨getD_in (by rw [h.size]; omega) hb, o, ho, fun e he hbd => hlow _ (hback e he hbd)⟩
      intro e
      rw [e] at this
      cases this
    refine ⟨fun hr => absurd hr hne, fun i hi => ?_⟩
    obtain ⟨hun, o, ho, hready⟩ := mem_ready.1 hi
    have hil : i < l.toArray.size := (Array.getElem?_eq_some_iff.1 ho).1
    have his : i < listed.size := by rw [h.size]; exact hil
    have hus := unl_set (n := l.toArray.size) hil his (getD_both hun)
    obtain ⟨o', ho', hback, hlook⟩ := hB.op i hil
    have : o' = o := Option.some.inj (ho'.symm.trans ho)
    subst this
    have hsel := fun cs b => Region.noSelect_spec hB.sel i o' cs b ho
    have hag : ∀ t ∈ o'.looksAt l.toArray, a.tmps[t]? = ak.tmps[t]? := fun t ht => h.agree t (fun j hj hd => by
      obtain ⟨e, he, hb, hon⟩ := hlook t ht j hj hd
      exact hon ▸ hready e he hb)
    have hclosed : ∀ (j : Nat) oj, l.toArray[j]? = some oj → (listed.setIfInBounds i true).getD j false = true → ∀ e ∈ oj.after, Region.binds .any e = true → (listed.setIfInBounds i true).getD e.on false = true := fun j oj hj hl e he hb => by
      by_cases hij : i = j
      · subst hij
        have : oj = o' := Option.some.inj (hj.symm.trans ho)
        subst this
        exact getD_set_true (hready e he hb)
      · rw [getD_set_ne false hij] at hl
        exact getD_set_true (h.closed j oj hj hl e he hb)
    rcases Nat.lt_or_ge i n with hin | hin
    · -- one of the head
      have hdst := hB.head i o' hin ho
      obtain ⟨d, hd⟩ := getElem?_lt_of (l := ds) (i := i) (by rw [hB.len]; exact hin)
      obtain ⟨v, hv⟩ := getElem?_lt_of (l := vals) (i := i) (by omega)
      have hFv := hF i d v hd hv
      have hsim : Sim l.toArray n ds F aF k (listed.setIfInBounds i true) (a.put o'.dst v) ak := by
        refine ⟨by simp [h.size], hclosed, fun t ht ht2 => by rw [getD_set_ne false (by omega)]; exact h.tl t ht ht2, fun t ht ht2 => getD_set_true (h.td t ht ht2), fun hk j hj hl => h.free hk j hj (set_getD hl).1, h.nk, by rw [put_defers', h.defers], by rw [put_size', h.asize], fun t hall => ?_, h.vals, h.look⟩
        rw [hdst, hd]
        by_cases e : t = d
        · subst e
          rw [put_at, if_pos ⟨rfl, by rw [h.asize]; exact (by
            have h2 : ak.tmps[t]? = some v := (h.vals i t hin hd).trans hFv
            exact (Array.getElem?_eq_some_iff.1 h2).1)⟩, h.vals i t hin hd, hFv]
        · rw [put_at, if_neg (fun h2 => e h2.1)]
          refine h.agree t (fun j hj hdj => ?_)
          have := hall j hj hdj
          by_cases e2 : i = j
          · subst e2; rw [hd] at hdj; exact absurd (Option.some.inj hdj).symm e
          · rwa [getD_set_ne false e2] at this
      unfold wpOp
      rw [ho]
      simp only
      by_cases hk : 0 < k
      · have hFi := h.free hk i hin (getD_both hun)
        have hlt : n + k < l.toArray.size := by
          rcases Nat.lt_or_ge (n + k) l.toArray.size with hlt | hge
          · exact hlt
          · exfalso
            have := all_done hB h (by have := h.nk; omega) hk _ i rfl hil
            rw [getD_both hun] at this; cases this
        have hKw : K w := by
          have := h1 hk
          have hdr : l.drop (n + k) = l[n + k]'(by simpa using hlt) :: l.drop (n + k + 1) := List.drop_eq_getElem_cons (by simpa using hlt)
          rw [hdr] at this
          exact this.1
        have hpl := plain_agree (ops := l.toArray) hsel (fun t ht => (hag t ht).trans (h.look hk i o' hin hFi ho t ht)) (hp i o' v hin ho hv hFi)
        have hnext : wpAny P .any l.toArray Q m (listed.setIfInBounds i true) (a.put o'.dst v) w := ih k _ _ ak w (by omega) hsim (fun e => by omega) h1
        rcases hpl with ⟨hw, hrun⟩ | ⟨hw, rfl⟩
        · rw [if_pos hw]
          left
          unfold Oper.wp
          rw [hrun w hKw]
          exact hnext
        · rw [if_neg (by rw [hw]; simp)]
          exact hnext
      · obtain rfl : k = 0 := by omega
        obtain ⟨hC, hout, rfl⟩ := h0 rfl
        have hnext : ∀ w', C w' → wpAny P .any l.toArray Q m (listed.setIfInBounds i true) (a.put o'.dst v) w' := fun w' hC' => ih 0 _ _ ak w' (by omega) hsim (fun _ => ⟨hC', hout, rfl⟩) (fun e => by omega)
        cases hFi : F.contains i with
        | true =>
          have hpl := plain_agree (ops := l.toArray) hsel hag (hp i o' v hin ho hv hFi)
          rcases hpl with ⟨hw, hrun⟩ | ⟨hw, rfl⟩
          · rw [if_pos hw]
            left
            unfold Oper.wp
            rw [hrun w (hKC w hC)]
            exact hnext w hC
          · rw [if_neg (by rw [hw]; simp)]
            exact hnext w hC
        | false =>
          have hyi := yieldsIn_agree (ops := l.toArray) hsel hag (hy i o' v hin ho hv hFi)
          rcases hyi with ⟨hw, hq⟩ | ⟨hw, rfl⟩
          · rw [if_pos hw]
            exact .inl (Oper.wp_of_quiet (C := C) (K := fun a' => a' = a.put o'.dst v) hC (fun a' w' hC' ha => by rw [ha]; exact hnext w' hC') ⟨v, hq, rfl⟩)
          · rw [if_neg (by rw [hw]; simp)]
            exact hnext w hC
    · -- the next of the tail
      have hik := tail_next hB h hi hin
      have hwl : wpListK P l.toArray Q K (l.drop (n + k)) ak w := by
        by_cases hk : 0 < k
        · exact h1 hk
        · obtain rfl : k = 0 := by omega
          obtain ⟨hC, _, rfl⟩ := h0 rfl
          exact htail w hC
      have hlt : n + k < l.length := by rw [← hik]; simpa using hil
      have hdr : l.drop (n + k) = l[n + k] :: l.drop (n + k + 1) := List.drop_eq_getElem_cons hlt
      have hoe : l[n + k] = o' := by
        have : l.toArray[n + k]? = some o' := hik ▸ ho
        simpa [List.getElem?_eq_getElem hlt] using this
      rw [hdr, hoe] at hwl
      obtain ⟨hKw, hw1⟩ := hwl
      have htl := hB.tail i o' hin ho
      have hfree : ∀ j, j < n → (listed.setIfInBounds i true).getD j false = false → F.contains j = true := fun j hj hl => by
        by_cases hk : 0 < k
        · exact h.free hk j hj (set_getD hl).1
        · obtain rfl : k = 0 := by omega
          rw [Nat.add_zero] at hik
          exact tail_first hB h (hik ▸ hi) _ j rfl hj (set_getD hl).1
      have hstep : ∀ (b b' : Act) u w', b.tmps = ak.tmps → b'.tmps = a.tmps → b.defers = b'.defers → wpListK P l.toArray Q K (l.drop (n + k + 1)) (b.put o'.dst u) w' → wpAny P .any l.toArray Q m (listed.setIfInBounds i true) (b'.put o'.dst u) w' := fun b b' u w' hb hb' hdf hwp => by
        refine ih (k + 1) _ _ (b.put o'.dst u) w' (by omega) ⟨by simp [h.size], hclosed, fun t ht ht2 => by rw [getD_set_ne false (by omega)]; exact h.tl t (by omega) ht2, fun t ht ht2 => ?_, fun _ => hfree, by omega, by rw [put_defers', put_defers', hdf], by rw [put_size', put_size', hb, hb', h.asize], fun t hall => ?_, fun j d hj hd => ?_, fun _ j oj hj hFj hoj t ht => ?_⟩ (fun e => by omega) (fun _ => by rw [show n + (k + 1) = n + k + 1 by omega]; exact hwp)
        · by_cases e : i = t
          · subst e; exact getD_set_self his
          · rw [getD_set_ne false e]; exact h.td t ht (by omega)
        · refine put_both b' b o'.dst u t (by rw [hb, hb', h.asize]) (fun hne => ?_)
          rw [hb, hb']
          refine h.agree t (fun j hj hdj => ?_)
          have := hall j hj hdj
          rwa [getD_set_ne false (by omega)] at this
        · rw [put_ne' b o'.dst u d ((htl j hj).1 d hd), hb]
          exact h.vals j d hj hd
        · rw [put_ne' b o'.dst u t ((htl j hj).2 hFj oj hoj t ht), hb]
          by_cases hk : 0 < k
          · exact h.look hk j oj hj hFj hoj t ht
          · obtain rfl : k = 0 := by omega
            obtain ⟨_, _, rfl⟩ := h0 rfl
            rfl
      unfold wpOp
      rw [ho]
      simp only
      have hwant := wanted_agree (ops := l.toArray) (o := o') hag
      have hex := exec_agree (ops := l.toArray) hsel hag
      unfold wpList at hw1
      by_cases hw : Region.wanted o' (yielded l.toArray ak.tmps) = true
      · rw [if_pos hw] at hw1
        rw [hwant, if_pos hw]
        have conv : ∀ r, o'.upon P ak (wpList P l.toArray (Exit.then (wpListK P l.toArray Q K (l.drop (n + k + 1))) Q) []) (Exit.then (wpListK P l.toArray Q K (l.drop (n + k + 1))) Q) r → o'.upon P a (wpAny P .any l.toArray Q m (listed.setIfInBounds i true)) Q r := fun r hr => by
          refine upon_agree (Q := Q) h.defers.symm hQ (N := wpListK P l.toArray Q K (l.drop (n + k + 1))) (fun b b' u w' hb hb' hdf hn => hstep b b' u w' hb hb' hdf hn) r ?_
          cases r with
          | ok mm w' => cases mm <;> exact hr
          | halt x w' => cases x <;> exact hr
        rcases hw1 with hw1 | ⟨hw1, hw2⟩
        · left
          unfold Oper.wp at hw1 ⊢
          rw [hex]
          exact conv _ hw1
        · right
          refine ⟨?_, hw2⟩
          unfold Oper.asks at *
          rw [hex]
          exact hw1
      · rw [if_neg hw] at hw1
        rw [hwant, if_neg hw]
        exact hstep ak a undef w rfl rfl h.defers.symm hw1
/-- The walk of the head in the order of the text: what may come late yields, changing nothing, in K; all else in C. -/
def wpMix (P : Program) (ops : Array Oper) (C K : World → Prop) (F : List Nat) (N : Act → Prop) : Nat → List Oper → Act → Prop
  | _, [], a => N a
  | i, o :: ol, a => ∃ v, (if F.contains i = true then PlainIn P ops K o v a else YieldsIn P ops C o v a) ∧ wpMix P ops C K F N (i + 1) ol (a.put o.dst v)
theorem wpMix_out {N : Act → Prop} : ∀ {ol : List Oper} {i0 : Nat} {a : Act}, wpMix P ops C K F N i0 ol a → ∃ vl : List Value, vl.length = ol.length ∧ N (putO a ol vl) ∧ ∀ (i : Nat) (o : Oper) (v : Value), ol[i]? = some o → vl[i]? = some v → (if F.contains (i0 + i) = true then PlainIn P ops K o v (putO a (ol.take i) (vl.take i)) else YieldsIn P ops C o v (putO a (ol.take i) (vl.take i)))
  | [], i0, a, h => ⟨[], rfl, h, fun i o v ho => by simp at ho⟩
  | o :: ol, i0, a, h => by
    obtain ⟨v, hy, hn⟩ := h
    obtain ⟨vl, h1, h2, h3⟩ := wpMix_out hn
    refine ⟨v :: vl, by simp [h1], h2, fun i o' v' ho hv => ?_⟩
    cases i with
    | zero => simp at ho hv; subst ho; subst hv; exact hy
    | succ i =>
      have := h3 i o' v' (by simpa using ho) (by simpa using hv)
      rw [show i0 + (i + 1) = i0 + 1 + i by omega]
      exact this
def mixOk2 (l : List Oper) (n k : Nat) (F : List Nat) : Bool :=
  mixOk l.toArray n (dstsOf (l.take n)) F && (l.take n).all (·.dst.isSome) && (dstsOf (l.take n)).all (fun d => decide (d < k))
theorem wp_region_mix {id : Nat} {l : List Oper} {a : Act} {w : World} (C K : World → Prop) (n k : Nat) (F : List Nat) (hm : P.follows .mixedOrders = true) (hB : mixOk2 l n k F = true) (hk : a.tmps.size = k) (hC : C w.drew) (hKC : ∀ w, C w → K w)
    (hQ : ∀ ch (a a' : Act) w, a.defers = a'.defers → Q (.panic ch) a w → Q (.panic ch) a' w)
    (h : wpMix P l.toArray C K F (fun aF => ∀ w, C w → wpListK P l.toArray Q K (l.drop n) aF w) 0 (l.take n) a) : (Code.region id l.toArray true).wp P Q a w := by
  obtain ⟨vl, h1, h2, h3⟩ := wpMix_out h
  simp only [mixOk2, Bool.and_eq_true] at hB
  obtain ⟨⟨b1, b2⟩, b3⟩ := hB
  have hM := mix_of b1
  have hn : n ≤ l.length := by simpa using hM.hn
  have hl : (l.take n).length = n := by simp; omega
  have hdl := hM.len
  have hzip : ((dstsOf (l.take n)).zip vl).map (·.1) = dstsOf (l.take n) := by
    rw [List.map_fst_zip]
    omega
  have haF : putO a (l.take n) vl = putL a ((dstsOf (l.take n)).zip vl) := putO_eq _ _ _ (fun o ho => List.all_eq_true.1 b2 o ho)
  have hsz : (putO a (l.take n) vl).tmps.size = k := by rw [haF, putL_size, hk]
  have hFin : ∀ (i : Nat) d v, (dstsOf (l.take n))[i]? = some d → vl[i]? = some v → (putO a (l.take n) vl).tmps[d]? = some v := fun i d v hd hv => by
    rw [haF]
    exact putL_in _ a i (d, v) (by rw [hzip]; exact hM.nd) (by rw [List.getElem?_zip_eq_some]; exact ⟨hd, hv⟩) (by rw [hk]; simpa using List.all_eq_true.1 b3 d (List.mem_of_getElem? hd))
  have hop : ∀ i o, i < n → l.toArray[i]? = some o → (l.take n)[i]? = some o := fun i o hi ho => by
    rw [List.getElem?_take, if_pos hi]
    simpa using ho
  have hag : ∀ i o, i < n → l.toArray[i]? = some o → ∀ t ∈ o.looksAt l.toArray, (putO a (l.take n) vl).tmps[t]? = (putO a ((l.take n).take i) (vl.take i)).tmps[t]? := fun i o hin ho t ht => by
    rw [putO_split (l.take n) vl i a]
    refine putO_out _ _ _ _ (fun x hx hxd => ?_)
    obtain ⟨j, hj, hxj⟩ := List.mem_iff_getElem.1 hx
    have hjn : i + j < n := by simp at hj; omega
    have hxo : l.toArray[i + j]? = some x := by
      have e : ((l.take n).drop i)[j]? = some x := by rw [List.getElem?_eq_getElem hj, hxj]
      rw [List.getElem?_drop, List.getElem?_take, if_pos hjn] at e
      simpa using e
    have hd2 := hM.head (i + j) x hjn hxo
    obtain ⟨o2, ho2, hback, hlook⟩ := hM.op i (by have := hM.hn; omega)
    have e2 : o2 = o := Option.some.inj (ho2.symm.trans ho)
    subst e2
    obtain ⟨e, hem, heb, hon⟩ := hlook t ht (i + j) hjn (by rw [← hd2, hxd])
    have := hback e hem heb
    omega
  refine wp_region_any hm ?_
  have hrep : ∀ i, (Array.replicate l.toArray.size false).getD i false = false := fun i => getD_replicate_false _ i
  have hu : unl l.toArray.size (Array.replicate l.toArray.size false) = l.toArray.size := by
    unfold unl
    rw [List.filter_eq_self.2 (fun i _ => by rw [hrep]; rfl)]
    simp
  have hall := mix_all (P := P) (Q := Q) (vals := vl) (putO a (l.take n) vl) hM hKC hQ (by rw [h1, hl]) hFin (fun d hd => by rw [hsz]; simpa using List.all_eq_true.1 b3 d hd)
    (fun i o v hi ho hv hF => ?_) (fun i o v hi ho hv hF => ?_) h2 l.toArray.size 0 (Array.replicate l.toArray.size false) a (putO a (l.take n) vl) w.drew hu
    ⟨by simp, fun j oj _ hl => (by rw [hrep] at hl; cases hl), fun t _ _ => hrep t, fun t ht ht2 => by omega, fun hk => by omega, hM.hn, by rw [haF, putL_defers], by rw [hsz, hk], fun t hall => ?_, fun _ _ _ _ => rfl, fun hk => by omega⟩
    (fun _ => ⟨hC, fun t _ => rfl, rfl⟩) (fun hk => by omega)
  · exact hall
  · have h5 := h3 i o v (hop i o hi ho) hv
    rw [Nat.zero_add, if_neg (by rw [hF]; simp)] at h5
    exact yieldsIn_agree (ops := l.toArray) (fun cs b => Region.noSelect_spec hM.sel i o cs b ho) (hag i o hi ho) h5
  · have h5 := h3 i o v (hop i o hi ho) hv
    rw [Nat.zero_add, if_pos hF] at h5
    exact plain_agree (ops := l.toArray) (fun cs b => Region.noSelect_spec hM.sel i o cs b ho) (hag i o hi ho) h5
  · have hno : ∀ j, j < n → (dstsOf (l.take n))[j]? ≠ some t := fun j hj hd => by
      have := hall j hj hd
      rw [hrep] at this; cases this
    rw [haF, putL_out]
    intro e he hte
    have h5 : e.1 ∈ dstsOf (l.take n) := by rw [← hzip]; exact List.mem_map_of_mem he
    obtain ⟨j, hj, hjd⟩ := List.mem_iff_getElem.1 h5
    exact hno j (by omega) (by rw [List.getElem?_eq_getElem hj, hjd, hte])
theorem wm_val {N : Act → Prop} {i : Nat} {o : Oper} {ol : List Oper} {a : Act} (hF : F.contains i = false) (h : wpVals P ops C (fun a' => wpMix P ops C K F N (i + 1) ol a') [o] a) : wpMix P ops C K F N i (o :: ol) a := by
  obtain ⟨v, hy, hn⟩ := h
  exact ⟨v, by rw [if_neg (by rw [hF]; simp)]; exact hy, hn⟩
theorem wm_run {N : Act → Prop} {i : Nat} {o : Oper} {ol : List Oper} {a : Act} {v : Value} (hF : F.contains i = true) (hw : Region.wanted o (yielded ops a.tmps) = true) (hrun : ∀ w, K w → (execOp a.eval o).run P w = .ok (.value v) w) (h : wpMix P ops C K F N (i + 1) ol (a.put o.dst v)) : wpMix P ops C K F N i (o :: ol) a :=
  ⟨v, by rw [if_pos hF]; exact .inl ⟨hw, hrun⟩, h⟩
theorem wm_load1 {N : Act → Prop} {i : Nat} {o : Oper} {ol : List Oper} {a : Act} {T : TypeId} {x : Operand} {b off : Nat} {cs : Array Value} {t : TypeId} {fr : Nat × Nat} {v : Value} (hF : F.contains i = true) (hw : Region.wanted o (yielded ops a.tmps) = true) (ho : o.op = .load T x) (hx : a.eval x = .pointer (some ⟨b, off, none⟩))
    (hT : isRowB P T = some false) (hg : ∀ w, K w → w.heap[b]? = some (.cells cs t fr)) (hv : cs[off]? = some v) (h : wpMix P ops C K F N (i + 1) ol (a.put o.dst v)) : wpMix P ops C K F N i (o :: ol) a := by
  refine wm_run hF hw (fun w hC => ?_) h
  simp only [execOp, ho, hx, Sem.run_bind, run_load1 hT (hg w hC) hv]
  rfl
theorem wm_nil {N : Act → Prop} {i : Nat} {a : Act} (h : N a) : wpMix P ops C K F N i [] a := h
theorem wk_run {o : Oper} {rest : List Oper} {a : Act} {w : World} {v : Value} (hK : K w) (hw : Region.wanted o (yielded ops a.tmps) = true) (hrun : (execOp a.eval o).run P w = .ok (.value v) w) (h : wpListK P ops Q K rest (a.put o.dst v) w) : wpListK P ops Q K (o :: rest) a w :=
  ⟨hK, ev hw hrun (wpList_nil h)⟩
theorem wk_call {o : Oper} {rest : List Oper} {a : Act} {w : World} {f : FuncId} {args : Array Value} (hK : K w) (hw : Region.wanted o (yielded ops a.tmps) = true) (hrun : (execOp a.eval o).run P w = .ok (.enter f args) w)
    (h : Calls P f args w (fun e w' => ∃ v, e = .returned v ∧ wpListK P ops Q K rest (a.put o.dst v) w')) : wpListK P ops Q K (o :: rest) a w := by
  refine ⟨hK, wpList_step fun N hN => ?_⟩
  rw [if_pos hw]
  unfold Oper.wp
  rw [hrun, Oper.upon_enter]
  refine Calls.mono h fun e w' he => ?_
  obtain ⟨v, rfl, hv⟩ := he
  exact hN _ _ (wpList_nil hv)
theorem wk_last {o : Oper} {a : Act} {w : World} (hK : K w) (h : wpList P ops Q [o] a w) : wpListK P ops Q K [o] a w := by
  refine ⟨hK, ?_⟩
  have e : Exit.then (wpListK P ops Q K []) Q = Q := by
    funext e a w
    cases e <;> rfl
  rw [e]
  exact h
end
end Go.Proofs.Ytonohjhmnlfakaa.H
set_option linter.unusedVariables false
set_option linter.unusedSimpArgs false
set_option maxRecDepth 100000
namespace Go.Proofs.Ytonohjhmnlfakaa.H
open Go.RowKit
theorem over_sym (p q : Pat) : overB p q = overB q p := by
  unfold overB
  rw [Bool.eq_iff_iff]
  simp only [Bool.and_eq_true, decide_eq_true_eq]
  constructor <;> (rintro ⟨⟨⟨⟨h1, h2⟩, h3⟩, h4⟩, h5⟩; exact ⟨⟨⟨⟨h2, h1⟩, h3.symm⟩, h5⟩, h4⟩)
theorem over_yes {p q : Pat} {k : Nat} (hp : rightB p = true) (hq : rightB q = true) (hb : p.blk = q.blk) (h1 : wrB p k = true) (h2 : wrB q k = true) : overB p q = true := by
  simp only [wrB, Bool.and_eq_true, decide_eq_true_eq] at h1 h2
  simp only [overB, Bool.and_eq_true, decide_eq_true_eq]
  exact ⟨⟨⟨⟨hp, hq⟩, hb⟩, by omega⟩, by omega⟩
theorem over_none {p q : Pat} (hp : rightB p = true) (hq : rightB q = true) (h : ∀ j, j < 32 → ¬ (wrB p j = true ∧ wrB q j = true)) : overB p q = false := by
  obtain ⟨p1, p2, p3, p4, p5, p6⟩ := rightB_iff.1 hp
  obtain ⟨q1, q2, q3, q4, q5, q6⟩ := rightB_iff.1 hq
  cases e : overB p q with
  | false => rfl
  | true =>
    exfalso
    simp only [overB, Bool.and_eq_true, decide_eq_true_eq] at e
    obtain ⟨⟨⟨_, _⟩, e1⟩, e2⟩ := e
    refine h (max p.off q.off).toNat (by omega) ?_
    simp only [wrB, Bool.and_eq_true, decide_eq_true_eq]
    omega
theorem none_step {f : Nat → Prop} {k : Nat} (h : ∀ j, j < k → ¬ f j) (hk : ¬ f k) : ∀ j, j < k + 1 → ¬ f j := fun j hj => by
  rcases Nat.lt_or_ge j k with h3 | h3
  · exact h j h3
  · obtain rfl : j = k := by omega
    exact hk
/-- What holds at each round of the reference's Overlap. -/
def ROverInv (L : List HP) (w0 : World) (p q : Pat) (k : Nat) (wr : World) : Prop :=
  (∀ j, j < k → ¬ (wrB p j = true ∧ wrB q j = true)) ∧ Own wr L ∧ Same w0 wr
end Go.Proofs.Ytonohjhmnlfakaa.H
set_option linter.unusedVariables false
set_option linter.unusedSimpArgs false
namespace Go.Proofs.Ytonohjhmnlfakaa.H
theorem over_get {α : Type} (b d : List α) (i j : Nat) (h : i + d.length ≤ b.length) : (over b i d)[j]? = if i ≤ j ∧ j < i + d.length then d[j - i]? else b[j]? := by
  have hl : (b.take i).length = i := by rw [List.length_take]; omega
  unfold over
  rw [List.append_assoc]
  by_cases h1 : j < i
  · rw [if_neg (by omega), List.getElem?_append_left (by omega), List.getElem?_take_of_lt h1]
  · rw [List.getElem?_append_right (by omega), hl]
    by_cases h2 : j < i + d.length
    · rw [if_pos ⟨by omega, h2⟩, List.getElem?_append_left (by omega)]
    · rw [if_neg (by omega), List.getElem?_append_right (by omega), List.getElem?_drop, show i + d.length + (j - i - d.length) = j by omega]
theorem app_get (b : List UInt8) (p : Pat) (hb : b.length = 32) (hp : rightB p = true) (j : Nat) : (app b p)[j]? = if p.off ≤ j ∧ (j : Int) < p.off + p.dat.size then p.dat.data.toList[j - p.off.toNat]? else b[j]? := by
  obtain ⟨p1, p2, p3, p4, p5, p6⟩ := rightB_iff.1 hp
  have hs : p.dat.size = p.dat.data.toList.length := by rw [Array.length_toList]; rfl
  unfold app
  rw [over_get _ _ _ _ (by omega)]
  by_cases h : p.off ≤ j ∧ (j : Int) < p.off + p.dat.size
  · rw [if_pos h, if_pos (by omega)]
  · rw [if_neg h, if_neg (by omega)]
theorem app_comm (b : List UInt8) (p q : Pat) (hb : b.length = 32) (hp : rightB p = true) (hq : rightB q = true) (he : p.blk = q.blk) (ho : overB p q = false) : app (app b p) q = app (app b q) p := by
  have hn : ¬ (p.off < q.off + q.dat.size ∧ q.off < p.off + p.dat.size) := by
    rintro ⟨h1, h2⟩
    have : overB p q = true := by simp only [overB, Bool.and_eq_true, decide_eq_true_eq]; exact ⟨⟨⟨⟨hp, hq⟩, he⟩, h1⟩, h2⟩
    rw [ho] at this
    cases this
  apply List.ext_getElem?
  intro j
  rw [app_get _ q (app_length b p hb hp) hq, app_get b p hb hp, app_get _ p (app_length b q hb hq) hp, app_get b q hb hq]
  by_cases h1 : p.off ≤ j ∧ (j : Int) < p.off + p.dat.size
  · rw [if_pos h1, if_neg (by omega), if_pos h1]
  · rw [if_neg h1]
    by_cases h2 : q.off ≤ j ∧ (j : Int) < q.off + q.dat.size
    · rw [if_pos h2, if_neg h1]
    · rw [if_neg h2, if_neg h1]
end Go.Proofs.Ytonohjhmnlfakaa.H
set_option linter.unusedVariables false
set_option linter.unusedSimpArgs false
namespace Go.Proofs.Ytonohjhmnlfakaa.H
theorem whole_length {p q : Pat} (hp : rightB p = true) (hq : rightB q = true) : (wholeOf p q).length = 32 := app_length _ _ (app_length _ _ (by simp) hp) hq
theorem whole_get {p q : Pat} (hp : rightB p = true) (hq : rightB q = true) (j : Nat) : (wholeOf p q)[j]? = if q.off ≤ j ∧ (j : Int) < q.off + q.dat.size then q.dat.data.toList[j - q.off.toNat]? else if p.off ≤ j ∧ (j : Int) < p.off + p.dat.size then p.dat.data.toList[j - p.off.toNat]? else (List.replicate 32 (0 : UInt8))[j]? := by
  unfold wholeOf
  rw [app_get _ q (app_length _ _ (by simp) hp) hq, app_get _ p (by simp) hp]
structure Joins (p q : Pat) : Prop where
  hp : rightB p = true
  hq : rightB q = true
  hb : p.blk = q.blk
  h1 : p.off ≤ q.off + q.dat.size
  h2 : q.off ≤ p.off + p.dat.size
theorem joins_iff {p q : Pat} : joinB p q = true ↔ Joins p q := by
  simp only [joinB, Bool.and_eq_true, decide_eq_true_eq]
  exact ⟨fun ⟨⟨⟨⟨h1, h2⟩, h3⟩, h4⟩, h5⟩ => ⟨h1, h2, h3, h4, h5⟩, fun ⟨h1, h2, h3, h4, h5⟩ => ⟨⟨⟨⟨h1, h2⟩, h3⟩, h4⟩, h5⟩⟩
theorem joinM_size {p q : Pat} (h : Joins p q) : (joinM p q).dat.size = (max (p.off + p.dat.size) (q.off + q.dat.size)).toNat - (min p.off q.off).toNat := by
  obtain ⟨p1, p2, p3, p4, p5, p6⟩ := rightB_iff.1 h.hp
  obtain ⟨q1, q2, q3, q4, q5, q6⟩ := rightB_iff.1 h.hq
  simp only [joinM, bstr_size, List.length_take, List.length_drop, whole_length h.hp h.hq]
  omega
theorem joinM_right {p q : Pat} (h : Joins p q) : rightB (joinM p q) = true := by
  obtain ⟨p1, p2, p3, p4, p5, p6⟩ := rightB_iff.1 h.hp
  obtain ⟨q1, q2, q3, q4, q5, q6⟩ := rightB_iff.1 h.hq
  have hs := joinM_size h
  refine rightB_iff.2 ?_
  rw [hs]
  have e1 : (joinM p q).blk = p.blk := rfl
  have e2 : (joinM p q).off = min p.off q.off := rfl
  rw [e1, e2]
  omega
theorem joinM_app (b : List UInt8) {p q : Pat} (h : Joins p q) (hb : b.length = 32) : app b (joinM p q) = app (app b p) q := by
  obtain ⟨p1, p2, p3, p4, p5, p6⟩ := rightB_iff.1 h.hp
  obtain ⟨q1, q2, q3, q4, q5, q6⟩ := rightB_iff.1 h.hq
  have j1 := h.h1
  have j2 := h.h2
  have hs := joinM_size h
  have e2 : (joinM p q).off = min p.off q.off := rfl
  apply List.ext_getElem?
  intro j
  rw [app_get _ _ hb (joinM_right h), app_get _ q (app_length b p hb h.hp) h.hq, app_get b p hb h.hp, hs, e2]
  by_cases hj : min p.off q.off ≤ j ∧ (j : Int) < min p.off q.off + ((max (p.off + p.dat.size) (q.off + q.dat.size)).toNat - (min p.off q.off).toNat : Nat)
  · rw [if_pos hj]
    have e3 : (joinM p q).dat.data.toList[j - (min p.off q.off).toNat]? = (wholeOf p q)[j]? := by
      have : (joinM p q).dat.data.toList = ((wholeOf p q).drop (min p.off q.off).toNat).take ((max (p.off + p.dat.size) (q.off + q.dat.size)).toNat - (min p.off q.off).toNat) := rfl
      rw [this, List.getElem?_take_of_lt (by omega), List.getElem?_drop, show (min p.off q.off).toNat + (j - (min p.off q.off).toNat) = j by omega]
    rw [e3, whole_get h.hp h.hq]
    by_cases hq : q.off ≤ j ∧ (j : Int) < q.off + q.dat.size
    · rw [if_pos hq, if_pos hq]
    · rw [if_neg hq, if_neg hq]
      rw [if_pos (by omega), if_pos (by omega)]
  · rw [if_neg hj, if_neg (by omega), if_neg (by omega)]
end Go.Proofs.Ytonohjhmnlfakaa.H
