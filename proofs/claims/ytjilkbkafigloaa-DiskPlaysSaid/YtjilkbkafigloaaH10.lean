/- Regions of open order, any order: what holds is told by which operations are done, and by ghosts. -/
import Derived.Test.YtjilkbkafigloaaH9
set_option linter.unusedVariables false
set_option linter.unusedSimpArgs false
namespace Go.Proofs.Ytjilkbkafigloaa.H
open Go.RowKit
section
variable {P : Program} {ops : Array Oper} {Q : Exit → Act → World → Prop}
/-- The act with each operation's slot holding f of its number. -/
def putV (f : Nat → Value) : Nat → List Oper → Act → Act
  | _, [], a => a
  | i, o :: r, a => putV f (i + 1) r (a.put o.dst (f i))
theorem putV_defers (f : Nat → Value) : ∀ (l : List Oper) (i : Nat) (a : Act), (putV f i l a).defers = a.defers
  | [], _, _ => rfl
  | o :: r, i, a => by rw [putV, putV_defers f r, put_defers']
theorem putV_size (f : Nat → Value) : ∀ (l : List Oper) (i : Nat) (a : Act), (putV f i l a).tmps.size = a.tmps.size
  | [], _, _ => rfl
  | o :: r, i, a => by rw [putV, putV_size f r, put_size']
theorem putV_out (f : Nat → Value) : ∀ (l : List Oper) (i : Nat) (a : Act) (t : Tmp), (∀ o ∈ l, o.dst ≠ some t) → (putV f i l a).tmps[t]? = a.tmps[t]?
  | [], _, _, _, _ => rfl
  | o :: r, i, a, t, h => by rw [putV, putV_out f r _ _ _ (fun o' ho' => h o' (List.mem_cons_of_mem _ ho')), put_ne' _ _ _ _ (h o (List.mem_cons_self ..))]
theorem putV_in (f : Nat → Value) : ∀ (l : List Oper) (i : Nat) (a : Act) (d : Tmp) (j : Nat) (o : Oper), (∀ (j j' : Nat) (o o' : Oper), l[j]? = some o → l[j']? = some o' → o.dst = some d → o'.dst = some d → j = j') → l[j]? = some o → o.dst = some d → d < a.tmps.size → (putV f i l a).tmps[d]? = some (f (i + j))
  | [], _, _, _, _, _, _, h, _, _ => by simp at h
  | o' :: r, i, a, d, 0, o, hu, h, hd, hs => by
    simp at h
    subst h
    rw [putV, putV_out f r, hd, put_at, if_pos ⟨rfl, hs⟩, Nat.add_zero]
    intro o2 ho2 he
    obtain ⟨k, hk⟩ := List.getElem?_of_mem ho2
    have := hu 0 (k + 1) o' o2 rfl (by simpa using hk) hd he
    omega
  | o' :: r, i, a, d, j + 1, o, hu, h, hd, hs => by
    rw [putV, putV_in f r (i + 1) _ d j o (fun j j' o o' h1 h2 h3 h4 => by have := hu (j + 1) (j' + 1) o o' (by simpa using h1) (by simpa using h2) h3 h4; omega) (by simpa using h) hd (by rw [put_size']; exact hs)]
    congr 2
    omega
def freeOk (ops : Array Oper) (k : Nat) : Bool :=
  Region.noSelect ops && (List.range ops.size).all fun i => match ops[i]? with
    | some o => (o.after.all fun e => !Region.binds .any e || decide (e.on < i)) &&
      ((o.looksAt ops).all fun t => (List.range ops.size).all fun j => match ops[j]? with
        | some oj => !(oj.dst == some t) || o.after.any fun e => Region.binds .any e && e.on == j
        | none => true) &&
      (match o.dst with
        | some d => decide (d < k) && (List.range ops.size).all fun j => j == i || (match ops[j]? with | some oj => !(oj.dst == some d) | none => true)
        | none => true)
    | none => true
structure FreeOk (ops : Array Oper) (k : Nat) : Prop where
  sel : Region.noSelect ops = true
  back : ∀ (i : Nat) (o : Oper), ops[i]? = some o → ∀ e ∈ o.after, Region.binds .any e = true → e.on < i
  look : ∀ (i : Nat) (o : Oper), ops[i]? = some o → ∀ t ∈ o.looksAt ops, ∀ (j : Nat) (oj : Oper), ops[j]? = some oj → oj.dst = some t → ∃ e ∈ o.after, Region.binds .any e = true ∧ e.on = j
  lt : ∀ (i : Nat) (o : Oper) (d : Tmp), ops[i]? = some o → o.dst = some d → d < k
  uniq : ∀ (i j : Nat) (o oj : Oper) (d : Tmp), ops[i]? = some o → ops[j]? = some oj → o.dst = some d → oj.dst = some d → i = j
theorem free_of {k : Nat} (h : freeOk ops k = true) : FreeOk ops k := by
  simp only [freeOk, Bool.and_eq_true, List.all_eq_true, List.mem_range] at h
  obtain ⟨hs, h⟩ := h
  have lt : ∀ (i : Nat) (o : Oper), ops[i]? = some o → i < ops.size := fun i o ho => (Array.getElem?_eq_some_iff.1 ho).1
  refine ⟨hs, fun i o ho e he hb => ?_, fun i o ho t ht j oj hj hd => ?_, fun i o d ho hd => ?_, fun i j o oj d ho hj hd hd2 => ?_⟩
  · have := h i (lt i o ho)
    simp only [ho, Bool.and_eq_true, List.all_eq_true] at this
    have h2 := Array.all_eq_true_iff_forall_mem.1 this.1.1 e he
    simpa [hb] using h2
  · have := h i (lt i o ho)
    simp only [ho, Bool.and_eq_true, List.all_eq_true] at this
    have h2 := this.1.2 t ht j (List.mem_range.2 (lt j oj hj))
    simp only [hj, hd, beq_self_eq_true, Bool.not_true, Bool.false_or] at h2
    rw [Array.any_eq_true'] at h2
    obtain ⟨e, he, h3⟩ := h2
    simp only [Bool.and_eq_true, beq_iff_eq] at h3
    exact ⟨e, he, h3.1, h3.2⟩
  · have := h i (lt i o ho)
    simp only [ho, hd, Bool.and_eq_true, decide_eq_true_eq] at this
    exact this.2.1
  · have := h i (lt i o ho)
    simp only [ho, hd, Bool.and_eq_true, List.all_eq_true] at this
    have h2 := this.2.2 j (List.mem_range.2 (lt j oj hj))
    simp only [hj, hd2, beq_self_eq_true, Bool.not_true, Bool.or_false, beq_iff_eq] at h2
    exact h2.symm
def upd (D : Nat → Bool) (i : Nat) : Nat → Bool := fun j => if j = i then true else D j
/-- What is asked of one operation, in any place that it may be taken. -/
def FreeStep {α : Type} (P : Program) (l : List Oper) (Q : Exit → Act → World → Prop) (a : Act) (val : Nat → α → Value) (S : (Nat → Bool) → α → World → Prop) (i : Nat) (o : Oper) : Prop :=
  ∀ (D : Nat → Bool) (x : α) (w : World), D i = false → (∀ (j : Nat) (oj : Oper), l.toArray[j]? = some oj → D j = true → ∀ e ∈ oj.after, Region.binds .any e = true → D e.on = true) → (∀ e ∈ o.after, Region.binds .any e = true → D e.on = true) → S D x w →
    wpList P l.toArray (Exit.then (fun a' w' => a'.defers = a.defers ∧ ∃ x', (∀ j, D j = true → val j x' = val j x) ∧ (∀ d, o.dst = some d → d < a.tmps.size → a'.tmps[d]? = some (val i x')) ∧ S (upd D i) x' w') Q) [o] (putV (fun j => val j x) 0 l a) w
theorem free_all {α : Type} {l : List Oper} {a0 : Act} {k : Nat} {val : Nat → α → Value} {S : (Nat → Bool) → α → World → Prop} (hB : FreeOk l.toArray k) (hk : a0.tmps.size = k)
    (hQ : ∀ ch (a a' : Act) w, a.defers = a'.defers → Q (.panic ch) a w → Q (.panic ch) a' w)
    (hstep : ∀ i o, l.toArray[i]? = some o → FreeStep P l Q a0 val S i o)
    (hend : ∀ x w D, (∀ i, i < l.length → D i = true) → S D x w → Q .normal (putV (fun j => val j x) 0 l a0) w) :
    ∀ (m : Nat) (listed : Array Bool) (a : Act) (w : World), unl l.toArray.size listed = m → listed.size = l.toArray.size → a.defers = a0.defers → a.tmps.size = a0.tmps.size →
      (∀ (j : Nat) oj, l.toArray[j]? = some oj → listed.getD j false = true → ∀ e ∈ oj.after, Region.binds .any e = true → listed.getD e.on false = true) →
      (∃ x, (∀ (j : Nat) (oj : Oper) d, l.toArray[j]? = some oj → oj.dst = some d → listed.getD j false = true → a.tmps[d]? = some (val j x)) ∧ (∀ t, (∀ (j : Nat) oj, l.toArray[j]? = some oj → oj.dst = some t → listed.getD j false = false) → a.tmps[t]? = a0.tmps[t]?) ∧ S (fun j => listed.getD j false) x w) →
      wpAny P .any l.toArray Q m listed a w := by
  have hfin : ∀ (x : α) (j : Nat) (oj : Oper) d, l.toArray[j]? = some oj → oj.dst = some d → (putV (fun j => val j x) 0 l a0).tmps[d]? = some (val j x) := fun x j oj d hj hd => by
    have := putV_in (fun j => val j x) l 0 a0 d j oj (fun j j' o o' h1 h2 h3 h4 => hB.uniq j j' o o' d (by simpa using h1) (by simpa using h2) h3 h4) (by simpa using hj) hd (by rw [hk]; exact hB.lt j oj d hj hd)
    rwa [Nat.zero_add] at this
  have hout : ∀ (x : α) t, (∀ (j : Nat) oj, l.toArray[j]? = some oj → oj.dst ≠ some t) → (putV (fun j => val j x) 0 l a0).tmps[t]? = a0.tmps[t]? := fun x t h =>
    putV_out _ _ _ _ _ (fun o ho => by obtain ⟨j, hj⟩ := List.getElem?_of_mem ho; exact h j o (by simpa using hj))
  intro m
  induction m with
  | zero =>
    intro listed a w hu hsz hdf has hcl ⟨x, hv, ho, hS⟩
    have hall := unl_zero hu
    have ha : a = putV (fun j => val j x) 0 l a0 := by
      have ht : a.tmps = (putV (fun j => val j x) 0 l a0).tmps := by
        apply Array.ext_getElem?
        intro t
        by_cases hex : ∃ (j : Nat) (oj : Oper), l.toArray[j]? = some oj ∧ oj.dst = some t
        · obtain ⟨j, oj, hj, hd⟩ := hex
          rw [hfin x j oj t hj hd]
          exact hv j oj t hj hd (hall j (Array.getElem?_eq_some_iff.1 hj).1)
        · have hno : ∀ (j : Nat) oj, l.toArray[j]? = some oj → oj.dst ≠ some t := fun j oj hj hd => hex ⟨j, oj, hj, hd⟩
          rw [hout x t hno]
          exact ho t (fun j oj hj hd => absurd hd (hno j oj hj))
      have hd := hdf.trans (putV_defers (fun j => val j x) l 0 a0).symm
      cases a
      simp only at ht hd
      rw [ht, hd]
    rw [ha]
    have hr : Region.ready .any l.toArray listed = [] := by
      rw [List.eq_nil_iff_forall_not_mem]
      intro i hi
      obtain ⟨g1, o, ho, _⟩ := mem_ready.1 hi
      have := hall i (Array.getElem?_eq_some_iff.1 ho).1
      rw [getD_both g1] at this; cases this
    exact ⟨hr, hend x w _ (fun i hi => hall i (by simpa using hi)) hS⟩
  | succ m ih =>
    intro listed a w hu hsz hdf has hcl ⟨x, hv, ho, hS⟩
    have hex : ∃ i, i < l.toArray.size ∧ listed.getD i false = false := by
      have : ((List.range l.toArray.size).filter fun i => !listed.getD i false) ≠ [] := fun e => by unfold unl at hu; rw [e] at hu; simp at hu
      obtain ⟨i, hi⟩ := List.exists_mem_of_ne_nil _ this
      rw [List.mem_filter, List.mem_range] at hi
      exact ⟨i, hi.1, by simpa using hi.2⟩
    have hne : Region.ready .any l.toArray listed ≠ [] := by
      have hmin : ∀ k, (∃ i, i ≤ k ∧ i < l.toArray.size ∧ listed.getD i false = false) → ∃ i, i < l.toArray.size ∧ listed.getD i false = false ∧ ∀ j, j < i → listed.getD j false = true := by
        intro k
        induction k with
        | zero =>
          rintro ⟨i, hi, h1, h2⟩
          exact ⟨i, h1, h2, fun j hj => by omega⟩
        | succ k ihk =>
          rintro ⟨i, hi, h1, h2⟩
          by_cases hlow : ∃ j, j ≤ k ∧ j < l.toArray.size ∧ listed.getD j false = false
          · exact ihk hlow
          · refine ⟨i, h1, h2, fun j hj => ?_⟩
            cases hb : listed.getD j false with
            | true => rfl
            | false => exact absurd ⟨j, by omega, by omega, hb⟩ hlow
      obtain ⟨i0, g1, g2⟩ := hex
      obtain ⟨i, hin, hb, hlow⟩ := hmin i0 ⟨i0, Nat.le_refl _, g1, g2⟩
      have ho : l.toArray[i]? = some l.toArray[i] := Array.getElem?_eq_getElem hin
      have : i ∈ Region.ready .any l.toArray listed := mem_ready.2 ⟨getD_in (by rw [hsz]; omega) hb, _, ho, fun e he hbd => hlow _ (hB.back i _ ho e he hbd)⟩
      intro e
      rw [e] at this
      cases this
    refine ⟨fun hr => absurd hr hne, fun i hi => ?_⟩
    obtain ⟨hun, o, hoi, hready⟩ := mem_ready.1 hi
    have hil : i < l.toArray.size := (Array.getElem?_eq_some_iff.1 hoi).1
    have his : i < listed.size := by rw [hsz]; exact hil
    have hus := unl_set (n := l.toArray.size) hil his (getD_both hun)
    have hsel := fun cs b => Region.noSelect_spec hB.sel i o cs b hoi
    have hag : ∀ t ∈ o.looksAt l.toArray, a.tmps[t]? = (putV (fun j => val j x) 0 l a0).tmps[t]? := fun t ht => by
      by_cases hex : ∃ (j : Nat) (oj : Oper), l.toArray[j]? = some oj ∧ oj.dst = some t
      · obtain ⟨j, oj, hj, hd⟩ := hex
        rw [hfin x j oj t hj hd]
        obtain ⟨e, he, hb, hon⟩ := hB.look i o hoi t ht j oj hj hd
        exact hv j oj t hj hd (hon ▸ hready e he hb)
      · have hno : ∀ (j : Nat) oj, l.toArray[j]? = some oj → oj.dst ≠ some t := fun j oj hj hd => hex ⟨j, oj, hj, hd⟩
        rw [hout x t hno]
        exact ho t (fun j oj hj hd => absurd hd (hno j oj hj))
    have hcl' : ∀ (j : Nat) oj, l.toArray[j]? = some oj → (listed.setIfInBounds i true).getD j false = true → ∀ e ∈ oj.after, Region.binds .any e = true → (listed.setIfInBounds i true).getD e.on false = true := fun j oj hj hl e he hb => by
      by_cases hij : i = j
      · subst hij
        have : oj = o := Option.some.inj (hj.symm.trans hoi)
        subst this
        exact getD_set_true (hready e he hb)
      · rw [getD_set_ne false hij] at hl
        exact getD_set_true (hcl j oj hj hl e he hb)
    have hw1 := hstep i o hoi (fun j => listed.getD j false) x w (getD_both hun) hcl hready hS
    have hupd : upd (fun j => listed.getD j false) i = fun j => (listed.setIfInBounds i true).getD j false := by
      funext j
      unfold upd
      by_cases hij : j = i
      · subst hij; rw [if_pos rfl]; exact (getD_set_self his).symm
      · rw [if_neg hij]; exact (getD_set_ne false (fun e => hij e.symm)).symm
    have hdf2 := putV_defers (fun j => val j x) l 0 a0
    have hsz2 := putV_size (fun j => val j x) l 0 a0
    have hnext : ∀ (b b' : Act) u w', b.tmps = (putV (fun j => val j x) 0 l a0).tmps → b'.tmps = a.tmps → b'.defers = a0.defers → (∃ x', (∀ j, listed.getD j false = true → val j x' = val j x) ∧ (∀ d, o.dst = some d → d < a0.tmps.size → (b.put o.dst u).tmps[d]? = some (val i x')) ∧ S (upd (fun j => listed.getD j false) i) x' w') → wpAny P .any l.toArray Q m (listed.setIfInBounds i true) (b'.put o.dst u) w' := fun b b' u w' hb hb' hdf' ⟨x', h1, h2, h3⟩ => by
      refine ih _ _ _ (by omega) (by simp [hsz]) (by rw [put_defers', hdf']) (by rw [put_size', hb', has]) hcl' ⟨x', fun j oj d hj hd hl => ?_, fun t hall => ?_, by rw [← hupd]; exact h3⟩
      · by_cases hij : i = j
        · subst hij
          have : oj = o := Option.some.inj (hj.symm.trans hoi)
          subst this
          have h4 := h2 d hd (by rw [hk]; exact hB.lt i oj d hoi hd)
          rw [hd, put_at] at h4 ⊢
          rw [hb, hsz2, hk] at h4
          rw [hb', has, hk]
          have hdk := hB.lt i oj d hoi hd
          rw [if_pos ⟨rfl, hdk⟩] at h4 ⊢
          exact h4
        · rw [getD_set_ne false hij] at hl
          have hne2 : o.dst ≠ some d := fun e => hij (hB.uniq i j o oj d hoi hj e hd)
          rw [put_ne' b' _ _ _ hne2, hb', h1 j hl]
          exact hv j oj d hj hd hl
      · have hne2 : o.dst ≠ some t := fun e => by
          have := hall i o hoi e
          rw [getD_set_self his] at this; cases this
        rw [put_ne' b' _ _ _ hne2, hb']
        refine ho t (fun j oj hj hd => ?_)
        have := hall j oj hj hd
        by_cases hij : i = j
        · subst hij; exact absurd (getD_both hun) (by have h9 := getD_set_self his; rw [h9] at this; cases this)
        · rwa [getD_set_ne false hij] at this
    unfold wpOp
    rw [hoi]
    simp only
    have hwant := wanted_agree (ops := l.toArray) (o := o) hag
    have hexe := exec_agree (ops := l.toArray) hsel hag
    unfold wpList at hw1
    by_cases hw : Region.wanted o (yielded l.toArray (putV (fun j => val j x) 0 l a0).tmps) = true
    · rw [if_pos hw] at hw1
      rw [hwant, if_pos hw]
      have conv : ∀ r, o.upon P (putV (fun j => val j x) 0 l a0) (wpList P l.toArray (Exit.then (fun a' w' => a'.defers = a0.defers ∧ ∃ x', (∀ j, listed.getD j false = true → val j x' = val j x) ∧ (∀ d, o.dst = some d → d < a0.tmps.size → a'.tmps[d]? = some (val i x')) ∧ S (upd (fun j => listed.getD j false) i) x' w') Q) []) (Exit.then (fun a' w' => a'.defers = a0.defers ∧ ∃ x', (∀ j, listed.getD j false = true → val j x' = val j x) ∧ (∀ d, o.dst = some d → d < a0.tmps.size → a'.tmps[d]? = some (val i x')) ∧ S (upd (fun j => listed.getD j false) i) x' w') Q) r → o.upon P a (wpAny P .any l.toArray Q m (listed.setIfInBounds i true)) Q r := fun r hr => by
        refine upon_agree (Q := Q) (hdf2.trans hdf.symm) hQ (N := (fun a' w' => a'.defers = a0.defers ∧ ∃ x', (∀ j, listed.getD j false = true → val j x' = val j x) ∧ (∀ d, o.dst = some d → d < a0.tmps.size → a'.tmps[d]? = some (val i x')) ∧ S (upd (fun j => listed.getD j false) i) x' w')) (fun b b' u w' hb hb' hdf3 hn => hnext b b' u w' hb hb' (by rw [← hdf3]; have := hn.1; rwa [put_defers'] at this) hn.2) r ?_
        cases r with
        | ok mm w' => cases mm <;> exact hr
        | halt x w' => cases x <;> exact hr
      rcases hw1 with hw1 | ⟨hw1, hw2⟩
      · left
        unfold Oper.wp at hw1 ⊢
        rw [hexe]
        exact conv _ hw1
      · right
        refine ⟨?_, hw2⟩
        unfold Oper.asks at *
        rw [hexe]
        exact hw1
    · rw [if_neg hw] at hw1
      rw [hwant, if_neg hw]
      exact hnext _ a undef w rfl rfl hdf hw1.2
/-- A region of open order. -/
theorem wp_region_free {α : Type} {id : Nat} {l : List Oper} {a : Act} {w : World} (val : Nat → α → Value) (S : (Nat → Bool) → α → World → Prop) (x0 : α) (k : Nat) (hm : P.follows .mixedOrders = true) (hB : freeOk l.toArray k = true) (hk : a.tmps.size = k) (hC : S (fun _ => false) x0 w.drew)
    (hQ : ∀ ch (a a' : Act) w, a.defers = a'.defers → Q (.panic ch) a w → Q (.panic ch) a' w)
    (hstep : ∀ i o, l.toArray[i]? = some o → FreeStep P l Q a val S i o)
    (hend : ∀ x w D, (∀ i, i < l.length → D i = true) → S D x w → Q .normal (putV (fun j => val j x) 0 l a) w) : (Code.region id l.toArray true).wp P Q a w := by
  refine wp_region_any hm ?_
  have hrep : ∀ i, (Array.replicate l.toArray.size false).getD i false = false := fun i => getD_replicate_false _ i
  have hu : unl l.toArray.size (Array.replicate l.toArray.size false) = l.toArray.size := by
    unfold unl
    rw [List.filter_eq_self.2 (fun i _ => by rw [hrep]; rfl)]
    simp
  refine free_all (free_of hB) hk hQ hstep hend l.toArray.size (Array.replicate l.toArray.size false) a w.drew hu (by simp) rfl rfl (fun j oj _ hl => (by rw [hrep] at hl; cases hl)) ⟨x0, fun j oj d _ _ hl => (by rw [hrep] at hl; cases hl), fun _ _ => rfl, ?_⟩
  have e : (fun j => (Array.replicate l.toArray.size false).getD j false) = fun _ => false := funext hrep
  rw [e]
  exact hC
end
end Go.Proofs.Ytjilkbkafigloaa.H
