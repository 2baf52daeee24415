/- Regions of open order whose calls hand over what they make: what each has made is owned from then on. -/
import Derived.Test.YtjilkbkafigloaaH11
set_option linter.unusedVariables false
set_option linter.unusedSimpArgs false
namespace Go.Proofs.Ytjilkbkafigloaa.H
open Go.RowKit
def setX (x : Nat → Value) (i : Nat) (v : Value) : Nat → Value := fun j => if j = i then v else x j
/-- What an operation hands over: its number; the one that takes it away; what it is. -/
abbrev Ent := Nat × Option Nat × (Value → HP)
def live (D : Nat → Bool) (c : Ent) : Bool := D c.1 && (match c.2.1 with | none => true | some j => !D j)
/-- What the operations that are done have handed over. -/
def owL (cs : List Ent) (D : Nat → Bool) (x : Nat → Value) : List HP := cs.flatMap fun c => mk (live D c) (c.2.2 (x c.1))
def ment (i : Nat) (c : Ent) : Bool := c.1 == i || c.2.1 == some i
theorem owL_none (cs : List Ent) (x : Nat → Value) : owL cs (fun _ => false) x = [] := by
  unfold owL
  induction cs with
  | nil => rfl
  | cons c cs ih => rw [List.flatMap_cons, ih]; rfl
theorem owL_cons (c : Ent) (cs : List Ent) (D : Nat → Bool) (x : Nat → Value) : owL (c :: cs) D x = mk (live D c) (c.2.2 (x c.1)) ++ owL cs D x := rfl
theorem owL_append (cs cs' : List Ent) (D : Nat → Bool) (x : Nat → Value) : owL (cs ++ cs') D x = owL cs D x ++ owL cs' D x := by simp [owL]
theorem owL_live {cs : List Ent} {D : Nat → Bool} {x : Nat → Value} (h : ∀ c ∈ cs, live D c = true) : owL cs D x = cs.map fun c => c.2.2 (x c.1) := by
  induction cs with
  | nil => rfl
  | cons c cs ih => rw [owL_cons, ih (fun c hc => h c (List.mem_cons_of_mem _ hc)), h c (List.mem_cons_self ..)]; rfl
theorem owL_dead {cs : List Ent} {D : Nat → Bool} {x : Nat → Value} (h : ∀ c ∈ cs, live D c = false) : owL cs D x = [] := by
  induction cs with
  | nil => rfl
  | cons c cs ih => rw [owL_cons, ih (fun c hc => h c (List.mem_cons_of_mem _ hc)), h c (List.mem_cons_self ..)]; rfl
theorem owL_set {cs : List Ent} {D : Nat → Bool} {x : Nat → Value} {i : Nat} {v : Value} (h : ∀ c ∈ cs, ment i c = false) : owL cs (upd D i) (setX x i v) = owL cs D x := by
  induction cs with
  | nil => rfl
  | cons c cs ih =>
    rw [owL_cons, owL_cons, ih (fun c hc => h c (List.mem_cons_of_mem _ hc))]
    have h1 := h c (List.mem_cons_self ..)
    simp only [ment, Bool.or_eq_false_iff, beq_eq_false_iff_ne] at h1
    have e1 : live (upd D i) c = live D c := by
      unfold live upd
      rw [if_neg h1.1]
      cases hc : c.2.1 with
      | none => rfl
      | some j =>
        have : j ≠ i := fun e => h1.2 (by rw [hc, e])
        simp [this]
    have e2 : setX x i v c.1 = x c.1 := by unfold setX; rw [if_neg h1.1]
    rw [e1, e2]
theorem owL_perm {cs cs' : List Ent} (h : cs.Perm cs') (D : Nat → Bool) (x : Nat → Value) : (owL cs D x).Perm (owL cs' D x) := List.Perm.flatMap_right _ h
theorem ow_live {w : World} {base : List HP} {cs : List Ent} {D : Nat → Bool} {x : Nat → Value} (k : Nat) {c : Ent} (h : Own w (base ++ owL cs D x)) (hk : cs[k]? = some c) (hD : live D c = true) : ∃ L', Own w (c.2.2 (x c.1) :: L') := by
  have := own_perm h (List.Perm.append_left base (owL_perm (perm_at hk) D x))
  rw [owL_cons, hD, mk_t] at this
  exact ⟨_, own_perm this List.perm_middle⟩
theorem ow_get {w : World} {base : List HP} {cs : List Ent} {D : Nat → Bool} {x : Nat → Value} (k : Nat) {i : Nat} {A : Value → HP} (h : Own w (base ++ owL cs D x)) (hk : cs[k]? = some (i, none, A)) (h1 : D i = true) : ∃ L', Own w (A (x i) :: L') :=
  ow_live k h hk (by simp [live, h1])
theorem ow_gets {w : World} {base : List HP} {cs : List Ent} {D : Nat → Bool} {x : Nat → Value} (k : Nat) {i j : Nat} {A : Value → HP} (h : Own w (base ++ owL cs D x)) (hk : cs[k]? = some (i, some j, A)) (h1 : D i = true) (h2 : D j = false) : ∃ L', Own w (A (x i) :: L') :=
  ow_live k h hk (by simp [live, h1, h2])
theorem owL_end {cs : List Ent} {D : Nat → Bool} {x : Nat → Value} {n : Nat} (hD : ∀ i, i < n → D i = true) (hb : cs.all (fun c => decide (c.1 < n) && (match c.2.1 with | none => true | some j => decide (j < n))) = true) : owL cs D x = (cs.filter fun c => c.2.1.isNone).map fun c => c.2.2 (x c.1) := by
  induction cs with
  | nil => rfl
  | cons c cs ih =>
    simp only [List.all_cons, Bool.and_eq_true, decide_eq_true_eq] at hb
    rw [owL_cons, ih hb.2]
    obtain ⟨i, con, A⟩ := c
    have h1 := hD i hb.1.1
    cases con with
    | none => simp [live, h1, mk]
    | some j =>
      have h2 := hD j (by simpa using hb.1.2)
      simp [live, h1, h2, mk]
/-- Which operations come behind one. -/
def behR (i : Nat) : Nat → List Bool → List Oper → List Bool
  | _, acc, [] => acc
  | k, acc, o :: r => behR i (k + 1) (acc ++ [k == i || o.after.toList.any fun e => Region.binds .any e && acc.getD e.on false]) r
def behL (l : List Oper) (i : Nat) : List Bool := behR i 0 [] l
theorem behR_ok {l : List Oper} {D : Nat → Bool} {i : Nat} (hcl : ∀ (j : Nat) (oj : Oper), l.toArray[j]? = some oj → D j = true → ∀ e ∈ oj.after, Region.binds .any e = true → D e.on = true) (hD : D i = false) :
    ∀ (r : List Oper) (k : Nat) (acc : List Bool), (∀ (j : Nat) o, r[j]? = some o → l.toArray[k + j]? = some o) → (∀ j, acc.getD j false = true → D j = false) → acc.length = k → ∀ j, (behR i k acc r).getD j false = true → D j = false
  | [], _, acc, _, h, _ => h
  | o :: r, k, acc, hl, h, hk => by
    refine behR_ok hcl hD r (k + 1) _ (fun j o' ho => ?_) (fun j hj => ?_) (by simp [hk])
    · have := hl (j + 1) o' (by simpa using ho)
      rwa [show k + (j + 1) = k + 1 + j by omega] at this
    · rcases Nat.lt_trichotomy j k with hlt | rfl | hgt
      · refine h j ?_
        rw [List.getD_eq_getElem?_getD, List.getElem?_append_left (by omega), ← List.getD_eq_getElem?_getD] at hj
        exact hj
      · rw [List.getD_eq_getElem?_getD, List.getElem?_append_right (by omega), hk, Nat.sub_self] at hj
        simp only [List.getElem?_cons_zero, Option.getD_some, Bool.or_eq_true, beq_iff_eq, List.any_eq_true, Bool.and_eq_true] at hj
        rcases hj with rfl | ⟨e, he, hb, ha⟩
        · exact hD
        · cases hd : D j with
          | false => rfl
          | true =>
            have := hcl j o (by have := hl 0 o rfl; rwa [Nat.add_zero] at this) hd e (by simpa using he) hb
            rw [h _ ha] at this
            cases this
      · exfalso
        rw [List.getD_eq_getElem?_getD, List.getElem?_eq_none (by simp; omega)] at hj
        cases hj
theorem behL_ok {l : List Oper} {D : Nat → Bool} {i : Nat} (hcl : ∀ (j : Nat) (oj : Oper), l.toArray[j]? = some oj → D j = true → ∀ e ∈ oj.after, Region.binds .any e = true → D e.on = true) (hD : D i = false) {j : Nat} (h : (behL l i).getD j false = true) : D j = false :=
  behR_ok hcl hD l 0 [] (fun j o ho => by rw [Nat.zero_add]; simpa using ho) (fun j hj => by simp at hj) rfl j h
theorem owL_upd {cs : List Ent} {D : Nat → Bool} {x : Nat → Value} {i : Nat} (h : (cs.all fun c => !ment i c) = true) : owL cs (upd D i) x = owL cs D x := by
  induction cs with
  | nil => rfl
  | cons c cs ih =>
    simp only [List.all_cons, Bool.and_eq_true, Bool.not_eq_true'] at h
    rw [owL_cons, owL_cons, ih h.2]
    have h1 := h.1
    simp only [ment, Bool.or_eq_false_iff, beq_eq_false_iff_ne] at h1
    have e1 : live (upd D i) c = live D c := by
      unfold live upd
      rw [if_neg h1.1]
      cases hc : c.2.1 with
      | none => rfl
      | some j =>
        have : j ≠ i := fun e => h1.2 (by rw [hc, e])
        simp [this]
    rw [e1]
/-- What must be done ahead, directly or through others, is done. -/
theorem ahead_yes {l : List Oper} {D : Nat → Bool} {i j : Nat} {o : Oper} (ho : l.toArray[i]? = some o) (hcl : ∀ (j : Nat) (oj : Oper), l.toArray[j]? = some oj → D j = true → ∀ e ∈ oj.after, Region.binds .any e = true → D e.on = true) (hp : ∀ e ∈ o.after, Region.binds .any e = true → D e.on = true) (hne : j ≠ i) (h : (behL l j).getD i false = true) : D j = true := by
  cases hD : D j with
  | true => rfl
  | false =>
    have hcl' : ∀ (k : Nat) (ok : Oper), l.toArray[k]? = some ok → upd D i k = true → ∀ e ∈ ok.after, Region.binds .any e = true → upd D i e.on = true := fun k ok hk hu e he hb => by
      unfold upd at hu ⊢
      split
      · rfl
      · by_cases e2 : k = i
        · subst e2
          rw [ho] at hk
          cases hk
          exact hp e he hb
        · rw [if_neg e2] at hu
          exact hcl k ok hk hu e he hb
    have h2 := behL_ok hcl' (i := j) (by unfold upd; rw [if_neg hne]; exact hD) h
    simp [upd] at h2
section
variable {P : Program} {Q : Exit → Act → World → Prop}
/-- An operation that yields one value. -/
theorem fs_pureO {l : List Oper} {a : Act} {vs : (Nat → Value) → List Value} {base : List HP} {cs : List Ent} {w0 : World} {i : Nat} {o : Oper} (hm : (cs.all fun c => !ment i c) = true)
    (hy : ∀ D x, D i = false → (∀ (j : Nat) (oj : Oper), l.toArray[j]? = some oj → D j = true → ∀ e ∈ oj.after, Region.binds .any e = true → D e.on = true) → (∀ e ∈ o.after, Region.binds .any e = true → D e.on = true) → YieldsIn P l.toArray (Cls w0 (base ++ owL cs D x)) o ((vs x).getD i undef) (putO a l (vs x))) :
    FS P l Q a vs (fun D x => base ++ owL cs D x) w0 i o :=
  fs_pure (fun D x => by rw [owL_upd hm]) hy
/-- An operation that hands over something new, and may take away what others handed over. -/
theorem fs_new {l : List Oper} {a : Act} {vs : (Nat → Value) → List Value} {base : List HP} {cs : List Ent} {w0 : World} {i : Nat} {A : Value → HP} {con : Option Nat} {o : Oper} (es : List Ent) (V : Value → Value) (ho : l.toArray[i]? = some o) (hf : cs.filter (ment i) = es ++ [(i, con, A)])
    (hes : es.all (fun e => e.2.1 == some i && e.1 != i && (behL l e.1).getD i false) = true) (hcon : (match con with | none => true | some j => j != i && (behL l i).getD j false) = true)
    (hkeep : ∀ j, (behL l i).getD j false = true ∨ ∀ x v, (vs (setX x i v)).getD j undef = (vs x).getD j undef) (hval : ∀ x v, (vs (setX x i v)).getD i undef = V v)
    (hc : ∀ D x w, D i = false → (∀ (j : Nat) (oj : Oper), l.toArray[j]? = some oj → D j = true → ∀ e ∈ oj.after, Region.binds .any e = true → D e.on = true) → (∀ e ∈ o.after, Region.binds .any e = true → D e.on = true) → Own w (es.map (fun e => e.2.2 (x e.1)) ++ (base ++ owL (cs.filter fun c => !ment i c) D x)) → Same w0 w → ∀ N : Exit → Act → World → Prop,
      (∀ (a' : Act) v w', a'.defers = a.defers → a'.tmps.size = a.tmps.size → Own w' (A v :: (base ++ owL (cs.filter fun c => !ment i c) D x)) → Same w w' → wpList P l.toArray N [] (a'.put o.dst (V v)) w') → wpList P l.toArray N [o] (putO a l (vs x)) w) :
    FS P l Q a vs (fun D x => base ++ owL cs D x) w0 i o := by
  intro D x w hD hcl hp hO hS
  have hall : ∀ e ∈ es, e.2.1 = some i ∧ e.1 ≠ i ∧ D e.1 = true := fun e he => by
    have := List.all_eq_true.1 hes e he
    simp only [Bool.and_eq_true, beq_iff_eq, bne_iff_ne, ne_eq] at this
    exact ⟨this.1.1, this.1.2, ahead_yes ho hcl hp this.1.2 this.2⟩
  have hperm := (List.filter_append_perm (ment i) cs)
  rw [hf] at hperm
  have hrest : ∀ c ∈ cs.filter fun c => !ment i c, ment i c = false := fun c hc => by simpa using (List.mem_filter.1 hc).2
  have hO' : Own w (es.map (fun e => e.2.2 (x e.1)) ++ (base ++ owL (cs.filter fun c => !ment i c) D x)) := by
    have h1 := own_perm hO (List.Perm.append_left base (owL_perm hperm.symm D x))
    rw [owL_append, owL_append, owL_live (cs := es) (fun e he => by simp [live, hall e he, hD]), owL_dead (cs := [(i, con, A)]) (fun c hc => by simp at hc; subst hc; simp [live, hD]), List.append_nil] at h1
    refine own_perm h1 ?_
    rw [← List.append_assoc, ← List.append_assoc]
    exact List.Perm.append_right _ List.perm_append_comm
  refine hc D x w hD hcl hp hO' hS _ (fun a' v w' hdf hsz hO' hS' => ?_)
  refine wpList_nil ⟨by rw [put_defers', hdf], setX x i v, fun j hj => ?_, fun d hd hlt => ?_, ?_, hS.trans hS'⟩
  · rcases hkeep j with h | h
    · have := behL_ok hcl hD h
      rw [hj] at this; cases this
    · exact h x v
  · rw [hval, hd, put_at, if_pos ⟨rfl, by rw [hsz]; exact hlt⟩]
  · refine own_perm hO' (List.Perm.trans ?_ (List.Perm.append_left base (owL_perm hperm (upd D i) (setX x i v))))
    rw [owL_append, owL_append, owL_set hrest, owL_dead (cs := es) (fun e he => by simp [live, (hall e he).1, upd]), owL_live (cs := [(i, con, A)]) (fun c hc => ?_)]
    · have e : (setX x i v) i = v := by simp [setX]
      simp only [List.map_cons, List.map_nil, List.nil_append, e]
      exact List.perm_middle.symm
    · simp at hc
      subst hc
      cases con with
      | none => simp [live, upd]
      | some j =>
        simp only [Bool.and_eq_true, bne_iff_ne, ne_eq] at hcon
        have := behL_ok hcl hD hcon.2
        simp [live, upd, hcon.1, this]
end
end Go.Proofs.Ytjilkbkafigloaa.H
