/- The same law, over what is owned. Regions of open order whose calls hand over what they make: what each has made is owned from then on. Something that reads as a slice; calls on one of what is owned. Maps whose keys are ints: what is owned of one; the laws of its operations. -/
import Derived.Test.YtonohjhmnlfakaaZ09
import Derived.Test.YtonohjhmnlfakaaZ05
import Derived.Test.YtonohjhmnlfakaaZ03
import Derived.MapKept
import Derived.Laws.NewFold
set_option linter.unusedVariables false
set_option linter.unusedSimpArgs false
namespace Go.Proofs.Ytonohjhmnlfakaa.H
open Go.RowKit
section
variable {P : Program} {Q : Exit → Act → World → Prop} {α : Type}
theorem putV_list : ∀ (l : List Oper) (vs : List Value) (i : Nat) (f : Nat → Value) (a : Act), vs.length = l.length → (∀ j, j < l.length → f (i + j) = vs.getD j undef) → putV f i l a = putO a l vs
  | [], [], _, _, _, _, _ => rfl
  | o :: l, v :: vs, i, f, a, hl, h => by
    rw [putV, putO]
    have h0 := h 0 (by simp)
    rw [Nat.add_zero] at h0
    rw [h0]
    refine putV_list l vs (i + 1) f _ (by simpa using hl) (fun j hj => ?_)
    have := h (j + 1) (by simpa using hj)
    rw [show i + 1 + j = i + (j + 1) by omega, this]
    rfl
theorem putO_size' : ∀ (l : List Oper) (vs : List Value) (a : Act), (putO a l vs).tmps.size = a.tmps.size
  | [], _, _ => by simp [putO]
  | o :: l, [], _ => by simp [putO]
  | o :: l, v :: vs, a => by rw [putO, putO_size' l vs, put_size']
theorem putO_defers' : ∀ (l : List Oper) (vs : List Value) (a : Act), (putO a l vs).defers = a.defers
  | [], _, _ => by simp [putO]
  | o :: l, [], _ => by simp [putO]
  | o :: l, v :: vs, a => by rw [putO, putO_defers' l vs, put_defers']
/-- What one operation must keep, wherever it is taken: D: what is done; x: the ghosts. -/
def FS (P : Program) (l : List Oper) (Q : Exit → Act → World → Prop) (a : Act) (vs : α → List Value) (HL : (Nat → Bool) → α → List HP) (w0 : World) (i : Nat) (o : Oper) : Prop :=
  ∀ (D : Nat → Bool) (x : α) (w : World), D i = false → (∀ (j : Nat) (oj : Oper), l.toArray[j]? = some oj → D j = true → ∀ e ∈ oj.after, Region.binds .any e = true → D e.on = true) → (∀ e ∈ o.after, Region.binds .any e = true → D e.on = true) → Own w (HL D x) → Same w0 w →
    wpList P l.toArray (Exit.then (fun a' w' => a'.defers = a.defers ∧ ∃ x', (∀ j, D j = true → (vs x').getD j undef = (vs x).getD j undef) ∧ (∀ d, o.dst = some d → d < a.tmps.size → a'.tmps[d]? = some ((vs x').getD i undef)) ∧ Own w' (HL (upd D i) x') ∧ Same w0 w') Q) [o] (putO a l (vs x)) w
def FSteps (P : Program) (l : List Oper) (Q : Exit → Act → World → Prop) (a : Act) (vs : α → List Value) (HL : (Nat → Bool) → α → List HP) (w0 : World) : Nat → List Oper → Prop
  | _, [] => True
  | i, o :: r => FS P l Q a vs HL w0 i o ∧ FSteps P l Q a vs HL w0 (i + 1) r
theorem fsteps_get {l : List Oper} {a : Act} {vs : α → List Value} {HL : (Nat → Bool) → α → List HP} {w0 : World} : ∀ {r : List Oper} {i : Nat}, FSteps P l Q a vs HL w0 i r → ∀ (j : Nat) (o : Oper), r[j]? = some o → FS P l Q a vs HL w0 (i + j) o
  | [], _, _, _, _, h => by simp at h
  | o :: r, i, h, 0, o', ho => by simp at ho; subst ho; exact h.1
  | o :: r, i, h, j + 1, o', ho => by
    have := fsteps_get h.2 j o' (by simpa using ho)
    rwa [show i + 1 + j = i + (j + 1) by omega] at this
theorem wp_region_own {id : Nat} {l : List Oper} {a : Act} {w : World} (vs : α → List Value) (HL : (Nat → Bool) → α → List HP) (w0 : World) (x0 : α) (k : Nat) (hlen : ∀ x, (vs x).length = l.length) (hm : P.follows .mixedOrders = true) (hB : freeOk l.toArray k = true) (hk : a.tmps.size = k)
    (h0 : Own w.drew (HL (fun _ => false) x0)) (hs0 : Same w0 w.drew)
    (hQ : ∀ ch (a a' : Act) w, a.defers = a'.defers → Q (.panic ch) a w → Q (.panic ch) a' w)
    (hsteps : FSteps P l Q a vs HL w0 0 l)
    (hend : ∀ x w D, (∀ i, i < l.length → D i = true) → Own w (HL D x) → Same w0 w → Q .normal (putO a l (vs x)) w) : (Code.region id l.toArray true).wp P Q a w := by
  have hfin : ∀ x, putV (fun j => (vs x).getD j undef) 0 l a = putO a l (vs x) := fun x => putV_list l (vs x) 0 _ a (hlen x) (fun j _ => by rw [Nat.zero_add])
  refine wp_region_free (fun i x => (vs x).getD i undef) (fun D x w => Own w (HL D x) ∧ Same w0 w) x0 k hm hB hk ⟨h0, hs0⟩ hQ (fun i o ho => ?_) (fun x w D hD hS => ?_)
  · intro D x w h1 h2 h3 hS
    have := fsteps_get hsteps i o (by simpa using ho)
    rw [Nat.zero_add] at this
    rw [hfin]
    exact this D x w h1 h2 h3 hS.1 hS.2
  · rw [hfin]
    exact hend x w D hD hS.1 hS.2
/-- An operation that yields one value, and changes nothing. -/
theorem fs_pure {l : List Oper} {a : Act} {vs : α → List Value} {HL : (Nat → Bool) → α → List HP} {w0 : World} {i : Nat} {o : Oper} (hH : ∀ D x, HL (upd D i) x = HL D x)
    (hy : ∀ D x, D i = false → (∀ (j : Nat) (oj : Oper), l.toArray[j]? = some oj → D j = true → ∀ e ∈ oj.after, Region.binds .any e = true → D e.on = true) → (∀ e ∈ o.after, Region.binds .any e = true → D e.on = true) → YieldsIn P l.toArray (Cls w0 (HL D x)) o ((vs x).getD i undef) (putO a l (vs x))) : FS P l Q a vs HL w0 i o := by
  intro D x w h1 h2 h3 hO hS
  have key : ∀ w', Own w' (HL D x) ∧ Same w0 w' → wpList P l.toArray (Exit.then (fun a' w' => a'.defers = a.defers ∧ ∃ x', (∀ j, D j = true → (vs x').getD j undef = (vs x).getD j undef) ∧ (∀ d, o.dst = some d → d < a.tmps.size → a'.tmps[d]? = some ((vs x').getD i undef)) ∧ Own w' (HL (upd D i) x') ∧ Same w0 w') Q) [] ((putO a l (vs x)).put o.dst ((vs x).getD i undef)) w' := fun w' hC => by
    refine wpList_nil ⟨by rw [put_defers', putO_defers'], x, fun _ _ => rfl, fun d hd hlt => ?_, by rw [hH]; exact hC.1, hC.2⟩
    rw [hd, put_at, if_pos ⟨rfl, by rw [putO_size']; exact hlt⟩]
  refine wpList_step fun K hK => ?_
  rcases hy D x h1 h2 h3 with ⟨h4, h5⟩ | ⟨h4, h5⟩
  · rw [if_pos h4]
    exact Oper.wp_of_quiet (C := Cls w0 (HL D x)) (K := fun a' => a' = (putO a l (vs x)).put o.dst ((vs x).getD i undef)) ⟨hO, hS⟩ (fun a' w' hC ha => hK _ _ (by rw [ha]; exact key w' hC)) ⟨_, h5, rfl⟩
  · rw [if_neg (by rw [h4]; simp)]
    have h6 := key w ⟨hO, hS⟩
    rw [h5] at h6
    exact hK _ _ h6
def depB (after : Array Edge) (i : Nat) : Bool := after.toList.any fun e => Region.binds .any e && e.on == i
/-- What must be done ahead is done. -/
theorem dep_yes {D : Nat → Bool} {after : Array Edge} {j : Nat} (hp : ∀ e ∈ after, Region.binds .any e = true → D e.on = true) (h : depB after j = true) : D j = true := by
  unfold depB at h
  rw [List.any_eq_true] at h
  obtain ⟨e, he, h⟩ := h
  simp only [Bool.and_eq_true, beq_iff_eq] at h
  exact h.2 ▸ hp e (by simpa using he) h.1
/-- What comes behind one that is not done is not done. -/
theorem dep_no {l : List Oper} {D : Nat → Bool} {i : Nat} (hcl : ∀ (j : Nat) (oj : Oper), l.toArray[j]? = some oj → D j = true → ∀ e ∈ oj.after, Region.binds .any e = true → D e.on = true) (hD : D i = false) (j : Nat) (h : (match l.toArray[j]? with | some oj => depB oj.after i | none => false) = true) : D j = false := by
  cases hj : l.toArray[j]? with
  | none => rw [hj] at h; cases h
  | some oj =>
    rw [hj] at h
    cases hd : D j with
    | false => rfl
    | true =>
      have := dep_yes (hcl j oj hj hd) h
      rw [hD] at this; cases this
/-- A call, met in a list of operations. -/
theorem ev_call {ops : Array Oper} {o : Oper} {rest : List Oper} {a : Act} {w : World} {f : FuncId} {args : Array Value} (hw : Region.wanted o (yielded ops a.tmps) = true) (hrun : (execOp a.eval o).run P w = .ok (.enter f args) w)
    (h : Calls P f args w (fun e w' => ∃ v, e = .returned v ∧ wpList P ops Q rest (a.put o.dst v) w')) : wpList P ops Q (o :: rest) a w := by
  refine wpList_step fun N hN => ?_
  rw [if_pos hw]
  unfold Oper.wp
  rw [hrun, Oper.upon_enter]
  refine Calls.mono h fun e w' he => ?_
  obtain ⟨v, rfl, hv⟩ := he
  exact hN _ _ hv
/-- What is owned where b is true. -/
def mk (b : Bool) (A : HP) : List HP := if b then [A] else []
theorem mk_t {A : HP} : mk true A = [A] := rfl
theorem mk_f {A : HP} : mk false A = [] := rfl
end
end Go.Proofs.Ytonohjhmnlfakaa.H
set_option linter.unusedVariables false
set_option linter.unusedSimpArgs false
namespace Go.Proofs.Ytonohjhmnlfakaa.H
open Go.RowKit
def setX (x : Nat → Value) (i : Nat) (v : Value) : Nat → Value := fun j => if j = i then v else x j
/-- What an operation hands over: its number; the one that takes it away; what it is. -/
abbrev Ent := Nat × Option Nat × (Value → HP)
def live (D : Nat → Bool) (c : Ent) : Bool := D c.1 && (match c.2.1 with | none => true | some j => !D j)
/-- What the operations that are done have handed over. -/
def owL (cs : List Ent) (D : Nat → Bool) (x : Nat → Value) : List HP := cs.flatMap fun c => mk (live D c) (c.2.2 (x c.1))
def ment (i : Nat) (c : Ent) : Bool := c.1 == i || c.2.1 == some i
theorem owL_none (cs : List Ent) (x : Nat → Value) : owL cs (fun _ => false) x = [] := by
  unfold owL
  induction cs with
  | nil => rfl
  | cons c cs ih => rw [List.flatMap_cons, ih]; rfl
theorem owL_cons (c : Ent) (cs : List Ent) (D : Nat → Bool) (x : Nat → Value) : owL (c :: cs) D x = mk (live D c) (c.2.2 (x c.1)) ++ owL cs D x := rfl
theorem owL_append (cs cs' : List Ent) (D : Nat → Bool) (x : Nat → Value) : owL (cs ++ cs') D x = owL cs D x ++ owL cs' D x := by simp [owL]
theorem owL_live {cs : List Ent} {D : Nat → Bool} {x : Nat → Value} (h : ∀ c ∈ cs, live D c = true) : owL cs D x = cs.map fun c => c.2.2 (x c.1) := by
  induction cs with
  | nil => rfl
  | cons c cs ih => rw [owL_cons, ih (fun c hc => h c (List.mem_cons_of_mem _ hc)), h c (List.mem_cons_self ..)]; rfl
theorem owL_dead {cs : List Ent} {D : Nat → Bool} {x : Nat → Value} (h : ∀ c ∈ cs, live D c = false) : owL cs D x = [] := by
  induction cs with
  | nil => rfl
  | cons c cs ih => rw [owL_cons, ih (fun c hc => h c (List.mem_cons_of_mem _ hc)), h c (List.mem_cons_self ..)]; rfl
theorem owL_set {cs : List Ent} {D : Nat → Bool} {x : Nat → Value} {i : Nat} {v : Value} (h : ∀ c ∈ cs, ment i c = false) : owL cs (upd D i) (setX x i v) = owL cs D x := by
  induction cs with
  | nil => rfl
  | cons c cs ih =>
    rw [owL_cons, owL_cons, ih (fun c hc => h c (List.mem_cons_of_mem _ hc))]
    have h1 := h c (List.mem_cons_self ..)
    simp only [ment, Bool.or_eq_false_iff, beq_eq_false_iff_ne] at h1
    have e1 : live (upd D i) c = live D c := by
      unfold live upd
      rw [if_neg h1.1]
      cases hc : c.2.1 with
      | none => rfl
      | some j =>
        have : j ≠ i := fun e => h1.2 (by rw [hc, e])
        simp [this]
    have e2 : setX x i v c.1 = x c.1 := by unfold setX; rw [if_neg h1.1]
    rw [e1, e2]
theorem owL_perm {cs cs' : List Ent} (h : cs.Perm cs') (D : Nat → Bool) (x : Nat → Value) : (owL cs D x).Perm (owL cs' D x) := List.Perm.flatMap_right _ h
theorem ow_live {w : World} {base : List HP} {cs : List Ent} {D : Nat → Bool} {x : Nat → Value} (k : Nat) {c : Ent} (h : Own w (base ++ owL cs D x)) (hk : cs[k]? = some c) (hD : live D c = true) : ∃ L', Own w (c.2.2 (x c.1) :: L') := by
  have := own_perm h (List.Perm.append_left base (owL_perm (perm_at hk) D x))
  rw [owL_cons, hD, mk_t] at this
  exact ⟨_, own_perm this List.perm_middle⟩
theorem ow_get {w : World} {base : List HP} {cs : List Ent} {D : Nat → Bool} {x : Nat → Value} (k : Nat) {i : Nat} {A : Value → HP} (h : Own w (base ++ owL cs D x)) (hk : cs[k]? = some (i, none, A)) (h1 : D i = true) : ∃ L', Own w (A (x i) :: L') :=
  ow_live k h hk (by simp [live, h1])
theorem ow_gets {w : World} {base : List HP} {cs : List Ent} {D : Nat → Bool} {x : Nat → Value} (k : Nat) {i j : Nat} {A : Value → HP} (h : Own w (base ++ owL cs D x)) (hk : cs[k]? = some (i, some j, A)) (h1 : D i = true) (h2 : D j = false) : ∃ L', Own w (A (x i) :: L') :=
  ow_live k h hk (by simp [live, h1, h2])
theorem owL_end {cs : List Ent} {D : Nat → Bool} {x : Nat → Value} {n : Nat} (hD : ∀ i, i < n → D i = true) (hb : cs.all (fun c => decide (c.1 < n) && (match c.2.1 with | none => true | some j => decide (j < n))) = true) : owL cs D x = (cs.filter fun c => c.2.1.isNone).map fun c => c.2.2 (x c.1) := by
  induction cs with
  | nil => rfl
  | cons c cs ih =>
    simp only [List.all_cons, Bool.and_eq_true, decide_eq_true_eq] at hb
    rw [owL_cons, ih hb.2]
    obtain ⟨i, con, A⟩ := c
    have h1 := hD i hb.1.1
    cases con with
    | none => simp [live, h1, mk]
    | some j =>
      have h2 := hD j (by simpa using hb.1.2)
      simp [live, h1, h2, mk]
/-- Which operations come behind one. -/
def behR (i : Nat) : Nat → List Bool → List Oper → List Bool
  | _, acc, [] => acc
  | k, acc, o :: r => behR i (k + 1) (acc ++ [k == i || o.after.toList.any fun e => Region.binds .any e && acc.getD e.on false]) r
def behL (l : List Oper) (i : Nat) : List Bool := behR i 0 [] l
theorem behR_ok {l : List Oper} {D : Nat → Bool} {i : Nat} (hcl : ∀ (j : Nat) (oj : Oper), l.toArray[j]? = some oj → D j = true → ∀ e ∈ oj.after, Region.binds .any e = true → D e.on = true) (hD : D i = false) :
    ∀ (r : List Oper) (k : Nat) (acc : List Bool), (∀ (j : Nat) o, r[j]? = some o → l.toArray[k + j]? = some o) → (∀ j, acc.getD j false = true → D j = false) → acc.length = k → ∀ j, (behR i k acc r).getD j false = true → D j = false
  | [], _, acc, _, h, _ => h
  | o :: r, k, acc, hl, h, hk => by
    refine behR_ok hcl hD r (k + 1) _ (fun j o' ho => ?_) (fun j hj => ?_) (by simp [hk])
    · have := hl (j + 1) o' (by simpa using ho)
      rwa [show k + (j + 1) = k + 1 + j by omega] at this
    · rcases Nat.lt_trichotomy j k with hlt | rfl | hgt
      · refine h j ?_
        rw [List.getD_eq_getElem?_getD, List.getElem?_append_left (by omega), ← List.getD_eq_getElem?_getD] at hj
        exact hj
      · rw [List.getD_eq_getElem?_getD, List.getElem?_append_right (by omega), hk, Nat.sub_self] at hj
        simp only [List.getElem?_cons_zero, Option.getD_some, Bool.or_eq_true, beq_iff_eq, List.any_eq_true, Bool.and_eq_true] at hj
        rcases hj with rfl | ⟨e, he, hb, ha⟩
        · exact hD
        · cases hd : D j with
          | false => rfl
          | true =>
            have := hcl j o (by have := hl 0 o rfl; rwa [Nat.add_zero] at this) hd e (by simpa using he) hb
            rw [h _ ha] at this
            cases this
      · exfalso
        rw [List.getD_eq_getElem?_getD, List.getElem?_eq_none (by simp; omega)] at hj
        cases hj
theorem behL_ok {l : List Oper} {D : Nat → Bool} {i : Nat} (hcl : ∀ (j : Nat) (oj : Oper), l.toArray[j]? = some oj → D j = true → ∀ e ∈ oj.after, Region.binds .any e = true → D e.on = true) (hD : D i = false) {j : Nat} (h : (behL l i).getD j false = true) : D j = false :=
  behR_ok hcl hD l 0 [] (fun j o ho => by rw [Nat.zero_add]; simpa using ho) (fun j hj => by simp at hj) rfl j h
theorem owL_upd {cs : List Ent} {D : Nat → Bool} {x : Nat → Value} {i : Nat} (h : (cs.all fun c => !ment i c) = true) : owL cs (upd D i) x = owL cs D x := by
  induction cs with
  | nil => rfl
  | cons c cs ih =>
    simp only [List.all_cons, Bool.and_eq_true, Bool.not_eq_true'] at h
    rw [owL_cons, owL_cons, ih h.2]
    have h1 := h.1
    simp only [ment, Bool.or_eq_false_iff, beq_eq_false_iff_ne] at h1
    have e1 : live (upd D i) c = live D c := by
      unfold live upd
      rw [if_neg h1.1]
      cases hc : c.2.1 with
      | none => rfl
      | some j =>
        have : j ≠ i := fun e => h1.2 (by rw [hc, e])
        simp [this]
    rw [e1]
/-- What must be done ahead, directly or through others, is done. -/
theorem ahead_yes {l : List Oper} {D : Nat → Bool} {i j : Nat} {o : Oper} (ho : l.toArray[i]? = some o) (hcl : ∀ (j : Nat) (oj : Oper), l.toArray[j]? = some oj → D j = true → ∀ e ∈ oj.after, Region.binds .any e = true → D e.on = true) (hp : ∀ e ∈ o.after, Region.binds .any e = true → D e.on = true) (hne : j ≠ i) (h : (behL l j).getD i false = true) : D j = true := by
  cases hD : D j with
  | true => rfl
  | false =>
    have hcl' : ∀ (k : Nat) (ok : Oper), l.toArray[k]? = some ok → upd D i k = true → ∀ e ∈ ok.after, Region.binds .any e = true → upd D i e.on = true := fun k ok hk hu e he hb => by
      unfold upd at hu ⊢
      split
      · rfl
      · by_cases e2 : k = i
        · subst e2
          rw [ho] at hk
          cases hk
          exact hp e he hb
        · rw [if_neg e2] at hu
          exact hcl k ok hk hu e he hb
    have h2 := behL_ok hcl' (i := j) (by unfold upd; rw [if_neg hne]; exact hD) h
    simp [upd] at h2
section
variable {P : Program} {Q : Exit → Act → World → Prop}
/-- An operation that yields one value. -/
theorem fs_pureO {l : List Oper} {a : Act} {vs : (Nat → Value) → List Value} {base : List HP} {cs : List Ent} {w0 : World} {i : Nat} {o : Oper} (hm : (cs.all fun c => !ment i c) = true)
    (hy : ∀ D x, D i = false → (∀ (j : Nat) (oj : Oper), l.toArray[j]? = some oj → D j = true → ∀ e ∈ oj.after, Region.binds .any e = true → D e.on = true) → (∀ e ∈ o.after, Region.binds .any e = true → D e.on = true) → YieldsIn P l.toArray (Cls w0 (base ++ owL cs D x)) o ((vs x).getD i undef) (putO a l (vs x))) :
    FS P l Q a vs (fun D x => base ++ owL cs D x) w0 i o :=
  fs_pure (fun D x => by rw [owL_upd hm]) hy
/-- An operation that hands over something new, and may take away what others handed over. -/
theorem fs_new {l : List Oper} {a : Act} {vs : (Nat → Value) → List Value} {base : List HP} {cs : List Ent} {w0 : World} {i : Nat} {A : Value → HP} {con : Option Nat} {o : Oper} (es : List Ent) (V : Value → Value) (ho : l.toArray[i]? = some o) (hf : cs.filter (ment i) = es ++ [(i, con, A)])
    (hes : es.all (fun e => e.2.1 == some i && e.1 != i && (behL l e.1).getD i false) = true) (hcon : (match con with | none => true | some j => j != i && (behL l i).getD j false) = true)
    (hkeep : ∀ j, (behL l i).getD j false = true ∨ ∀ x v, (vs (setX x i v)).getD j undef = (vs x).getD j undef) (hval : ∀ x v, (vs (setX x i v)).getD i undef = V v)
    (hc : ∀ D x w, D i = false → (∀ (j : Nat) (oj : Oper), l.toArray[j]? = some oj → D j = true → ∀ e ∈ oj.after, Region.binds .any e = true → D e.on = true) → (∀ e ∈ o.after, Region.binds .any e = true → D e.on = true) → Own w (es.map (fun e => e.2.2 (x e.1)) ++ (base ++ owL (cs.filter fun c => !ment i c) D x)) → Same w0 w → ∀ N : Exit → Act → World → Prop,
      (∀ (a' : Act) v w', a'.defers = a.defers → a'.tmps.size = a.tmps.size → Own w' (A v :: (base ++ owL (cs.filter fun c => !ment i c) D x)) → Same w w' → wpList P l.toArray N [] (a'.put o.dst (V v)) w') → wpList P l.toArray N [o] (putO a l (vs x)) w) :
    FS P l Q a vs (fun D x => base ++ owL cs D x) w0 i o := by
  intro D x w hD hcl hp hO hS
  have hall : ∀ e ∈ es, e.2.1 = some i ∧ e.1 ≠ i ∧ D e.1 = true := fun e he => by
    have := List.all_eq_true.1 hes e he
    simp only [Bool.and_eq_true, beq_iff_eq, bne_iff_ne, ne_eq] at this
    exact ⟨this.1.1, this.1.2, ahead_yes ho hcl hp this.1.2 this.2⟩
  have hperm := (List.filter_append_perm (ment i) cs)
  rw [hf] at hperm
  have hrest : ∀ c ∈ cs.filter fun c => !ment i c, ment i c = false := fun c hc => by simpa using (List.mem_filter.1 hc).2
  have hO' : Own w (es.map (fun e => e.2.2 (x e.1)) ++ (base ++ owL (cs.filter fun c => !ment i c) D x)) := by
    have h1 := own_perm hO (List.Perm.append_left base (owL_perm hperm.symm D x))
    rw [owL_append, owL_append, owL_live (cs := es) (fun e he => by simp [live, hall e he, hD]), owL_dead (cs := [(i, con, A)]) (fun c hc => by simp at hc; subst hc; simp [live, hD]), List.append_nil] at h1
    refine own_perm h1 ?_
    rw [← List.append_assoc, ← List.append_assoc]
    exact List.Perm.append_right _ List.perm_append_comm
  refine hc D x w hD hcl hp hO' hS _ (fun a' v w' hdf hsz hO' hS' => ?_)
  refine wpList_nil ⟨by rw [put_defers', hdf], setX x i v, fun j hj => ?_, fun d hd hlt => ?_, ?_, hS.trans hS'⟩
  · rcases hkeep j with h | h
    · have := behL_ok hcl hD h
      rw [hj] at this; cases this
    · exact h x v
  · rw [hval, hd, put_at, if_pos ⟨rfl, by rw [hsz]; exact hlt⟩]
  · refine own_perm hO' (List.Perm.trans ?_ (List.Perm.append_left base (owL_perm hperm (upd D i) (setX x i v))))
    rw [owL_append, owL_append, owL_set hrest, owL_dead (cs := es) (fun e he => by simp [live, (hall e he).1, upd]), owL_live (cs := [(i, con, A)]) (fun c hc => ?_)]
    · have e : (setX x i v) i = v := by simp [setX]
      simp only [List.map_cons, List.map_nil, List.nil_append, e]
      exact List.perm_middle.symm
    · simp at hc
      subst hc
      cases con with
      | none => simp [live, upd]
      | some j =>
        simp only [Bool.and_eq_true, bne_iff_ne, ne_eq] at hcon
        have := behL_ok hcl hD hcon.2
        simp [live, upd, hcon.1, this]
end
end Go.Proofs.Ytonohjhmnlfakaa.H
set_option linter.unusedVariables false
set_option linter.unusedSimpArgs false
namespace Go.Proofs.Ytonohjhmnlfakaa.H
open Go.RowKit
/-- Something that reads as the slice v. -/
def rdA (size : Nat) (v : Value) (n : Nat) (xs : List Value) : HP := fun p q => ∀ w : World, p.le w → q.le w → Rd w size v n xs
theorem rdA_rd {w : World} {L : List HP} {size n : Nat} {v : Value} {xs : List Value} (h : Own w (rdA size v n xs :: L)) : Rd w size v n xs := by
  obtain ⟨p1, q1, p2, q2, hA, hB, h1, h2, _⟩ := own_cons.1 h
  exact hA w h1 h2
theorem own_rdA {w : World} {L : List HP} {A : HP} {size n : Nat} {v : Value} {xs : List Value} (hf : ∀ w', Own w' [A] → Rd w' size v n xs) (h : Own w (A :: L)) : Own w (rdA size v n xs :: L) := by
  obtain ⟨p1, q1, p2, q2, hA, hB, h1, h2, h3, h4, d1, d2, d3, d4, d5⟩ := own_cons.1 h
  refine own_cons.2 ⟨p1, q1, p2, q2, fun w' e1 e2 => hf w' ?_, hB, h1, h2, h3, h4, d1, d2, d3, d4, d5⟩
  exact own_cons.2 ⟨p1, q1, nul, nul, hA, ⟨rfl, rfl⟩, e1, e2, nul_le _, nul_le _, dis_nul _, dis_nul _, nul_dis _, d4, nul_dis _⟩
theorem rdA_owns {w : World} {L : List HP} {e : TypeId} {size n : Nat} {v : Value} {xs : List Value} (h : Own w (owns e size v n xs :: L)) : Own w (rdA size v n xs :: L) := own_rdA (fun w' h => owns_rd h) h
theorem rdA_nil {w : World} {L : List HP} {size : Nat} (h : Own w L) : Own w (rdA size (.slice none 0 0) 0 [] :: L) := own_rdA (A := emp) (fun w' _ => rd_nil _ _) (own_emp.2 h)
theorem rdA_pts {w : World} {L : List HP} {g : Nat} {T : TypeId} {bs : List UInt8} (hb : bs.length = 32) (h : Own w (pts g (.cells (bcs bs).toArray T) :: L)) : Own w (rdA 1 (.slice (some ⟨g, 0, none⟩) 32 32) 32 (bcs bs) :: L) :=
  own_rdA (fun w' h => rd_block (own_pts h) (by rw [Nat.mul_one, ← hb, ← bcs_length bs, List.take_length]) (by simp [bcs_length, hb]) (Nat.le_refl _) (by decide)) h
section
variable {P : Program} {w : World} {L : List HP} {f : FuncId} {args : Array Value} {A B : HP}
/-- A call that turns what stands at one place into something else. -/
theorem call_at {r : Value} (k : Nat) (h : ∀ L', Own w (A :: L') → Calls P f args w (Ret w r (B :: L'))) (hk : L[k]? = some A) (hO : Own w L) : Calls P f args w (Ret w r (L.set k B)) := by
  refine (h _ (own_at hO hk)).mono ?_
  rintro e w' ⟨rfl, hO', hS⟩
  exact ⟨rfl, own_back hO' (List.getElem?_eq_some_iff.1 hk).1, hS⟩
theorem call_atX {α : Type} {V : α → Value} {C : α → HP} (k : Nat) (h : ∀ L', Own w (A :: L') → Calls P f args w (RetX w V (fun v => C v :: B :: L'))) (hk : L[k]? = some A) (hO : Own w L) : Calls P f args w (RetX w V (fun v => C v :: L.set k B)) := by
  refine (h _ (own_at hO hk)).mono ?_
  rintro e w' ⟨v, rfl, hO', hS⟩
  refine ⟨v, rfl, own_perm hO' (List.Perm.cons _ (perm_set (List.getElem?_eq_some_iff.1 hk).1)), hS⟩
end
section
variable {P : Program} {ops : Array Oper} {rest : List Oper} {o : Oper} {a aF : Act} {Q : Exit → Act → World → Prop} {C : World → Prop} {w : World} {L : List HP}
theorem own_load1_at {T : TypeId} {x : Operand} {ad : Addr} {v : Value} (hw : Region.wanted o (yielded ops a.tmps) = true) (ho : o.op = .load T x) (hx : a.eval x = .pointer (some ad))
    (hT : isRowB P T = some false) (hc : w.cell? ad = some v) (h : wpList P ops Q rest (a.put o.dst v) w) : wpList P ops Q (o :: rest) a w := by
  refine ev hw ?_ h
  simp only [execOp, ho, hx, Sem.run_bind, run_load1_at hT hc]
  rfl
theorem y_string {src dst e : TypeId} {x : Operand} {v : Value} {n : Nat} {bs : List UInt8} (hw : Region.wanted o (yielded ops aF.tmps) = true) (ho : o.op = .convert src dst x) (hx : aF.eval x = v)
    (hs : P.underlying src = some (.slice e)) (he : P.underlying e = some (.int .u8)) (hd : P.underlying dst = some .string) (hn : n = bs.length) (hr : ∀ w, C w → Rd w 1 v n (bcs bs)) : YieldsIn P ops C o (.string (bstr bs)) aF := by
  refine y_run hw (fun w hC => ?_)
  simp only [execOp, ho, hx, Sem.run_bind, run_string hs he hd hn (hr w hC)]
  rfl
end
end Go.Proofs.Ytonohjhmnlfakaa.H
set_option linter.unusedVariables false
set_option linter.unusedSimpArgs false
namespace Go.Proofs.Ytonohjhmnlfakaa.H
open Go.RowKit
/-- The entries of a map's block are the list f, in order. -/
structure MapOk (es : Array MapEntry) (clock : Nat) (f : List (Int × Value)) : Prop where
  old : ∀ x ∈ es.toList, x.born < clock
  nodup : (es.toList.map (·.born)).Nodup
  keys : es.toList.map (fun e => (e.key, e.val)) = f.map fun q => (Value.int .i64 q.1, q.2)
  nod : (f.map (·.1)).Nodup
/-- Block b is a map with these keys and values. -/
def mapP (b : Nat) (f : List (Int × Value)) : HP := ex fun x : Array MapEntry × Nat => sep (pur (MapOk x.1 x.2 f)) (pts b (.map x.1 x.2))
theorem mapP_open {w : World} {L : List HP} {b : Nat} {f : List (Int × Value)} : Own w (mapP b f :: L) ↔ ∃ es clock, MapOk es clock f ∧ Own w (pts b (.map es clock) :: L) := by
  unfold mapP
  rw [own_ex]
  constructor
  · rintro ⟨x, h⟩
    rw [own_sep, own_pur] at h
    exact ⟨x.1, x.2, h.1, h.2⟩
  · rintro ⟨es, c, h1, h2⟩
    refine ⟨(es, c), ?_⟩
    rw [own_sep, own_pur]
    exact ⟨h1, h2⟩
def mget (f : List (Int × Value)) (k : Int) : Option Value := (f.find? fun q => decide (q.1 = k)).map (·.2)
def mset (f : List (Int × Value)) (k : Int) (v : Value) : List (Int × Value) := match f.findIdx? (fun q => decide (q.1 = k)) with
  | some i => f.set i (k, v)
  | none => f ++ [(k, v)]
def mdel (f : List (Int × Value)) (k : Int) : List (Int × Value) := f.filter fun q => decide (q.1 ≠ k)
theorem MapOk.size {es : Array MapEntry} {c : Nat} {f : List (Int × Value)} (h : MapOk es c f) : es.size = f.length := by
  have := congrArg List.length h.keys
  simpa using this
theorem MapOk.at_ {es : Array MapEntry} {c : Nat} {f : List (Int × Value)} (h : MapOk es c f) {j : Nat} {e : MapEntry} (he : es.toList[j]? = some e) : ∃ k, e.key = .int .i64 k ∧ f[j]? = some (k, e.val) := by
  have h1 : (es.toList.map (fun e => (e.key, e.val)))[j]? = some (e.key, e.val) := by rw [List.getElem?_map, he]; rfl
  rw [h.keys, List.getElem?_map] at h1
  cases hf : f[j]? with
  | none => rw [hf] at h1; cases h1
  | some q =>
    rw [hf] at h1
    simp at h1
    exact ⟨q.1, h1.1.symm, by rw [← h1.2]⟩
theorem nod_idx {f : List (Int × Value)} (hn : (f.map (·.1)).Nodup) {i j : Nat} {k : Int} {v v' : Value} (hi : f[i]? = some (k, v)) (hj : f[j]? = some (k, v')) : i = j ∧ v = v' := by
  have h1 : (f.map (·.1))[i]? = some k := by rw [List.getElem?_map, hi]; rfl
  have h2 : (f.map (·.1))[j]? = some k := by rw [List.getElem?_map, hj]; rfl
  obtain ⟨a1, a2⟩ := List.getElem?_eq_some_iff.1 h1
  obtain ⟨b1, b2⟩ := List.getElem?_eq_some_iff.1 h2
  have e : i = j := by
    rcases Nat.lt_trichotomy i j with h | h | h
    · exact absurd (a2.trans b2.symm) (List.pairwise_iff_getElem.1 hn i j a1 b1 h)
    · exact h
    · exact absurd (b2.trans a2.symm) (List.pairwise_iff_getElem.1 hn j i b1 a1 h)
  subst e
  rw [hi] at hj
  cases hj
  exact ⟨rfl, rfl⟩
theorem mget_at {f : List (Int × Value)} (hn : (f.map (·.1)).Nodup) {j : Nat} {k : Int} {v : Value} (hj : f[j]? = some (k, v)) : mget f k = some v := by
  unfold mget
  cases h : f.find? (fun q => decide (q.1 = k)) with
  | none =>
    have := List.find?_eq_none.1 h _ (List.mem_of_getElem? hj)
    simp at this
  | some q =>
    have h1 := List.find?_some h
    obtain ⟨i, hi⟩ := List.getElem?_of_mem (List.mem_of_find?_eq_some h)
    obtain ⟨q1, q2⟩ := q
    have h3 : q1 = k := by simpa using h1
    subst h3
    obtain ⟨_, rfl⟩ := nod_idx hn hi hj
    rfl
theorem mget_none {f : List (Int × Value)} {k : Int} (h : ∀ q ∈ f, q.1 ≠ k) : mget f k = none := by
  unfold mget
  rw [List.find?_eq_none.2 (fun q hq => by simpa using h q hq)]
  rfl
theorem mset_at {f : List (Int × Value)} (hn : (f.map (·.1)).Nodup) {j : Nat} {k : Int} {v v' : Value} (hj : f[j]? = some (k, v)) : mset f k v' = f.set j (k, v') := by
  unfold mset
  have : f.findIdx? (fun q => decide (q.1 = k)) = some j := by
    rw [List.findIdx?_eq_some_iff_getElem]
    obtain ⟨hl, he⟩ := List.getElem?_eq_some_iff.1 hj
    refine ⟨hl, by rw [he]; simp, fun i hi => ?_⟩
    simp only [decide_eq_true_eq]
    intro hk
    have hi2 : f[i]? = some (k, f[i].2) := by rw [List.getElem?_eq_getElem (by omega), ← hk]
    obtain ⟨e, _⟩ := nod_idx hn hi2 hj
    omega
  rw [this]
theorem mset_none {f : List (Int × Value)} {k : Int} {v' : Value} (h : ∀ q ∈ f, q.1 ≠ k) : mset f k v' = f ++ [(k, v')] := by
  unfold mset
  rw [List.findIdx?_eq_none_iff.2 (fun q hq => by simpa using h q hq)]
theorem mdel_at {f : List (Int × Value)} (hn : (f.map (·.1)).Nodup) {j : Nat} {k : Int} {v : Value} (hj : f[j]? = some (k, v)) : mdel f k = f.eraseIdx j := by
  induction f generalizing j with
  | nil => simp at hj
  | cons q f ih =>
    rw [List.map_cons, List.nodup_cons] at hn
    cases j with
    | zero =>
      have e : q = (k, v) := by simpa using hj
      subst e
      unfold mdel
      rw [List.filter_cons, if_neg (by simp), List.filter_eq_self.2]
      · rfl
      · intro x hx
        simp only [decide_eq_true_eq]
        intro e
        exact hn.1 (List.mem_map.2 ⟨x, hx, e⟩)
    | succ j =>
      have hj2 : f[j]? = some (k, v) := by simpa using hj
      have hne : q.1 ≠ k := fun e => hn.1 (by rw [e]; exact List.mem_map.2 ⟨(k, v), List.mem_of_getElem? hj2, rfl⟩)
      unfold mdel
      rw [List.filter_cons, if_pos (by simpa using hne)]
      show q :: mdel f k = _
      rw [ih hn.2 hj2]
      rfl
theorem mdel_none {f : List (Int × Value)} {k : Int} (h : ∀ q ∈ f, q.1 ≠ k) : mdel f k = f := List.filter_eq_self.2 (fun q hq => by simpa using h q hq)
theorem map_cases (f : List (Int × Value)) (k : Int) : (∃ (j : Nat) (v : Value), f[j]? = some (k, v)) ∨ ∀ q ∈ f, q.1 ≠ k := by
  by_cases h : ∃ q : Int × Value, q ∈ f ∧ q.1 = k
  · obtain ⟨q, hq, rfl⟩ := h
    obtain ⟨j, hj⟩ := List.getElem?_of_mem hq
    exact .inl ⟨j, q.2, hj⟩
  · exact .inr (fun q hq e => h ⟨q, hq, e⟩)
theorem map_find {es : Array MapEntry} {c : Nat} {f : List (Int × Value)} (h : MapOk es c f) (k : Int) :
    (Instr.findNow (.int .i64) (.int .i64 k) es.toList 0 = some none ∧ ∀ q ∈ f, q.1 ≠ k) ∨ ∃ j v, Instr.findNow (.int .i64) (.int .i64 k) es.toList 0 = some (some (j, v)) ∧ f[j]? = some (k, v) := by
  have hk : ∀ x ∈ es.toList, MapKept.IsKey (.int .i64) x.key := fun x hx => by
    obtain ⟨j, hj⟩ := List.getElem?_of_mem hx
    obtain ⟨k', e, _⟩ := h.at_ hj
    rw [e]
    exact rfl
  rcases MapKept.findNow_spec (d := .int .i64) (k := .int .i64 k) rfl es.toList 0 hk with ⟨h1, h2⟩ | ⟨j, e, h1, h2, h3⟩
  · refine .inl ⟨h1, fun q hq e => ?_⟩
    obtain ⟨j, hj⟩ := List.getElem?_of_mem hq
    have hl : j < es.toList.length := by rw [Array.length_toList, h.size]; exact (List.getElem?_eq_some_iff.1 hj).1
    obtain ⟨k', e1, e2⟩ := h.at_ (List.getElem?_eq_getElem hl)
    rw [hj] at e2
    have e3 : q.1 = k' := by cases e2; rfl
    exact h2 _ (List.getElem_mem hl) (by rw [e1, ← e3, e])
  · obtain ⟨k', e1, e2⟩ := h.at_ h2
    rw [h3] at e1
    cases e1
    exact .inr ⟨j, e.val, by rw [h1, Nat.zero_add], e2⟩
theorem nodup_set {f : List (Int × Value)} {j : Nat} {k : Int} {v v' : Value} (hj : f[j]? = some (k, v)) : (f.set j (k, v')).map (·.1) = f.map (·.1) := by
  rw [List.map_set]
  refine List.ext_getElem? (fun t => ?_)
  rw [List.getElem?_set]
  split
  · rename_i e
    subst e
    have hl := (List.getElem?_eq_some_iff.1 hj).1
    rw [if_pos (by rw [List.length_map]; exact hl), List.getElem?_map, hj]
    rfl
  · rfl
theorem MapOk.set {es : Array MapEntry} {c : Nat} {f : List (Int × Value)} (h : MapOk es c f) {j : Nat} {k : Int} {v v' : Value} (hj : f[j]? = some (k, v)) : MapOk (es.modify j fun e => { e with key := .int .i64 k, val := v' }) c (f.set j (k, v')) := by
  have hl : j < es.size := by rw [h.size]; exact (List.getElem?_eq_some_iff.1 hj).1
  have hmod : (es.modify j fun e => { e with key := .int .i64 k, val := v' }).toList = es.toList.modify j fun e => { e with key := .int .i64 k, val := v' } := by simp
  have hb : (es.modify j fun e => { e with key := .int .i64 k, val := v' }).toList.map (·.born) = es.toList.map (·.born) := by
    rw [hmod]
    refine List.ext_getElem? (fun t => ?_)
    rw [List.getElem?_map, List.getElem?_map, List.getElem?_modify]
    split <;> simp [Function.comp_def]
  refine ⟨fun x hx => ?_, by rw [hb]; exact h.nodup, ?_, by rw [nodup_set hj]; exact h.nod⟩
  · have : x.born ∈ es.toList.map (·.born) := by rw [← hb]; exact List.mem_map_of_mem hx
    obtain ⟨y, hy, e⟩ := List.mem_map.1 this
    rw [← e]; exact h.old y hy
  · rw [hmod, List.map_set, ← h.keys]
    refine List.ext_getElem? (fun t => ?_)
    rw [List.getElem?_map, List.getElem?_modify, List.getElem?_set]
    have hl' : j < es.toList.length := by simpa using hl
    by_cases e : j = t
    · subst e
      simp [List.getElem?_eq_getElem hl', hl]
    · simp [e]
theorem MapOk.push {es : Array MapEntry} {c : Nat} {f : List (Int × Value)} (h : MapOk es c f) {k : Int} {v : Value} (hk : ∀ q ∈ f, q.1 ≠ k) : MapOk (es.push { key := .int .i64 k, val := v, born := c }) (c + 1) (f ++ [(k, v)]) := by
  refine ⟨fun x hx => ?_, ?_, by simp [h.keys], ?_⟩
  · simp at hx
    rcases hx with hx | rfl
    · have := h.old x (by simpa using hx); omega
    · exact Nat.lt_succ_self _
  · simp only [Array.toList_push, List.map_append, List.map_cons, List.map_nil]
    rw [List.nodup_append]
    refine ⟨h.nodup, by simp, fun a ha b hb => ?_⟩
    simp at hb
    subst hb
    obtain ⟨y, hy, e⟩ := List.mem_map.1 ha
    have := h.old y hy
    omega
  · rw [List.map_append, List.nodup_append]
    refine ⟨h.nod, by simp, fun a ha b hb => ?_⟩
    simp at hb
    subst hb
    obtain ⟨y, hy, e⟩ := List.mem_map.1 ha
    rw [← e]
    exact hk y hy
theorem eraseIdx_map' {α β : Type} (g : α → β) : ∀ (l : List α) (j : Nat), (l.eraseIdx j).map g = (l.map g).eraseIdx j
  | [], _ => rfl
  | _ :: _, 0 => rfl
  | x :: l, j + 1 => by simp [eraseIdx_map' g l j]
theorem MapOk.erase {es : Array MapEntry} {c : Nat} {f : List (Int × Value)} (h : MapOk es c f) (j : Nat) : MapOk (es.eraseIdxIfInBounds j) c (f.eraseIdx j) := by
  have hl : (es.eraseIdxIfInBounds j).toList = es.toList.eraseIdx j := by simp
  refine ⟨fun x hx => ?_, ?_, ?_, ?_⟩
  · rw [hl] at hx
    exact h.old x ((List.eraseIdx_sublist _ _).subset hx)
  · rw [hl]
    exact List.Nodup.sublist (List.Sublist.map _ (List.eraseIdx_sublist _ _)) h.nodup
  · rw [hl, eraseIdx_map', h.keys, eraseIdx_map']
  · exact List.Nodup.sublist (List.Sublist.map _ (List.eraseIdx_sublist _ _)) h.nod
theorem mapOk_nil : MapOk #[] 0 [] := ⟨by simp, by simp, rfl, by simp⟩
section
variable {P : Program} {ops : Array Oper} {rest : List Oper} {o : Oper} {a aF : Act} {Q : Exit → Act → World → Prop} {C : World → Prop} {w : World} {L : List HP} {T K E : TypeId}
theorem run_mlookup {b : Nat} {f : List (Int × Value)} {es : Array MapEntry} {c : Nat} {k : Int} {z : Value} (ht : P.underlying T = some (.map K E)) (hK : P.underlying K = some (.int .i64)) (hz : (P.info? E).map (·.zero) = some (some z)) (hb : w.heap[b]? = some (.map es c)) (h : MapOk es c f) (ok : Bool) :
    (Instr.lookup T (.map (some b)) (.int .i64 k) ok).run P w = .ok (if ok then .tuple #[(mget f k).getD z, .bool (mget f k).isSome] else (mget f k).getD z) w := by
  have hck := MapKept.run_checkKey (P := P) (w := w) (kt := K) (d := .int .i64) (k := .int .i64 k) hK rfl es.isEmpty 9999
  obtain ⟨i, hi, hiz⟩ := Option.map_eq_some_iff.1 hz
  rcases map_find h k with ⟨h1, h2⟩ | ⟨j, v, h1, h2⟩
  · rw [mget_none h2]
    have hf := MapKept.run_findKey (P := P) (w := w) hK h1
    cases ok <;> simp [Instr.lookup, run_underlying ht, MapKept.run_getObj_map hb, hck, hf, zeroValue, typeInfo, hi, hiz]
  · rw [mget_at h.nod h2]
    have hf := MapKept.run_findKey (P := P) (w := w) hK h1
    cases ok <;> simp [Instr.lookup, run_underlying ht, MapKept.run_getObj_map hb, hck, hf]
theorem own_mlookup {xm xk : Operand} {b i : Nat} {f : List (Int × Value)} {k : Int} {z r : Value} (hw : Region.wanted o (yielded ops a.tmps) = true) (ho : o.op = .lookup T xm xk false) (hm : a.eval xm = .map (some b)) (hk : a.eval xk = .int .i64 k)
    (ht : P.underlying T = some (.map K E)) (hK : P.underlying K = some (.int .i64)) (hz : (P.info? E).map (·.zero) = some (some z)) (hO : Own w L) (hi : L[i]? = some (mapP b f)) (hr : (mget f k).getD z = r) (h : wpList P ops Q rest (a.put o.dst r) w) : wpList P ops Q (o :: rest) a w := by
  obtain ⟨es, c, h1, h2⟩ := mapP_open.1 (own_at hO hi)
  refine ev hw ?_ h
  simp only [execOp, ho, hm, hk, Sem.run_bind, run_mlookup ht hK hz (own_pts h2) h1 false, if_false, hr, Bool.false_eq_true]
  rfl
theorem y_mlookup {xm xk : Operand} {b : Nat} {f : List (Int × Value)} {k : Int} {z r : Value} (hw : Region.wanted o (yielded ops aF.tmps) = true) (ho : o.op = .lookup T xm xk false) (hm : aF.eval xm = .map (some b)) (hk : aF.eval xk = .int .i64 k)
    (ht : P.underlying T = some (.map K E)) (hK : P.underlying K = some (.int .i64)) (hz : (P.info? E).map (·.zero) = some (some z)) (hC : ∀ w, C w → ∃ L, Own w (mapP b f :: L)) (hr : (mget f k).getD z = r) : YieldsIn P ops C o r aF := by
  refine y_run hw (fun w hw' => ?_)
  obtain ⟨L, hO⟩ := hC w hw'
  obtain ⟨es, c, h1, h2⟩ := mapP_open.1 hO
  simp only [execOp, ho, hm, hk, Sem.run_bind, run_mlookup ht hK hz (own_pts h2) h1 false, if_false, hr, Bool.false_eq_true]
  rfl
theorem own_mkmap (hw : Region.wanted o (yielded ops a.tmps) = true) (ho : o.op = .makeMap T none) (hO : Own w L)
    (h : ∀ b w', Own w' (mapP b [] :: L) → Same w w' → wpList P ops Q rest (a.put o.dst (.map (some b))) w') : wpList P ops Q (o :: rest) a w := by
  refine ev (w1 := w.alloc (.map #[] 0)) (v := .map (some w.heap.size)) hw ?_ (h _ _ (mapP_open.2 ⟨_, _, mapOk_nil, own_alloc_new hO _⟩) (Same.alloc _ _))
  simp only [execOp, ho]
  rfl
theorem run_mset {b : Nat} {f : List (Int × Value)} {es : Array MapEntry} {c : Nat} {k : Int} {v : Value} (ht : P.underlying T = some (.map K E)) (hK : P.underlying K = some (.int .i64)) (hb : w.heap[b]? = some (.map es c)) (h : MapOk es c f) :
    ∃ es' c', MapOk es' c' (mset f k v) ∧ (Instr.mapUpdate T (.map (some b)) (.int .i64 k) v).run P w = .ok () { w with heap := w.heap.setIfInBounds b (.map es' c') } := by
  have hck := MapKept.run_checkKey (P := P) (w := w) (kt := K) (d := .int .i64) (k := .int .i64 k) hK rfl false 9999
  rcases map_find h k with ⟨h1, h2⟩ | ⟨j, v0, h1, h2⟩
  · have hf := MapKept.run_findKey (P := P) (w := w) hK h1
    refine ⟨_, _, mset_none h2 ▸ h.push h2, ?_⟩
    simp [Instr.mapUpdate, run_underlying ht, MapKept.run_getObj_map hb, hck, hf, MapKept.run_setObj_map _ hb]
  · have hf := MapKept.run_findKey (P := P) (w := w) hK h1
    refine ⟨_, _, mset_at h.nod h2 ▸ h.set h2, ?_⟩
    have hl : j < es.size := by rw [h.size]; exact (List.getElem?_eq_some_iff.1 h2).1
    obtain ⟨k', e1, e2⟩ := h.at_ (j := j) (e := es[j]) (by rw [Array.getElem?_toList, Array.getElem?_eq_getElem hl])
    rw [h2] at e2
    have ek : es[j].key = .int .i64 k := by cases e2; exact e1
    have hkeep : (Instr.keyThatStays (.int .i64 k) (.int .i64 k)).run P w = .ok (.int .i64 k) w := by
      unfold Instr.keyThatStays
      rw [if_pos (by simp [Instr.sameBits])]
      rfl
    have hes : ((es[j]?).map (·.key)).getD (.int .i64 k) = .int .i64 k := by rw [Array.getElem?_eq_getElem hl]; simp [ek]
    simp [Instr.mapUpdate, run_underlying ht, MapKept.run_getObj_map hb, hck, hf, hes, hkeep, MapKept.run_setObj_map _ hb]
theorem own_setObj {b : Nat} {o o' : Obj} (h : Own w (pts b o :: L)) : Own { w with heap := w.heap.setIfInBounds b o' } (pts b o' :: L) := by
  obtain ⟨h1, h2⟩ := MapKept.heap_set (w := w) (r := b) (o := o) (o' := o') (own_pts h)
  exact own_put h (fun i hi x hx => (h2 i hi).trans hx) h1
theorem Same.setObj (w : World) (b : Nat) (o : Obj) : Same w { w with heap := w.heap.setIfInBounds b o } := ⟨rfl, rfl, rfl, by simp⟩
theorem own_mset {xm xk xv : Operand} {b i : Nat} {f : List (Int × Value)} {k : Int} {v : Value} (hw : Region.wanted o (yielded ops a.tmps) = true) (ho : o.op = .mapUpdate T xm xk xv) (hm : a.eval xm = .map (some b)) (hk : a.eval xk = .int .i64 k) (hv : a.eval xv = v)
    (ht : P.underlying T = some (.map K E)) (hK : P.underlying K = some (.int .i64)) (hO : Own w L) (hi : L[i]? = some (mapP b f))
    (h : ∀ w', Own w' (L.set i (mapP b (mset f k v))) → Same w w' → wpList P ops Q rest (a.put o.dst undef) w') : wpList P ops Q (o :: rest) a w := by
  obtain ⟨es, c, h1, h2⟩ := mapP_open.1 (own_at hO hi)
  obtain ⟨es', c', h3, h4⟩ := run_mset (T := T) (K := K) (E := E) (v := v) (k := k) ht hK (own_pts h2) h1
  refine ev_skip (w1 := { w with heap := w.heap.setIfInBounds b (.map es' c') }) hw ?_ (h _ (own_back (mapP_open.2 ⟨es', c', h3, own_setObj h2⟩) (List.getElem?_eq_some_iff.1 hi).1) (Same.setObj _ _ _))
  simp only [execOp, ho, hm, hk, hv, Sem.run_bind, h4]
  rfl
theorem run_mdel {b : Nat} {f : List (Int × Value)} {es : Array MapEntry} {c : Nat} {k : Int} {ty : TypeId} {Tk : TypeId} (ht : P.underlying T = some (.map K E)) (hK : P.underlying K = some (.int .i64)) (hb : w.heap[b]? = some (.map es c)) (h : MapOk es c f) :
    ∃ es', MapOk es' c (mdel f k) ∧ (Builtin.delete_ #[T, Tk] ty #[.map (some b), .int .i64 k]).run P w = .ok (.tuple #[]) { w with heap := w.heap.setIfInBounds b (.map es' c) } := by
  have hck := MapKept.run_checkKey (P := P) (w := w) (kt := K) (d := .int .i64) (k := .int .i64 k) hK rfl es.isEmpty 9999
  rcases map_find h k with ⟨h1, h2⟩ | ⟨j, v0, h1, h2⟩
  · have hf := MapKept.run_findKey (P := P) (w := w) hK h1
    refine ⟨es, by rw [mdel_none h2]; exact h, ?_⟩
    simp [Builtin.delete_, run_underlying ht, MapKept.run_getObj_map hb, hck, hf, MapKept.run_setObj_map _ hb]
  · have hf := MapKept.run_findKey (P := P) (w := w) hK h1
    refine ⟨_, mdel_at h.nod h2 ▸ h.erase j, ?_⟩
    simp [Builtin.delete_, run_underlying ht, MapKept.run_getObj_map hb, hck, hf, MapKept.run_setObj_map _ hb]
theorem own_mdel {xm xk : Operand} {Tk : TypeId} {b i : Nat} {f : List (Int × Value)} {k : Int} (hw : Region.wanted o (yielded ops a.tmps) = true) (ho : o.op = .call { callee := .builtin .delete, args := #[xm, xk], argTypes := #[T, Tk] }) (hm : a.eval xm = .map (some b)) (hk : a.eval xk = .int .i64 k)
    (ht : P.underlying T = some (.map K E)) (hK : P.underlying K = some (.int .i64)) (hO : Own w L) (hi : L[i]? = some (mapP b f))
    (h : ∀ w', Own w' (L.set i (mapP b (mdel f k))) → Same w w' → wpList P ops Q rest (a.put o.dst (.tuple #[])) w') : wpList P ops Q (o :: rest) a w := by
  obtain ⟨es, c, h1, h2⟩ := mapP_open.1 (own_at hO hi)
  obtain ⟨es', h3, h4⟩ := run_mdel (T := T) (K := K) (E := E) (k := k) (ty := o.type) (Tk := Tk) ht hK (own_pts h2) h1
  refine ev (w1 := { w with heap := w.heap.setIfInBounds b (.map es' c) }) hw ?_ (h _ (own_back (mapP_open.2 ⟨es', c, h3, own_setObj h2⟩) (List.getElem?_eq_some_iff.1 hi).1) (Same.setObj _ _ _))
  simp only [execOp, ho]
  simp [resolve, invoke, builtin, hm, hk, h4, Result.andThen]
end
end Go.Proofs.Ytonohjhmnlfakaa.H
