/- The same law, over what is owned. Regions of open order whose calls hand over what they make: what each has made is owned from then on. Plain words on patches: what a patch is, whether it is right, a block's bytes behind it. Contracts of package patch: Right, end, Apply. Contracts of the reference of patch: Right, writes. Slices that are owned with their room, and append onto them. Contract of the reference's Apply. Contracts of package patch: Apply. -/
import Derived.Test.YtonohjhmnlfakaaZ04
import Derived.Test.YtonohjhmnlfakaaZ01
import Derived.Test.YtonohjhmnlfakaaProg
import Derived.Test.YtonohjhmnlfakaaZ02
import Derived.WalkLawsBesides
import Derived.WalkSpells
import Derived.Maps.AppendAt
set_option linter.unusedVariables false
set_option linter.unusedSimpArgs false
namespace Go.Proofs.Ytonohjhmnlfakaa.H
open Go.RowKit
section
variable {P : Program} {Q : Exit → Act → World → Prop} {α : Type}
theorem putV_list : ∀ (l : List Oper) (vs : List Value) (i : Nat) (f : Nat → Value) (a : Act), vs.length = l.length → (∀ j, j < l.length → f (i + j) = vs.getD j undef) → putV f i l a = putO a l vs
  | [], [], _, _, _, _, _ => rfl
  | o :: l, v :: vs, i, f, a, hl, h => by
    rw [putV, putO]
    have h0 := h 0 (by simp)
    rw [Nat.add_zero] at h0
    rw [h0]
    refine putV_list l vs (i + 1) f _ (by simpa using hl) (fun j hj => ?_)
    have := h (j + 1) (by simpa using hj)
    rw [show i + 1 + j = i + (j + 1) by omega, this]
    rfl
theorem putO_size' : ∀ (l : List Oper) (vs : List Value) (a : Act), (putO a l vs).tmps.size = a.tmps.size
  | [], _, _ => by simp [putO]
  | o :: l, [], _ => by simp [putO]
  | o :: l, v :: vs, a => by rw [putO, putO_size' l vs, put_size']
theorem putO_defers' : ∀ (l : List Oper) (vs : List Value) (a : Act), (putO a l vs).defers = a.defers
  | [], _, _ => by simp [putO]
  | o :: l, [], _ => by simp [putO]
  | o :: l, v :: vs, a => by rw [putO, putO_defers' l vs, put_defers']
/-- What one operation must keep, wherever it is taken: D: what is done; x: the ghosts. -/
def FS (P : Program) (l : List Oper) (Q : Exit → Act → World → Prop) (a : Act) (vs : α → List Value) (HL : (Nat → Bool) → α → List HP) (w0 : World) (i : Nat) (o : Oper) : Prop :=
  ∀ (D : Nat → Bool) (x : α) (w : World), D i = false → (∀ (j : Nat) (oj : Oper), l.toArray[j]? = some oj → D j = true → ∀ e ∈ oj.after, Region.binds .any e = true → D e.on = true) → (∀ e ∈ o.after, Region.binds .any e = true → D e.on = true) → Own w (HL D x) → Same w0 w →
    wpList P l.toArray (Exit.then (fun a' w' => a'.defers = a.defers ∧ ∃ x', (∀ j, D j = true → (vs x').getD j undef = (vs x).getD j undef) ∧ (∀ d, o.dst = some d → d < a.tmps.size → a'.tmps[d]? = some ((vs x').getD i undef)) ∧ Own w' (HL (upd D i) x') ∧ Same w0 w') Q) [o] (putO a l (vs x)) w
def FSteps (P : Program) (l : List Oper) (Q : Exit → Act → World → Prop) (a : Act) (vs : α → List Value) (HL : (Nat → Bool) → α → List HP) (w0 : World) : Nat → List Oper → Prop
  | _, [] => True
  | i, o :: r => FS P l Q a vs HL w0 i o ∧ FSteps P l Q a vs HL w0 (i + 1) r
theorem fsteps_get {l : List Oper} {a : Act} {vs : α → List Value} {HL : (Nat → Bool) → α → List HP} {w0 : World} : ∀ {r : List Oper} {i : Nat}, FSteps P l Q a vs HL w0 i r → ∀ (j : Nat) (o : Oper), r[j]? = some o → FS P l Q a vs HL w0 (i + j) o
  | [], _, _, _, _, h => by simp at h
  | o :: r, i, h, 0, o', ho => by simp at ho; subst ho; exact h.1
  | o :: r, i, h, j + 1, o', ho => by
    have := fsteps_get h.2 j o' (by simpa using ho)
    rwa [show i + 1 + j = i + (j + 1) by omega] at this
theorem wp_region_own {id : Nat} {l : List Oper} {a : Act} {w : World} (vs : α → List Value) (HL : (Nat → Bool) → α → List HP) (w0 : World) (x0 : α) (k : Nat) (hlen : ∀ x, (vs x).length = l.length) (hm : P.follows .mixedOrders = true) (hB : freeOk l.toArray k = true) (hk : a.tmps.size = k)
    (h0 : Own w.drew (HL (fun _ => false) x0)) (hs0 : Same w0 w.drew)
    (hQ : ∀ ch (a a' : Act) w, a.defers = a'.defers → Q (.panic ch) a w → Q (.panic ch) a' w)
    (hsteps : FSteps P l Q a vs HL w0 0 l)
    (hend : ∀ x w D, (∀ i, i < l.length → D i = true) → Own w (HL D x) → Same w0 w → Q .normal (putO a l (vs x)) w) : (Code.region id l.toArray true).wp P Q a w := by
  have hfin : ∀ x, putV (fun j => (vs x).getD j undef) 0 l a = putO a l (vs x) := fun x => putV_list l (vs x) 0 _ a (hlen x) (fun j _ => by rw [Nat.zero_add])
  refine wp_region_free (fun i x => (vs x).getD i undef) (fun D x w => Own w (HL D x) ∧ Same w0 w) x0 k hm hB hk ⟨h0, hs0⟩ hQ (fun i o ho => ?_) (fun x w D hD hS => ?_)
  · intro D x w h1 h2 h3 hS
    have := fsteps_get hsteps i o (by simpa using ho)
    rw [Nat.zero_add] at this
    rw [hfin]
    exact this D x w h1 h2 h3 hS.1 hS.2
  · rw [hfin]
    exact hend x w D hD hS.1 hS.2
/-- An operation that yields one value, and changes nothing. -/
theorem fs_pure {l : List Oper} {a : Act} {vs : α → List Value} {HL : (Nat → Bool) → α → List HP} {w0 : World} {i : Nat} {o : Oper} (hH : ∀ D x, HL (upd D i) x = HL D x)
    (hy : ∀ D x, D i = false → (∀ (j : Nat) (oj : Oper), l.toArray[j]? = some oj → D j = true → ∀ e ∈ oj.after, Region.binds .any e = true → D e.on = true) → (∀ e ∈ o.after, Region.binds .any e = true → D e.on = true) → YieldsIn P l.toArray (Cls w0 (HL D x)) o ((vs x).getD i undef) (putO a l (vs x))) : FS P l Q a vs HL w0 i o := by
  intro D x w h1 h2 h3 hO hS
  have key : ∀ w', Own w' (HL D x) ∧ Same w0 w' → wpList P l.toArray (Exit.then (fun a' w' => a'.defers = a.defers ∧ ∃ x', (∀ j, D j = true → (vs x').getD j undef = (vs x).getD j undef) ∧ (∀ d, o.dst = some d → d < a.tmps.size → a'.tmps[d]? = some ((vs x').getD i undef)) ∧ Own w' (HL (upd D i) x') ∧ Same w0 w') Q) [] ((putO a l (vs x)).put o.dst ((vs x).getD i undef)) w' := fun w' hC => by
    refine wpList_nil ⟨by rw [put_defers', putO_defers'], x, fun _ _ => rfl, fun d hd hlt => ?_, by rw [hH]; exact hC.1, hC.2⟩
    rw [hd, put_at, if_pos ⟨rfl, by rw [putO_size']; exact hlt⟩]
  refine wpList_step fun K hK => ?_
  rcases hy D x h1 h2 h3 with ⟨h4, h5⟩ | ⟨h4, h5⟩
  · rw [if_pos h4]
    exact Oper.wp_of_quiet (C := Cls w0 (HL D x)) (K := fun a' => a' = (putO a l (vs x)).put o.dst ((vs x).getD i undef)) ⟨hO, hS⟩ (fun a' w' hC ha => hK _ _ (by rw [ha]; exact key w' hC)) ⟨_, h5, rfl⟩
  · rw [if_neg (by rw [h4]; simp)]
    have h6 := key w ⟨hO, hS⟩
    rw [h5] at h6
    exact hK _ _ h6
def depB (after : Array Edge) (i : Nat) : Bool := after.toList.any fun e => Region.binds .any e && e.on == i
/-- What must be done ahead is done. -/
theorem dep_yes {D : Nat → Bool} {after : Array Edge} {j : Nat} (hp : ∀ e ∈ after, Region.binds .any e = true → D e.on = true) (h : depB after j = true) : D j = true := by
  unfold depB at h
  rw [List.any_eq_true] at h
  obtain ⟨e, he, h⟩ := h
  simp only [Bool.and_eq_true, beq_iff_eq] at h
  exact h.2 ▸ hp e (by simpa using he) h.1
/-- What comes behind one that is not done is not done. -/
theorem dep_no {l : List Oper} {D : Nat → Bool} {i : Nat} (hcl : ∀ (j : Nat) (oj : Oper), l.toArray[j]? = some oj → D j = true → ∀ e ∈ oj.after, Region.binds .any e = true → D e.on = true) (hD : D i = false) (j : Nat) (h : (match l.toArray[j]? with | some oj => depB oj.after i | none => false) = true) : D j = false := by
  cases hj : l.toArray[j]? with
  | none => rw [hj] at h; cases h
  | some oj =>
    rw [hj] at h
    cases hd : D j with
    | false => rfl
    | true =>
      have := dep_yes (hcl j oj hj hd) h
      rw [hD] at this; cases this
/-- A call, met in a list of operations. -/
theorem ev_call {ops : Array Oper} {o : Oper} {rest : List Oper} {a : Act} {w : World} {f : FuncId} {args : Array Value} (hw : Region.wanted o (yielded ops a.tmps) = true) (hrun : (execOp a.eval o).run P w = .ok (.enter f args) w)
    (h : Calls P f args w (fun e w' => ∃ v, e = .returned v ∧ wpList P ops Q rest (a.put o.dst v) w')) : wpList P ops Q (o :: rest) a w := by
  refine wpList_step fun N hN => ?_
  rw [if_pos hw]
  unfold Oper.wp
  rw [hrun, Oper.upon_enter]
  refine Calls.mono h fun e w' he => ?_
  obtain ⟨v, rfl, hv⟩ := he
  exact hN _ _ hv
/-- What is owned where b is true. -/
def mk (b : Bool) (A : HP) : List HP := if b then [A] else []
theorem mk_t {A : HP} : mk true A = [A] := rfl
theorem mk_f {A : HP} : mk false A = [] := rfl
end
end Go.Proofs.Ytonohjhmnlfakaa.H
set_option linter.unusedVariables false
set_option linter.unusedSimpArgs false
namespace Go.Proofs.Ytonohjhmnlfakaa.H
open Go.RowKit
def setX (x : Nat → Value) (i : Nat) (v : Value) : Nat → Value := fun j => if j = i then v else x j
/-- What an operation hands over: its number; the one that takes it away; what it is. -/
abbrev Ent := Nat × Option Nat × (Value → HP)
def live (D : Nat → Bool) (c : Ent) : Bool := D c.1 && (match c.2.1 with | none => true | some j => !D j)
/-- What the operations that are done have handed over. -/
def owL (cs : List Ent) (D : Nat → Bool) (x : Nat → Value) : List HP := cs.flatMap fun c => mk (live D c) (c.2.2 (x c.1))
def ment (i : Nat) (c : Ent) : Bool := c.1 == i || c.2.1 == some i
theorem owL_none (cs : List Ent) (x : Nat → Value) : owL cs (fun _ => false) x = [] := by
  unfold owL
  induction cs with
  | nil => rfl
  | cons c cs ih => rw [List.flatMap_cons, ih]; rfl
theorem owL_cons (c : Ent) (cs : List Ent) (D : Nat → Bool) (x : Nat → Value) : owL (c :: cs) D x = mk (live D c) (c.2.2 (x c.1)) ++ owL cs D x := rfl
theorem owL_append (cs cs' : List Ent) (D : Nat → Bool) (x : Nat → Value) : owL (cs ++ cs') D x = owL cs D x ++ owL cs' D x := by simp [owL]
theorem owL_live {cs : List Ent} {D : Nat → Bool} {x : Nat → Value} (h : ∀ c ∈ cs, live D c = true) : owL cs D x = cs.map fun c => c.2.2 (x c.1) := by
  induction cs with
  | nil => rfl
  | cons c cs ih => rw [owL_cons, ih (fun c hc => h c (List.mem_cons_of_mem _ hc)), h c (List.mem_cons_self ..)]; rfl
theorem owL_dead {cs : List Ent} {D : Nat → Bool} {x : Nat → Value} (h : ∀ c ∈ cs, live D c = false) : owL cs D x = [] := by
  induction cs with
  | nil => rfl
  | cons c cs ih => rw [owL_cons, ih (fun c hc => h c (List.mem_cons_of_mem _ hc)), h c (List.mem_cons_self ..)]; rfl
theorem owL_set {cs : List Ent} {D : Nat → Bool} {x : Nat → Value} {i : Nat} {v : Value} (h : ∀ c ∈ cs, ment i c = false) : owL cs (upd D i) (setX x i v) = owL cs D x := by
  induction cs with
  | nil => rfl
  | cons c cs ih =>
    rw [owL_cons, owL_cons, ih (fun c hc => h c (List.mem_cons_of_mem _ hc))]
    have h1 := h c (List.mem_cons_self ..)
    simp only [ment, Bool.or_eq_false_iff, beq_eq_false_iff_ne] at h1
    have e1 : live (upd D i) c = live D c := by
      unfold live upd
      rw [if_neg h1.1]
      cases hc : c.2.1 with
      | none => rfl
      | some j =>
        have : j ≠ i := fun e => h1.2 (by rw [hc, e])
        simp [this]
    have e2 : setX x i v c.1 = x c.1 := by unfold setX; rw [if_neg h1.1]
    rw [e1, e2]
theorem owL_perm {cs cs' : List Ent} (h : cs.Perm cs') (D : Nat → Bool) (x : Nat → Value) : (owL cs D x).Perm (owL cs' D x) := List.Perm.flatMap_right _ h
theorem ow_live {w : World} {base : List HP} {cs : List Ent} {D : Nat → Bool} {x : Nat → Value} (k : Nat) {c : Ent} (h : Own w (base ++ owL cs D x)) (hk : cs[k]? = some c) (hD : live D c = true) : ∃ L', Own w (c.2.2 (x c.1) :: L') := by
  have := own_perm h (List.Perm.append_left base (owL_perm (perm_at hk) D x))
  rw [owL_cons, hD, mk_t] at this
  exact ⟨_, own_perm this List.perm_middle⟩
theorem ow_get {w : World} {base : List HP} {cs : List Ent} {D : Nat → Bool} {x : Nat → Value} (k : Nat) {i : Nat} {A : Value → HP} (h : Own w (base ++ owL cs D x)) (hk : cs[k]? = some (i, none, A)) (h1 : D i = true) : ∃ L', Own w (A (x i) :: L') :=
  ow_live k h hk (by simp [live, h1])
theorem ow_gets {w : World} {base : List HP} {cs : List Ent} {D : Nat → Bool} {x : Nat → Value} (k : Nat) {i j : Nat} {A : Value → HP} (h : Own w (base ++ owL cs D x)) (hk : cs[k]? = some (i, some j, A)) (h1 : D i = true) (h2 : D j = false) : ∃ L', Own w (A (x i) :: L') :=
  ow_live k h hk (by simp [live, h1, h2])
theorem owL_end {cs : List Ent} {D : Nat → Bool} {x : Nat → Value} {n : Nat} (hD : ∀ i, i < n → D i = true) (hb : cs.all (fun c => decide (c.1 < n) && (match c.2.1 with | none => true | some j => decide (j < n))) = true) : owL cs D x = (cs.filter fun c => c.2.1.isNone).map fun c => c.2.2 (x c.1) := by
  induction cs with
  | nil => rfl
  | cons c cs ih =>
    simp only [List.all_cons, Bool.and_eq_true, decide_eq_true_eq] at hb
    rw [owL_cons, ih hb.2]
    obtain ⟨i, con, A⟩ := c
    have h1 := hD i hb.1.1
    cases con with
    | none => simp [live, h1, mk]
    | some j =>
      have h2 := hD j (by simpa using hb.1.2)
      simp [live, h1, h2, mk]
/-- Which operations come behind one. -/
def behR (i : Nat) : Nat → List Bool → List Oper → List Bool
  | _, acc, [] => acc
  | k, acc, o :: r => behR i (k + 1) (acc ++ [k == i || o.after.toList.any fun e => Region.binds .any e && acc.getD e.on false]) r
def behL (l : List Oper) (i : Nat) : List Bool := behR i 0 [] l
theorem behR_ok {l : List Oper} {D : Nat → Bool} {i : Nat} (hcl : ∀ (j : Nat) (oj : Oper), l.toArray[j]? = some oj → D j = true → ∀ e ∈ oj.after, Region.binds .any e = true → D e.on = true) (hD : D i = false) :
    ∀ (r : List Oper) (k : Nat) (acc : List Bool), (∀ (j : Nat) o, r[j]? = some o → l.toArray[k + j]? = some o) → (∀ j, acc.getD j false = true → D j = false) → acc.length = k → ∀ j, (behR i k acc r).getD j false = true → D j = false
  | [], _, acc, _, h, _ => h
  | o :: r, k, acc, hl, h, hk => by
    refine behR_ok hcl hD r (k + 1) _ (fun j o' ho => ?_) (fun j hj => ?_) (by simp [hk])
    · have := hl (j + 1) o' (by simpa using ho)
      rwa [show k + (j + 1) = k + 1 + j by omega] at this
    · rcases Nat.lt_trichotomy j k with hlt | rfl | hgt
      · refine h j ?_
        rw [List.getD_eq_getElem?_getD, List.getElem?_append_left (by omega), ← List.getD_eq_getElem?_getD] at hj
        exact hj
      · rw [List.getD_eq_getElem?_getD, List.getElem?_append_right (by omega), hk, Nat.sub_self] at hj
        simp only [List.getElem?_cons_zero, Option.getD_some, Bool.or_eq_true, beq_iff_eq, List.any_eq_true, Bool.and_eq_true] at hj
        rcases hj with rfl | ⟨e, he, hb, ha⟩
        · exact hD
        · cases hd : D j with
          | false => rfl
          | true =>
            have := hcl j o (by have := hl 0 o rfl; rwa [Nat.add_zero] at this) hd e (by simpa using he) hb
            rw [h _ ha] at this
            cases this
      · exfalso
        rw [List.getD_eq_getElem?_getD, List.getElem?_eq_none (by simp; omega)] at hj
        cases hj
theorem behL_ok {l : List Oper} {D : Nat → Bool} {i : Nat} (hcl : ∀ (j : Nat) (oj : Oper), l.toArray[j]? = some oj → D j = true → ∀ e ∈ oj.after, Region.binds .any e = true → D e.on = true) (hD : D i = false) {j : Nat} (h : (behL l i).getD j false = true) : D j = false :=
  behR_ok hcl hD l 0 [] (fun j o ho => by rw [Nat.zero_add]; simpa using ho) (fun j hj => by simp at hj) rfl j h
theorem owL_upd {cs : List Ent} {D : Nat → Bool} {x : Nat → Value} {i : Nat} (h : (cs.all fun c => !ment i c) = true) : owL cs (upd D i) x = owL cs D x := by
  induction cs with
  | nil => rfl
  | cons c cs ih =>
    simp only [List.all_cons, Bool.and_eq_true, Bool.not_eq_true'] at h
    rw [owL_cons, owL_cons, ih h.2]
    have h1 := h.1
    simp only [ment, Bool.or_eq_false_iff, beq_eq_false_iff_ne] at h1
    have e1 : live (upd D i) c = live D c := by
      unfold live upd
      rw [if_neg h1.1]
      cases hc : c.2.1 with
      | none => rfl
      | some j =>
        have : j ≠ i := fun e => h1.2 (by rw [hc, e])
        simp [this]
    rw [e1]
/-- What must be done ahead, directly or through others, is done. -/
theorem ahead_yes {l : List Oper} {D : Nat → Bool} {i j : Nat} {o : Oper} (ho : l.toArray[i]? = some o) (hcl : ∀ (j : Nat) (oj : Oper), l.toArray[j]? = some oj → D j = true → ∀ e ∈ oj.after, Region.binds .any e = true → D e.on = true) (hp : ∀ e ∈ o.after, Region.binds .any e = true → D e.on = true) (hne : j ≠ i) (h : (behL l j).getD i false = true) : D j = true := by
  cases hD : D j with
  | true => rfl
  | false =>
    have hcl' : ∀ (k : Nat) (ok : Oper), l.toArray[k]? = some ok → upd D i k = true → ∀ e ∈ ok.after, Region.binds .any e = true → upd D i e.on = true := fun k ok hk hu e he hb => by
      unfold upd at hu ⊢
      split
      · rfl
      · by_cases e2 : k = i
        · subst e2
          rw [ho] at hk
          cases hk
          exact hp e he hb
        · rw [if_neg e2] at hu
          exact hcl k ok hk hu e he hb
    have h2 := behL_ok hcl' (i := j) (by unfold upd; rw [if_neg hne]; exact hD) h
    simp [upd] at h2
section
variable {P : Program} {Q : Exit → Act → World → Prop}
/-- An operation that yields one value. -/
theorem fs_pureO {l : List Oper} {a : Act} {vs : (Nat → Value) → List Value} {base : List HP} {cs : List Ent} {w0 : World} {i : Nat} {o : Oper} (hm : (cs.all fun c => !ment i c) = true)
    (hy : ∀ D x, D i = false → (∀ (j : Nat) (oj : Oper), l.toArray[j]? = some oj → D j = true → ∀ e ∈ oj.after, Region.binds .any e = true → D e.on = true) → (∀ e ∈ o.after, Region.binds .any e = true → D e.on = true) → YieldsIn P l.toArray (Cls w0 (base ++ owL cs D x)) o ((vs x).getD i undef) (putO a l (vs x))) :
    FS P l Q a vs (fun D x => base ++ owL cs D x) w0 i o :=
  fs_pure (fun D x => by rw [owL_upd hm]) hy
/-- An operation that hands over something new, and may take away what others handed over. -/
theorem fs_new {l : List Oper} {a : Act} {vs : (Nat → Value) → List Value} {base : List HP} {cs : List Ent} {w0 : World} {i : Nat} {A : Value → HP} {con : Option Nat} {o : Oper} (es : List Ent) (V : Value → Value) (ho : l.toArray[i]? = some o) (hf : cs.filter (ment i) = es ++ [(i, con, A)])
    (hes : es.all (fun e => e.2.1 == some i && e.1 != i && (behL l e.1).getD i false) = true) (hcon : (match con with | none => true | some j => j != i && (behL l i).getD j false) = true)
    (hkeep : ∀ j, (behL l i).getD j false = true ∨ ∀ x v, (vs (setX x i v)).getD j undef = (vs x).getD j undef) (hval : ∀ x v, (vs (setX x i v)).getD i undef = V v)
    (hc : ∀ D x w, D i = false → (∀ (j : Nat) (oj : Oper), l.toArray[j]? = some oj → D j = true → ∀ e ∈ oj.after, Region.binds .any e = true → D e.on = true) → (∀ e ∈ o.after, Region.binds .any e = true → D e.on = true) → Own w (es.map (fun e => e.2.2 (x e.1)) ++ (base ++ owL (cs.filter fun c => !ment i c) D x)) → Same w0 w → ∀ N : Exit → Act → World → Prop,
      (∀ (a' : Act) v w', a'.defers = a.defers → a'.tmps.size = a.tmps.size → Own w' (A v :: (base ++ owL (cs.filter fun c => !ment i c) D x)) → Same w w' → wpList P l.toArray N [] (a'.put o.dst (V v)) w') → wpList P l.toArray N [o] (putO a l (vs x)) w) :
    FS P l Q a vs (fun D x => base ++ owL cs D x) w0 i o := by
  intro D x w hD hcl hp hO hS
  have hall : ∀ e ∈ es, e.2.1 = some i ∧ e.1 ≠ i ∧ D e.1 = true := fun e he => by
    have := List.all_eq_true.1 hes e he
    simp only [Bool.and_eq_true, beq_iff_eq, bne_iff_ne, ne_eq] at this
    exact ⟨this.1.1, this.1.2, ahead_yes ho hcl hp this.1.2 this.2⟩
  have hperm := (List.filter_append_perm (ment i) cs)
  rw [hf] at hperm
  have hrest : ∀ c ∈ cs.filter fun c => !ment i c, ment i c = false := fun c hc => by simpa using (List.mem_filter.1 hc).2
  have hO' : Own w (es.map (fun e => e.2.2 (x e.1)) ++ (base ++ owL (cs.filter fun c => !ment i c) D x)) := by
    have h1 := own_perm hO (List.Perm.append_left base (owL_perm hperm.symm D x))
    rw [owL_append, owL_append, owL_live (cs := es) (fun e he => by simp [live, hall e he, hD]), owL_dead (cs := [(i, con, A)]) (fun c hc => by simp at hc; subst hc; simp [live, hD]), List.append_nil] at h1
    refine own_perm h1 ?_
    rw [← List.append_assoc, ← List.append_assoc]
    exact List.Perm.append_right _ List.perm_append_comm
  refine hc D x w hD hcl hp hO' hS _ (fun a' v w' hdf hsz hO' hS' => ?_)
  refine wpList_nil ⟨by rw [put_defers', hdf], setX x i v, fun j hj => ?_, fun d hd hlt => ?_, ?_, hS.trans hS'⟩
  · rcases hkeep j with h | h
    · have := behL_ok hcl hD h
      rw [hj] at this; cases this
    · exact h x v
  · rw [hval, hd, put_at, if_pos ⟨rfl, by rw [hsz]; exact hlt⟩]
  · refine own_perm hO' (List.Perm.trans ?_ (List.Perm.append_left base (owL_perm hperm (upd D i) (setX x i v))))
    rw [owL_append, owL_append, owL_set hrest, owL_dead (cs := es) (fun e he => by simp [live, (hall e he).1, upd]), owL_live (cs := [(i, con, A)]) (fun c hc => ?_)]
    · have e : (setX x i v) i = v := by simp [setX]
      simp only [List.map_cons, List.map_nil, List.nil_append, e]
      exact List.perm_middle.symm
    · simp at hc
      subst hc
      cases con with
      | none => simp [live, upd]
      | some j =>
        simp only [Bool.and_eq_true, bne_iff_ne, ne_eq] at hcon
        have := behL_ok hcl hD hcon.2
        simp [live, upd, hcon.1, this]
end
end Go.Proofs.Ytonohjhmnlfakaa.H
set_option linter.unusedVariables false
set_option linter.unusedSimpArgs false
namespace Go.Proofs.Ytonohjhmnlfakaa.H
structure Pat where
  blk : Int
  off : Int
  dat : ByteArray
def Pat.cells (p : Pat) : List Value := [.int .i64 p.blk, .int .i64 p.off, .string p.dat]
/-- Right, as a Bool. -/
def rightB (p : Pat) : Bool := decide (0 ≤ p.blk ∧ p.blk < 96 ∧ 0 ≤ p.off ∧ p.off < 32 ∧ 1 ≤ p.dat.size ∧ (p.dat.size : Int) ≤ 32 - p.off)
theorem rightB_iff {p : Pat} : rightB p = true ↔ (0 ≤ p.blk ∧ p.blk < 96 ∧ 0 ≤ p.off ∧ p.off < 32 ∧ 1 ≤ p.dat.size ∧ (p.dat.size : Int) ≤ 32 - p.off) := by simp [rightB]
/-- The list with others laid over it from a place on. -/
def over {α : Type} (l : List α) (i : Nat) (d : List α) : List α := l.take i ++ d ++ l.drop (i + d.length)
theorem over_length {α : Type} (l : List α) (i : Nat) (d : List α) (h : i + d.length ≤ l.length) : (over l i d).length = l.length := by simp [over]; omega
theorem bcs_over (b : List UInt8) (i : Nat) (d : ByteArray) (hn : d.size = d.data.toList.length) : (bcs b).toArray.toList.take i ++ bcs d.data.toList ++ (bcs b).toArray.toList.drop (i + d.size) = bcs (over b i d.data.toList) := by
  simp only [bcs, over, List.map_append, List.map_take, List.map_drop, hn]
/-- A block's bytes behind a patch. -/
def app (b : List UInt8) (p : Pat) : List UInt8 := over b p.off.toNat p.dat.data.toList
theorem over_step {α : Type} (b d : List α) (i k : Nat) (hk : k < d.length) (hi : i + d.length ≤ b.length) : (over b i (d.take k)).set (i + k) d[k] = over b i (d.take (k + 1)) := by
  have hl : (d.take k).length = k := by rw [List.length_take]; omega
  have hl1 : (d.take (k + 1)).length = k + 1 := by rw [List.length_take]; omega
  have hbi : (b.take i).length = i := by rw [List.length_take]; omega
  unfold over
  rw [hl, hl1, List.take_succ_eq_append_getElem hk]
  have hd : b.drop (i + k) = b[i + k] :: b.drop (i + k + 1) := (List.drop_eq_getElem_cons (by omega))
  rw [hd, List.set_append_right _ _ (by simp [hl, hbi])]
  simp only [List.length_append, hbi, hl, Nat.sub_self, List.set_cons_zero, List.append_assoc, List.singleton_append, Nat.add_assoc]
theorem bcs_set (l : List UInt8) (i : Nat) (x : UInt8) : (bcs l).set i (.int .u8 (x.toNat : Int)) = bcs (l.set i x) := by
  simp only [bcs, List.map_set]
theorem over_same {α : Type} (b d : List α) (i : Nat) (hi : i + d.length ≤ b.length) : over b i d = b ↔ (b.drop i).take d.length = d := by
  have e : b = b.take i ++ ((b.drop i).take d.length ++ b.drop (i + d.length)) := by
    rw [← List.drop_drop, List.take_append_drop, List.take_append_drop]
  unfold over
  constructor
  · intro h
    rw [List.append_assoc] at h
    have h2 := h.trans e
    have h3 := List.append_cancel_left h2
    exact (List.append_cancel_right h3).symm
  · intro h
    rw [List.append_assoc]
    conv => rhs; rw [e]
    rw [h]
theorem app_idle (b : List UInt8) (p : Pat) (hb : b.length = 32) (hp : rightB p = true) : app b p = b ↔ (b.drop p.off.toNat).take p.dat.size = p.dat.data.toList := by
  obtain ⟨p1, p2, p3, p4, p5, p6⟩ := rightB_iff.1 hp
  have hs : p.dat.size = p.dat.data.toList.length := by rw [Array.length_toList]; rfl
  rw [hs]
  exact over_same _ _ _ (by omega)
/-- Patches as cells. -/
def cellsP (ps : List Pat) : List Value := ps.flatMap Pat.cells
theorem cellsP_length (ps : List Pat) : (cellsP ps).length = ps.length * 3 := by
  induction ps with
  | nil => rfl
  | cons p ps ih => simp only [cellsP, List.flatMap_cons, List.length_append, List.length_cons] at ih ⊢; rw [ih]; simp [Pat.cells]; omega
theorem cellsP_at (ps : List Pat) (k : Nat) (hk : k < ps.length) (j : Nat) (u : Value) (hu : ps[k].cells[j]? = some u) : (cellsP ps)[k * 3 + j]? = some u := by
  induction ps generalizing k with
  | nil => simp at hk
  | cons p ps ih =>
    have h3 : p.cells.length = 3 := rfl
    simp only [cellsP, List.flatMap_cons]
    cases k with
    | zero =>
      have hj : j < 3 := by
        have := (List.getElem?_eq_some_iff.1 hu).1
        simpa [Pat.cells] using this
      rw [List.getElem?_append_left (by rw [h3]; omega)]
      simpa using hu
    | succ k =>
      rw [List.getElem?_append_right (by rw [h3]; omega), h3, show (k + 1) * 3 + j - 3 = k * 3 + j by omega]
      exact ih k (by simpa using hk) (by simpa using hu)
/-- .. behind some, in order. -/
def appAll (b : List UInt8) (ps : List Pat) : List UInt8 := ps.foldl app b
theorem app_length (b : List UInt8) (p : Pat) (hb : b.length = 32) (hp : rightB p = true) : (app b p).length = 32 := by
  obtain ⟨p1, p2, p3, p4, p5, p6⟩ := rightB_iff.1 hp
  have hs : p.dat.size = p.dat.data.toList.length := by rw [Array.length_toList]; rfl
  unfold app
  rw [over_length _ _ _ (by omega), hb]
theorem appAll_snoc (b : List UInt8) (ps : List Pat) (p : Pat) : appAll b (ps ++ [p]) = app (appAll b ps) p := by simp [appAll]
theorem appAll_length (ps : List Pat) : ∀ (b : List UInt8), b.length = 32 → (∀ p ∈ ps, rightB p = true) → (appAll b ps).length = 32 := by
  induction ps with
  | nil => intro b h _; exact h
  | cons p ps ih => intro b h hp; exact ih _ (app_length b p h (hp p List.mem_cons_self)) (fun q hq => hp q (List.mem_cons_of_mem _ hq))
end Go.Proofs.Ytonohjhmnlfakaa.H
set_option linter.unusedVariables false
set_option linter.unusedSimpArgs false
set_option maxRecDepth 100000
namespace Go.Proofs.Ytonohjhmnlfakaa.H
open Go.RowKit
theorem row_int : isRowB Try.prog 3 = some false := by kernel_rfl
theorem row_str : isRowB Try.prog 9 = some false := by kernel_rfl
theorem row_bool : isRowB Try.prog 4 = some false := by kernel_rfl
theorem row_u8 : isRowB Try.prog 5 = some false := by kernel_rfl
theorem row_bys : isRowB Try.prog 22 = some false := by kernel_rfl
theorem row_pats : isRowB Try.prog 51 = some false := by kernel_rfl
theorem row_err : isRowB Try.prog 29 = some false := by kernel_rfl
theorem row_pat : isRowB Try.prog 33 = some true := by kernel_rfl
theorem sz_pat : (Try.prog.info? 33).map (·.size) = some 3 := by kernel_rfl
theorem sz_u8 : (Try.prog.info? 5).map (·.size) = some 1 := by kernel_rfl
theorem info_u8 : (Try.prog.info? 5).map (fun i => (i.zero, i.size, i.bytes)) = some (some (.int .u8 0), 1, 1) := by kernel_rfl
theorem mixed : Try.prog.follows .mixedOrders = true := by kernel_rfl
theorem size_pos_of {s : ByteArray} (h : ¬ s.toList = []) : 1 ≤ s.size := by
  rw [ByteArray.toList_eq] at h
  have : s.data.toList.length ≠ 0 := fun e => h (List.eq_nil_of_length_eq_zero e)
  have h2 : s.size = s.data.toList.length := by rw [Array.length_toList]; rfl
  omega
theorem size_zero_of {s : ByteArray} (h : s.toList = []) : s.size = 0 := by
  rw [ByteArray.toList_eq] at h
  have h2 : s.size = s.data.toList.length := by rw [Array.length_toList]; rfl
  rw [h2, h]; rfl

theorem right_c (w : World) (L : List HP) (a0 a1 : Int) (s : ByteArray) (hO : Own w L) : Calls Try.prog 36 #[.agg #[.int .i64 a0, .int .i64 a1, .string s]] w fun e w' => e = .returned (.bool (rightB ⟨a0, a1, s⟩)) ∧ Own w' L ∧ Same w w' := by
  go_enter Try.func36, Try.ntmps36
  go_wp2_with (refine own_box_agg rfl rfl rfl hO ?_; clear hO; intro b w' hO hS; have c0 := own_cell 0 0 hO rfl rfl; have c1 := own_cell 0 1 hO rfl rfl; have c2 := own_cell 0 2 hO rfl rfl)
  all_goals go_ret
  all_goals refine ⟨congrArg Ending.returned (congrArg Value.bool ?_), own_drop hO, hS⟩
  all_goals rw [Bool.eq_iff_iff]
  all_goals simp [rightB]
  all_goals first | omega | (have h0 := size_zero_of (by assumption); omega) | (have h0 := size_pos_of (by assumption); constructor; (intro h; refine ⟨?_, ?_⟩ <;> omega); (intro h; exact ⟨by assumption, by omega⟩))
theorem right_v (w : World) (L : List HP) (a0 a1 : Int) (s : ByteArray) {r : Bool} (hR : rightB ⟨a0, a1, s⟩ = r) (hO : Own w L) : Calls Try.prog 36 #[.agg #[.int .i64 a0, .int .i64 a1, .string s]] w fun e w' => e = .returned (.bool r) ∧ Own w' L ∧ Same w w' := by
  have := right_c w L a0 a1 s hO
  rw [hR] at this
  exact this
theorem end_c (w : World) (L : List HP) (a0 a1 : Int) (s : ByteArray) (h0 : 0 ≤ a1) (h1 : a1 < 32) (h2 : s.size ≤ 32) (hO : Own w L) : Calls Try.prog 75 #[.agg #[.int .i64 a0, .int .i64 a1, .string s]] w fun e w' => e = .returned (.int .i64 (a1 + s.size)) ∧ Own w' L ∧ Same w w' := by
  go_enter Try.func75, Try.ntmps75
  go_wp2_with (refine own_box_agg rfl rfl rfl hO ?_; clear hO; intro b w' hO hS; have c0 := own_cell 0 0 hO rfl rfl; have c1 := own_cell 0 1 hO rfl rfl; have c2 := own_cell 0 2 hO rfl rfl)
  go_ret
  exact ⟨rfl, own_drop hO, hS⟩
end Go.Proofs.Ytonohjhmnlfakaa.H
set_option linter.unusedVariables false
set_option linter.unusedSimpArgs false
set_option maxRecDepth 100000
namespace Go.Proofs.Ytonohjhmnlfakaa.H
open Go.RowKit
def wrB (p : Pat) (i : Nat) : Bool := decide (p.off ≤ i) && decide ((i : Int) < p.off + p.dat.size)
end Go.Proofs.Ytonohjhmnlfakaa.H
set_option linter.unusedVariables false
set_option linter.unusedSimpArgs false
namespace Go.Proofs.Ytonohjhmnlfakaa.H
open Go.RowKit

/-- The slice v of n elements is owned with its room; its cells are xs. -/
def owns (e size : Nat) (v : Value) (n : Nat) (xs : List Value) : HP := fun p q => q = nul ∧ ((v = .slice none 0 0 ∧ n = 0 ∧ xs = [] ∧ p = nul) ∨
  ∃ g cap cur, v = .slice (some ⟨g, 0, none⟩) n cap ∧ p = one g (.cells cur e (0, 0)) ∧ n ≤ cap ∧ cap ≤ maxLen ∧ cur.size = cap * size ∧ xs.length = n * size ∧ cur.toList.take (n * size) = xs)
section
variable {w w' : World} {L : List HP} {e size n : Nat} {v : Value} {xs : List Value}
theorem owns_row (h : Own w (owns e size v n xs :: L)) : w.ownsRow 0 e size v n xs := by
  obtain ⟨p1, q1, p2, q2, ⟨_, hA⟩, hB, h1, _⟩ := own_cons.1 h
  rcases hA with ⟨rfl, rfl, rfl, rfl⟩ | ⟨g, cap, cur, rfl, rfl, h3, h4, h5, h6, h7⟩
  · exact ⟨by simp, .inl ⟨rfl, rfl⟩⟩
  · exact ⟨h6, .inr ⟨g, cap, cur, rfl, Nat.zero_le _, one_le.1 h1, h3, h4, h5, h7⟩⟩
theorem owns_nil (h : Own w L) : Own w (owns e size (.slice none 0 0) 0 [] :: L) := by
  refine own_head (own_emp.2 h) (fun p q _ _ hp => ⟨hp.2, .inl ⟨rfl, rfl, rfl, hp.1⟩⟩)
theorem owns_of_pts {g cap : Nat} {cur : Array Value} (h : Own w (pts g (.cells cur e) :: L)) (hc : cur.size = cap * size) (hn : n ≤ cap) (hm : cap ≤ maxLen) (hx : cur.toList.take (n * size) = xs) : Own w (owns e size (.slice (some ⟨g, 0, none⟩) n cap) n xs :: L) := by
  refine own_head h (fun p q _ _ hp => ⟨hp.2, .inr ⟨g, cap, cur, rfl, hp.1, hn, hm, hc, ?_, hx⟩⟩)
  have h2 : n * size ≤ cap * size := Nat.mul_le_mul_right _ hn
  rw [← hx, List.length_take, Array.length_toList, hc, Nat.min_eq_left h2]
/-- What is owned beside a block stays, whatever became of that block. -/
theorem own_drop_put {b : Nat} {o : Obj} (h : Own w (pts b o :: L)) (hh : ∀ (i : Nat), i ≠ b → ∀ (x : Obj), w.heap[i]? = some x → w'.heap[i]? = some x) : Own w' L := by
  obtain ⟨p1, q1, p2, q2, ⟨rfl, rfl⟩, hB, h1, h2, h3, h4, d1, d2, d3, d4, d5⟩ := own_cons.1 h
  have hne : ∀ r : Part, dis (one b o) r → r.le w → r.le w' := fun r hd hr i x hi => by
    have hb : r b = none := by
      rcases hd b with hd | hd
      · simp [one] at hd
      · exact hd
    have : i ≠ b := fun e => by subst e; rw [hb] at hi; cases hi
    exact hh i this x (hr _ _ hi)
  exact ⟨p2, q2, hB, hne _ d1 h3, hne _ d2 h4, d5⟩
theorem owns_grown {v' : Value} {n' : Nat} {xs' : List Value} (h : Own w (owns e size v n xs :: L)) (hr : w'.ownsRow 0 e size v' n' xs') (hg : w.grownBy w' v.ownBlock) (hat : v'.ownBlock = v.ownBlock ∨ v'.ownBlock = some w.heap.size) : Own w' (owns e size v' n' xs' :: L) := by
  obtain ⟨hl, hr⟩ := hr
  have keep : ∀ (i : Nat) (x : Obj), some i ≠ v.ownBlock → w.heap[i]? = some x → w'.heap[i]? = some x := fun i x hi hx => (hg.block i (Array.getElem?_eq_some_iff.1 hx).1 hi).trans hx
  have hL : Own w' L := by
    obtain ⟨p1, q1, p2, q2, ⟨hq, hA⟩, hB, h1, _⟩ := own_cons.1 h
    rcases hA with ⟨rfl, rfl, rfl, rfl⟩ | ⟨g, cap, cur, rfl, rfl, h3, h4, h5, h6, h7⟩
    · exact own_heap (own_drop h) (fun i x hx => keep i x (by simp [Value.ownBlock]) hx)
    · have h' : Own w (pts g (.cells cur e) :: L) := own_head h (fun p q hp _ hA => by
        obtain ⟨hq, hA⟩ := hA
        rcases hA with ⟨e1, _⟩ | ⟨g', cap', cur', e1, e2, _⟩
        · cases e1
        · cases e1
          refine ⟨?_, hq⟩
          rw [e2]
          have a1 := one_le.1 h1
          have a2 := one_le.1 (e2 ▸ hp)
          rw [a1] at a2
          cases a2; rfl)
      exact own_drop_put h' (fun i hi x hx => keep i x (by simp [Value.ownBlock]; exact hi) hx)
  rcases hr with ⟨rfl, rfl⟩ | ⟨g, cap, cur, rfl, _, h2, h3, h4, h5, h6⟩
  · have : xs' = [] := List.eq_nil_of_length_eq_zero (by simpa using hl)
    subst this
    exact owns_nil hL
  · refine owns_of_pts (cur := cur) ?_ h5 h3 h4 h6
    rcases hat with hat | hat
    · -- in the old row
      obtain ⟨p1, q1, p2, q2, ⟨hq, hA⟩, hB, h1, _⟩ := own_cons.1 h
      rcases hA with ⟨rfl, rfl, rfl, rfl⟩ | ⟨g0, cap0, cur0, rfl, rfl, _⟩
      · simp [Value.ownBlock] at hat
      · have e0 : g = g0 := by simpa [Value.ownBlock] using hat
        subst e0
        have h' : Own w (pts g (.cells cur0 e) :: L) := own_head h (fun p q hp _ hA => by
          obtain ⟨hq, hA⟩ := hA
          rcases hA with ⟨e1, _⟩ | ⟨g', cap', cur', e1, e2, _⟩
          · cases e1
          · cases e1
            refine ⟨?_, hq⟩
            rw [e2]
            have a1 := one_le.1 h1
            have a2 := one_le.1 (e2 ▸ hp)
            rw [a1] at a2
            cases a2; rfl)
        exact own_put h' (fun i hi x hx => keep i x (by simp [Value.ownBlock]; exact hi) hx) h2
    · have e0 : g = w.heap.size := by simpa [Value.ownBlock] using hat
      subst e0
      -- a new row: nothing of L is there
      obtain ⟨p1, q1, p2, q2, hA, hB, h1', h2', h3', h4', d1, d2, d3, d4, d5⟩ := own_cons.1 h
      obtain ⟨pp, qq, hs, hpp, hqq, hd⟩ := hL
      have hb2 : ∀ r : Part, r.le w → r w.heap.size = none := fun r hr => by
        cases hx : r w.heap.size with
        | none => rfl
        | some x => have := (Array.getElem?_eq_some_iff.1 (hr _ _ hx)).1; omega
      have hL' : p2.le w' ∧ q2.le w' := by
        have hdis : ∀ r : Part, dis p1 r → r.le w → r.le w' := fun r hdr hrw i x hi => by
          refine keep i x (fun he => ?_) (hrw _ _ hi)
          obtain ⟨_, hA⟩ := hA
          rcases hA with ⟨rfl, _, _, rfl⟩ | ⟨g0, cap0, cur0, rfl, rfl, _⟩
          · simp [Value.ownBlock] at he
          · have : i = g0 := by simpa [Value.ownBlock] using he
            subst this
            rcases hdr i with h | h
            · simp [one] at h
            · rw [h] at hi; cases hi
        exact ⟨hdis _ d1 h3', hdis _ d2 h4'⟩
      have hno : ∀ r : Part, r.le w → dis (one w.heap.size (.cells cur e (0, 0))) r := fun r hr i => by
        by_cases ei : i = w.heap.size
        · right; rw [ei]; exact hb2 r hr
        · left; simp [one, ei]
      exact own_cons.2 ⟨_, nul, p2, q2, ⟨rfl, rfl⟩, hB, one_le.2 h2, nul_le _, hL'.1, hL'.2, hno _ h3', hno _ h4', dis_nul _, dis_nul _, d5⟩
theorem owns_rd (h : Own w (owns e size v n xs :: L)) : Rd w size v n xs := by
  obtain ⟨hl, hr⟩ := owns_row h
  rcases hr with ⟨rfl, rfl⟩ | ⟨g, cap, cur, rfl, _, h2, h3, h4, h5, h6⟩
  · have : xs = [] := List.eq_nil_of_length_eq_zero (by simpa using hl)
    subst this
    exact rd_nil _ _
  · exact rd_block h2 h6 (by rw [h5]; exact Nat.mul_le_mul_right _ h3) h3 (by simpa [maxLen] using h4)
/-- Laid open: the block, with the room behind. -/
theorem owns_open (h : Own w (owns e size v n xs :: L)) (hv : v ≠ .slice none 0 0) : ∃ g cap, ∃ rest : List Value, v = .slice (some ⟨g, 0, none⟩) n cap ∧ n ≤ cap ∧ cap ≤ maxLen ∧ (xs ++ rest).length = cap * size ∧ xs.length = n * size ∧ Own w (pts g (.cells (xs ++ rest).toArray e) :: L) := by
  obtain ⟨hl, hr⟩ := owns_row h
  rcases hr with ⟨rfl, rfl⟩ | ⟨g, cap, cur, rfl, _, h2, h3, h4, h5, h6⟩
  · exact absurd rfl hv
  · refine ⟨g, cap, cur.toList.drop (n * size), rfl, h3, h4, ?_, hl, own_head h (fun p q hp _ hA => ?_)⟩
    · rw [← h6, List.take_append_drop, Array.length_toList, h5]
    · obtain ⟨hq, hA⟩ := hA
      rcases hA with ⟨e1, _⟩ | ⟨g', cap', cur', e1, e2, _⟩
      · cases e1
      · cases e1
        refine ⟨?_, hq⟩
        have a2 := one_le.1 (e2 ▸ hp)
        rw [h2] at a2
        cases a2
        rw [e2, ← h6, List.take_append_drop, Array.toArray_toList]
end
section
variable {P : Program} {ops : Array Oper} {rest : List Oper} {o : Oper} {a : Act} {Q : Exit → Act → World → Prop} {w : World} {L : List HP}
/-- append of what is read onto what is owned (the first of what is owned). -/
theorem own_append {T e : TypeId} {s x : Operand} {z : Value} {size bytes n m : Nat} {v vx : Value} {xs news : List Value} (hw : Region.wanted o (yielded ops a.tmps) = true)
    (ho : o.op = .call { callee := .builtin .append, args := #[s, x], argTypes := #[T, T] }) (hs : a.eval s = v) (hx : a.eval x = vx) (ht : P.underlying T = some (.slice e)) (hinfo : (P.info? e).map (fun i => (i.zero, i.size, i.bytes)) = some (some z, size, bytes)) (hz : z.cells.size = size) (hsz : 0 < size)
    (hO : Own w (owns e size v n xs :: L)) (hr : Rd w size vx m news) (h1 : ∀ u ∈ news, u.oneCell' = true) (h63 : n + m ≤ maxLen) (hb : (n + m) * bytes ≤ 140737488355328)
    (h : ∀ v' w', Own w' (owns e size v' (n + m) (xs ++ news) :: L) → Same w w' → (v' = .slice none 0 0 ↔ v = .slice none 0 0 ∧ m = 0) → wpList P ops Q rest (a.put o.dst v') w') : wpList P ops Q (o :: rest) a w := by
  obtain ⟨i, hi, hzz⟩ := Option.map_eq_some_iff.1 hinfo
  simp only [Prod.mk.injEq] at hzz
  obtain ⟨hz', hsz', hby⟩ := hzz
  obtain ⟨hl, A, c, rfl, hc, hcm, hcell⟩ := hr.out
  have key : ∃ v' w', (Builtin.append_ #[T, T] o.type #[v, .slice A m c]).run P w = .ok v' w' ∧ Own w' (owns e size v' (n + m) (xs ++ news) :: L) ∧ Same w w' ∧ (v' = .slice none 0 0 ↔ v = .slice none 0 0 ∧ m = 0) := by
    cases A with
    | some ad =>
      obtain ⟨v', w', hrun, hown, hg, hn, hat⟩ := run_append_own_at (P := P) w 0 T o.type e i z size bytes ht hi hz' hsz' hby hz hsz v n xs (owns_row hO) ad m c news hl (fun j u hu => by obtain ⟨ad', h1, h2⟩ := hcell j u hu; cases h1; exact h2) h1 h63 hb (Nat.zero_le _)
      exact ⟨v', w', hrun, owns_grown hO hown hg hat, Same.of_grown hg, hn⟩
    | none =>
      have hm0 : news = [] := by
        cases news with
        | nil => rfl
        | cons u r => obtain ⟨ad', h1, _⟩ := hcell 0 u (by simp); cases h1
      subst hm0
      have hm : m = 0 := by
        have h0 : m * size = 0 := by simpa using hl.symm
        rcases Nat.mul_eq_zero.1 h0 with h | h
        · exact h
        · omega
      subst hm
      obtain ⟨hl2, hr2⟩ := owns_row hO
      have hrun : (Builtin.append_ #[T, T] o.type #[v, .slice none 0 c]).run P w = .ok v w := by
        rcases hr2 with ⟨rfl, rfl⟩ | ⟨g, cap, cur, rfl, _, h2, h3, h4, h5, h6⟩
        · simp [Builtin.append_, run_underlying ht, sizeOf, typeInfo, hi, Builtin.lenOf, Builtin.firstCells]
        · simp [Builtin.append_, run_underlying ht, sizeOf, typeInfo, hi, Builtin.lenOf, Builtin.firstCells, h3, storeCells]
      exact ⟨v, w, hrun, by simpa using hO, Same.refl _, by simp⟩
  obtain ⟨v', w', hrun, hO', hS, hn⟩ := key
  refine ev hw ?_ (h v' w' hO' hS hn)
  simp only [execOp, ho]
  simp [resolve, invoke, builtin, hs, hx, hrun, Result.andThen]
/-- '[]T{}'. -/
theorem own_lit0 {T e : TypeId} {size : Nat} (hw : Region.wanted o (yielded ops a.tmps) = true) (ho : o.op = .buildSlice T 0 #[]) (ht : P.underlying T = some (.slice e)) (hsz : (P.info? e).map (·.size) = some size) (hO : Own w L)
    (h : ∀ b w', Own w' (owns e size (.slice (some ⟨b, 0, none⟩) 0 0) 0 [] :: L) → Same w w' → wpList P ops Q rest (a.put o.dst (.slice (some ⟨b, 0, none⟩) 0 0)) w') : wpList P ops Q (o :: rest) a w := by
  cases hi : P.info? e with
  | none => rw [hi] at hsz; cases hsz
  | some i =>
    have hrun : (execOp a.eval o).run P w = .ok (.value (.slice (some ⟨w.heap.size, 0, none⟩) 0 0)) (w.alloc (.cells #[] e)) := by
      simp only [execOp, ho]
      have h0 : Array.range 0 = #[] := rfl
      simp [Instr.buildSlice, run_underlying ht, sizeOf, typeInfo, hi, Instr.fill, newRow, newObj, h0]
      rfl
    refine ev hw hrun (h _ _ (owns_of_pts (own_alloc_new hO _) (by simp) (Nat.le_refl _) (by decide) (by simp)) (Same.alloc _ _))
end
end Go.Proofs.Ytonohjhmnlfakaa.H
set_option linter.unusedVariables false
set_option linter.unusedSimpArgs false
set_option maxRecDepth 100000
namespace Go.Proofs.Ytonohjhmnlfakaa.H
open Go.RowKit
/-- What holds at each round of the reference's Apply: so many bytes are laid over. -/
def RApplyInv (L : List HP) (w0 : World) (b g : Nat) (bs : List UInt8) (a0 a1 : Int) (s : ByteArray) (rst : List Value) (k : Nat) (wr : World) : Prop :=
  Own wr (pts g (.cells (bcs (over bs a1.toNat (s.data.toList.take k)) ++ rst).toArray 5) :: pts b (.cells #[.int .i64 a0, .int .i64 a1, .string s] 33) :: L) ∧ Same w0 wr
end Go.Proofs.Ytonohjhmnlfakaa.H
set_option linter.unusedVariables false
set_option linter.unusedSimpArgs false
set_option maxRecDepth 100000
namespace Go.Proofs.Ytonohjhmnlfakaa.H
open Go.RowKit
end Go.Proofs.Ytonohjhmnlfakaa.H
