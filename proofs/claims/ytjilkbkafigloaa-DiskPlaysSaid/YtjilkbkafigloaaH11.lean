/- The same law, over what is owned. -/
import Derived.Test.YtjilkbkafigloaaH10
set_option linter.unusedVariables false
set_option linter.unusedSimpArgs false
namespace Go.Proofs.Ytjilkbkafigloaa.H
open Go.RowKit
section
variable {P : Program} {Q : Exit → Act → World → Prop} {α : Type}
theorem putV_list : ∀ (l : List Oper) (vs : List Value) (i : Nat) (f : Nat → Value) (a : Act), vs.length = l.length → (∀ j, j < l.length → f (i + j) = vs.getD j undef) → putV f i l a = putO a l vs
  | [], [], _, _, _, _, _ => rfl
  | o :: l, v :: vs, i, f, a, hl, h => by
    rw [putV, putO]
    have h0 := h 0 (by simp)
    rw [Nat.add_zero] at h0
    rw [h0]
    refine putV_list l vs (i + 1) f _ (by simpa using hl) (fun j hj => ?_)
    have := h (j + 1) (by simpa using hj)
    rw [show i + 1 + j = i + (j + 1) by omega, this]
    rfl
theorem putO_size' : ∀ (l : List Oper) (vs : List Value) (a : Act), (putO a l vs).tmps.size = a.tmps.size
  | [], _, _ => by simp [putO]
  | o :: l, [], _ => by simp [putO]
  | o :: l, v :: vs, a => by rw [putO, putO_size' l vs, put_size']
theorem putO_defers' : ∀ (l : List Oper) (vs : List Value) (a : Act), (putO a l vs).defers = a.defers
  | [], _, _ => by simp [putO]
  | o :: l, [], _ => by simp [putO]
  | o :: l, v :: vs, a => by rw [putO, putO_defers' l vs, put_defers']
/-- What one operation must keep, wherever it is taken: D: what is done; x: the ghosts. -/
def FS (P : Program) (l : List Oper) (Q : Exit → Act → World → Prop) (a : Act) (vs : α → List Value) (HL : (Nat → Bool) → α → List HP) (w0 : World) (i : Nat) (o : Oper) : Prop :=
  ∀ (D : Nat → Bool) (x : α) (w : World), D i = false → (∀ (j : Nat) (oj : Oper), l.toArray[j]? = some oj → D j = true → ∀ e ∈ oj.after, Region.binds .any e = true → D e.on = true) → (∀ e ∈ o.after, Region.binds .any e = true → D e.on = true) → Own w (HL D x) → Same w0 w →
    wpList P l.toArray (Exit.then (fun a' w' => a'.defers = a.defers ∧ ∃ x', (∀ j, D j = true → (vs x').getD j undef = (vs x).getD j undef) ∧ (∀ d, o.dst = some d → d < a.tmps.size → a'.tmps[d]? = some ((vs x').getD i undef)) ∧ Own w' (HL (upd D i) x') ∧ Same w0 w') Q) [o] (putO a l (vs x)) w
def FSteps (P : Program) (l : List Oper) (Q : Exit → Act → World → Prop) (a : Act) (vs : α → List Value) (HL : (Nat → Bool) → α → List HP) (w0 : World) : Nat → List Oper → Prop
  | _, [] => True
  | i, o :: r => FS P l Q a vs HL w0 i o ∧ FSteps P l Q a vs HL w0 (i + 1) r
theorem fsteps_get {l : List Oper} {a : Act} {vs : α → List Value} {HL : (Nat → Bool) → α → List HP} {w0 : World} : ∀ {r : List Oper} {i : Nat}, FSteps P l Q a vs HL w0 i r → ∀ (j : Nat) (o : Oper), r[j]? = some o → FS P l Q a vs HL w0 (i + j) o
  | [], _, _, _, _, h => by simp at h
  | o :: r, i, h, 0, o', ho => by simp at ho; subst ho; exact h.1
  | o :: r, i, h, j + 1, o', ho => by
    have := fsteps_get h.2 j o' (by simpa using ho)
    rwa [show i + 1 + j = i + (j + 1) by omega] at this
theorem wp_region_own {id : Nat} {l : List Oper} {a : Act} {w : World} (vs : α → List Value) (HL : (Nat → Bool) → α → List HP) (w0 : World) (x0 : α) (k : Nat) (hlen : ∀ x, (vs x).length = l.length) (hm : P.follows .mixedOrders = true) (hB : freeOk l.toArray k = true) (hk : a.tmps.size = k)
    (h0 : Own w.drew (HL (fun _ => false) x0)) (hs0 : Same w0 w.drew)
    (hQ : ∀ ch (a a' : Act) w, a.defers = a'.defers → Q (.panic ch) a w → Q (.panic ch) a' w)
    (hsteps : FSteps P l Q a vs HL w0 0 l)
    (hend : ∀ x w D, (∀ i, i < l.length → D i = true) → Own w (HL D x) → Same w0 w → Q .normal (putO a l (vs x)) w) : (Code.region id l.toArray true).wp P Q a w := by
  have hfin : ∀ x, putV (fun j => (vs x).getD j undef) 0 l a = putO a l (vs x) := fun x => putV_list l (vs x) 0 _ a (hlen x) (fun j _ => by rw [Nat.zero_add])
  refine wp_region_free (fun i x => (vs x).getD i undef) (fun D x w => Own w (HL D x) ∧ Same w0 w) x0 k hm hB hk ⟨h0, hs0⟩ hQ (fun i o ho => ?_) (fun x w D hD hS => ?_)
  · intro D x w h1 h2 h3 hS
    have := fsteps_get hsteps i o (by simpa using ho)
    rw [Nat.zero_add] at this
    rw [hfin]
    exact this D x w h1 h2 h3 hS.1 hS.2
  · rw [hfin]
    exact hend x w D hD hS.1 hS.2
/-- An operation that yields one value, and changes nothing. -/
theorem fs_pure {l : List Oper} {a : Act} {vs : α → List Value} {HL : (Nat → Bool) → α → List HP} {w0 : World} {i : Nat} {o : Oper} (hH : ∀ D x, HL (upd D i) x = HL D x)
    (hy : ∀ D x, D i = false → (∀ (j : Nat) (oj : Oper), l.toArray[j]? = some oj → D j = true → ∀ e ∈ oj.after, Region.binds .any e = true → D e.on = true) → (∀ e ∈ o.after, Region.binds .any e = true → D e.on = true) → YieldsIn P l.toArray (Cls w0 (HL D x)) o ((vs x).getD i undef) (putO a l (vs x))) : FS P l Q a vs HL w0 i o := by
  intro D x w h1 h2 h3 hO hS
  have key : ∀ w', Own w' (HL D x) ∧ Same w0 w' → wpList P l.toArray (Exit.then (fun a' w' => a'.defers = a.defers ∧ ∃ x', (∀ j, D j = true → (vs x').getD j undef = (vs x).getD j undef) ∧ (∀ d, o.dst = some d → d < a.tmps.size → a'.tmps[d]? = some ((vs x').getD i undef)) ∧ Own w' (HL (upd D i) x') ∧ Same w0 w') Q) [] ((putO a l (vs x)).put o.dst ((vs x).getD i undef)) w' := fun w' hC => by
    refine wpList_nil ⟨by rw [put_defers', putO_defers'], x, fun _ _ => rfl, fun d hd hlt => ?_, by rw [hH]; exact hC.1, hC.2⟩
    rw [hd, put_at, if_pos ⟨rfl, by rw [putO_size']; exact hlt⟩]
  refine wpList_step fun K hK => ?_
  rcases hy D x h1 h2 h3 with ⟨h4, h5⟩ | ⟨h4, h5⟩
  · rw [if_pos h4]
    exact Oper.wp_of_quiet (C := Cls w0 (HL D x)) (K := fun a' => a' = (putO a l (vs x)).put o.dst ((vs x).getD i undef)) ⟨hO, hS⟩ (fun a' w' hC ha => hK _ _ (by rw [ha]; exact key w' hC)) ⟨_, h5, rfl⟩
  · rw [if_neg (by rw [h4]; simp)]
    have h6 := key w ⟨hO, hS⟩
    rw [h5] at h6
    exact hK _ _ h6
def depB (after : Array Edge) (i : Nat) : Bool := after.toList.any fun e => Region.binds .any e && e.on == i
/-- What must be done ahead is done. -/
theorem dep_yes {D : Nat → Bool} {after : Array Edge} {j : Nat} (hp : ∀ e ∈ after, Region.binds .any e = true → D e.on = true) (h : depB after j = true) : D j = true := by
  unfold depB at h
  rw [List.any_eq_true] at h
  obtain ⟨e, he, h⟩ := h
  simp only [Bool.and_eq_true, beq_iff_eq] at h
  exact h.2 ▸ hp e (by simpa using he) h.1
/-- What comes behind one that is not done is not done. -/
theorem dep_no {l : List Oper} {D : Nat → Bool} {i : Nat} (hcl : ∀ (j : Nat) (oj : Oper), l.toArray[j]? = some oj → D j = true → ∀ e ∈ oj.after, Region.binds .any e = true → D e.on = true) (hD : D i = false) (j : Nat) (h : (match l.toArray[j]? with | some oj => depB oj.after i | none => false) = true) : D j = false := by
  cases hj : l.toArray[j]? with
  | none => rw [hj] at h; cases h
  | some oj =>
    rw [hj] at h
    cases hd : D j with
    | false => rfl
    | true =>
      have := dep_yes (hcl j oj hj hd) h
      rw [hD] at this; cases this
/-- A call, met in a list of operations. -/
theorem ev_call {ops : Array Oper} {o : Oper} {rest : List Oper} {a : Act} {w : World} {f : FuncId} {args : Array Value} (hw : Region.wanted o (yielded ops a.tmps) = true) (hrun : (execOp a.eval o).run P w = .ok (.enter f args) w)
    (h : Calls P f args w (fun e w' => ∃ v, e = .returned v ∧ wpList P ops Q rest (a.put o.dst v) w')) : wpList P ops Q (o :: rest) a w := by
  refine wpList_step fun N hN => ?_
  rw [if_pos hw]
  unfold Oper.wp
  rw [hrun, Oper.upon_enter]
  refine Calls.mono h fun e w' he => ?_
  obtain ⟨v, rfl, hv⟩ := he
  exact hN _ _ hv
/-- What is owned where b is true. -/
def mk (b : Bool) (A : HP) : List HP := if b then [A] else []
theorem mk_t {A : HP} : mk true A = [A] := rfl
theorem mk_f {A : HP} : mk false A = [] := rfl
end
end Go.Proofs.Ytjilkbkafigloaa.H
