/- Regions of open order whose calls hand over what they make, and whose last operation is a store into what is owned all the time. -/
import Derived.Test.YtjilkbkafigloaaH12
set_option linter.unusedVariables false
set_option linter.unusedSimpArgs false
namespace Go.Proofs.Ytjilkbkafigloaa.H
open Go.RowKit
/-- What is owned: bA till t is done, then bB; and what is handed over. -/
def stB (t : Nat) (bA : List HP) (bB : (Nat → Value) → List HP) (cs : List Ent) (D : Nat → Bool) (x : Nat → Value) : List HP := (if D t then bB x else bA) ++ owL cs D x
theorem stB_no {t : Nat} {bA : List HP} {bB : (Nat → Value) → List HP} {cs : List Ent} {D : Nat → Bool} {x : Nat → Value} (h : D t = false) : stB t bA bB cs D x = bA ++ owL cs D x := by unfold stB; rw [h]; rfl
theorem stB_yes {t : Nat} {bA : List HP} {bB : (Nat → Value) → List HP} {cs : List Ent} {D : Nat → Bool} {x : Nat → Value} (h : D t = true) : stB t bA bB cs D x = bB x ++ owL cs D x := by unfold stB; rw [h]; rfl
theorem owL_till {cs : List Ent} {D : Nat → Bool} {x : Nat → Value} {t : Nat} (hD : ∀ i, i < t → D i = true) (ht : D t = false) (hb : cs.all (fun c => decide (c.1 < t) && (match c.2.1 with | none => true | some j => decide (j ≤ t))) = true) : owL cs D x = (cs.filter fun c => c.2.1.isNone || c.2.1 == some t).map fun c => c.2.2 (x c.1) := by
  induction cs with
  | nil => rfl
  | cons c cs ih =>
    simp only [List.all_cons, Bool.and_eq_true, decide_eq_true_eq] at hb
    rw [owL_cons, ih hb.2]
    obtain ⟨i, con, A⟩ := c
    have h1 := hD i hb.1.1
    cases con with
    | none => simp [live, h1, mk]
    | some j =>
      have hj : j ≤ t := by simpa using hb.1.2
      by_cases e : j = t
      · subst e; simp [live, h1, ht, mk]
      · have h2 := hD j (by omega)
        simp [live, h1, h2, mk, e]
section
variable {P : Program} {Q : Exit → Act → World → Prop}
theorem fs_lift {l : List Oper} {a : Act} {vs : (Nat → Value) → List Value} {bA : List HP} {bB : (Nat → Value) → List HP} {cs : List Ent} {w0 : World} {i : Nat} {o : Oper} (t : Nat) (hne : t ≠ i) (hb : (behL l i).getD t false = true)
    (h : FS P l Q a vs (fun D x => bA ++ owL cs D x) w0 i o) : FS P l Q a vs (stB t bA bB cs) w0 i o := by
  intro D x w hD hcl hp hO hS
  have ht : D t = false := behL_ok hcl hD hb
  have ht2 : upd D i t = false := by unfold upd; rw [if_neg hne]; exact ht
  rw [stB_no ht] at hO
  have := h D x w hD hcl hp hO hS
  simp only [stB_no ht2]
  exact this
theorem fs_end {l : List Oper} {a : Act} {vs : (Nat → Value) → List Value} {bA : List HP} {bB : (Nat → Value) → List HP} {cs : List Ent} {w0 : World} {t : Nat} {o : Oper} (ho : l.toArray[t]? = some o) (hd : o.dst = none) (hall : (List.range t).all (fun j => (behL l j).getD t false) = true) (hb : cs.all (fun c => decide (c.1 < t) && (match c.2.1 with | none => true | some j => decide (j ≤ t))) = true)
    (hc : ∀ x w, Own w (bA ++ (cs.filter fun c => c.2.1.isNone || c.2.1 == some t).map fun c => c.2.2 (x c.1)) → Same w0 w → ∀ N : Exit → Act → World → Prop,
      (∀ (a' : Act) w', a'.defers = a.defers → Own w' (bB x ++ (cs.filter fun c => c.2.1.isNone).map fun c => c.2.2 (x c.1)) → Same w w' → wpList P l.toArray N [] a' w') → wpList P l.toArray N [o] (putO a l (vs x)) w) :
    FS P l Q a vs (stB t bA bB cs) w0 t o := by
  intro D x w hD hcl hp hO hS
  have hall' : ∀ j, j < t → D j = true := fun j hj => by
    have := List.all_eq_true.1 hall j (List.mem_range.2 hj)
    exact ahead_yes ho hcl hp (by omega) this
  rw [stB_no hD, owL_till hall' hD hb] at hO
  refine hc x w hO hS _ (fun a' w' hdf hO' hS' => ?_)
  refine wpList_nil ⟨hdf, x, fun _ _ => rfl, fun d hd' _ => (by rw [hd] at hd'; cases hd'), ?_, hS.trans hS'⟩
  have ht2 : upd D t t = true := by simp [upd]
  have h2 : ∀ j, j < t + 1 → upd D t j = true := fun j hj => by
    unfold upd
    by_cases e : j = t
    · rw [if_pos e]
    · rw [if_neg e]; exact hall' j (by omega)
  rw [stB_yes ht2, owL_end h2 (by
    rw [List.all_eq_true] at hb ⊢
    intro c hcm
    have := hb c hcm
    simp only [Bool.and_eq_true, decide_eq_true_eq] at this ⊢
    refine ⟨by omega, ?_⟩
    cases hcc : c.2.1 with
    | none => rfl
    | some j =>
      have h3 := this.2
      rw [hcc] at h3
      simp only [decide_eq_true_eq] at h3
      simp only [decide_eq_true_eq]
      omega)]
  exact hO'
/-- The same with nothing handed over; some operations may come behind the store. -/
def st0 (t : Nat) (bA bB : List HP) (D : Nat → Bool) (_ : Unit) : List HP := if D t then bB else bA
theorem fs_lift0 {l : List Oper} {a : Act} {vs : Unit → List Value} {bA bB : List HP} {w0 : World} {i : Nat} {o : Oper} (t : Nat) (hne : t ≠ i) (hb : (behL l i).getD t false = true)
    (h : FS P l Q a vs (fun _ _ => bA) w0 i o) : FS P l Q a vs (st0 t bA bB) w0 i o := by
  intro D x w hD hcl hp hO hS
  have ht : D t = false := behL_ok hcl hD hb
  have ht2 : upd D i t = false := by unfold upd; rw [if_neg hne]; exact ht
  have e1 : st0 t bA bB D x = bA := by unfold st0; rw [ht]; rfl
  have e2 : st0 t bA bB (upd D i) = fun _ => bA := funext fun x' => by unfold st0; rw [ht2]; rfl
  rw [e1] at hO
  have := h D x w hD hcl hp hO hS
  rw [e2]
  exact this
theorem fs_free0 {l : List Oper} {a : Act} {vs : Unit → List Value} {bA bB : List HP} {w0 : World} {i : Nat} {o : Oper} (t : Nat) (hne : t ≠ i)
    (hy : ∀ D x, D i = false → (∀ (j : Nat) (oj : Oper), l.toArray[j]? = some oj → D j = true → ∀ e ∈ oj.after, Region.binds .any e = true → D e.on = true) → (∀ e ∈ o.after, Region.binds .any e = true → D e.on = true) → YieldsIn P l.toArray (Cls w0 (st0 t bA bB D x)) o ((vs x).getD i undef) (putO a l (vs x))) : FS P l Q a vs (st0 t bA bB) w0 i o :=
  fs_pure (fun D x => by
    have : upd D i t = D t := by unfold upd; rw [if_neg hne]
    unfold st0
    rw [this]) hy
theorem fs_end0 {l : List Oper} {a : Act} {vs : Unit → List Value} {bA bB : List HP} {w0 : World} {t : Nat} {o : Oper} (hd : o.dst = none)
    (hc : ∀ w, Own w bA → Same w0 w → ∀ N : Exit → Act → World → Prop,
      (∀ (a' : Act) w', a'.defers = a.defers → Own w' bB → Same w w' → wpList P l.toArray N [] a' w') → wpList P l.toArray N [o] (putO a l (vs ())) w) :
    FS P l Q a vs (st0 t bA bB) w0 t o := by
  intro D x w hD hcl hp hO hS
  have e1 : st0 t bA bB D x = bA := by unfold st0; rw [hD]; rfl
  rw [e1] at hO
  refine hc w hO hS _ (fun a' w' hdf hO' hS' => ?_)
  refine wpList_nil ⟨hdf, x, fun _ _ => rfl, fun d hd' _ => (by rw [hd] at hd'; cases hd'), ?_, hS.trans hS'⟩
  have ht2 : upd D t t = true := by simp [upd]
  have e2 : st0 t bA bB (upd D t) x = bB := by unfold st0; rw [ht2]; rfl
  rw [e2]
  exact hO'
end
end Go.Proofs.Ytjilkbkafigloaa.H
