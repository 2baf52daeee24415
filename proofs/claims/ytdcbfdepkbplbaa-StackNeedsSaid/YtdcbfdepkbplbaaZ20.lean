/- Regions of open order whose calls hand over what they make: what each has made is owned from then on. The reference's Fork. PatchAlls: the walk. full, of the statements: a block of 32 bytes. PatchOrder: the walk. PatchTwo: the walk. PatchJoins: the walk. -/
import Derived.Test.YtdcbfdepkbplbaaZ17
import Derived.Test.YtdcbfdepkbplbaaZ19
import Derived.Test.YtdcbfdepkbplbaaZ04
import Derived.Test.YtdcbfdepkbplbaaZ06
import Derived.Test.YtdcbfdepkbplbaaZ03
import Derived.Test.YtdcbfdepkbplbaaZ07
set_option linter.unusedVariables false
set_option linter.unusedSimpArgs false
namespace Go.Proofs.Ytdcbfdepkbplbaa.H
open Go.RowKit
def setX (x : Nat → Value) (i : Nat) (v : Value) : Nat → Value := fun j => if j = i then v else x j
/-- What an operation hands over: its number; the one that takes it away; what it is. -/
abbrev Ent := Nat × Option Nat × (Value → HP)
def live (D : Nat → Bool) (c : Ent) : Bool := D c.1 && (match c.2.1 with | none => true | some j => !D j)
/-- What the operations that are done have handed over. -/
def owL (cs : List Ent) (D : Nat → Bool) (x : Nat → Value) : List HP := cs.flatMap fun c => mk (live D c) (c.2.2 (x c.1))
def ment (i : Nat) (c : Ent) : Bool := c.1 == i || c.2.1 == some i
theorem owL_none (cs : List Ent) (x : Nat → Value) : owL cs (fun _ => false) x = [] := by
  unfold owL
  induction cs with
  | nil => rfl
  | cons c cs ih => rw [List.flatMap_cons, ih]; rfl
theorem owL_cons (c : Ent) (cs : List Ent) (D : Nat → Bool) (x : Nat → Value) : owL (c :: cs) D x = mk (live D c) (c.2.2 (x c.1)) ++ owL cs D x := rfl
theorem owL_append (cs cs' : List Ent) (D : Nat → Bool) (x : Nat → Value) : owL (cs ++ cs') D x = owL cs D x ++ owL cs' D x := by simp [owL]
theorem owL_live {cs : List Ent} {D : Nat → Bool} {x : Nat → Value} (h : ∀ c ∈ cs, live D c = true) : owL cs D x = cs.map fun c => c.2.2 (x c.1) := by
  induction cs with
  | nil => rfl
  | cons c cs ih => rw [owL_cons, ih (fun c hc => h c (List.mem_cons_of_mem _ hc)), h c (List.mem_cons_self ..)]; rfl
theorem owL_dead {cs : List Ent} {D : Nat → Bool} {x : Nat → Value} (h : ∀ c ∈ cs, live D c = false) : owL cs D x = [] := by
  induction cs with
  | nil => rfl
  | cons c cs ih => rw [owL_cons, ih (fun c hc => h c (List.mem_cons_of_mem _ hc)), h c (List.mem_cons_self ..)]; rfl
theorem owL_set {cs : List Ent} {D : Nat → Bool} {x : Nat → Value} {i : Nat} {v : Value} (h : ∀ c ∈ cs, ment i c = false) : owL cs (upd D i) (setX x i v) = owL cs D x := by
  induction cs with
  | nil => rfl
  | cons c cs ih =>
    rw [owL_cons, owL_cons, ih (fun c hc => h c (List.mem_cons_of_mem _ hc))]
    have h1 := h c (List.mem_cons_self ..)
    simp only [ment, Bool.or_eq_false_iff, beq_eq_false_iff_ne] at h1
    have e1 : live (upd D i) c = live D c := by
      unfold live upd
      rw [if_neg h1.1]
      cases hc : c.2.1 with
      | none => rfl
      | some j =>
        have : j ≠ i := fun e => h1.2 (by rw [hc, e])
        simp [this]
    have e2 : setX x i v c.1 = x c.1 := by unfold setX; rw [if_neg h1.1]
    rw [e1, e2]
theorem owL_perm {cs cs' : List Ent} (h : cs.Perm cs') (D : Nat → Bool) (x : Nat → Value) : (owL cs D x).Perm (owL cs' D x) := List.Perm.flatMap_right _ h
theorem ow_live {w : World} {base : List HP} {cs : List Ent} {D : Nat → Bool} {x : Nat → Value} (k : Nat) {c : Ent} (h : Own w (base ++ owL cs D x)) (hk : cs[k]? = some c) (hD : live D c = true) : ∃ L', Own w (c.2.2 (x c.1) :: L') := by
  have := own_perm h (List.Perm.append_left base (owL_perm (perm_at hk) D x))
  rw [owL_cons, hD, mk_t] at this
  exact ⟨_, own_perm this List.perm_middle⟩
theorem ow_get {w : World} {base : List HP} {cs : List Ent} {D : Nat → Bool} {x : Nat → Value} (k : Nat) {i : Nat} {A : Value → HP} (h : Own w (base ++ owL cs D x)) (hk : cs[k]? = some (i, none, A)) (h1 : D i = true) : ∃ L', Own w (A (x i) :: L') :=
  ow_live k h hk (by simp [live, h1])
theorem ow_gets {w : World} {base : List HP} {cs : List Ent} {D : Nat → Bool} {x : Nat → Value} (k : Nat) {i j : Nat} {A : Value → HP} (h : Own w (base ++ owL cs D x)) (hk : cs[k]? = some (i, some j, A)) (h1 : D i = true) (h2 : D j = false) : ∃ L', Own w (A (x i) :: L') :=
  ow_live k h hk (by simp [live, h1, h2])
theorem owL_end {cs : List Ent} {D : Nat → Bool} {x : Nat → Value} {n : Nat} (hD : ∀ i, i < n → D i = true) (hb : cs.all (fun c => decide (c.1 < n) && (match c.2.1 with | none => true | some j => decide (j < n))) = true) : owL cs D x = (cs.filter fun c => c.2.1.isNone).map fun c => c.2.2 (x c.1) := by
  induction cs with
  | nil => rfl
  | cons c cs ih =>
    simp only [List.all_cons, Bool.and_eq_true, decide_eq_true_eq] at hb
    rw [owL_cons, ih hb.2]
    obtain ⟨i, con, A⟩ := c
    have h1 := hD i hb.1.1
    cases con with
    | none => simp [live, h1, mk]
    | some j =>
      have h2 := hD j (by simpa using hb.1.2)
      simp [live, h1, h2, mk]
/-- Which operations come behind one. -/
def behR (i : Nat) : Nat → List Bool → List Oper → List Bool
  | _, acc, [] => acc
  | k, acc, o :: r => behR i (k + 1) (acc ++ [k == i || o.after.toList.any fun e => Region.binds .any e && acc.getD e.on false]) r
def behL (l : List Oper) (i : Nat) : List Bool := behR i 0 [] l
theorem behR_ok {l : List Oper} {D : Nat → Bool} {i : Nat} (hcl : ∀ (j : Nat) (oj : Oper), l.toArray[j]? = some oj → D j = true → ∀ e ∈ oj.after, Region.binds .any e = true → D e.on = true) (hD : D i = false) :
    ∀ (r : List Oper) (k : Nat) (acc : List Bool), (∀ (j : Nat) o, r[j]? = some o → l.toArray[k + j]? = some o) → (∀ j, acc.getD j false = true → D j = false) → acc.length = k → ∀ j, (behR i k acc r).getD j false = true → D j = false
  | [], _, acc, _, h, _ => h
  | o :: r, k, acc, hl, h, hk => by
    refine behR_ok hcl hD r (k + 1) _ (fun j o' ho => ?_) (fun j hj => ?_) (by simp [hk])
    · have := hl (j + 1) o' (by simpa using ho)
      rwa [show k + (j + 1) = k + 1 + j by omega] at this
    · rcases Nat.lt_trichotomy j k with hlt | rfl | hgt
      · refine h j ?_
        rw [List.getD_eq_getElem?_getD, List.getElem?_append_left (by omega), ← List.getD_eq_getElem?_getD] at hj
        exact hj
      · rw [List.getD_eq_getElem?_getD, List.getElem?_append_right (by omega), hk, Nat.sub_self] at hj
        simp only [List.getElem?_cons_zero, Option.getD_some, Bool.or_eq_true, beq_iff_eq, List.any_eq_true, Bool.and_eq_true] at hj
        rcases hj with rfl | ⟨e, he, hb, ha⟩
        · exact hD
        · cases hd : D j with
          | false => rfl
          | true =>
            have := hcl j o (by have := hl 0 o rfl; rwa [Nat.add_zero] at this) hd e (by simpa using he) hb
            rw [h _ ha] at this
            cases this
      · exfalso
        rw [List.getD_eq_getElem?_getD, List.getElem?_eq_none (by simp; omega)] at hj
        cases hj
theorem behL_ok {l : List Oper} {D : Nat → Bool} {i : Nat} (hcl : ∀ (j : Nat) (oj : Oper), l.toArray[j]? = some oj → D j = true → ∀ e ∈ oj.after, Region.binds .any e = true → D e.on = true) (hD : D i = false) {j : Nat} (h : (behL l i).getD j false = true) : D j = false :=
  behR_ok hcl hD l 0 [] (fun j o ho => by rw [Nat.zero_add]; simpa using ho) (fun j hj => by simp at hj) rfl j h
theorem owL_upd {cs : List Ent} {D : Nat → Bool} {x : Nat → Value} {i : Nat} (h : (cs.all fun c => !ment i c) = true) : owL cs (upd D i) x = owL cs D x := by
  induction cs with
  | nil => rfl
  | cons c cs ih =>
    simp only [List.all_cons, Bool.and_eq_true, Bool.not_eq_true'] at h
    rw [owL_cons, owL_cons, ih h.2]
    have h1 := h.1
    simp only [ment, Bool.or_eq_false_iff, beq_eq_false_iff_ne] at h1
    have e1 : live (upd D i) c = live D c := by
      unfold live upd
      rw [if_neg h1.1]
      cases hc : c.2.1 with
      | none => rfl
      | some j =>
        have : j ≠ i := fun e => h1.2 (by rw [hc, e])
        simp [this]
    rw [e1]
/-- What must be done ahead, directly or through others, is done. -/
theorem ahead_yes {l : List Oper} {D : Nat → Bool} {i j : Nat} {o : Oper} (ho : l.toArray[i]? = some o) (hcl : ∀ (j : Nat) (oj : Oper), l.toArray[j]? = some oj → D j = true → ∀ e ∈ oj.after, Region.binds .any e = true → D e.on = true) (hp : ∀ e ∈ o.after, Region.binds .any e = true → D e.on = true) (hne : j ≠ i) (h : (behL l j).getD i false = true) : D j = true := by
  cases hD : D j with
  | true => rfl
  | false =>
    have hcl' : ∀ (k : Nat) (ok : Oper), l.toArray[k]? = some ok → upd D i k = true → ∀ e ∈ ok.after, Region.binds .any e = true → upd D i e.on = true := fun k ok hk hu e he hb => by
      unfold upd at hu ⊢
      split
      · rfl
      · by_cases e2 : k = i
        · subst e2
          rw [ho] at hk
          cases hk
          exact hp e he hb
        · rw [if_neg e2] at hu
          exact hcl k ok hk hu e he hb
    have h2 := behL_ok hcl' (i := j) (by unfold upd; rw [if_neg hne]; exact hD) h
    simp [upd] at h2
section
variable {P : Program} {Q : Exit → Act → World → Prop}
/-- An operation that yields one value. -/
theorem fs_pureO {l : List Oper} {a : Act} {vs : (Nat → Value) → List Value} {base : List HP} {cs : List Ent} {w0 : World} {i : Nat} {o : Oper} (hm : (cs.all fun c => !ment i c) = true)
    (hy : ∀ D x, D i = false → (∀ (j : Nat) (oj : Oper), l.toArray[j]? = some oj → D j = true → ∀ e ∈ oj.after, Region.binds .any e = true → D e.on = true) → (∀ e ∈ o.after, Region.binds .any e = true → D e.on = true) → YieldsIn P l.toArray (Cls w0 (base ++ owL cs D x)) o ((vs x).getD i undef) (putO a l (vs x))) :
    FS P l Q a vs (fun D x => base ++ owL cs D x) w0 i o :=
  fs_pure (fun D x => by rw [owL_upd hm]) hy
/-- An operation that hands over something new, and may take away what others handed over. -/
theorem fs_new {l : List Oper} {a : Act} {vs : (Nat → Value) → List Value} {base : List HP} {cs : List Ent} {w0 : World} {i : Nat} {A : Value → HP} {con : Option Nat} {o : Oper} (es : List Ent) (V : Value → Value) (ho : l.toArray[i]? = some o) (hf : cs.filter (ment i) = es ++ [(i, con, A)])
    (hes : es.all (fun e => e.2.1 == some i && e.1 != i && (behL l e.1).getD i false) = true) (hcon : (match con with | none => true | some j => j != i && (behL l i).getD j false) = true)
    (hkeep : ∀ j, (behL l i).getD j false = true ∨ ∀ x v, (vs (setX x i v)).getD j undef = (vs x).getD j undef) (hval : ∀ x v, (vs (setX x i v)).getD i undef = V v)
    (hc : ∀ D x w, D i = false → (∀ (j : Nat) (oj : Oper), l.toArray[j]? = some oj → D j = true → ∀ e ∈ oj.after, Region.binds .any e = true → D e.on = true) → (∀ e ∈ o.after, Region.binds .any e = true → D e.on = true) → Own w (es.map (fun e => e.2.2 (x e.1)) ++ (base ++ owL (cs.filter fun c => !ment i c) D x)) → Same w0 w → ∀ N : Exit → Act → World → Prop,
      (∀ (a' : Act) v w', a'.defers = a.defers → a'.tmps.size = a.tmps.size → Own w' (A v :: (base ++ owL (cs.filter fun c => !ment i c) D x)) → Same w w' → wpList P l.toArray N [] (a'.put o.dst (V v)) w') → wpList P l.toArray N [o] (putO a l (vs x)) w) :
    FS P l Q a vs (fun D x => base ++ owL cs D x) w0 i o := by
  intro D x w hD hcl hp hO hS
  have hall : ∀ e ∈ es, e.2.1 = some i ∧ e.1 ≠ i ∧ D e.1 = true := fun e he => by
    have := List.all_eq_true.1 hes e he
    simp only [Bool.and_eq_true, beq_iff_eq, bne_iff_ne, ne_eq] at this
    exact ⟨this.1.1, this.1.2, ahead_yes ho hcl hp this.1.2 this.2⟩
  have hperm := (List.filter_append_perm (ment i) cs)
  rw [hf] at hperm
  have hrest : ∀ c ∈ cs.filter fun c => !ment i c, ment i c = false := fun c hc => by simpa using (List.mem_filter.1 hc).2
  have hO' : Own w (es.map (fun e => e.2.2 (x e.1)) ++ (base ++ owL (cs.filter fun c => !ment i c) D x)) := by
    have h1 := own_perm hO (List.Perm.append_left base (owL_perm hperm.symm D x))
    rw [owL_append, owL_append, owL_live (cs := es) (fun e he => by simp [live, hall e he, hD]), owL_dead (cs := [(i, con, A)]) (fun c hc => by simp at hc; subst hc; simp [live, hD]), List.append_nil] at h1
    refine own_perm h1 ?_
    rw [← List.append_assoc, ← List.append_assoc]
    exact List.Perm.append_right _ List.perm_append_comm
  refine hc D x w hD hcl hp hO' hS _ (fun a' v w' hdf hsz hO' hS' => ?_)
  refine wpList_nil ⟨by rw [put_defers', hdf], setX x i v, fun j hj => ?_, fun d hd hlt => ?_, ?_, hS.trans hS'⟩
  · rcases hkeep j with h | h
    · have := behL_ok hcl hD h
      rw [hj] at this; cases this
    · exact h x v
  · rw [hval, hd, put_at, if_pos ⟨rfl, by rw [hsz]; exact hlt⟩]
  · refine own_perm hO' (List.Perm.trans ?_ (List.Perm.append_left base (owL_perm hperm (upd D i) (setX x i v))))
    rw [owL_append, owL_append, owL_set hrest, owL_dead (cs := es) (fun e he => by simp [live, (hall e he).1, upd]), owL_live (cs := [(i, con, A)]) (fun c hc => ?_)]
    · have e : (setX x i v) i = v := by simp [setX]
      simp only [List.map_cons, List.map_nil, List.nil_append, e]
      exact List.perm_middle.symm
    · simp at hc
      subst hc
      cases con with
      | none => simp [live, upd]
      | some j =>
        simp only [Bool.and_eq_true, bne_iff_ne, ne_eq] at hcon
        have := behL_ok hcl hD hcon.2
        simp [live, upd, hcon.1, this]
end
end Go.Proofs.Ytdcbfdepkbplbaa.H
set_option linter.unusedVariables false
set_option linter.unusedSimpArgs false
set_option maxRecDepth 100000
namespace Go.Proofs.Ytdcbfdepkbplbaa.H
open Go.RowKit
theorem owns_cells {w : World} {L : List HP} {e : TypeId} {size n : Nat} {v : Value} {xs : List Value} (h : Own w (owns e size v n xs :: L)) : v.cells = #[v] := by
  obtain ⟨A, c, rfl⟩ := (owns_rd h).slice
  rfl
section
variable (w : World) (L : List HP) (q : Nat) (m : Stk)
set_option maxHeartbeats 800000 in
theorem rfork_c (hO : Own w (rstk q m :: L)) (hk : m.Ok) :
    Calls Try.prog 29 #[.pointer (some ⟨q, 0, none⟩)] w (RetX w (fun p => .pointer (some ⟨p, 0, none⟩)) (fun p => rstk p m :: rstk q m :: L)) := by
  obtain ⟨vb, vl, hO⟩ := rstk_open.1 hO
  have HB : Hid (32 = m.base.length) := hk.base.symm
  have HL : Hid (m.l.length ≤ 200) := hk.len
  obtain ⟨A, cap, rfl⟩ := (rAt_of hO hk.base).rd.slice
  have hO : Own w (pts q (.cells #[vb, .slice A m.l.length cap, .int .i64 m.next] 86) :: owns 5 1 vb 32 (bcs m.base) :: owns 93 4 (.slice A m.l.length cap) m.l.length (cellsO m.l) :: L) := hO
  clear hk
  go_enter Try.func29, Try.ntmps29
  go_upto_region 3 with fail
  refine wp_region_own (α := Nat → Value) (fun x => [x 0, .pointer (some ⟨q, 0, none⟩), .pointer (some ⟨q, 0, none⟩), .pointer (some ⟨q, 0, none⟩), vb, x 5, x 6, .pointer (some ⟨q, 0, none⟩), .pointer (some ⟨q, 0, none⟩), .pointer (some ⟨q, 1, none⟩), .slice A m.l.length cap, x 11, .pointer (some ⟨q, 0, none⟩), .pointer (some ⟨q, 0, none⟩), .pointer (some ⟨q, 2, none⟩), .int .i64 m.next, .agg #[x 5, x 11, .int .i64 m.next], x 17, x 17]) (fun D x => ([pts q (.cells #[vb, .slice A m.l.length cap, .int .i64 m.next] 86), owns 5 1 vb 32 (bcs m.base), owns 93 4 (.slice A m.l.length cap) m.l.length (cellsO m.l)] ++ L) ++ owL ([(0, some 5, fun v => owns 5 1 v 0 []), (5, some 17, fun v => owns 5 1 v 32 (bcs m.base)), (6, some 11, fun v => owns 93 4 v 0 []), (11, some 17, fun v => owns 93 4 v m.l.length (cellsO m.l)), (17, none, fun v => ex fun b => sep (pur (v = .pointer (some ⟨b, 0, none⟩))) (rstk b m))]) D x) w (fun _ => undef) 23 (fun _ => rfl) mixed (by kernel_rfl) rfl (by rw [owL_none, List.append_nil]; exact own_heap hO (fun _ _ h => h)) (Same.drew _) (fun _ _ _ _ hd h => ⟨hd ▸ h.1, h.2⟩) ?_ ?_
  · refine ⟨?_, ?_, ?_, ?_, ?_, ?_, ?_, ?_, ?_, ?_, ?_, ?_, ?_, ?_, ?_, ?_, ?_, ?_, ?_, trivial⟩
    · (refine fs_new [] (fun v => v) rfl rfl (by kernel_rfl) (by kernel_rfl) (by intro j; rcases j with _ | j; (focus (first | exact .inr fun _ _ => rfl | exact .inl (by kernel_rfl))); rcases j with _ | j; (focus (first | exact .inr fun _ _ => rfl | exact .inl (by kernel_rfl))); rcases j with _ | j; (focus (first | exact .inr fun _ _ => rfl | exact .inl (by kernel_rfl))); rcases j with _ | j; (focus (first | exact .inr fun _ _ => rfl | exact .inl (by kernel_rfl))); rcases j with _ | j; (focus (first | exact .inr fun _ _ => rfl | exact .inl (by kernel_rfl))); rcases j with _ | j; (focus (first | exact .inr fun _ _ => rfl | exact .inl (by kernel_rfl))); rcases j with _ | j; (focus (first | exact .inr fun _ _ => rfl | exact .inl (by kernel_rfl))); rcases j with _ | j; (focus (first | exact .inr fun _ _ => rfl | exact .inl (by kernel_rfl))); rcases j with _ | j; (focus (first | exact .inr fun _ _ => rfl | exact .inl (by kernel_rfl))); rcases j with _ | j; (focus (first | exact .inr fun _ _ => rfl | exact .inl (by kernel_rfl))); rcases j with _ | j; (focus (first | exact .inr fun _ _ => rfl | exact .inl (by kernel_rfl))); rcases j with _ | j; (focus (first | exact .inr fun _ _ => rfl | exact .inl (by kernel_rfl))); rcases j with _ | j; (focus (first | exact .inr fun _ _ => rfl | exact .inl (by kernel_rfl))); rcases j with _ | j; (focus (first | exact .inr fun _ _ => rfl | exact .inl (by kernel_rfl))); rcases j with _ | j; (focus (first | exact .inr fun _ _ => rfl | exact .inl (by kernel_rfl))); rcases j with _ | j; (focus (first | exact .inr fun _ _ => rfl | exact .inl (by kernel_rfl))); rcases j with _ | j; (focus (first | exact .inr fun _ _ => rfl | exact .inl (by kernel_rfl))); rcases j with _ | j; (focus (first | exact .inr fun _ _ => rfl | exact .inl (by kernel_rfl))); rcases j with _ | j; (focus (first | exact .inr fun _ _ => rfl | exact .inl (by kernel_rfl))); exact .inr fun _ _ => rfl) (fun _ _ => rfl) ?_; intro D x u hD hcl hp hO hS N hN; simp only [putO]; simp only [Act.put, List.setIfInBounds_toArray, List.set_cons_zero, List.set_cons_succ]; refine own_lit0 rfl rfl Try.underlying22 sz_u8 hO (fun b w3 hO3 hS3 => hN _ _ _ rfl rfl hO3 hS3))
    · (refine fs_pure (fun _ _ => rfl) (fun D x hD hcl hp => ?_); simp only [putO]; simp only [Act.put, List.setIfInBounds_toArray, List.set_cons_zero, List.set_cons_succ]; first | exact y_skip rfl | exact y_run rfl (by intro w h; go_simp; first | done | rfl))
    · (refine fs_pure (fun _ _ => rfl) (fun D x hD hcl hp => ?_); simp only [putO]; simp only [Act.put, List.setIfInBounds_toArray, List.set_cons_zero, List.set_cons_succ]; first | exact y_skip rfl | exact y_run rfl (by intro w h; go_simp; first | done | rfl))
    · (refine fs_pure (fun _ _ => rfl) (fun D x hD hcl hp => ?_); simp only [putO]; simp only [Act.put, List.setIfInBounds_toArray, List.set_cons_zero, List.set_cons_succ]; first | exact y_skip rfl | exact y_run rfl (by intro w h; go_simp; first | done | rfl))
    · (refine fs_pure (fun _ _ => rfl) (fun D x hD hcl hp => ?_); simp only [putO]; simp only [Act.put, List.setIfInBounds_toArray, List.set_cons_zero, List.set_cons_succ]; first | exact y_skip rfl | exact (y_load1 (b := q) (off := 0) (cs := #[vb, .slice A m.l.length cap, .int .i64 m.next]) (t := 86) (v := vb) rfl rfl rfl row_bys17 (fun w h => own_get 0 h.1 rfl) rfl) | exact y_run rfl (by intro w h; go_simp; first | done | rfl))
    · (refine fs_new [(0, some 5, fun v => owns 5 1 v 0 [])] (fun v => v) rfl rfl (by kernel_rfl) (by kernel_rfl) (by intro j; rcases j with _ | j; (focus (first | exact .inr fun _ _ => rfl | exact .inl (by kernel_rfl))); rcases j with _ | j; (focus (first | exact .inr fun _ _ => rfl | exact .inl (by kernel_rfl))); rcases j with _ | j; (focus (first | exact .inr fun _ _ => rfl | exact .inl (by kernel_rfl))); rcases j with _ | j; (focus (first | exact .inr fun _ _ => rfl | exact .inl (by kernel_rfl))); rcases j with _ | j; (focus (first | exact .inr fun _ _ => rfl | exact .inl (by kernel_rfl))); rcases j with _ | j; (focus (first | exact .inr fun _ _ => rfl | exact .inl (by kernel_rfl))); rcases j with _ | j; (focus (first | exact .inr fun _ _ => rfl | exact .inl (by kernel_rfl))); rcases j with _ | j; (focus (first | exact .inr fun _ _ => rfl | exact .inl (by kernel_rfl))); rcases j with _ | j; (focus (first | exact .inr fun _ _ => rfl | exact .inl (by kernel_rfl))); rcases j with _ | j; (focus (first | exact .inr fun _ _ => rfl | exact .inl (by kernel_rfl))); rcases j with _ | j; (focus (first | exact .inr fun _ _ => rfl | exact .inl (by kernel_rfl))); rcases j with _ | j; (focus (first | exact .inr fun _ _ => rfl | exact .inl (by kernel_rfl))); rcases j with _ | j; (focus (first | exact .inr fun _ _ => rfl | exact .inl (by kernel_rfl))); rcases j with _ | j; (focus (first | exact .inr fun _ _ => rfl | exact .inl (by kernel_rfl))); rcases j with _ | j; (focus (first | exact .inr fun _ _ => rfl | exact .inl (by kernel_rfl))); rcases j with _ | j; (focus (first | exact .inr fun _ _ => rfl | exact .inl (by kernel_rfl))); rcases j with _ | j; (focus (first | exact .inr fun _ _ => rfl | exact .inl (by kernel_rfl))); rcases j with _ | j; (focus (first | exact .inr fun _ _ => rfl | exact .inl (by kernel_rfl))); rcases j with _ | j; (focus (first | exact .inr fun _ _ => rfl | exact .inl (by kernel_rfl))); exact .inr fun _ _ => rfl) (fun _ _ => rfl) ?_; intro D x u hD hcl hp hO hS N hN; simp only [putO]; simp only [Act.put, List.setIfInBounds_toArray, List.set_cons_zero, List.set_cons_succ]; refine own_append (m := 32) (n := 0) (xs := []) (news := bcs m.base) rfl rfl rfl rfl Try.underlying22 info_u8 rfl (by decide) hO ?_ (bcs_one m.base) (by decide) (by decide) (fun v3 w3 hO3 hS3 _ => hN _ _ _ rfl rfl hO3 hS3); exact owns_rd (own_drop (own_drop hO)))
    · (refine fs_new [] (fun v => v) rfl rfl (by kernel_rfl) (by kernel_rfl) (by intro j; rcases j with _ | j; (focus (first | exact .inr fun _ _ => rfl | exact .inl (by kernel_rfl))); rcases j with _ | j; (focus (first | exact .inr fun _ _ => rfl | exact .inl (by kernel_rfl))); rcases j with _ | j; (focus (first | exact .inr fun _ _ => rfl | exact .inl (by kernel_rfl))); rcases j with _ | j; (focus (first | exact .inr fun _ _ => rfl | exact .inl (by kernel_rfl))); rcases j with _ | j; (focus (first | exact .inr fun _ _ => rfl | exact .inl (by kernel_rfl))); rcases j with _ | j; (focus (first | exact .inr fun _ _ => rfl | exact .inl (by kernel_rfl))); rcases j with _ | j; (focus (first | exact .inr fun _ _ => rfl | exact .inl (by kernel_rfl))); rcases j with _ | j; (focus (first | exact .inr fun _ _ => rfl | exact .inl (by kernel_rfl))); rcases j with _ | j; (focus (first | exact .inr fun _ _ => rfl | exact .inl (by kernel_rfl))); rcases j with _ | j; (focus (first | exact .inr fun _ _ => rfl | exact .inl (by kernel_rfl))); rcases j with _ | j; (focus (first | exact .inr fun _ _ => rfl | exact .inl (by kernel_rfl))); rcases j with _ | j; (focus (first | exact .inr fun _ _ => rfl | exact .inl (by kernel_rfl))); rcases j with _ | j; (focus (first | exact .inr fun _ _ => rfl | exact .inl (by kernel_rfl))); rcases j with _ | j; (focus (first | exact .inr fun _ _ => rfl | exact .inl (by kernel_rfl))); rcases j with _ | j; (focus (first | exact .inr fun _ _ => rfl | exact .inl (by kernel_rfl))); rcases j with _ | j; (focus (first | exact .inr fun _ _ => rfl | exact .inl (by kernel_rfl))); rcases j with _ | j; (focus (first | exact .inr fun _ _ => rfl | exact .inl (by kernel_rfl))); rcases j with _ | j; (focus (first | exact .inr fun _ _ => rfl | exact .inl (by kernel_rfl))); rcases j with _ | j; (focus (first | exact .inr fun _ _ => rfl | exact .inl (by kernel_rfl))); exact .inr fun _ _ => rfl) (fun _ _ => rfl) ?_; intro D x u hD hcl hp hO hS N hN; simp only [putO]; simp only [Act.put, List.setIfInBounds_toArray, List.set_cons_zero, List.set_cons_succ]; refine own_lit0 rfl rfl Try.underlying84 sz_on hO (fun b w3 hO3 hS3 => hN _ _ _ rfl rfl hO3 hS3))
    · (refine fs_pure (fun _ _ => rfl) (fun D x hD hcl hp => ?_); simp only [putO]; simp only [Act.put, List.setIfInBounds_toArray, List.set_cons_zero, List.set_cons_succ]; first | exact y_skip rfl | exact y_run rfl (by intro w h; go_simp; first | done | rfl))
    · (refine fs_pure (fun _ _ => rfl) (fun D x hD hcl hp => ?_); simp only [putO]; simp only [Act.put, List.setIfInBounds_toArray, List.set_cons_zero, List.set_cons_succ]; first | exact y_skip rfl | exact y_run rfl (by intro w h; go_simp; first | done | rfl))
    · (refine fs_pure (fun _ _ => rfl) (fun D x hD hcl hp => ?_); simp only [putO]; simp only [Act.put, List.setIfInBounds_toArray, List.set_cons_zero, List.set_cons_succ]; first | exact y_skip rfl | exact y_run rfl (by intro w h; go_simp; first | done | rfl))
    · (refine fs_pure (fun _ _ => rfl) (fun D x hD hcl hp => ?_); simp only [putO]; simp only [Act.put, List.setIfInBounds_toArray, List.set_cons_zero, List.set_cons_succ]; first | exact y_skip rfl | exact (y_load1 (b := q) (off := 1) (cs := #[vb, .slice A m.l.length cap, .int .i64 m.next]) (t := 86) (v := .slice A m.l.length cap) rfl rfl rfl row_ons (fun w h => own_get 0 h.1 rfl) rfl) | exact y_run rfl (by intro w h; go_simp; first | done | rfl))
    · (refine fs_new [(6, some 11, fun v => owns 93 4 v 0 [])] (fun v => v) rfl rfl (by kernel_rfl) (by kernel_rfl) (by intro j; rcases j with _ | j; (focus (first | exact .inr fun _ _ => rfl | exact .inl (by kernel_rfl))); rcases j with _ | j; (focus (first | exact .inr fun _ _ => rfl | exact .inl (by kernel_rfl))); rcases j with _ | j; (focus (first | exact .inr fun _ _ => rfl | exact .inl (by kernel_rfl))); rcases j with _ | j; (focus (first | exact .inr fun _ _ => rfl | exact .inl (by kernel_rfl))); rcases j with _ | j; (focus (first | exact .inr fun _ _ => rfl | exact .inl (by kernel_rfl))); rcases j with _ | j; (focus (first | exact .inr fun _ _ => rfl | exact .inl (by kernel_rfl))); rcases j with _ | j; (focus (first | exact .inr fun _ _ => rfl | exact .inl (by kernel_rfl))); rcases j with _ | j; (focus (first | exact .inr fun _ _ => rfl | exact .inl (by kernel_rfl))); rcases j with _ | j; (focus (first | exact .inr fun _ _ => rfl | exact .inl (by kernel_rfl))); rcases j with _ | j; (focus (first | exact .inr fun _ _ => rfl | exact .inl (by kernel_rfl))); rcases j with _ | j; (focus (first | exact .inr fun _ _ => rfl | exact .inl (by kernel_rfl))); rcases j with _ | j; (focus (first | exact .inr fun _ _ => rfl | exact .inl (by kernel_rfl))); rcases j with _ | j; (focus (first | exact .inr fun _ _ => rfl | exact .inl (by kernel_rfl))); rcases j with _ | j; (focus (first | exact .inr fun _ _ => rfl | exact .inl (by kernel_rfl))); rcases j with _ | j; (focus (first | exact .inr fun _ _ => rfl | exact .inl (by kernel_rfl))); rcases j with _ | j; (focus (first | exact .inr fun _ _ => rfl | exact .inl (by kernel_rfl))); rcases j with _ | j; (focus (first | exact .inr fun _ _ => rfl | exact .inl (by kernel_rfl))); rcases j with _ | j; (focus (first | exact .inr fun _ _ => rfl | exact .inl (by kernel_rfl))); rcases j with _ | j; (focus (first | exact .inr fun _ _ => rfl | exact .inl (by kernel_rfl))); exact .inr fun _ _ => rfl) (fun _ _ => rfl) ?_; intro D x u hD hcl hp hO hS N hN; simp only [putO]; simp only [Act.put, List.setIfInBounds_toArray, List.set_cons_zero, List.set_cons_succ]; refine own_append (m := m.l.length) (n := 0) (xs := []) (news := cellsO m.l) rfl rfl rfl rfl Try.underlying84 info_on3 rfl (by decide) hO ?_ (cellsO_one m.l) ?_ ?_ (fun v3 w3 hO3 hS3 _ => hN _ _ _ rfl rfl (by rw [Nat.zero_add] at hO3; exact hO3) hS3); exact owns_rd (own_drop (own_drop (own_drop hO))); (have := HL.out; unfold maxLen; omega); (have := HL.out; omega))
    · (refine fs_pure (fun _ _ => rfl) (fun D x hD hcl hp => ?_); simp only [putO]; simp only [Act.put, List.setIfInBounds_toArray, List.set_cons_zero, List.set_cons_succ]; first | exact y_skip rfl | exact y_run rfl (by intro w h; go_simp; first | done | rfl))
    · (refine fs_pure (fun _ _ => rfl) (fun D x hD hcl hp => ?_); simp only [putO]; simp only [Act.put, List.setIfInBounds_toArray, List.set_cons_zero, List.set_cons_succ]; first | exact y_skip rfl | exact y_run rfl (by intro w h; go_simp; first | done | rfl))
    · (refine fs_pure (fun _ _ => rfl) (fun D x hD hcl hp => ?_); simp only [putO]; simp only [Act.put, List.setIfInBounds_toArray, List.set_cons_zero, List.set_cons_succ]; first | exact y_skip rfl | exact y_run rfl (by intro w h; go_simp; first | done | rfl))
    · (refine fs_pure (fun _ _ => rfl) (fun D x hD hcl hp => ?_); simp only [putO]; simp only [Act.put, List.setIfInBounds_toArray, List.set_cons_zero, List.set_cons_succ]; first | exact y_skip rfl | exact (y_load1 (b := q) (off := 2) (cs := #[vb, .slice A m.l.length cap, .int .i64 m.next]) (t := 86) (v := .int .i64 m.next) rfl rfl rfl row_int (fun w h => own_get 0 h.1 rfl) rfl) | exact y_run rfl (by intro w h; go_simp; first | done | rfl))
    · refine fs_pure (fun _ _ => rfl) (fun D x hD hcl hp => ?_)
      simp only [putO]
      simp only [Act.put, List.setIfInBounds_toArray, List.set_cons_zero, List.set_cons_succ]
      refine y_run rfl (fun w h => ?_)
      have h17 := dep_no hcl hD 17 rfl
      obtain ⟨L5, o5⟩ := ow_gets 1 h.1 rfl (dep_yes hp rfl) h17
      obtain ⟨L11, o11⟩ := ow_gets 3 h.1 rfl (dep_yes hp rfl) h17
      obtain ⟨A5, c5, e5⟩ := (owns_rd o5).slice
      obtain ⟨A6, c6, e6⟩ := (owns_rd o11).slice
      clear o5 o11 hp hcl
      simp only [e5, e6]
      go_simp
      first | done | rfl
    · (refine fs_new [(5, some 17, fun v => owns 5 1 v 32 (bcs m.base)), (11, some 17, fun v => owns 93 4 v m.l.length (cellsO m.l))] (fun v => v) rfl rfl (by kernel_rfl) (by kernel_rfl) (by intro j; rcases j with _ | j; (focus (first | exact .inr fun _ _ => rfl | exact .inl (by kernel_rfl))); rcases j with _ | j; (focus (first | exact .inr fun _ _ => rfl | exact .inl (by kernel_rfl))); rcases j with _ | j; (focus (first | exact .inr fun _ _ => rfl | exact .inl (by kernel_rfl))); rcases j with _ | j; (focus (first | exact .inr fun _ _ => rfl | exact .inl (by kernel_rfl))); rcases j with _ | j; (focus (first | exact .inr fun _ _ => rfl | exact .inl (by kernel_rfl))); rcases j with _ | j; (focus (first | exact .inr fun _ _ => rfl | exact .inl (by kernel_rfl))); rcases j with _ | j; (focus (first | exact .inr fun _ _ => rfl | exact .inl (by kernel_rfl))); rcases j with _ | j; (focus (first | exact .inr fun _ _ => rfl | exact .inl (by kernel_rfl))); rcases j with _ | j; (focus (first | exact .inr fun _ _ => rfl | exact .inl (by kernel_rfl))); rcases j with _ | j; (focus (first | exact .inr fun _ _ => rfl | exact .inl (by kernel_rfl))); rcases j with _ | j; (focus (first | exact .inr fun _ _ => rfl | exact .inl (by kernel_rfl))); rcases j with _ | j; (focus (first | exact .inr fun _ _ => rfl | exact .inl (by kernel_rfl))); rcases j with _ | j; (focus (first | exact .inr fun _ _ => rfl | exact .inl (by kernel_rfl))); rcases j with _ | j; (focus (first | exact .inr fun _ _ => rfl | exact .inl (by kernel_rfl))); rcases j with _ | j; (focus (first | exact .inr fun _ _ => rfl | exact .inl (by kernel_rfl))); rcases j with _ | j; (focus (first | exact .inr fun _ _ => rfl | exact .inl (by kernel_rfl))); rcases j with _ | j; (focus (first | exact .inr fun _ _ => rfl | exact .inl (by kernel_rfl))); rcases j with _ | j; (focus (first | exact .inr fun _ _ => rfl | exact .inl (by kernel_rfl))); rcases j with _ | j; (focus (first | exact .inr fun _ _ => rfl | exact .inl (by kernel_rfl))); exact .inr fun _ _ => rfl) (fun _ _ => rfl) ?_; intro D x u hD hcl hp hO hS N hN; simp only [putO]; simp only [Act.put, List.setIfInBounds_toArray, List.set_cons_zero, List.set_cons_succ]; refine own_box (v := .agg #[x 5, x 11, .int .i64 m.next]) rfl rfl rfl rfl hO ?_)
      intro b w3 hO3 hS3
      refine hN _ _ _ rfl rfl ?_ hS3
      refine own_ex.2 ⟨b, own_sep.2 (own_pur.2 ⟨rfl, rstk_open.2 ⟨x 5, x 11, hO3⟩⟩)⟩
    · (refine fs_pure (fun _ _ => rfl) (fun D x hD hcl hp => ?_); simp only [putO]; simp only [Act.put, List.setIfInBounds_toArray, List.set_cons_zero, List.set_cons_succ]; first | exact y_skip rfl | exact y_run rfl (by intro w h; go_simp; first | done | rfl))
  · intro x w10 D hD hO hS10
    rw [owL_end hD (by kernel_rfl)] at hO
    have hO2 : Own w10 ((ex fun b => sep (pur (x 17 = .pointer (some ⟨b, 0, none⟩))) (rstk b m)) :: (rstkL q vb (.slice A m.l.length cap) m ++ L)) := own_perm hO List.perm_append_comm
    rw [own_ex] at hO2
    obtain ⟨b, hO2⟩ := hO2
    rw [own_sep, own_pur] at hO2
    obtain ⟨e17, hO2⟩ := hO2
    clear hO
    simp only [putO, e17]
    simp only [Act.put, List.setIfInBounds_toArray, List.set_cons_zero, List.set_cons_succ]
    simp only [Exit.then]
    clear hD
    go_wp2
    go_ret
    exact ⟨b, rfl, own_perm (rstk_open.2 ⟨vb, .slice A m.l.length cap, own_perm hO2 List.perm_middle.symm⟩) (List.Perm.swap _ _ _), hS10⟩
end
end Go.Proofs.Ytdcbfdepkbplbaa.H
set_option linter.unusedVariables false
set_option linter.unusedSimpArgs false
set_option maxRecDepth 100000
namespace Go.Proofs.Ytdcbfdepkbplbaa.H
open Go.RowKit
theorem rdN_block {w : World} {b m c : Nat} {bs : List UInt8} {t : TypeId} {fr : Nat × Nat} (hm : m = bs.length) (hg : w.heap[b]? = some (.cells (bcs bs).toArray t fr)) (hc : m ≤ c) (hx : c ≤ 9223372036854775807) : Rd w 1 (.slice (some ⟨b, 0, none⟩) m c) m (bcs bs) := by
  subst hm
  exact rdB_block rfl hg hc hx
theorem cellsP_take (ps : List Pat) : ∀ (k : Nat), (cellsP ps).take (k * 3) = cellsP (ps.take k) := by
  induction ps with
  | nil => intro k; simp [cellsP]
  | cons p ps ih =>
    intro k
    cases k with
    | zero => simp [cellsP]
    | succ k =>
      have h3 : p.cells.length = 3 := rfl
      have e : cellsP (p :: ps) = p.cells ++ cellsP ps := rfl
      have e2 : cellsP ((p :: ps).take (k + 1)) = p.cells ++ cellsP (ps.take k) := rfl
      rw [e, e2, List.take_append, List.take_of_length_le (by rw [h3]; omega), h3, show (k + 1) * 3 - 3 = k * 3 by omega, ih k]
section
variable (w : World) (L : List HP) (v vp : Value) (bs : List UInt8) (ps : List Pat)
end
end Go.Proofs.Ytdcbfdepkbplbaa.H
set_option linter.unusedVariables false
set_option linter.unusedSimpArgs false
set_option maxRecDepth 100000
namespace Go.Proofs.Ytdcbfdepkbplbaa.H
open Go.RowKit
/-- What full hands back: a new block of 32 bytes. -/
def FullPost (L : List HP) (w0 : World) (e : Ending) (w' : World) : Prop := ∃ g xs, xs.length = 32 ∧ e = .returned (.slice (some ⟨g, 0, none⟩) 32 32) ∧ Own w' (pts g (.cells (bcs xs).toArray 5) :: L) ∧ Same w0 w'
def FullInv (L : List HP) (w0 : World) (g : Nat) (wr : World) : Prop := ∃ xs, xs.length = 32 ∧ Own wr (pts g (.cells (bcs xs).toArray 5) :: L) ∧ Same w0 wr
end Go.Proofs.Ytdcbfdepkbplbaa.H
set_option linter.unusedVariables false
set_option linter.unusedSimpArgs false
set_option maxRecDepth 100000
namespace Go.Proofs.Ytdcbfdepkbplbaa.H
open Go.RowKit
theorem info_pat : (Try.prog.info? 33).map (fun i => (i.zero, i.size)) = some (some (.agg #[.int .i64 0, .int .i64 0, .string ⟨#[]⟩]), 3) := by kernel_rfl
theorem sz_int : (Try.prog.info? 3).map (·.size) = some 1 := by kernel_rfl
/-- Two patches in a block of one's own. -/
theorem rdP_two {w : World} {b : Nat} {a0 a1 b0 b1 : Int} {s t : ByteArray} {ty : TypeId} {fr : Nat × Nat} (hg : w.heap[b]? = some (.cells #[.int .i64 a0, .int .i64 a1, .string s, .int .i64 b0, .int .i64 b1, .string t] ty fr)) :
    RdP w (.slice (some ⟨b, 0, none⟩) 2 2) [⟨a0, a1, s⟩, ⟨b0, b1, t⟩] := rd_block hg rfl (by simp) (by simp) (by simp)
end Go.Proofs.Ytdcbfdepkbplbaa.H
set_option linter.unusedVariables false
set_option linter.unusedSimpArgs false
set_option maxRecDepth 100000
namespace Go.Proofs.Ytdcbfdepkbplbaa.H
open Go.RowKit
theorem join_v (w : World) (L : List HP) (a0 a1 b0 b1 m0 m1 : Int) (s t ms : ByteArray) (hO : Own w L) (hj : joinB ⟨a0, a1, s⟩ ⟨b0, b1, t⟩ = true) (hm : joinM ⟨a0, a1, s⟩ ⟨b0, b1, t⟩ = ⟨m0, m1, ms⟩) :
    Calls Try.prog 40 #[.agg #[.int .i64 a0, .int .i64 a1, .string s], .agg #[.int .i64 b0, .int .i64 b1, .string t]] w (Ret w (.tuple #[.agg #[.int .i64 m0, .int .i64 m1, .string ms], .bool true]) L) := by
  have h := join_ok w L a0 a1 b0 b1 s t hO hj
  rw [hm] at h
  exact h
end Go.Proofs.Ytdcbfdepkbplbaa.H
set_option linter.unusedVariables false
set_option linter.unusedSimpArgs false
set_option maxRecDepth 100000
namespace Go.Proofs.Ytdcbfdepkbplbaa.H
open Go.RowKit
/-- What both Joins hand back. -/
def joinV (p q : Pat) : Value := if joinB p q = true then .tuple #[.agg (joinM p q).cells.toArray, .bool true] else .tuple #[.agg #[.int .i64 0, .int .i64 0, .string ⟨#[]⟩], .bool false]
set_option maxHeartbeats 1600000 in
theorem rjoin_rest (w : World) (L : List HP) (a0 a1 b0 b1 : Int) (s t : ByteArray) (hO : Own w L) (hn : ¬ (rightB ⟨a0, a1, s⟩ = true ∧ rightB ⟨b0, b1, t⟩ = true ∧ a0 = b0)) :
    Calls Try.prog 70 #[.agg #[.int .i64 a0, .int .i64 a1, .string s], .agg #[.int .i64 b0, .int .i64 b1, .string t]] w (Ret w (.tuple #[.agg #[.int .i64 0, .int .i64 0, .string ⟨#[]⟩], .bool false]) L) := by
  have key : ∀ (r1 r2 : Bool), rightB ⟨a0, a1, s⟩ = r1 → rightB ⟨b0, b1, t⟩ = r2 → (r1 = false ∨ (r1 = true ∧ r2 = false) ∨ (r1 = true ∧ r2 = true ∧ (a0 == b0) = false ∧ (a0 != b0) = true)) →
      Calls Try.prog 70 #[.agg #[.int .i64 a0, .int .i64 a1, .string s], .agg #[.int .i64 b0, .int .i64 b1, .string t]] w (Ret w (.tuple #[.agg #[.int .i64 0, .int .i64 0, .string ⟨#[]⟩], .bool false]) L) := by
    intro r1 r2 hR hR2 hc
    have HR := Lib.hid hR
    have HR2 := Lib.hid hR2
    clear hR hR2 hn
    rcases hc with rfl | ⟨rfl, rfl⟩ | ⟨rfl, rfl, h0, h0'⟩
    all_goals
      go_enter Try.func70, Try.ntmps70
      go_wp2_with (first | (refine own_box_agg (x := .tmp 0) rfl rfl rfl hO ?_; clear hO; intro b w1 hO hS1) | (refine own_box_agg (x := .tmp 1) rfl rfl rfl hO ?_; clear hO; intro b' w2 hO hS2) | (refine own_alloc rfl rfl zero_pat rfl hO ?_; clear hO; intro g0 w3 hO hS3) | (apply own_loadrow rfl rfl rfl; (first | exact row_pat); exact sz_pat; (first | exact own_get 0 hO rfl | exact own_get 1 hO rfl | exact own_get 2 hO rfl | exact own_get 3 hO rfl | exact own_get 4 hO rfl | exact own_get 5 hO rfl | exact own_get 6 hO rfl | exact own_get 7 hO rfl); (focus (simp; done)); (first | (simp only [List.drop_zero, List.drop_succ_cons, List.take_succ_cons, List.take_zero]; rfl) | rfl)) | (apply own_load1 rfl rfl rfl; (first | exact row_int | exact row_str | exact row_bool | exact row_u8 | exact row_bys | exact row_pats | exact row_err); (first | exact own_get 0 hO rfl | exact own_get 1 hO rfl | exact own_get 2 hO rfl | exact own_get 3 hO rfl | exact own_get 4 hO rfl | exact own_get 5 hO rfl | exact own_get 6 hO rfl | exact own_get 7 hO rfl); (first | (simp only [List.getElem?_toArray, List.getElem?_cons_succ, List.getElem?_cons_zero]; rfl) | rfl)) | (go_at_call 69; with_reducible refine (rright_v _ _ a0 a1 s HR.out hO).mono ?_; clear hO; rintro e w4 ⟨rfl, hO, hS4⟩) | (go_at_call 69; with_reducible refine (rright_v _ _ b0 b1 t HR2.out hO).mono ?_; clear hO; rintro e w5 ⟨rfl, hO, hS5⟩) | (refine own_store_all (k := 0) rfl rfl rfl rfl sz_pat hO rfl rfl rfl rfl ?_; clear hO; intro w8 hO hS8; simp only [List.set_cons_zero] at hO))
      refine bodyPost_ret (results_cell_tmp rfl rfl (own_get 0 hO rfl) row_pat sz_pat) rfl ?_
      first | exact ⟨rfl, own_drop (own_drop (own_drop hO)), hS1.trans (hS2.trans (hS3.trans (hS4.trans (hS5.trans hS8))))⟩ | exact ⟨rfl, own_drop (own_drop (own_drop hO)), hS1.trans (hS2.trans (hS3.trans (hS4.trans hS8)))⟩
  refine key _ _ rfl rfl ?_
  cases h1 : rightB ⟨a0, a1, s⟩ with
  | false => exact .inl rfl
  | true =>
    cases h2 : rightB ⟨b0, b1, t⟩ with
    | false => exact .inr (.inl ⟨rfl, rfl⟩)
    | true =>
      have h3 : ¬ a0 = b0 := fun h => hn ⟨h1, h2, h⟩
      exact .inr (.inr ⟨rfl, rfl, by simpa using h3, by simpa using h3⟩)
theorem rjoin_c (w : World) (L : List HP) (a0 a1 b0 b1 : Int) (s t : ByteArray) (hO : Own w L) :
    Calls Try.prog 70 #[.agg #[.int .i64 a0, .int .i64 a1, .string s], .agg #[.int .i64 b0, .int .i64 b1, .string t]] w (Ret w (joinV ⟨a0, a1, s⟩ ⟨b0, b1, t⟩) L) := by
  by_cases hall : rightB ⟨a0, a1, s⟩ = true ∧ rightB ⟨b0, b1, t⟩ = true ∧ a0 = b0
  · obtain ⟨hR, hR2, rfl⟩ := hall
    by_cases hj : joinB ⟨a0, a1, s⟩ ⟨a0, b1, t⟩ = true
    · have hJ := joins_iff.1 hj
      refine (rjoin_ok w L a0 a1 b1 s t _ _ _ hO hR hR2 (runs_yes hJ)).mono fun e w' h => ?_
      rw [RJoinPost, if_pos rfl] at h
      rw [joinV, if_pos hj]
      obtain ⟨p1, p2, p3, p4, p5, p6⟩ := rightB_iff.1 hR
      obtain ⟨q1, q2, q3, q4, q5, q6⟩ := rightB_iff.1 hR2
      simp only at p1 p2 p3 p4 p5 p6 q1 q2 q3 q4 q5 q6
      have e1 : (((min a1 b1).toNat : Nat) : Int) = min a1 b1 := by omega
      simp only [e1, datK] at h
      exact h
    · rw [joinV, if_neg hj]
      have hn : ¬ (a1 ≤ b1 + t.size ∧ b1 ≤ a1 + s.size) := fun h => hj (joins_iff.2 ⟨hR, hR2, rfl, h.1, h.2⟩)
      have hg := runs_no hR hR2 hn
      obtain ⟨p1, p2, p3, p4, p5, p6⟩ := rightB_iff.1 hR
      obtain ⟨q1, q2, q3, q4, q5, q6⟩ := rightB_iff.1 hR2
      simp only at p1 p2 p3 p4 p5 p6 q1 q2 q3 q4 q5 q6
      refine (rjoin_ok w L a0 a1 b1 s t _ _ _ hO hR hR2 hg).mono fun e w' h => ?_
      rw [RJoinPost, if_neg (by simp only; omega)] at h
      exact h
  · have hj : ¬ joinB ⟨a0, a1, s⟩ ⟨b0, b1, t⟩ = true := fun h => by
      have hJ := joins_iff.1 h
      exact hall ⟨hJ.hp, hJ.hq, hJ.hb⟩
    rw [joinV, if_neg hj]
    exact rjoin_rest w L a0 a1 b0 b1 s t hO hall
theorem join_c (w : World) (L : List HP) (a0 a1 b0 b1 : Int) (s t : ByteArray) (hO : Own w L) :
    Calls Try.prog 40 #[.agg #[.int .i64 a0, .int .i64 a1, .string s], .agg #[.int .i64 b0, .int .i64 b1, .string t]] w (Ret w (joinV ⟨a0, a1, s⟩ ⟨b0, b1, t⟩) L) := by
  by_cases hj : joinB ⟨a0, a1, s⟩ ⟨b0, b1, t⟩ = true
  · rw [joinV, if_pos hj]
    exact join_ok w L a0 a1 b0 b1 s t hO hj
  · rw [joinV, if_neg hj]
    exact join_no w L a0 a1 b0 b1 s t hO (by simpa using hj)
theorem joinV_form (p q : Pat) : ∃ m0 m1 ms r, joinV p q = .tuple #[.agg #[.int .i64 m0, .int .i64 m1, .string ms], .bool r] := by
  unfold joinV
  split
  · exact ⟨_, _, _, _, rfl⟩
  · exact ⟨_, _, _, _, rfl⟩
end Go.Proofs.Ytdcbfdepkbplbaa.H
