/- The same law, over what is owned. The reference's Under. -/
import Derived.Test.YtdcbfdepkbplbaaZ16
set_option linter.unusedVariables false
set_option linter.unusedSimpArgs false
namespace Go.Proofs.Ytdcbfdepkbplbaa.H
open Go.RowKit
section
variable {P : Program} {Q : Exit → Act → World → Prop} {α : Type}
theorem putV_list : ∀ (l : List Oper) (vs : List Value) (i : Nat) (f : Nat → Value) (a : Act), vs.length = l.length → (∀ j, j < l.length → f (i + j) = vs.getD j undef) → putV f i l a = putO a l vs
  | [], [], _, _, _, _, _ => rfl
  | o :: l, v :: vs, i, f, a, hl, h => by
    rw [putV, putO]
    have h0 := h 0 (by simp)
    rw [Nat.add_zero] at h0
    rw [h0]
    refine putV_list l vs (i + 1) f _ (by simpa using hl) (fun j hj => ?_)
    have := h (j + 1) (by simpa using hj)
    rw [show i + 1 + j = i + (j + 1) by omega, this]
    rfl
theorem putO_size' : ∀ (l : List Oper) (vs : List Value) (a : Act), (putO a l vs).tmps.size = a.tmps.size
  | [], _, _ => by simp [putO]
  | o :: l, [], _ => by simp [putO]
  | o :: l, v :: vs, a => by rw [putO, putO_size' l vs, put_size']
theorem putO_defers' : ∀ (l : List Oper) (vs : List Value) (a : Act), (putO a l vs).defers = a.defers
  | [], _, _ => by simp [putO]
  | o :: l, [], _ => by simp [putO]
  | o :: l, v :: vs, a => by rw [putO, putO_defers' l vs, put_defers']
/-- What one operation must keep, wherever it is taken: D: what is done; x: the ghosts. -/
def FS (P : Program) (l : List Oper) (Q : Exit → Act → World → Prop) (a : Act) (vs : α → List Value) (HL : (Nat → Bool) → α → List HP) (w0 : World) (i : Nat) (o : Oper) : Prop :=
  ∀ (D : Nat → Bool) (x : α) (w : World), D i = false → (∀ (j : Nat) (oj : Oper), l.toArray[j]? = some oj → D j = true → ∀ e ∈ oj.after, Region.binds .any e = true → D e.on = true) → (∀ e ∈ o.after, Region.binds .any e = true → D e.on = true) → Own w (HL D x) → Same w0 w →
    wpList P l.toArray (Exit.then (fun a' w' => a'.defers = a.defers ∧ ∃ x', (∀ j, D j = true → (vs x').getD j undef = (vs x).getD j undef) ∧ (∀ d, o.dst = some d → d < a.tmps.size → a'.tmps[d]? = some ((vs x').getD i undef)) ∧ Own w' (HL (upd D i) x') ∧ Same w0 w') Q) [o] (putO a l (vs x)) w
def FSteps (P : Program) (l : List Oper) (Q : Exit → Act → World → Prop) (a : Act) (vs : α → List Value) (HL : (Nat → Bool) → α → List HP) (w0 : World) : Nat → List Oper → Prop
  | _, [] => True
  | i, o :: r => FS P l Q a vs HL w0 i o ∧ FSteps P l Q a vs HL w0 (i + 1) r
theorem fsteps_get {l : List Oper} {a : Act} {vs : α → List Value} {HL : (Nat → Bool) → α → List HP} {w0 : World} : ∀ {r : List Oper} {i : Nat}, FSteps P l Q a vs HL w0 i r → ∀ (j : Nat) (o : Oper), r[j]? = some o → FS P l Q a vs HL w0 (i + j) o
  | [], _, _, _, _, h => by simp at h
  | o :: r, i, h, 0, o', ho => by simp at ho; subst ho; exact h.1
  | o :: r, i, h, j + 1, o', ho => by
    have := fsteps_get h.2 j o' (by simpa using ho)
    rwa [show i + 1 + j = i + (j + 1) by omega] at this
theorem wp_region_own {id : Nat} {l : List Oper} {a : Act} {w : World} (vs : α → List Value) (HL : (Nat → Bool) → α → List HP) (w0 : World) (x0 : α) (k : Nat) (hlen : ∀ x, (vs x).length = l.length) (hm : P.follows .mixedOrders = true) (hB : freeOk l.toArray k = true) (hk : a.tmps.size = k)
    (h0 : Own w.drew (HL (fun _ => false) x0)) (hs0 : Same w0 w.drew)
    (hQ : ∀ ch (a a' : Act) w, a.defers = a'.defers → Q (.panic ch) a w → Q (.panic ch) a' w)
    (hsteps : FSteps P l Q a vs HL w0 0 l)
    (hend : ∀ x w D, (∀ i, i < l.length → D i = true) → Own w (HL D x) → Same w0 w → Q .normal (putO a l (vs x)) w) : (Code.region id l.toArray true).wp P Q a w := by
  have hfin : ∀ x, putV (fun j => (vs x).getD j undef) 0 l a = putO a l (vs x) := fun x => putV_list l (vs x) 0 _ a (hlen x) (fun j _ => by rw [Nat.zero_add])
  refine wp_region_free (fun i x => (vs x).getD i undef) (fun D x w => Own w (HL D x) ∧ Same w0 w) x0 k hm hB hk ⟨h0, hs0⟩ hQ (fun i o ho => ?_) (fun x w D hD hS => ?_)
  · intro D x w h1 h2 h3 hS
    have := fsteps_get hsteps i o (by simpa using ho)
    rw [Nat.zero_add] at this
    rw [hfin]
    exact this D x w h1 h2 h3 hS.1 hS.2
  · rw [hfin]
    exact hend x w D hD hS.1 hS.2
/-- An operation that yields one value, and changes nothing. -/
theorem fs_pure {l : List Oper} {a : Act} {vs : α → List Value} {HL : (Nat → Bool) → α → List HP} {w0 : World} {i : Nat} {o : Oper} (hH : ∀ D x, HL (upd D i) x = HL D x)
    (hy : ∀ D x, D i = false → (∀ (j : Nat) (oj : Oper), l.toArray[j]? = some oj → D j = true → ∀ e ∈ oj.after, Region.binds .any e = true → D e.on = true) → (∀ e ∈ o.after, Region.binds .any e = true → D e.on = true) → YieldsIn P l.toArray (Cls w0 (HL D x)) o ((vs x).getD i undef) (putO a l (vs x))) : FS P l Q a vs HL w0 i o := by
  intro D x w h1 h2 h3 hO hS
  have key : ∀ w', Own w' (HL D x) ∧ Same w0 w' → wpList P l.toArray (Exit.then (fun a' w' => a'.defers = a.defers ∧ ∃ x', (∀ j, D j = true → (vs x').getD j undef = (vs x).getD j undef) ∧ (∀ d, o.dst = some d → d < a.tmps.size → a'.tmps[d]? = some ((vs x').getD i undef)) ∧ Own w' (HL (upd D i) x') ∧ Same w0 w') Q) [] ((putO a l (vs x)).put o.dst ((vs x).getD i undef)) w' := fun w' hC => by
    refine wpList_nil ⟨by rw [put_defers', putO_defers'], x, fun _ _ => rfl, fun d hd hlt => ?_, by rw [hH]; exact hC.1, hC.2⟩
    rw [hd, put_at, if_pos ⟨rfl, by rw [putO_size']; exact hlt⟩]
  refine wpList_step fun K hK => ?_
  rcases hy D x h1 h2 h3 with ⟨h4, h5⟩ | ⟨h4, h5⟩
  · rw [if_pos h4]
    exact Oper.wp_of_quiet (C := Cls w0 (HL D x)) (K := fun a' => a' = (putO a l (vs x)).put o.dst ((vs x).getD i undef)) ⟨hO, hS⟩ (fun a' w' hC ha => hK _ _ (by rw [ha]; exact key w' hC)) ⟨_, h5, rfl⟩
  · rw [if_neg (by rw [h4]; simp)]
    have h6 := key w ⟨hO, hS⟩
    rw [h5] at h6
    exact hK _ _ h6
def depB (after : Array Edge) (i : Nat) : Bool := after.toList.any fun e => Region.binds .any e && e.on == i
/-- What must be done ahead is done. -/
theorem dep_yes {D : Nat → Bool} {after : Array Edge} {j : Nat} (hp : ∀ e ∈ after, Region.binds .any e = true → D e.on = true) (h : depB after j = true) : D j = true := by
  unfold depB at h
  rw [List.any_eq_true] at h
  obtain ⟨e, he, h⟩ := h
  simp only [Bool.and_eq_true, beq_iff_eq] at h
  exact h.2 ▸ hp e (by simpa using he) h.1
/-- What comes behind one that is not done is not done. -/
theorem dep_no {l : List Oper} {D : Nat → Bool} {i : Nat} (hcl : ∀ (j : Nat) (oj : Oper), l.toArray[j]? = some oj → D j = true → ∀ e ∈ oj.after, Region.binds .any e = true → D e.on = true) (hD : D i = false) (j : Nat) (h : (match l.toArray[j]? with | some oj => depB oj.after i | none => false) = true) : D j = false := by
  cases hj : l.toArray[j]? with
  | none => rw [hj] at h; cases h
  | some oj =>
    rw [hj] at h
    cases hd : D j with
    | false => rfl
    | true =>
      have := dep_yes (hcl j oj hj hd) h
      rw [hD] at this; cases this
/-- A call, met in a list of operations. -/
theorem ev_call {ops : Array Oper} {o : Oper} {rest : List Oper} {a : Act} {w : World} {f : FuncId} {args : Array Value} (hw : Region.wanted o (yielded ops a.tmps) = true) (hrun : (execOp a.eval o).run P w = .ok (.enter f args) w)
    (h : Calls P f args w (fun e w' => ∃ v, e = .returned v ∧ wpList P ops Q rest (a.put o.dst v) w')) : wpList P ops Q (o :: rest) a w := by
  refine wpList_step fun N hN => ?_
  rw [if_pos hw]
  unfold Oper.wp
  rw [hrun, Oper.upon_enter]
  refine Calls.mono h fun e w' he => ?_
  obtain ⟨v, rfl, hv⟩ := he
  exact hN _ _ hv
/-- What is owned where b is true. -/
def mk (b : Bool) (A : HP) : List HP := if b then [A] else []
theorem mk_t {A : HP} : mk true A = [A] := rfl
theorem mk_f {A : HP} : mk false A = [] := rfl
end
end Go.Proofs.Ytdcbfdepkbplbaa.H
set_option linter.unusedVariables false
set_option linter.unusedSimpArgs false
set_option maxRecDepth 100000
namespace Go.Proofs.Ytdcbfdepkbplbaa.H
open Go.RowKit
def belowM (l : List On) (o : On) : List Nat := (l.filter fun x => decide (x.n < o.n)).map On.n
theorem below_step {l : List On} {k : Nat} {o d : On} (hd : l[k]? = some d) : belowM (l.take (k + 1)) o = belowM (l.take k) o ++ (if decide (d.n < o.n) then [d.n] else []) := by
  obtain ⟨h1, h2⟩ := List.getElem?_eq_some_iff.1 hd
  unfold belowM
  rw [List.take_succ_eq_append_getElem h1, h2, List.filter_append, List.map_append]
  congr 1
  by_cases h : d.n < o.n <;> simp [List.filter_cons, h]
theorem below_len (l : List On) (o : On) (k : Nat) : (belowM (l.take k) o).length ≤ l.length := by
  unfold belowM
  rw [List.length_map]
  exact Nat.le_trans (List.length_filter_le _ _) (by rw [List.length_take]; omega)
theorem numV_ints (l : List Nat) : numV l = ints (l.map fun n : Nat => (n : Int)) := by simp [numV, ints]
/-- With all that are below one, the block is as it was when it came. -/
theorem sel_below {l : List On} (hasc : l.Pairwise fun a b => a.n < b.n) {i : Nat} {o : On} (ho : l[i]? = some o) : selL l ((belowM l o).map fun n : Nat => (n : Int)) = (l.take i).map On.p := by
  have hp := List.pairwise_iff_getElem.1 hasc
  obtain ⟨h1, h2⟩ := List.getElem?_eq_some_iff.1 ho
  have hmem : ∀ x ∈ l, ((belowM l o).map fun n : Nat => (n : Int)).contains (x.n : Int) = decide (x.n < o.n) := by
    intro x hx
    rw [List.contains_eq_mem, decide_eq_decide]
    unfold belowM
    rw [List.map_map, List.mem_map]
    constructor
    · rintro ⟨y, hy, he⟩
      have := (List.mem_filter.1 hy).2
      simp only [Function.comp, decide_eq_true_eq] at he this
      omega
    · intro h
      exact ⟨x, List.mem_filter.2 ⟨hx, by simpa using h⟩, rfl⟩
  unfold selL
  congr 1
  rw [List.filter_congr hmem]
  conv => lhs; rw [← List.take_append_drop i l]
  rw [List.filter_append, List.filter_eq_self.2, List.filter_eq_nil_iff.2, List.append_nil]
  · intro x hx
    obtain ⟨k, hk, rfl⟩ := List.mem_iff_getElem.1 hx
    simp only [List.getElem_drop, decide_eq_true_eq]
    rw [← h2]
    rw [List.length_drop] at hk
    by_cases hk0 : k = 0
    · subst hk0; simp
    · have := hp i (i + k) h1 (by omega) (by omega); omega
  · intro x hx
    obtain ⟨k, hk, rfl⟩ := List.mem_iff_getElem.1 hx
    rw [List.length_take] at hk
    simp only [List.getElem_take, decide_eq_true_eq]
    rw [← h2]
    exact hp k i (by omega) h1 (by omega)
section
variable (w : World) (L : List HP) (q : Nat) (vb vl : Value) (m : Stk)
set_option maxHeartbeats 3200000 in
theorem runder_yes (i : Nat) (o : On) (hO : Own w L) (hr : ∀ w', Own w' L → RAt w' q vb vl m) (hk : m.Ok) (ho : m.l[i]? = some o) :
    Calls Try.prog 45 #[.pointer (some ⟨q, 0, none⟩), .int .i64 o.n] w (Ret w (.tuple #[.string (bstr (cutP (appAll m.base (m.pats.take i)) o.p)), .int .i64 0]) L) := by
  have HR := Lib.hid hr
  have HK := Lib.hid hk
  have HI := Lib.hid ho
  have HRO : Hid (rightB o.p = true) := hk.right o (List.mem_of_getElem? ho)
  have HSB := Lib.hid (sel_below hk.asc ho)
  clear hr hk ho
  go_enter Try.func45, Try.ntmps45
  go_wp2_with (first | (go_at_call 46; refine (rget_yes _ _ q vb _ m i o hO HR.out HK.out HI.out).mono ?_; clear hO; rintro e w1 ⟨rfl, hO, hS1⟩) | (refine own_alloc (T := 33) rfl rfl zero_pat rfl hO ?_; clear hO; intro g w2 hO hS2) | (refine own_store_all (k := 0) (vs := #[.int .i64 o.p.blk, .int .i64 o.p.off, .string o.p.dat]) rfl rfl rfl rfl sz_pat hO rfl rfl rfl rfl ?_; clear hO; intro w3 hO hS3; simp only [List.set_cons_zero] at hO) | (go_at_call 44; refine (rwaiting_c _ _ q vb vl m hO (fun w' h => HR.out w' (own_drop h)) HK.out.len).mono ?_; clear hO; rintro e w4 ⟨wv, rfl, hO, hS4⟩))
  obtain ⟨B, bcap, rfl⟩ := (owns_rd hO).slice
  have hm := (owns_rd hO).max
  go_wp2
  go_loopw [8, 10] (fun v i' wr => ∃ k : Nat, k ≤ m.l.length ∧ i' = .int .i64 k ∧ Own wr (owns 3 1 v (belowM (m.l.take k) o).length (numV (belowM (m.l.take k) o)) :: owns 3 1 (.slice B m.l.length bcap) m.l.length (m.l.map fun c => .int .i64 c.n) :: pts g (.cells #[.int .i64 o.p.blk, .int .i64 o.p.off, .string o.p.dat] 33) :: L) ∧ Same w wr) (fun _ i' _ => m.l.length - (intOf i').toNat)
  case atStart => exact ⟨0, Nat.zero_le _, rfl, by rw [List.take_zero]; exact owns_nil hO, hS1.trans (hS2.trans (hS3.trans hS4))⟩
  case round =>
    clear hO hS1 hS2 hS3 hS4
    obtain ⟨k, hk, rfl, hO, hS⟩ := hrel
    by_cases hlt : k < m.l.length
    · obtain ⟨d, hd⟩ : ∃ d, m.l[k]? = some d := ⟨_, List.getElem?_eq_getElem hlt⟩
      obtain ⟨ad, rfl⟩ := (owns_rd (own_drop hO)).addr (by rw [List.length_map]; omega)
      have hcell : wr.cell? (ad.add k) = some (.int .i64 d.n) := by
        have h1 : wr.cell? ((ad.add (k * 1)).add 0) = some (.int .i64 d.n) := (owns_rd (own_drop hO)).cell (by rw [Nat.mul_one, Nat.add_zero, List.getElem?_map, hd]; rfl)
        rwa [addr_add, Nat.mul_one, Nat.add_zero] at h1
      have hm1 : (k : Int) < m.l.length := by omega
      have HLE : Hid ((belowM (m.l.take k) o).length ≤ 200) := Nat.le_trans (below_len _ _ _) HK.out.len
      have HST := Lib.hid (below_step (o := o) hd)
      clear hd
      by_cases hn : d.n < o.n
      · have hn1 : (d.n : Int) < o.n := by omega
        have HN : Hid (decide (d.n < o.n) = true) := by show _ = _; simp [hn]
        go_wp2_with (first | (refine own_append (m := 1) (n := (belowM (m.l.take k) o).length) (xs := (numV (belowM (m.l.take k) o))) (news := [.int .i64 d.n]) rfl rfl rfl rfl Try.underlying24 info_int3 rfl (by decide) (own_perm (own_alloc_new hO (.cells #[.int .i64 d.n] 3)) (List.Perm.swap _ _ _)) ?_ (int_one _) ?_ ?_ ?_; (exact rd_block (own_get 1 (own_perm (own_alloc_new hO (.cells #[.int .i64 d.n] 3)) (List.Perm.swap _ _ _)) rfl) rfl (by simp) (by simp) (by simp)); (have := HLE.out; unfold maxLen; omega); (have := HLE.out; omega); clear hO; intro v' w9 hO hS9 hv'))
        go_roundw
        case rel =>
          refine ⟨k + 1, by omega, by go_num, ?_, hS.trans ((Same.alloc _ _).trans hS9)⟩
          rw [HST.out, HN.out, if_pos rfl, List.length_append]
          unfold numV
          rw [List.map_append]
          exact own_skip hO
        case measure => simp [intOf]; omega
      · have HN : Hid (decide (d.n < o.n) = false) := by show _ = _; simp [hn]
        have hn1 : (d.n < o.n) = False := eq_false hn
        have hn2 : decide (d.n < o.n) = false := by simp [hn]
        clear hn
        go_wp2
        go_roundw
        case rel =>
          refine ⟨k + 1, by omega, by go_num, ?_, hS⟩
          rw [HST.out, HN.out]
          simpa using hO
        case measure => simp [intOf]; omega
    · have hke : k = m.l.length := by omega
      subst hke
      rw [List.take_length] at hO
      go_upto_region 13 with fail
      have HE : Hid (appAll m.base (selL m.l ((belowM m.l o).map fun n : Nat => (n : Int))) = appAll m.base (m.pats.take i)) := by show _ = _; rw [HSB.out, List.map_take]; rfl
      have HAL : Hid (32 = (appAll m.base (m.pats.take i)).length) := (appAll_length _ _ HK.out.base (fun p hp => by obtain ⟨x, hx, rfl⟩ := List.mem_map.1 (List.mem_of_mem_take hp); exact HK.out.right x hx)).symm
      refine wp_region_own (α := Value × Nat) (fun x => [.pointer (some ⟨q, 0, none⟩), u8, x.1, .agg #[.int .i64 o.p.blk, .int .i64 o.p.off, .string o.p.dat], .tuple #[.agg #[.int .i64 o.p.blk, .int .i64 o.p.off, .string (bstr (cutP (appAll m.base (m.pats.take i)) o.p))], .int .i64 0], .tuple #[.agg #[.int .i64 o.p.blk, .int .i64 o.p.off, .string (bstr (cutP (appAll m.base (m.pats.take i)) o.p))], .int .i64 0], .agg #[.int .i64 o.p.blk, .int .i64 o.p.off, .string (bstr (cutP (appAll m.base (m.pats.take i)) o.p))], .int .i64 0, .pointer (some ⟨x.2, 0, none⟩), undef, .int .i64 0]) (fun D x => mk (D 8) (pts x.2 (.cells (if D 9 then #[.int .i64 o.p.blk, .int .i64 o.p.off, .string (bstr (cutP (appAll m.base (m.pats.take i)) o.p))] else #[.int .i64 0, .int .i64 0, .string ⟨#[]⟩]) 33)) ++ (mk (D 2) (owns 5 1 x.1 32 (bcs (appAll m.base (m.pats.take i)))) ++ (owns 3 1 u8 (belowM m.l o).length (numV (belowM m.l o)) :: owns 3 1 (.slice B m.l.length bcap) m.l.length (m.l.map fun c => .int .i64 c.n) :: pts g (.cells #[.int .i64 o.p.blk, .int .i64 o.p.off, .string o.p.dat] 33) :: L))) wr (undef, 0) 56 (fun _ => rfl) mixed (by kernel_rfl) rfl ?_ (Same.drew _) (fun _ _ _ _ hd h => ⟨hd ▸ h.1, h.2⟩) ?_ ?_
      · exact own_heap hO (fun _ _ h => h)
      · clear hO
        refine ⟨?_, ?_, ?_, ?_, ?_, ?_, ?_, ?_, ?_, ?_, ?_, trivial⟩
        · (refine fs_pure (fun _ _ => rfl) (fun D x hD hcl hp => ?_); simp only [List.append_eq, List.cons_append, List.nil_append, putO]; simp only [Act.put, List.setIfInBounds_toArray, List.set_cons_zero, List.set_cons_succ]; first | exact y_skip rfl | exact y_run rfl (by intro w h; go_simp; first | done | rfl))
        · (refine fs_pure (fun _ _ => rfl) (fun D x hD hcl hp => ?_); simp only [List.append_eq, List.cons_append, List.nil_append, putO]; simp only [Act.put, List.setIfInBounds_toArray, List.set_cons_zero, List.set_cons_succ]; first | exact y_skip rfl | exact y_run rfl (by intro w h; go_simp; first | done | rfl))
        · skip
          intro D x w5 hD hcl hp hO hS5
          simp only [List.append_eq, List.cons_append, List.nil_append, putO]
          simp only [Act.put, List.setIfInBounds_toArray, List.set_cons_zero, List.set_cons_succ]
          have hO2 := hO
          simp only [hD, mk_f, List.nil_append] at hO2
          refine ev_call rfl (by go_simp; first | done | exact ⟨rfl, rfl⟩) ?_
          refine (rwith_c _ _ q vb vl m u8 ((belowM m.l o).map fun n : Nat => (n : Int)) hO2 (fun w' h => HR.out w' (own_drop (own_drop (own_drop (own_drops h))))) HK.out (fun w' h => by rw [List.length_map, ← numV_ints]; exact owns_rd (own_drops h))).mono ?_
          rw [HE.out]
          rintro e w6 ⟨v, rfl, hO6, hS6⟩
          refine ⟨_, rfl, wpList_nil ⟨rfl, (v, x.2), (by intro j hj; rcases j with _ | j; (focus (first | rfl | (exfalso; simp_all; done))); rcases j with _ | j; (focus (first | rfl | (exfalso; simp_all; done))); rcases j with _ | j; (focus (first | rfl | (exfalso; simp_all; done))); rcases j with _ | j; (focus (first | rfl | (exfalso; simp_all; done))); rcases j with _ | j; (focus (first | rfl | (exfalso; simp_all; done))); rcases j with _ | j; (focus (first | rfl | (exfalso; simp_all; done))); rcases j with _ | j; (focus (first | rfl | (exfalso; simp_all; done))); rcases j with _ | j; (focus (first | rfl | (exfalso; simp_all; done))); rcases j with _ | j; (focus (first | rfl | (exfalso; simp_all; done))); rcases j with _ | j; (focus (first | rfl | (exfalso; simp_all; done))); rcases j with _ | j; (focus (first | rfl | (exfalso; simp_all; done))); rfl), fun d hd _ => by cases hd; rfl, ?_, hS5.trans hS6⟩⟩
          exact own_perm hO6 List.perm_middle.symm
        · (refine fs_pure (fun _ _ => rfl) (fun D x hD hcl hp => ?_); simp only [List.append_eq, List.cons_append, List.nil_append, putO]; simp only [Act.put, List.setIfInBounds_toArray, List.set_cons_zero, List.set_cons_succ]; first | exact y_skip rfl | exact (y_loadrow (b := g) (off := 0) (cs := #[.int .i64 o.p.blk, .int .i64 o.p.off, .string o.p.dat]) (t := 33) rfl rfl rfl row_pat sz_pat (fun w h => own_get 2 (own_drops (own_drops h.1)) rfl) (by simp) rfl) | exact y_run rfl (by intro w h; go_simp; first | done | rfl))
        · (refine fs_pure (fun _ _ => rfl) (fun D x hD hcl hp => ?_); simp only [List.append_eq, List.cons_append, List.nil_append, putO]; simp only [Act.put, List.setIfInBounds_toArray, List.set_cons_zero, List.set_cons_succ]; first | exact y_skip rfl | exact (y_call rfl (by intro w h; go_simp; first | done | exact ⟨rfl, rfl⟩) (by intro w h; apply cls_call h; exact rundo_ok _ _ x.1 (appAll m.base (m.pats.take i)) _ _ _ h.1 (fun w' h' => owns_rdB HAL.out (by have h2 := hp ⟨2, .data⟩ (by simp) rfl; have h3 := own_drops h'; rw [h2] at h3; exact h3)) HAL.out.symm HRO.out)) | exact y_run rfl (by intro w h; go_simp; first | done | rfl))
        · (refine fs_pure (fun _ _ => rfl) (fun D x hD hcl hp => ?_); simp only [List.append_eq, List.cons_append, List.nil_append, putO]; simp only [Act.put, List.setIfInBounds_toArray, List.set_cons_zero, List.set_cons_succ]; first | exact y_skip rfl | exact y_run rfl (by intro w h; go_simp; first | done | rfl))
        · (refine fs_pure (fun _ _ => rfl) (fun D x hD hcl hp => ?_); simp only [List.append_eq, List.cons_append, List.nil_append, putO]; simp only [Act.put, List.setIfInBounds_toArray, List.set_cons_zero, List.set_cons_succ]; first | exact y_skip rfl | exact y_run rfl (by intro w h; go_simp; first | done | rfl))
        · (refine fs_pure (fun _ _ => rfl) (fun D x hD hcl hp => ?_); simp only [List.append_eq, List.cons_append, List.nil_append, putO]; simp only [Act.put, List.setIfInBounds_toArray, List.set_cons_zero, List.set_cons_succ]; first | exact y_skip rfl | exact y_run rfl (by intro w h; go_simp; first | done | rfl))
        · skip
          intro D x w5 hD hcl hp hO hS5
          simp only [List.append_eq, List.cons_append, List.nil_append, putO]
          simp only [Act.put, List.setIfInBounds_toArray, List.set_cons_zero, List.set_cons_succ]
          have hO2 := hO
          simp only [hD, mk_f, List.nil_append] at hO2
          refine own_alloc (T := 33) rfl rfl zero_pat rfl hO2 ?_
          intro g2 w6 hO6 hS6
          refine wpList_nil ⟨rfl, (x.1, g2), (by intro j hj; rcases j with _ | j; (focus (first | rfl | (exfalso; simp_all; done))); rcases j with _ | j; (focus (first | rfl | (exfalso; simp_all; done))); rcases j with _ | j; (focus (first | rfl | (exfalso; simp_all; done))); rcases j with _ | j; (focus (first | rfl | (exfalso; simp_all; done))); rcases j with _ | j; (focus (first | rfl | (exfalso; simp_all; done))); rcases j with _ | j; (focus (first | rfl | (exfalso; simp_all; done))); rcases j with _ | j; (focus (first | rfl | (exfalso; simp_all; done))); rcases j with _ | j; (focus (first | rfl | (exfalso; simp_all; done))); rcases j with _ | j; (focus (first | rfl | (exfalso; simp_all; done))); rcases j with _ | j; (focus (first | rfl | (exfalso; simp_all; done))); rcases j with _ | j; (focus (first | rfl | (exfalso; simp_all; done))); rfl), fun d hd _ => by cases hd; rfl, ?_, hS5.trans hS6⟩
          have h9 : D 9 = false := by
            cases h : D 9 with
            | false => rfl
            | true =>
              have := hcl 9 _ rfl h ⟨8, .data⟩ (by simp) rfl
              rw [hD] at this; cases this
          show Own w6 (mk true (pts g2 (.cells (if D 9 then _ else _) _)) ++ _)
          rw [h9]
          exact hO6
        · skip
          intro D x w5 hD hcl hp hO hS5
          simp only [List.append_eq, List.cons_append, List.nil_append, putO]
          simp only [Act.put, List.setIfInBounds_toArray, List.set_cons_zero, List.set_cons_succ]
          have h8 := hp ⟨8, .data⟩ (by simp) rfl
          have hO2 := hO
          simp only [h8, hD, mk_t] at hO2
          refine own_store_all (k := 0) (vs := #[.int .i64 o.p.blk, .int .i64 o.p.off, .string (bstr (cutP (appAll m.base (m.pats.take i)) o.p))]) rfl rfl rfl rfl sz_pat hO2 rfl rfl rfl rfl ?_
          intro w6 hO6 hS6
          refine wpList_nil ⟨rfl, x, (by intro j hj; rcases j with _ | j; (focus (first | rfl | (exfalso; simp_all; done))); rcases j with _ | j; (focus (first | rfl | (exfalso; simp_all; done))); rcases j with _ | j; (focus (first | rfl | (exfalso; simp_all; done))); rcases j with _ | j; (focus (first | rfl | (exfalso; simp_all; done))); rcases j with _ | j; (focus (first | rfl | (exfalso; simp_all; done))); rcases j with _ | j; (focus (first | rfl | (exfalso; simp_all; done))); rcases j with _ | j; (focus (first | rfl | (exfalso; simp_all; done))); rcases j with _ | j; (focus (first | rfl | (exfalso; simp_all; done))); rcases j with _ | j; (focus (first | rfl | (exfalso; simp_all; done))); rcases j with _ | j; (focus (first | rfl | (exfalso; simp_all; done))); rcases j with _ | j; (focus (first | rfl | (exfalso; simp_all; done))); rfl), (fun d hd _ => by cases hd), ?_, hS5.trans hS6⟩
          show Own w6 (mk (D 8) _ ++ (mk (D 2) _ ++ _))
          rw [h8]
          exact hO6
        · (refine fs_pure (fun _ _ => rfl) (fun D x hD hcl hp => ?_); simp only [List.append_eq, List.cons_append, List.nil_append, putO]; simp only [Act.put, List.setIfInBounds_toArray, List.set_cons_zero, List.set_cons_succ]; first | exact y_skip rfl | exact y_run rfl (by intro w h; go_simp; first | done | rfl))
      · intro x w9 D hD hO hS9
        simp only [List.append_eq, List.cons_append, List.nil_append, putO]
        simp only [Act.put, List.setIfInBounds_toArray, List.set_cons_zero, List.set_cons_succ]
        have h2 := hD 2 (by decide)
        have h8 := hD 8 (by decide)
        have h9 := hD 9 (by decide)
        simp only [h2, h8, h9, mk_t] at hO
        simp only [Exit.then]
        clear hD h2 h8 h9 hlt hk hm
        go_wp2_with (first | (refine own_load1 (b := x.2) (off := 2) (cs := #[.int .i64 o.p.blk, .int .i64 o.p.off, .string (bstr (cutP (appAll m.base (m.pats.take i)) o.p))]) (t := 33) rfl rfl rfl row_str (own_get 0 hO rfl) rfl ?_))
        go_ret2
        exact ⟨rfl, own_drop (own_drop (own_drop (own_drop (own_drop hO)))), hS.trans hS9⟩
end
end Go.Proofs.Ytdcbfdepkbplbaa.H
