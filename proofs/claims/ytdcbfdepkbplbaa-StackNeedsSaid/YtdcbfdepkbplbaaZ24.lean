/- Both stacks do the same: deeds. Opening a law's arguments: bytes, a patch, patches. Opening a law's argument: ints, a deed on a stack, deeds. The law's few, has, block; a deed on both stacks. -/
import Derived.Test.YtdcbfdepkbplbaaZ23
import Derived.Test.YtdcbfdepkbplbaaZ02
import Derived.Test.YtdcbfdepkbplbaaRows
import Derived.WalkKit
import Derived.ProofKit
import Derived.OpenShut
import Derived.Carry
import Derived.Deep.Slices
import Derived.Deep.Fields
import Derived.ChangeSame
import Derived.ChangeOld
import Derived.Lib.SmallJoins
import Derived.Test.YtdcbfdepkbplbaaZ10
set_option linter.unusedVariables false
set_option linter.unusedSimpArgs false
set_option maxRecDepth 100000
namespace Go.Proofs.Ytdcbfdepkbplbaa.H
open Go.RowKit
section
variable (m : Stk)
theorem push_both (a0 a1 : Int) (s : ByteArray) (hk : m.Ok) (hl : m.l.length < 200) (hn : m.next < 1000000) : ∃ (r e : Int) (m' : Stk),
    BothR 25 56 m m' (fun y => #[y, .agg #[.int .i64 a0, .int .i64 a1, .string s]]) (.tuple #[.int .i64 r, .int .i64 e]) ∧ m'.Ok ∧ m'.l.length ≤ m.l.length + 1 ∧ m'.next ≤ m.next + 1 ∧
    ((e = 3 ∧ m' = m) ∨ (e = 0 ∧ rightB ⟨a0, a1, s⟩ = true ∧ r = m.next ∧ m' = m.pushed ⟨a0, a1, s⟩)) := by
  cases hR : rightB ⟨a0, a1, s⟩ with
  | false => exact ⟨0, 3, m, ⟨fun w L p hO => push_form w L p m a0 a1 s hO hk hR, fun w L q hO => rpush_form w L q m a0 a1 s hO hR⟩, hk, by omega, by omega, .inl ⟨rfl, rfl⟩⟩
  | true => exact ⟨m.next, 0, m.pushed ⟨a0, a1, s⟩, ⟨fun w L p hO => push_ok w L p m a0 a1 s hO hk hR hl hn, fun w L q hO => rpush_ok w L q m a0 a1 s hO hk hR hl hn⟩, hk.pushed hR hl hn, by simp [Stk.pushed], by simp [Stk.pushed], .inr ⟨rfl, rfl, rfl, rfl⟩⟩
theorem pop_both (hk : m.Ok) : ∃ (x0 x1 : Int) (x2 : ByteArray) (e : Int) (m' : Stk),
    BothR 27 57 m m' (fun y => #[y]) (.tuple #[.agg #[.int .i64 x0, .int .i64 x1, .string x2], .int .i64 e]) ∧ m'.Ok ∧ m'.l.length ≤ m.l.length ∧ m'.next ≤ m.next ∧
    (∀ l o, m.l = l ++ [o] → e = 0 ∧ x0 = o.p.blk ∧ x1 = o.p.off ∧ x2 = o.p.dat ∧ m' = m.popped) := by
  rcases List.eq_nil_or_concat m.l with h | ⟨ps, o, h⟩
  · refine ⟨0, 0, ⟨#[]⟩, 5, m, ⟨fun w L p hO => pop_no w L p m hO hk h, fun w L q hO => rpop_no w L q m hO hk h⟩, hk, Nat.le_refl _, Nat.le_refl _, fun l o h2 => ?_⟩
    rw [h] at h2
    simp at h2
  · rw [List.concat_eq_append] at h
    refine ⟨_, _, _, 0, m.popped, ⟨fun w L p hO => pop_ok w L p m ps o hO hk h, fun w L q hO => rpop_ok w L q m ps o hO hk h⟩, popped_ok hk, by simp [Stk.popped], Nat.le_refl _, fun l o' h2 => ?_⟩
    rw [h] at h2
    obtain ⟨_, h3⟩ := List.append_inj' h2 rfl
    simp at h3
    subst h3
    exact ⟨rfl, rfl, rfl, rfl, rfl⟩
/-- What settling some answers. -/
def MayR (l : List On) (s : List Int) (e : Int) : Prop := (OutL l s ∧ e = 2) ∨ (¬ OutL l s ∧ BusyL l s ∧ e = 12) ∨ (¬ OutL l s ∧ ¬ BusyL l s ∧ e = 0)
theorem mayR_ex (l : List On) (s : List Int) : ∃ e, MayR l s e := by
  by_cases h1 : OutL l s
  · exact ⟨2, .inl ⟨h1, rfl⟩⟩
  · by_cases h2 : BusyL l s
    · exact ⟨12, .inr (.inl ⟨h1, h2, rfl⟩)⟩
    · exact ⟨0, .inr (.inr ⟨h1, h2, rfl⟩)⟩
/-- A call with a list of numbers that both answer alike. -/
abbrev BothL (f g : FuncId) (m m' : Stk) (s : List Int) (r : Value) : Prop :=
  (∀ (w : World) (L : List HP) (p : Nat) (sv : Value), Own w (stk p m :: L) → (∀ w', Own w' L → Rd w' 1 sv s.length (ints s)) → Calls Try.prog f #[.pointer (some ⟨p, 0, none⟩), sv] w (Ret w r (stk p m' :: L))) ∧
  (∀ (w : World) (L : List HP) (q : Nat) (sv : Value), Own w (rstk q m :: L) → (∀ w', Own w' L → Rd w' 1 sv s.length (ints s)) → Calls Try.prog g #[.pointer (some ⟨q, 0, none⟩), sv] w (Ret w r (rstk q m' :: L)))
abbrev BothLX (f g : FuncId) (m m' : Stk) (s : List Int) (V : Value → Value) (xs : List Value) : Prop :=
  (∀ (w : World) (L : List HP) (p : Nat) (sv : Value), Own w (stk p m :: L) → (∀ w', Own w' L → Rd w' 1 sv s.length (ints s)) → Calls Try.prog f #[.pointer (some ⟨p, 0, none⟩), sv] w (RetX w V (fun v => rdA 1 v xs.length xs :: stk p m' :: L))) ∧
  (∀ (w : World) (L : List HP) (q : Nat) (sv : Value), Own w (rstk q m :: L) → (∀ w', Own w' L → Rd w' 1 sv s.length (ints s)) → Calls Try.prog g #[.pointer (some ⟨q, 0, none⟩), sv] w (RetX w V (fun v => rdA 1 v xs.length xs :: rstk q m' :: L)))
theorem settle_both (hk : m.Ok) (s : List Int) (hs : ∀ x ∈ s, i64 x) : ∃ (e : Int) (m' : Stk), BothL 22 58 m m' s (.int .i64 e) ∧ m'.Ok ∧ m'.l.length ≤ m.l.length ∧ m'.next ≤ m.next ∧ MayR m.l s e ∧ m' = (if e = 0 then m.settled s else m) := by
  obtain ⟨e, he⟩ := mayR_ex m.l s
  rcases he with ⟨h1, rfl⟩ | ⟨h1, h2, rfl⟩ | ⟨h1, h2, rfl⟩
  · exact ⟨2, m, ⟨fun w L p sv hO hr => settle_no w L p m sv s hO hk hr hs 2 (.inl ⟨h1, rfl⟩), fun w L q sv hO hr => rsettle_no w L q m sv s hO hk hr 2 (.inl ⟨h1, rfl⟩)⟩, hk, Nat.le_refl _, Nat.le_refl _, .inl ⟨h1, rfl⟩, rfl⟩
  · exact ⟨12, m, ⟨fun w L p sv hO hr => settle_no w L p m sv s hO hk hr hs 12 (.inr ⟨h1, h2, rfl⟩), fun w L q sv hO hr => rsettle_no w L q m sv s hO hk hr 12 (.inr ⟨h1, h2, rfl⟩)⟩, hk, Nat.le_refl _, Nat.le_refl _, .inr (.inl ⟨h1, h2, rfl⟩), rfl⟩
  · exact ⟨0, m.settled s, ⟨fun w L p sv hO hr => settle_ok w L p m sv s hO hk hr hs h1 h2, fun w L q sv hO hr => rsettle_ok w L q m sv s hO hk hr h1 h2⟩, settled_ok hk s, List.length_filter_le _ _, Nat.le_refl _, .inr (.inr ⟨h1, h2, rfl⟩), rfl⟩
theorem roll_both (hk : m.Ok) (s : List Int) (hs : ∀ x ∈ s, i64 x) : ∃ (e : Int) (bs : List UInt8), BothLX 17 24 m m s (fun v => .tuple #[v, .int .i64 e]) (bcs bs) ∧ MayR m.l s e ∧ bs = (if e = 0 then appAll m.base (selL m.l s) else []) := by
  have hno : ∀ e, (OutL m.l s ∧ e = 2) ∨ (¬ OutL m.l s ∧ BusyL m.l s ∧ e = 12) → BothLX 17 24 m m s (fun v => .tuple #[v, .int .i64 e]) (bcs []) := fun e he => by
    refine ⟨fun w L p sv hO hr => (roll_no w L p m sv s hO hk hr hs e he).mono ?_, fun w L q sv hO hr => ?_⟩
    · rintro e w' ⟨rfl, hO', hS⟩
      exact ⟨_, rfl, rdA_nil hO', hS⟩
    · obtain ⟨vb, vl, hO⟩ := rstk_open.1 hO
      refine (rroll_no w _ q vb vl m sv s hO (fun w' h => rAt_of h hk.base) hk (fun w' h => hr w' (own_drops h)) e he).mono ?_
      rintro e w' ⟨rfl, hO', hS'⟩
      exact ⟨_, rfl, rdA_nil (rstk_open.2 ⟨vb, vl, hO'⟩), hS'⟩
  obtain ⟨e, he⟩ := mayR_ex m.l s
  rcases he with ⟨h1, rfl⟩ | ⟨h1, h2, rfl⟩ | ⟨h1, h2, rfl⟩
  · exact ⟨2, [], hno 2 (.inl ⟨h1, rfl⟩), .inl ⟨h1, rfl⟩, rfl⟩
  · exact ⟨12, [], hno 12 (.inr ⟨h1, h2, rfl⟩), .inr (.inl ⟨h1, h2, rfl⟩), rfl⟩
  · have hl := appAll_ok hk s
    refine ⟨0, appAll m.base (selL m.l s), ⟨fun w L p sv hO hr => (roll_ok w L p m sv s hO hk hr hs h1 h2).mono ?_, fun w L q sv hO hr => ?_⟩, .inr (.inr ⟨h1, h2, rfl⟩), rfl⟩
    · rintro e w' ⟨g, rfl, hO', hS'⟩
      refine ⟨_, rfl, ?_, hS'⟩
      rw [bcs_length, hl]
      exact rdA_pts hl (own_perm hO' (List.Perm.swap _ _ _))
    · obtain ⟨vb, vl, hO⟩ := rstk_open.1 hO
      refine (rroll_ok w _ q vb vl m sv s hO (fun w' h => rAt_of h hk.base) hk (fun w' h => hr w' (own_drops h)) h1 h2).mono ?_
      rintro e w' ⟨v, rfl, hO', hS'⟩
      refine ⟨_, rfl, ?_, hS'⟩
      rw [bcs_length, hl]
      exact rdA_owns (own_perm (rstk_open.2 ⟨vb, vl, own_perm hO' (List.perm_middle.symm)⟩) (List.Perm.swap _ _ _))
theorem squash_both (hk : m.Ok) (into n : Int) (hi : i64 into) (hn : i64 n) : ∃ (e : Int) (m' : Stk), BothR 21 59 m m' (fun y => #[y, .int .i64 into, .int .i64 n]) (.int .i64 e) ∧ m'.Ok ∧ m'.l.length ≤ m.l.length ∧ m'.next ≤ m.next ∧
    ((e ≠ 0 ∧ m' = m) ∨ (e = 0 ∧ ∃ i k a b, i < k ∧ m.l[i]? = some a ∧ m.l[k]? = some b ∧ ¬ SqBusy m.l i k a b ∧ joinB a.p ⟨a.p.blk, b.p.off, b.p.dat⟩ = true ∧ m' = m.squashed i k a.n (joinM a.p ⟨a.p.blk, b.p.off, b.p.dat⟩))) := by
  have hnoent : (∀ o ∈ m.l, (o.n : Int) ≠ into) ∨ (∀ o ∈ m.l, (o.n : Int) ≠ n) → BothR 21 59 m m (fun y => #[y, .int .i64 into, .int .i64 n]) (.int .i64 5) := fun h => by
    refine ⟨fun w L p hO => ?_, fun w L q hO => rsquash_noent w L q m into n hO hk h⟩
    have hpl : ∀ x : Int, ∃ r, ∀ cs, Reps m cs → placeOf cs x = r := fun x => by
      rcases on_cases m.l x with ⟨i, o, ho, rfl⟩ | hno
      · refine ⟨i, fun cs hrep => ?_⟩
        have ho2 := ho
        rw [← hrep.on, List.getElem?_map, Option.map_eq_some_iff] at ho2
        obtain ⟨c, hc, rfl⟩ := ho2
        exact place_at (hrep.csok hk).asc hc rfl
      · exact ⟨-1, fun cs hrep => place_none (cs_none hrep hno)⟩
    obtain ⟨r1, h1⟩ := hpl into
    obtain ⟨r2, h2⟩ := hpl n
    refine squash_noent w L p m into n hO hk hi hn r1 r2 (fun cs hrep => ⟨h1 cs hrep, h2 cs hrep⟩) ?_
    obtain ⟨v, cs, hrep, _⟩ := stk_open.1 hO
    rcases h with h | h
    · left; have := h1 cs hrep; rw [place_none (cs_none hrep h)] at this; omega
    · right; have := h2 cs hrep; rw [place_none (cs_none hrep h)] at this; omega
  rcases on_cases m.l into with ⟨i, a, ha, rfl⟩ | hno
  · rcases on_cases m.l n with ⟨k, b, hb, rfl⟩ | hno
    · have hr : ∀ (w : World) (L : List HP) (q : Nat), Own w (rstk q m :: L) → Calls Try.prog 59 #[.pointer (some ⟨q, 0, none⟩), .int .i64 a.n, .int .i64 b.n] w (SqPost w L q m i k a b) := fun w L q hO => rsquash_yes w L q m i k a b hO hk ha hb
      by_cases hik : k ≤ i
      · refine ⟨2, m, ⟨fun w L p hO => squash_range w L p m i k a b hO hk ha hb hik, fun w L q hO => (hr w L q hO).mono ?_⟩, hk, Nat.le_refl _, Nat.le_refl _, .inl ⟨by decide, rfl⟩⟩
        rintro e w' (⟨_, h⟩ | ⟨h1, _⟩ | ⟨h1, _⟩ | ⟨h1, _⟩)
        · exact h
        all_goals omega
      · have hik : i < k := by omega
        by_cases hbusy : SqBusy m.l i k a b
        · have hfirst : ∃ t0 o0, i < t0 ∧ t0 < k ∧ m.l[t0]? = some o0 ∧ (∀ (t : Nat) (c : On), i < t → t < t0 → m.l[t]? = some c → meetB c.p a.p = false ∧ meetB c.p b.p = false) ∧ (meetB o0.p a.p = true ∨ (meetB o0.p a.p = false ∧ meetB o0.p b.p = true)) := by
            have key : ∀ d t c, t = i + 1 + d → t < k → m.l[t]? = some c → (meetB c.p a.p = true ∨ meetB c.p b.p = true) → ∃ t0 o0, i < t0 ∧ t0 < k ∧ m.l[t0]? = some o0 ∧ (∀ (t : Nat) (c : On), i < t → t < t0 → m.l[t]? = some c → meetB c.p a.p = false ∧ meetB c.p b.p = false) ∧ (meetB o0.p a.p = true ∨ meetB o0.p b.p = true) := by
              intro d
              induction d using Nat.strongRecOn with
              | _ d ih =>
                intro t c ht hk2 hc h
                by_cases hex : ∃ t' c', i < t' ∧ t' < t ∧ m.l[t']? = some c' ∧ (meetB c'.p a.p = true ∨ meetB c'.p b.p = true)
                · obtain ⟨t', c', h1, h2, h3, h4⟩ := hex
                  exact ih (t' - (i + 1)) (by omega) t' c' (by omega) (by omega) h3 h4
                · refine ⟨t, c, by omega, hk2, hc, fun t' c' h1 h2 h3 => ?_, h⟩
                  have h5 : ¬ (meetB c'.p a.p = true ∨ meetB c'.p b.p = true) := fun h5 => hex ⟨t', c', h1, h2, h3, h5⟩
                  simpa using h5
            obtain ⟨t, c, h1, h2, h3, h4⟩ := hbusy
            obtain ⟨t0, o0, g1, g2, g3, g4, g5⟩ := key (t - (i + 1)) t c (by omega) h2 h3 h4
            refine ⟨t0, o0, g1, g2, g3, g4, ?_⟩
            cases h : meetB o0.p a.p with
            | true => exact .inl rfl
            | false =>
              rw [h] at g5
              exact .inr ⟨rfl, by simpa using g5⟩
          obtain ⟨t0, o0, g1, g2, g3, g4, g5⟩ := hfirst
          refine ⟨12, m, ⟨fun w L p hO => squash_busy w L p m i k t0 a b o0 hO hk ha hb g1 g2 g3 g4 g5, fun w L q hO => (hr w L q hO).mono ?_⟩, hk, Nat.le_refl _, Nat.le_refl _, .inl ⟨by decide, rfl⟩⟩
          rintro e w' (⟨h, _⟩ | ⟨_, _, h⟩ | ⟨_, h, _⟩ | ⟨_, h, _⟩)
          · omega
          · exact h
          · exact absurd hbusy h
          · exact absurd hbusy h
        · have hmid : ∀ (t : Nat) (c : On), i < t → t < k → m.l[t]? = some c → meetB c.p a.p = false ∧ meetB c.p b.p = false := fun t c h1 h2 h3 => by
            have h5 : ¬ (meetB c.p a.p = true ∨ meetB c.p b.p = true) := fun h5 => hbusy ⟨t, c, h1, h2, h3, h5⟩
            simpa using h5
          cases hj : joinB a.p ⟨a.p.blk, b.p.off, b.p.dat⟩ with
          | false =>
            refine ⟨3, m, ⟨fun w L p hO => squash_form w L p m i k a b hO hk ha hb hik hmid hj, fun w L q hO => (hr w L q hO).mono ?_⟩, hk, Nat.le_refl _, Nat.le_refl _, .inl ⟨by decide, rfl⟩⟩
            rintro e w' (⟨h, _⟩ | ⟨_, h, _⟩ | ⟨_, _, _, h⟩ | ⟨_, _, h, _⟩)
            · omega
            · exact absurd h hbusy
            · exact h
            · rw [hj] at h; cases h
          | true =>
            refine ⟨0, _, ⟨fun w L p hO => squash_ok w L p m i k a b hO hk ha hb hik hmid hj, fun w L q hO => (hr w L q hO).mono ?_⟩, squashed_ok hk ha (joinM_right (joins_iff.1 hj)), ?_, Nat.le_refl _, .inr ⟨rfl, i, k, a, b, hik, ha, hb, hbusy, hj, rfl⟩⟩
            · rintro e w' (⟨h, _⟩ | ⟨_, h, _⟩ | ⟨_, _, h, _⟩ | ⟨_, _, _, h⟩)
              · omega
              · exact absurd h hbusy
              · rw [hj] at h; cases h
              · exact h
            · show ((m.l.set i _).eraseIdx k).length ≤ _
              exact Nat.le_trans (List.eraseIdx_sublist _ _).length_le (by simp)
    · exact ⟨5, m, hnoent (.inr hno), hk, Nat.le_refl _, Nat.le_refl _, .inl ⟨by decide, rfl⟩⟩
  · exact ⟨5, m, hnoent (.inl hno), hk, Nat.le_refl _, Nat.le_refl _, .inl ⟨by decide, rfl⟩⟩
end
end Go.Proofs.Ytdcbfdepkbplbaa.H
set_option linter.unusedVariables false
set_option linter.unusedSimpArgs false
set_option maxRecDepth 100000
namespace Go.Proofs.Ytdcbfdepkbplbaa.H
open Go.ChangeShapes Go.WideShapes Go.ChangeAt Go.RowKit Go.Deep Go.Joins
theorem laidOut : laidOutB Try.prog = true := by kernel_rfl
theorem ownk : ownKnob Try.prog.godebug = none := by kernel_rfl
theorem lt_of_trod {H : Type} {enc : TypeId × Value → H} {P : Program} {w : World} {sp : Nat → Bool} {hd : Bool} {t : TypeId} {v : Value} {d : DataW H} {ps : List MemPlace} (h : DataW.Trod enc P w 0 sp hd t v d ps) : ∀ x ∈ ps, x.block < w.heap.size := by
  obtain ⟨m, hm⟩ := h
  exact DataW.trod_lt m _ _ _ hm
/-- All arguments read as they did, behind a call that wrote nothing that was there. -/
theorem trodAll_below {H : Type} {enc : TypeId × Value → H} {P : Program} {W W' : World} (hl : laidOutB P = true) (hb : Below W.heap.size W W') :
    ∀ (ts : List TypeId) (vs : List Value) (ds : List (DataW H)) (ps : List MemPlace), (ts.all fun t => P.readableRec t && decide (t < P.types.size)) = true → DataW.TrodAll enc P W 0 (fun _ => true) true ts vs ds ps → DataW.TrodAll enc P W' 0 (fun b => decide (b < W.heap.size)) true ts vs ds ps := by
  intro ts
  induction ts with
  | nil =>
    intro vs ds ps _ h
    obtain ⟨rfl, rfl, rfl⟩ := trodAll_nil h
    exact trodAll_mk0
  | cons t ts ih =>
    intro vs ds ps ht h
    simp only [List.all_cons, Bool.and_eq_true, decide_eq_true_eq] at ht
    obtain ⟨v, vs', d, ds', p, q, rfl, rfl, rfl, h1, h2⟩ := trodAll_cons h
    exact trodAll_cons_mk (Below.trod hl ht.1.1 ht.1.2 h1 hb (lt_of_trod h1)) (ih _ _ _ ht.2 h2)
section
variable {H : Type} {enc : TypeId × Value → H} {w : World} {base : Nat} {spare : Nat → Bool} {held : Bool}
def u8s (zs : List Int) : List UInt8 := zs.map fun z => UInt8.ofNat z.toNat
theorem open_bytes {r : Reach} {b0 : Nat} {v : Value} {d : DataW H} {p : List MemPlace} (hv : Value.okWide Try.prog w r b0 22 v) (h : DataW.Trod enc Try.prog w base spare held 22 v d p) :
    ∃ (A : Option Addr) (n c : Nat) (l : List UInt8), v = .slice A n c ∧ n = l.length ∧ Rd w 1 (.slice A n c) n (bcs l) := by
  obtain ⟨A, n, c, rfl⟩ := okWide_slice Try.underlying22 hv
  obtain ⟨fuel, hf⟩ := h
  rcases open_ints Try.underlying22 Try.underlying5 (by kernel_rfl) hf with ⟨hcs, _⟩ | ⟨x, len, cap, zs, hcs, _, hl, hm, hz, _, hcell, hwz⟩
  · simp [Value.cells] at hcs
    obtain ⟨rfl, rfl, rfl⟩ := hcs
    exact ⟨_, _, _, [], rfl, rfl, rd_nil _ _⟩
  · simp [Value.cells] at hcs
    obtain ⟨rfl, rfl, rfl⟩ := hcs
    have hzl : n ≤ zs.length := by rw [hz]; split <;> omega
    refine ⟨_, _, _, u8s (zs.take n), rfl, by simp [u8s]; omega, ?_, _, _, rfl, hl, by unfold maxLen at hm; omega, ?_⟩
    · simp [bcs_length, u8s]; omega
    · intro j u hu
      refine ⟨x, rfl, ?_⟩
      simp only [bcs, u8s, List.map_map, List.getElem?_map] at hu
      have hj : j < n := by
        rcases Nat.lt_or_ge j n with h | h
        · exact h
        · rw [List.getElem?_take, if_neg (by omega)] at hu; simp at hu
      rw [List.getElem?_take, if_pos hj, List.getElem?_eq_getElem (by omega)] at hu
      simp only [Option.map_some, Option.some.injEq, Function.comp] at hu
      rw [hcell j (by omega), ← hu]
      have hw := hwz (zs[j]'(by omega)) (List.getElem_mem _)
      have hb : 0 ≤ zs[j]'(by omega) ∧ zs[j]'(by omega) ≤ 255 := by simpa [Lit.wf, IntKind.min, IntKind.max, IntKind.signed, IntKind.bits] using hw
      have e : zs.getD j 0 = zs[j]'(by omega) := by simp [List.getD, List.getElem?_eq_getElem (show j < zs.length by omega)]
      rw [e]
      congr 2
      rw [UInt8.toNat_ofNat']
      omega
theorem pat_cells : Try.prog.cellsOf 33 = 3 := by kernel_rfl
theorem open_patch {r : Reach} {b0 : Nat} {v : Value} {d : DataW H} {p : List MemPlace} (hv : Value.okWide Try.prog w r b0 33 v) (h : DataW.Trod enc Try.prog w base spare held 33 v d p) :
    ∃ (a0 a1 : Int) (s : ByteArray), v = .agg #[.int .i64 a0, .int .i64 a1, .string s] := by
  obtain ⟨c0, c1, c2, y0, y1, y2, m, rfl, rfl, rfl, hy0, hy1, hy2⟩ := open_agg3 Try.underlying33 (by kernel_rfl) pat_cells hv h
  obtain ⟨a0, e0, rfl, w0⟩ := DataW.trod_int Try.underlying3 hy0
  obtain ⟨a1, e1, rfl, w1⟩ := DataW.trod_int Try.underlying3 hy1
  obtain ⟨s, e2, rfl, _⟩ := DataW.trod_string Try.underlying9 hy2
  simp at e0 e1 e2
  subst e0 e1 e2
  exact ⟨_, _, _, rfl⟩
end
end Go.Proofs.Ytdcbfdepkbplbaa.H
set_option linter.unusedVariables false
set_option linter.unusedSimpArgs false
set_option maxRecDepth 100000
namespace Go.Proofs.Ytdcbfdepkbplbaa.H
open Go.ChangeShapes Go.WideShapes Go.ChangeAt Go.RowKit Go.Deep Go.Joins
/-- A deed on a stack, as its cells are. -/
structure Dd where
  kind : Int
  n : Int
  m : Int
  p : Pat
  v : Value
  l : List Int
def Dd.cells (d : Dd) : List Value := [.int .i64 d.kind, .int .i64 d.n, .int .i64 d.m, .int .i64 d.p.blk, .int .i64 d.p.off, .string d.p.dat, d.v]
structure Dd.At (w : World) (d : Dd) : Prop where
  rd : Rd w 1 d.v d.l.length (ints d.l)
  i64 : ∀ x ∈ d.l, i64 x
  n64 : H.i64 d.n
  m64 : H.i64 d.m
section
variable {H : Type} {enc : TypeId × Value → H} {w : World} {base : Nat} {spare : Nat → Bool} {held : Bool}
theorem wf_i64 {n : Int} (h : (Lit.int IntKind.i64 n).wf = true) : i64 n := by
  unfold H.i64
  simpa [Lit.wf, IntKind.min, IntKind.max, IntKind.signed, IntKind.bits] using h
theorem open_ints_at {fuel : Nat} {cs : List Value} {x : DataW H × List MemPlace} (hf : DataW.trod enc Try.prog w base spare held fuel 24 cs = some x) :
    ∃ (A : Option Addr) (n c : Nat) (l : List Int), cs = [.slice A n c] ∧ n = l.length ∧ Rd w 1 (.slice A n c) n (ints l) ∧ ∀ x ∈ l, i64 x := by
  rcases open_ints Try.underlying24 Try.underlying3 (by kernel_rfl) hf with ⟨hcs, _⟩ | ⟨x, n, c, zs, hcs, _, hl, hm, hz, _, hcell, hwz⟩
  · exact ⟨_, _, _, [], hcs, rfl, rd_nil _ _, fun x hx => by cases hx⟩
  · have hzl : n ≤ zs.length := by rw [hz]; split <;> omega
    refine ⟨some x, n, c, zs.take n, hcs, by simp; omega, ?_, fun y hy => wf_i64 (hwz y (List.mem_of_mem_take hy))⟩
    refine ⟨by simp [ints]; omega, _, _, rfl, hl, by unfold maxLen at hm; omega, ?_⟩
    intro j u hu
    refine ⟨x, rfl, ?_⟩
    simp only [ints, List.getElem?_map] at hu
    have hj : j < n := by
      rcases Nat.lt_or_ge j n with h | h
      · exact h
      · rw [List.getElem?_take, if_neg (by omega)] at hu; simp at hu
    rw [List.getElem?_take, if_pos hj, List.getElem?_eq_getElem (by omega)] at hu
    simp only [Option.map_some, Option.some.injEq] at hu
    rw [hcell j (by omega), ← hu]
    simp [List.getD, List.getElem?_eq_getElem (show j < zs.length by omega)]
theorem open_intl {r : Reach} {b0 : Nat} {v : Value} {d : DataW H} {p : List MemPlace} (hv : Value.okWide Try.prog w r b0 24 v) (h : DataW.Trod enc Try.prog w base spare held 24 v d p) :
    ∃ (A : Option Addr) (n c : Nat) (l : List Int), v = .slice A n c ∧ n = l.length ∧ Rd w 1 (.slice A n c) n (ints l) ∧ ∀ x ∈ l, i64 x := by
  obtain ⟨A, n, c, rfl⟩ := okWide_slice Try.underlying24 hv
  obtain ⟨fuel, hf⟩ := h
  obtain ⟨A', n', c', l, h1, h2, h3, h4⟩ := open_ints_at hf
  simp [Value.cells] at h1
  obtain ⟨rfl, rfl, rfl⟩ := h1
  exact ⟨_, _, _, l, rfl, h2, h3, h4⟩
theorem list7 {α : Type} {cs : List α} (h : cs.length = 7) : ∃ a b c d e f g, cs = [a, b, c, d, e, f, g] := by
  match cs, h with
  | [a, b, c, d, e, f, g], _ => exact ⟨a, b, c, d, e, f, g, rfl⟩
theorem open_deed_at {fuel : Nat} {cs : List Value} {x : DataW H × List MemPlace} (hf : DataW.trod enc Try.prog w base spare held fuel 42 cs = some x) :
    ∃ d : Dd, cs = d.cells ∧ d.At w := by
  obtain ⟨xs, n, _, rfl, hl, hlen, hf⟩ := DataW.trod_struct Try.underlying42 hf
  have hc : Try.prog.cellsOf 42 = 7 := by kernel_rfl
  have hci : Try.prog.cellsOf 3 = 1 := by kernel_rfl
  have hcp : Try.prog.cellsOf 33 = 3 := by kernel_rfl
  have hcl : Try.prog.cellsOf 24 = 1 := by kernel_rfl
  have hcs : Try.prog.cellsOf 9 = 1 := by kernel_rfl
  rw [hc] at hl
  obtain ⟨c0, c1, c2, c3, c4, c5, c6, rfl⟩ := list7 hl
  have g0 : DataW.trod enc Try.prog w base spare held n 3 (List.take (Try.prog.cellsOf 3) (List.drop 0 [c0, c1, c2, c3, c4, c5, c6])) = xs[0]? := hf 0 _ rfl
  have g1 : DataW.trod enc Try.prog w base spare held n 3 (List.take (Try.prog.cellsOf 3) (List.drop 1 [c0, c1, c2, c3, c4, c5, c6])) = xs[1]? := hf 1 _ rfl
  have g2 : DataW.trod enc Try.prog w base spare held n 3 (List.take (Try.prog.cellsOf 3) (List.drop 2 [c0, c1, c2, c3, c4, c5, c6])) = xs[2]? := hf 2 _ rfl
  have g3 : DataW.trod enc Try.prog w base spare held n 33 (List.take (Try.prog.cellsOf 33) (List.drop 3 [c0, c1, c2, c3, c4, c5, c6])) = xs[3]? := hf 3 _ rfl
  have g4 : DataW.trod enc Try.prog w base spare held n 24 (List.take (Try.prog.cellsOf 24) (List.drop 6 [c0, c1, c2, c3, c4, c5, c6])) = xs[4]? := hf 4 _ rfl
  simp only [hci, hcp, hcl] at g0 g1 g2 g3 g4
  rw [List.getElem?_eq_getElem (by rw [hlen]; decide)] at g0 g1 g2 g3 g4
  obtain ⟨a0, e0, _, w0⟩ := DataW.trod_int Try.underlying3 g0
  obtain ⟨a1, e1, _, w1⟩ := DataW.trod_int Try.underlying3 g1
  obtain ⟨a2, e2, _, w2⟩ := DataW.trod_int Try.underlying3 g2
  obtain ⟨y0, y1, y2, k', hx, _, h0, h1, h2⟩ := trod_struct3 Try.underlying33 g3
  rw [hci] at h0 h1
  rw [hcs] at h2
  obtain ⟨b0, f0, _, _⟩ := DataW.trod_int Try.underlying3 h0
  obtain ⟨b1, f1, _, _⟩ := DataW.trod_int Try.underlying3 h1
  obtain ⟨s, f2, _, _⟩ := DataW.trod_string Try.underlying9 h2
  obtain ⟨A, n, c, l, h5, rfl, h7, h8⟩ := open_ints_at g4
  simp at e0 e1 e2 f0 f1 f2 h5
  subst e0 e1 e2 f0 f1 f2 h5
  exact ⟨⟨a0, a1, a2, ⟨b0, b1, s⟩, _, l⟩, rfl, h7, h8, wf_i64 w1, wf_i64 w2⟩
theorem open_deed {r : Reach} {b0 : Nat} {v : Value} {d : DataW H} {p : List MemPlace} (hv : Value.okWide Try.prog w r b0 42 v) (h : DataW.Trod enc Try.prog w base spare held 42 v d p) :
    ∃ d : Dd, v = .agg d.cells.toArray ∧ d.At w := by
  obtain ⟨cs, rfl, hsz⟩ := okWide_struct Try.underlying42 hv
  obtain ⟨fuel, hf⟩ := h
  obtain ⟨d, h1, h2⟩ := open_deed_at hf
  refine ⟨d, ?_, h2⟩
  rw [← h1]
  simp [Value.cells]
def cellsD (ds : List Dd) : List Value := ds.flatMap Dd.cells
theorem cellsD_length (ds : List Dd) : (cellsD ds).length = ds.length * 7 := by
  induction ds with
  | nil => rfl
  | cons d ds ih => simp only [cellsD, List.flatMap_cons, List.length_append, List.length_cons] at ih ⊢; rw [ih]; simp [Dd.cells]; omega
theorem cellsD_at (ds : List Dd) (k : Nat) (d : Dd) (hk : ds[k]? = some d) (j : Nat) (u : Value) (hu : d.cells[j]? = some u) : (cellsD ds)[k * 7 + j]? = some u := by
  induction ds generalizing k with
  | nil => simp at hk
  | cons e ds ih =>
    have h7 : e.cells.length = 7 := rfl
    cases k with
    | zero =>
      simp at hk
      subst hk
      have hj := (List.getElem?_eq_some_iff.1 hu).1
      simp only [cellsD, List.flatMap_cons]
      rw [List.getElem?_append_left (by omega), ← hu]
      congr 1
      omega
    | succ k =>
      simp only [List.getElem?_cons_succ] at hk
      have := ih k hk
      simp only [cellsD, List.flatMap_cons] at this ⊢
      rw [List.getElem?_append_right (by omega), ← this]
      congr 1
      omega
theorem open_deeds {r : Reach} {b0 : Nat} {v : Value} {d : DataW H} {p : List MemPlace} (hv : Value.okWide Try.prog w r b0 23 v) (h : DataW.Trod enc Try.prog w base spare held 23 v d p) :
    ∃ (A : Option Addr) (n c : Nat) (ds : List Dd), v = .slice A n c ∧ n = ds.length ∧ Rd w 7 (.slice A n c) n (cellsD ds) ∧ ∀ d ∈ ds, d.At w := by
  obtain ⟨A, n, c, rfl⟩ := okWide_slice Try.underlying23 hv
  obtain ⟨fuel, hf⟩ := h
  rcases open_slice Try.underlying23 hf with ⟨hcs, _⟩ | ⟨a, len, cap, m, k, D, Pl, hcs, _, hl, hm, hmm, _, hi⟩
  · simp [Value.cells] at hcs
    obtain ⟨rfl, rfl, rfl⟩ := hcs
    exact ⟨_, _, _, [], rfl, rfl, rd_nil _ _, fun d hd => by cases hd⟩
  · simp [Value.cells] at hcs
    obtain ⟨rfl, rfl, rfl⟩ := hcs
    have hml : n ≤ m := by rw [hmm]; split <;> omega
    have hc7 : Try.prog.cellsOf 42 = 7 := by kernel_rfl
    have key : ∀ i, i < n → ∃ d : Dd, d.At w ∧ ∀ j u, d.cells[j]? = some u → w.cell? (a.add (i * 7 + j)) = some u := by
      intro i hin
      obtain ⟨cs', hc, ht⟩ := hi i (by omega)
      rw [hc7] at hc
      obtain ⟨_, hcl, hat⟩ := World.cells?_some hc
      obtain ⟨d, rfl, hd⟩ := open_deed_at ht
      refine ⟨d, hd, fun j u hu => ?_⟩
      have hj : j < 7 := (List.getElem?_eq_some_iff.1 hu).1
      rw [← addr_add, hat j hj, hu]
    have build : ∀ m, m ≤ n → ∃ ds : List Dd, ds.length = m ∧ (∀ d ∈ ds, d.At w) ∧ ∀ j u, (cellsD ds)[j]? = some u → w.cell? (a.add j) = some u := by
      intro m
      induction m with
      | zero => exact fun _ => ⟨[], rfl, (fun d hd => by cases hd), (fun j u hu => by simp [cellsD] at hu)⟩
      | succ m ih =>
        intro hm
        obtain ⟨ds, hl, had, hps⟩ := ih (by omega)
        obtain ⟨d, hd, hcell⟩ := key m (by omega)
        refine ⟨ds ++ [d], by simp [hl], fun x hx => ?_, fun j u hu => ?_⟩
        · rcases List.mem_append.1 hx with hx | hx
          · exact had x hx
          · simp at hx; subst hx; exact hd
        have e : cellsD (ds ++ [d]) = cellsD ds ++ d.cells := by simp [cellsD]
        rw [e] at hu
        rcases Nat.lt_or_ge j (cellsD ds).length with hj | hj
        · rw [List.getElem?_append_left hj] at hu
          exact hps j u hu
        · rw [List.getElem?_append_right hj] at hu
          have := hcell _ u hu
          rw [cellsD_length, hl] at hj this
          rwa [show m * 7 + (j - m * 7) = j by omega] at this
    obtain ⟨ds, h1, h2, h3⟩ := build n (Nat.le_refl _)
    exact ⟨_, _, _, ds, rfl, h1.symm, ⟨by rw [cellsD_length, h1], _, _, rfl, hl, by unfold maxLen at hm; omega, fun j u hu => ⟨a, rfl, h3 j u hu⟩⟩, h2⟩
end
end Go.Proofs.Ytdcbfdepkbplbaa.H
set_option linter.unusedVariables false
set_option linter.unusedSimpArgs false
set_option maxRecDepth 100000
namespace Go.Proofs.Ytdcbfdepkbplbaa.H
open Go.RowKit
theorem row_intsT : isRowB Try.prog 24 = some false := by kernel_rfl
theorem ints_take (l : List Int) (k : Nat) : (ints l).take k = ints (l.take k) := by simp [ints, List.map_take]
def fewV (A : Option Addr) (n c : Nat) : Value := if 40 < n then .slice A 40 c else .slice A n c
theorem few_c (w : World) (L : List HP) (A : Option Addr) (n c : Nat) (hc : 40 < n → 40 ≤ c) (hO : Own w L) :
    Calls Try.prog 13 #[.slice A n c] w (Ret w (fewV A n c) L) := by
  by_cases h : 40 < n
  · have f : decide (40 < n) = true := by simpa using h
    have f2 : (40 : Int) < n := by omega
    have HE : Hid (fewV A n c = .slice A 40 c) := if_pos h
    have hc2 : 40 ≤ c := hc h
    have hc3 : (40 : Int) ≤ c := by omega
    clear h hc
    go_enter Try.func13, Try.ntmps13
    go_wp2
    go_ret
    exact ⟨by rw [HE.out]; rfl, hO, Same.refl _⟩
  · have f : decide (40 < n) = false := by simpa using h
    have f2 : ((40 : Int) < n) = False := eq_false (by omega)
    have f3 : (40 < n) = False := eq_false h
    have HE : Hid (fewV A n c = .slice A n c) := if_neg h
    clear h hc
    go_enter Try.func13, Try.ntmps13
    go_wp2
    go_ret
    exact ⟨by rw [HE.out]; rfl, hO, Same.refl _⟩
theorem few_rd {w : World} {A : Option Addr} {n c : Nat} {l : List Int} (h : Rd w 1 (.slice A n c) n (ints l)) (hn : n = l.length) : Rd w 1 (fewV A n c) (l.take 40).length (ints (l.take 40)) := by
  subst hn
  have hm := h.max
  unfold fewV
  split
  · have h2 := h.low (k := 40) (c' := c) (by omega) (by omega) hm.2
    have e : (l.take 40).length = 40 := by rw [List.length_take]; omega
    rw [e, ← ints_take]
    exact h2
  · rw [List.take_of_length_le (by omega)]
    exact h
theorem lhas_c (w : World) (L : List HP) (sv : Value) (l : List Int) (n : Int) (hO : Own w L) (hs : ∀ w', Own w' L → Rd w' 1 sv l.length (ints l)) :
    Calls Try.prog 16 #[sv, .int .i64 n] w (Ret w (.bool (l.contains n)) L) := by
  have HS := Lib.hid hs
  obtain ⟨B, bcap, rfl⟩ := (hs w hO).slice
  have hmb := (hs w hO).max
  clear hs
  go_enter Try.func16, Try.ntmps16
  go_wp2
  go_loopw [5] (fun i wr => ∃ k : Nat, k ≤ l.length ∧ i = .int .i64 k ∧ (∀ x ∈ l.take k, (x = n) = False) ∧ Own wr L ∧ Same w wr) (fun i _ => l.length - (intOf i).toNat)
  case atStart => exact ⟨0, Nat.zero_le _, rfl, by simp, hO, Same.refl _⟩
  case round =>
    clear hO
    obtain ⟨k, hk, rfl, hno, hO, hS⟩ := hrel
    have HNO := Lib.hid hno
    clear hno
    by_cases hlt : k < l.length
    · obtain ⟨x, hx⟩ : ∃ x, l[k]? = some x := ⟨_, List.getElem?_eq_getElem hlt⟩
      obtain ⟨ad, rfl⟩ := (HS.out _ hO).addr (by unfold ints; rw [List.length_map]; omega)
      have hcell := rdI_cell (HS.out _ hO) hx
      have hm1 : (k : Int) < l.length := by omega
      have HX := Lib.hid hx
      clear hx
      by_cases he : x = n
      · subst he
        go_wp2
        go_ret
        exact ⟨congrArg Ending.returned (congrArg Value.bool (by simpa using List.mem_of_getElem? HX.out)), hO, hS⟩
      · have he2 : (x = n) = False := eq_false he
        have he3 : (x == n) = false := by simp [he]
        have HE := Lib.hid he2
        clear he
        go_wp2
        go_roundw
        case rel =>
          refine ⟨k + 1, by omega, by go_num, fun y hy => ?_, hO, hS⟩
          rw [List.take_add_one, HX.out] at hy
          rcases List.mem_append.1 hy with h | h
          · exact HNO.out y h
          · simp at h; rw [h]; exact HE.out
        case measure => simp [intOf]; omega
    · have hke : k = l.length := by omega
      subst hke
      go_wp2
      go_ret
      refine ⟨congrArg Ending.returned (congrArg Value.bool ?_), hO, hS⟩
      have := HNO.out
      rw [List.take_length] at this
      symm
      rw [List.contains_eq_mem, decide_eq_false_iff_not]
      intro h
      exact (this n h).mp rfl
/-- What block makes of some bytes. -/
def blockL (l : List UInt8) (k : Nat) : List UInt8 := l.take k ++ List.replicate (32 - k) 0
theorem block_step {l : List UInt8} {k : Nat} {x : UInt8} (hk : k < 32) (hx : l[k]? = some x) : (bcs (blockL l k)).set k (.int .u8 x.toNat) = bcs (blockL l (k + 1)) := by
  obtain ⟨h1, h2⟩ := List.getElem?_eq_some_iff.1 hx
  unfold blockL bcs
  rw [← List.map_set]
  congr 1
  have hl : (l.take k).length = k := by rw [List.length_take]; omega
  rw [List.set_append_right _ _ (by omega), hl, Nat.sub_self, show 32 - k = (32 - (k + 1)) + 1 by omega, List.replicate_succ, List.set_cons_zero, List.take_succ_eq_append_getElem h1, h2]
  simp
theorem block_len {l : List UInt8} {k : Nat} (h : k ≤ 32) (hl : k ≤ l.length) : (blockL l k).length = 32 := by
  unfold blockL
  rw [List.length_append, List.length_take, List.length_replicate]
  omega
theorem block_c (w : World) (L : List HP) (v : Value) (l : List UInt8) (hO : Own w L) (hr : ∀ w', Own w' L → RdB w' v l) :
    Calls Try.prog 32 #[v] w (RetX w (fun g => .slice (some ⟨g, 0, none⟩) 32 32) (fun g => pts g (.cells (bcs (blockL l (min l.length 32))).toArray 5) :: L)) := by
  obtain ⟨A, c, rfl⟩ := (hr w hO).slice
  have hm := (hr w hO).max
  have HR := Lib.hid hr
  clear hr
  go_enter Try.func32, Try.ntmps32
  go_wp2_with (refine own_make (n := 32) (cs := (bcs (List.replicate 32 0)).toArray) rfl rfl rfl rfl Try.underlying22 info_u8 (by decide) (by decide) (made_bytes 32) hO ?_; clear hO; intro g u hO hSn)
  go_loopw [4] (fun i wr => ∃ k : Nat, k ≤ l.length ∧ k ≤ 32 ∧ i = .int .i64 k ∧ Own wr (pts g (.cells (bcs (blockL l k)).toArray 5) :: L) ∧ Same w wr) (fun i _ => l.length - (intOf i).toNat)
  case atStart => exact ⟨0, Nat.zero_le _, Nat.zero_le _, rfl, hO, hSn⟩
  case round =>
    clear hO hSn
    obtain ⟨k, hk, hk2, rfl, hO, hS⟩ := hrel
    by_cases hlt : k < l.length
    · have hm1 : (k : Int) < l.length := by omega
      by_cases hlt2 : k < 32
      · have hm2 : (k : Int) < 32 := by omega
        have f1 : decide (k < 32) = true := by simpa using hlt2
        obtain ⟨x, hx⟩ : ∃ x, l[k]? = some x := ⟨_, List.getElem?_eq_getElem hlt⟩
        obtain ⟨ad, rfl⟩ := (HR.out _ (own_drop hO)).addr (by rw [bcs_length]; omega)
        have hcell : wr.cell? (ad.add k) = some (.int .u8 x.toNat) := by
          have h1 : wr.cell? ((ad.add (k * 1)).add 0) = some (.int .u8 x.toNat) := (HR.out _ (own_drop hO)).cell (by rw [Nat.mul_one, Nat.add_zero]; unfold bcs; rw [List.getElem?_map, hx]; rfl)
          rwa [addr_add, Nat.mul_one, Nat.add_zero] at h1
        have HST : Hid ((bcs (blockL l k)).toArray.setIfInBounds k (.int .u8 x.toNat) = (bcs (blockL l (k + 1))).toArray) := by
          show _ = _
          rw [List.setIfInBounds_toArray, block_step hlt2 hx]
        have HSZ : Hid (k < (bcs (blockL l k)).toArray.size) := by show k < _; simp [bcs_length, block_len (l := l) (k := k) (by omega) (by omega)]; omega
        clear hx
        go_wp2_with (refine own_store1 (k := 0) (b := g) (off := k) (v := .int .u8 x.toNat) (cs := (bcs (blockL l k)).toArray) (cs' := (bcs (blockL l (k + 1))).toArray) rfl rfl (by rfl) rfl sz_u8 hO rfl rfl HSZ.out HST.out ?_; clear hO; intro u hO hSn; simp only [List.set_cons_zero] at hO)
        go_roundw
        case rel => exact ⟨k + 1, by omega, by omega, by go_num, hO, hS.trans hSn⟩
        case measure => simp [intOf]; omega
      · have hk32 : k = 32 := by omega
        subst hk32
        go_wp2
        go_ret
        refine ⟨g, rfl, ?_, hS⟩
        rw [Nat.min_eq_right hk]
        exact hO
    · have hke : k = l.length := by omega
      subst hke
      go_wp2
      go_ret
      refine ⟨g, rfl, ?_, hS⟩
      rw [Nat.min_eq_left hk2]
      exact hO
end Go.Proofs.Ytdcbfdepkbplbaa.H
