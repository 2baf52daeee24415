/- The heap assertions that this seat's proofs use: parts of the heap that are owned or shared, their separating conjunction, and how it is kept by a new block, a store, and a world that kept its blocks. -/
import Derived.WalkKit
import Derived.KernelRfl
import Derived.Lib.Hide
set_option linter.unusedVariables false
set_option linter.unusedSimpArgs false
namespace Go.Proofs.Ytjilkbkafigloaa.H
open Go.RowKit

/-- Some blocks of a heap. -/
abbrev Part := Nat → Option Obj
/-- An assertion: on what is owned, and on what is shared and stays. -/
abbrev HP := Part → Part → Prop
def nul : Part := fun _ => none
def one (b : Nat) (o : Obj) : Part := fun i => if i = b then some o else none
def mrg (p q : Part) : Part := fun i => (p i).or (q i)
def dis (p q : Part) : Prop := ∀ i, p i = none ∨ q i = none
def agr (p q : Part) : Prop := ∀ i x y, p i = some x → q i = some y → x = y
def Part.le (p : Part) (w : World) : Prop := ∀ i o, p i = some o → w.heap[i]? = some o
def emp : HP := fun p q => p = nul ∧ q = nul
def sep (A B : HP) : HP := fun p q => ∃ p1 q1 p2 q2, A p1 q1 ∧ B p2 q2 ∧ dis p1 p2 ∧ dis p1 q2 ∧ dis p2 q1 ∧ agr q1 q2 ∧ p = mrg p1 p2 ∧ q = mrg q1 q2
def ex {α : Type} (A : α → HP) : HP := fun p q => ∃ x, A x p q
def pur (φ : Prop) : HP := fun p q => φ ∧ p = nul ∧ q = nul
/-- Block b is owned, and is o. -/
def pts (b : Nat) (o : Obj) : HP := fun p q => p = one b o ∧ q = nul
/-- Block b is shared, stays as it is, and is o. -/
def ro (b : Nat) (o : Obj) : HP := fun p q => p = nul ∧ q = one b o
/-- All that lies in a world stays. -/
def snap (w : World) : HP := fun p q => p = nul ∧ q = fun i => w.heap[i]?
def seps : List HP → HP
  | [] => emp
  | A :: L => sep A (seps L)
structure Own (w : World) (L : List HP) : Prop where mk :: (out : ∃ p q, seps L p q ∧ p.le w ∧ q.le w ∧ dis p q)

theorem mrg_nul (p : Part) : mrg p nul = p := by funext i; simp [mrg, nul]
theorem nul_mrg (p : Part) : mrg nul p = p := by funext i; simp [mrg, nul]
theorem mrg_assoc (p q r : Part) : mrg (mrg p q) r = mrg p (mrg q r) := by funext i; simp [mrg, Option.or_assoc]
theorem dis_nul (p : Part) : dis p nul := fun _ => .inr rfl
theorem nul_dis (p : Part) : dis nul p := fun _ => .inl rfl
theorem nul_le (w : World) : Part.le nul w := fun _ _ h => by cases h
theorem nul_agr (p : Part) : agr nul p := fun _ _ _ h => by cases h
theorem agr_nul (p : Part) : agr p nul := fun _ _ _ _ h => by cases h
theorem dis.symm {p q : Part} (h : dis p q) : dis q p := fun i => (h i).symm
theorem agr.symm {p q : Part} (h : agr p q) : agr q p := fun i x y hx hy => (h i y x hy hx).symm
theorem dis.agr {p q : Part} (h : dis p q) : agr p q := fun i x y hx hy => by
  rcases h i with h | h
  · rw [h] at hx; cases hx
  · rw [h] at hy; cases hy
theorem mrg_comm {p q : Part} (h : agr p q) : mrg p q = mrg q p := by
  funext i
  simp only [mrg]
  cases hp : p i with
  | none => simp
  | some x =>
    cases hq : q i with
    | none => simp
    | some y => simp [h i x y hp hq]
theorem dis_mrg {p q r : Part} : dis (mrg p q) r ↔ dis p r ∧ dis q r := by
  constructor
  · intro h
    refine ⟨fun i => ?_, fun i => ?_⟩
    · rcases h i with h | h
      · left; simp only [mrg, Option.or_eq_none_iff] at h; exact h.1
      · exact .inr h
    · rcases h i with h | h
      · left; simp only [mrg, Option.or_eq_none_iff] at h; exact h.2
      · exact .inr h
  · rintro ⟨h1, h2⟩ i
    rcases h1 i with h1 | h1
    · rcases h2 i with h2 | h2
      · left; simp [mrg, h1, h2]
      · exact .inr h2
    · exact .inr h1
theorem mrg_dis {p q r : Part} : dis r (mrg p q) ↔ dis r p ∧ dis r q :=
  ⟨fun h => ⟨(dis_mrg.1 h.symm).1.symm, (dis_mrg.1 h.symm).2.symm⟩, fun h => (dis_mrg.2 ⟨h.1.symm, h.2.symm⟩).symm⟩
theorem agr_mrg {p q r : Part} (hpq : agr p q) : agr (mrg p q) r ↔ agr p r ∧ agr q r := by
  constructor
  · intro h
    refine ⟨fun i x y hx hy => h i x y (by simp [mrg, hx]) hy, fun i x y hx hy => h i x y ?_ hy⟩
    rw [mrg_comm hpq]; simp [mrg, hx]
  · rintro ⟨h1, h2⟩ i x y hx hy
    simp only [mrg, Option.or_eq_some_iff] at hx
    rcases hx with hx | ⟨_, hx⟩
    · exact h1 i x y hx hy
    · exact h2 i x y hx hy
theorem mrg_agr {p q r : Part} (hpq : agr p q) : agr r (mrg p q) ↔ agr r p ∧ agr r q :=
  ⟨fun h => ⟨((agr_mrg hpq).1 h.symm).1.symm, ((agr_mrg hpq).1 h.symm).2.symm⟩, fun h => ((agr_mrg hpq).2 ⟨h.1.symm, h.2.symm⟩).symm⟩
theorem mrg_le {p q : Part} {w : World} : (mrg p q).le w → p.le w := fun h i o hi => h i o (by simp [mrg, hi])
theorem le_mrg {p q : Part} {w : World} (h1 : p.le w) (h2 : q.le w) : (mrg p q).le w := fun i o hi => by
  simp only [mrg, Option.or_eq_some_iff] at hi
  rcases hi with hi | ⟨_, hi⟩
  · exact h1 _ _ hi
  · exact h2 _ _ hi
theorem mrg_le_right {p q : Part} {w : World} (hd : agr p q) (h : (mrg p q).le w) : q.le w := by
  rw [mrg_comm hd] at h
  exact mrg_le h
theorem le_agr {p q : Part} {w : World} (h1 : p.le w) (h2 : q.le w) : agr p q := fun i x y hx hy => by
  have := (h1 _ _ hx).symm.trans (h2 _ _ hy)
  simpa using this

theorem sep_comm {A B : HP} {p q : Part} (h : sep A B p q) : sep B A p q := by
  obtain ⟨p1, q1, p2, q2, hA, hB, d1, d2, d3, a, rfl, rfl⟩ := h
  exact ⟨p2, q2, p1, q1, hB, hA, d1.symm, d3, d2, a.symm, mrg_comm d1.agr, mrg_comm a⟩
theorem sep_assoc {A B C : HP} {p q : Part} (h : sep (sep A B) C p q) : sep A (sep B C) p q := by
  obtain ⟨_, _, p3, q3, ⟨p1, q1, p2, q2, hA, hB, d1, d2, d3, a, rfl, rfl⟩, hC, e1, e2, e3, a2, rfl, rfl⟩ := h
  have f1 := dis_mrg.1 e1
  have f2 := dis_mrg.1 e2
  have f3 := mrg_dis.1 e3
  have g := (agr_mrg a).1 a2
  exact ⟨p1, q1, _, _, hA, ⟨p2, q2, p3, q3, hB, hC, f1.2, f2.2, f3.2, g.2, rfl, rfl⟩, mrg_dis.2 ⟨d1, f1.1⟩, mrg_dis.2 ⟨d2, f2.1⟩, dis_mrg.2 ⟨d3, f3.1⟩, (mrg_agr g.2).2 ⟨a, g.1⟩, mrg_assoc _ _ _, mrg_assoc _ _ _⟩
theorem sep_mono {A A' B B' : HP} (h1 : ∀ p q, A p q → A' p q) (h2 : ∀ p q, B p q → B' p q) {p q : Part} (h : sep A B p q) : sep A' B' p q := by
  obtain ⟨p1, q1, p2, q2, hA, hB, r⟩ := h
  exact ⟨p1, q1, p2, q2, h1 _ _ hA, h2 _ _ hB, r⟩
theorem sep_assoc' {A B C : HP} {p q : Part} (h : sep A (sep B C) p q) : sep (sep A B) C p q :=
  sep_comm (sep_assoc (sep_comm (sep_assoc (sep_comm h))))
theorem sep_swap {A B C : HP} {p q : Part} (h : sep A (sep B C) p q) : sep B (sep A C) p q :=
  sep_assoc (sep_mono (fun _ _ h => sep_comm h) (fun _ _ h => h) (sep_assoc' h))
theorem seps_perm {L L' : List HP} (h : L.Perm L') : ∀ {p q : Part}, seps L p q → seps L' p q := by
  induction h with
  | nil => exact fun h => h
  | cons x _ ih => exact fun h => sep_mono (fun _ _ h => h) (fun _ _ h => ih h) h
  | swap x y l => exact fun h => sep_swap h
  | trans _ _ ih1 ih2 => exact fun h => ih2 (ih1 h)

section
variable {w w' : World} {L L' : List HP} {A B : HP}
theorem own_perm (h : Own w L) (hp : L.Perm L') : Own w L' :=
  let ⟨p, q, hs, r⟩ := h.out
  ⟨p, q, seps_perm hp hs, r⟩
theorem own_cons : Own w (A :: L) ↔ ∃ p1 q1 p2 q2, A p1 q1 ∧ seps L p2 q2 ∧ p1.le w ∧ q1.le w ∧ p2.le w ∧ q2.le w ∧ dis p1 p2 ∧ dis p1 q2 ∧ dis p2 q1 ∧ dis p1 q1 ∧ dis p2 q2 := by
  constructor
  · rintro ⟨p, q, ⟨p1, q1, p2, q2, hA, hB, d1, d2, d3, a, rfl, rfl⟩, hp, hq, hd⟩
    have e1 := (dis_mrg.1 hd)
    have e2 := mrg_dis.1 e1.1
    have e3 := mrg_dis.1 e1.2
    exact ⟨p1, q1, p2, q2, hA, hB, mrg_le hp, mrg_le hq, mrg_le_right d1.agr hp, mrg_le_right a hq, d1, d2, d3, e2.1, e3.2⟩
  · rintro ⟨p1, q1, p2, q2, hA, hB, h1, h2, h3, h4, d1, d2, d3, d4, d5⟩
    exact ⟨_, _, ⟨p1, q1, p2, q2, hA, hB, d1, d2, d3, le_agr h2 h4, rfl, rfl⟩, le_mrg h1 h3, le_mrg h2 h4, dis_mrg.2 ⟨mrg_dis.2 ⟨d4, d2⟩, mrg_dis.2 ⟨d3, d5⟩⟩⟩
theorem own_drop (h : Own w (A :: L)) : Own w L := by
  obtain ⟨p1, q1, p2, q2, hA, hB, h1, h2, h3, h4, d1, d2, d3, d4, d5⟩ := own_cons.1 h
  exact ⟨p2, q2, hB, h3, h4, d5⟩
theorem own_head (h : Own w (A :: L)) (f : ∀ p q, p.le w → q.le w → A p q → B p q) : Own w (B :: L) := by
  obtain ⟨p1, q1, p2, q2, hA, hB, h1, h2, r⟩ := own_cons.1 h
  exact own_cons.2 ⟨p1, q1, p2, q2, f _ _ h1 h2 hA, hB, h1, h2, r⟩
theorem own_sep : Own w (sep A B :: L) ↔ Own w (A :: B :: L) :=
  ⟨fun ⟨p, q, hs, r⟩ => ⟨p, q, sep_assoc hs, r⟩, fun ⟨p, q, hs, r⟩ => ⟨p, q, sep_assoc' hs, r⟩⟩
theorem own_ex {α : Type} {A : α → HP} : Own w (ex A :: L) ↔ ∃ x, Own w (A x :: L) :=
  ⟨fun ⟨p, q, ⟨p1, q1, p2, q2, ⟨x, hA⟩, r⟩, r'⟩ => ⟨x, p, q, ⟨p1, q1, p2, q2, hA, r⟩, r'⟩, fun ⟨x, p, q, ⟨p1, q1, p2, q2, hA, r⟩, r'⟩ => ⟨p, q, ⟨p1, q1, p2, q2, ⟨x, hA⟩, r⟩, r'⟩⟩
theorem own_pur {φ : Prop} : Own w (pur φ :: L) ↔ φ ∧ Own w L := by
  constructor
  · intro h
    obtain ⟨p1, q1, p2, q2, hA, _⟩ := own_cons.1 h
    exact ⟨hA.1, own_drop h⟩
  · rintro ⟨hφ, p, q, hs, hp, hq, hd⟩
    exact own_cons.2 ⟨nul, nul, p, q, ⟨hφ, rfl, rfl⟩, hs, nul_le w, nul_le w, hp, hq, nul_dis _, nul_dis _, dis_nul _, nul_dis _, hd⟩
theorem own_emp : Own w (emp :: L) ↔ Own w L := by
  constructor
  · exact own_drop
  · rintro ⟨p, q, hs, hp, hq, hd⟩
    exact own_cons.2 ⟨nul, nul, p, q, ⟨rfl, rfl⟩, hs, nul_le w, nul_le w, hp, hq, nul_dis _, nul_dis _, dis_nul _, nul_dis _, hd⟩
theorem own_seps : Own w (seps L' :: L) ↔ Own w (L' ++ L) := by
  induction L' generalizing L with
  | nil => exact own_emp
  | cons A L' ih =>
    show Own w (sep A (seps L') :: L) ↔ _
    rw [own_sep]
    constructor
    · intro h
      have h2 := ih.1 (own_perm h (List.Perm.swap _ _ _))
      exact own_perm h2 List.perm_middle
    · intro h
      have h2 : Own w (L' ++ (A :: L)) := own_perm h List.perm_middle.symm
      exact own_perm (ih.2 h2) (List.Perm.swap _ _ _)
theorem own_nil : Own w [] := ⟨nul, nul, ⟨rfl, rfl⟩, nul_le w, nul_le w, nul_dis _⟩
theorem one_le {b : Nat} {o : Obj} : (one b o).le w ↔ w.heap[b]? = some o := by
  constructor
  · intro h; exact h b o (by simp [one])
  · intro h i x hx
    simp only [one] at hx
    split at hx
    · rename_i e; subst e; rw [h]; exact hx
    · cases hx
theorem own_pts {b : Nat} {o : Obj} (h : Own w (pts b o :: L)) : w.heap[b]? = some o := by
  obtain ⟨p1, q1, p2, q2, ⟨rfl, rfl⟩, hB, h1, _⟩ := own_cons.1 h
  exact one_le.1 h1
theorem own_ro {b : Nat} {o : Obj} (h : Own w (ro b o :: L)) : w.heap[b]? = some o := by
  obtain ⟨p1, q1, p2, q2, ⟨rfl, rfl⟩, hB, _, h1, _⟩ := own_cons.1 h
  exact one_le.1 h1
theorem own_share {b : Nat} {o : Obj} (h : Own w (pts b o :: L)) : Own w (ro b o :: L) := by
  obtain ⟨p1, q1, p2, q2, ⟨rfl, rfl⟩, hB, h1, h2, h3, h4, d1, d2, d3, d4, d5⟩ := own_cons.1 h
  exact own_cons.2 ⟨nul, one b o, p2, q2, ⟨rfl, rfl⟩, hB, nul_le _, h1, h3, h4, nul_dis _, nul_dis _, d1.symm, nul_dis _, d5⟩
/-- What owns nothing may be told twice. -/
theorem own_dup (h : Own w (A :: L)) (hA : ∀ p q, A p q → p = nul) : Own w (A :: A :: L) := by
  obtain ⟨p1, q1, p2, q2, h0, hB, h1, h2, h3, h4, d1, d2, d3, d4, d5⟩ := own_cons.1 h
  obtain rfl := hA _ _ h0
  refine own_cons.2 ⟨nul, q1, mrg nul p2, mrg q1 q2, h0, ⟨nul, q1, p2, q2, h0, hB, nul_dis _, nul_dis _, d3, le_agr h2 h4, rfl, rfl⟩, h1, h2, le_mrg h1 h3, le_mrg h2 h4, nul_dis _, nul_dis _, dis_mrg.2 ⟨nul_dis _, d3⟩, nul_dis _, dis_mrg.2 ⟨nul_dis _, mrg_dis.2 ⟨d3, d5⟩⟩⟩
theorem own_heap (h : Own w L) (hh : ∀ (i : Nat) (o : Obj), w.heap[i]? = some o → w'.heap[i]? = some o) : Own w' L :=
  let ⟨p, q, hs, hp, hq, hd⟩ := h.out
  ⟨p, q, hs, fun i o hi => hh _ _ (hp _ _ hi), fun i o hi => hh _ _ (hq _ _ hi), hd⟩
theorem own_new {o : Obj} {b : Nat} (h : Own w L) (hh : ∀ (i : Nat) (x : Obj), w.heap[i]? = some x → w'.heap[i]? = some x) (hb : w.heap.size ≤ b) (ho : w'.heap[b]? = some o) : Own w' (pts b o :: L) := by
  obtain ⟨p, q, hs, hp, hq, hd⟩ := h
  have hnone : ∀ r : Part, r.le w → dis (one b o) r := fun r hr i => by
    by_cases e : i = b
    · right
      subst e
      cases hx : r i with
      | none => rfl
      | some x =>
        have := (Array.getElem?_eq_some_iff.1 (hr _ _ hx)).1
        omega
    · left; simp [one, e]
  exact own_cons.2 ⟨one b o, nul, p, q, ⟨rfl, rfl⟩, hs, one_le.2 ho, nul_le _, fun i x hi => hh _ _ (hp _ _ hi), fun i x hi => hh _ _ (hq _ _ hi), hnone _ hp, hnone _ hq, dis_nul _, dis_nul _, hd⟩
theorem own_put {o o' : Obj} {b : Nat} (h : Own w (pts b o :: L)) (hh : ∀ (i : Nat), i ≠ b → ∀ (x : Obj), w.heap[i]? = some x → w'.heap[i]? = some x) (ho : w'.heap[b]? = some o') : Own w' (pts b o' :: L) := by
  obtain ⟨p1, q1, p2, q2, ⟨rfl, rfl⟩, hB, h1, h2, h3, h4, d1, d2, d3, d4, d5⟩ := own_cons.1 h
  have hne : ∀ r : Part, dis (one b o) r → r.le w → r.le w' ∧ dis (one b o') r := fun r hd hr => by
    have hb : r b = none := by
      rcases hd b with hd | hd
      · simp [one] at hd
      · exact hd
    refine ⟨fun i x hi => ?_, fun i => ?_⟩
    · have : i ≠ b := fun e => by subst e; rw [hb] at hi; cases hi
      exact hh i this x (hr _ _ hi)
    · by_cases e : i = b
      · subst e; exact .inr hb
      · left; simp [one, e]
  obtain ⟨a1, a2⟩ := hne _ d1 h3
  obtain ⟨a3, a4⟩ := hne _ d2 h4
  exact own_cons.2 ⟨_, nul, p2, q2, ⟨rfl, rfl⟩, hB, one_le.2 ho, nul_le _, a1, a3, a2, a4, dis_nul _, dis_nul _, d5⟩
theorem own_snap : Own w [snap w] :=
  own_cons.2 ⟨nul, fun i => w.heap[i]?, nul, nul, ⟨rfl, rfl⟩, ⟨rfl, rfl⟩, nul_le _, fun _ _ h => h, nul_le _, nul_le _, nul_dis _, nul_dis _, nul_dis _, nul_dis _, nul_dis _⟩
theorem own_kept (h : Own w' (snap w :: L)) (i : Nat) (o : Obj) (hi : w.heap[i]? = some o) : w'.heap[i]? = some o := by
  obtain ⟨p1, q1, p2, q2, ⟨rfl, rfl⟩, hB, h1, h2, _⟩ := own_cons.1 h
  exact h2 i o hi
theorem perm_at {α : Type} {A : α} : ∀ {L : List α} {k : Nat}, L[k]? = some A → L.Perm (A :: L.eraseIdx k)
  | x :: L, 0, h => by simp at h; subst h; exact List.Perm.refl _
  | x :: L, k + 1, h => by
    have h1 : L[k]? = some A := by simpa using h
    exact ((perm_at h1).cons x).trans (List.Perm.swap _ _ _)
theorem perm_set {α : Type} {B : α} : ∀ {L : List α} {k : Nat}, k < L.length → (B :: L.eraseIdx k).Perm (L.set k B)
  | x :: L, 0, h => by simp
  | x :: L, k + 1, h => by
    have h1 : k < L.length := by simpa using h
    exact (List.Perm.swap _ _ _).trans ((perm_set h1).cons x)
theorem own_at {k : Nat} (h : Own w L) (hk : L[k]? = some A) : Own w (A :: L.eraseIdx k) := own_perm h (perm_at hk)
theorem own_back {k : Nat} (h : Own w (B :: L.eraseIdx k)) (hk : k < L.length) : Own w (L.set k B) := own_perm h (perm_set hk)
end

/-- The streams are as they were. -/
structure Same (w w' : World) : Prop where
  os : w'.os = w.os
  tape : w'.tape = w.tape
  output : w'.output = w.output
  size : w.heap.size ≤ w'.heap.size
theorem Same.refl (w : World) : Same w w := ⟨rfl, rfl, rfl, Nat.le_refl _⟩
theorem Same.trans {a b c : World} (h : Same a b) (k : Same b c) : Same a c := ⟨k.os.trans h.os, k.tape.trans h.tape, k.output.trans h.output, Nat.le_trans h.size k.size⟩
theorem Same.alloc (w : World) (o : Obj) : Same w (w.alloc o) := ⟨rfl, rfl, rfl, by simp⟩
theorem Same.drew (w : World) : Same w w.drew := ⟨rfl, rfl, rfl, Nat.le_refl _⟩
theorem Same.of_below {B : Nat} {w w' : World} (h : Below B w w') : Same w w' := ⟨h.os, h.tape, h.output, h.size⟩
theorem Same.of_grown {w w' : World} {r : Option Nat} (h : w.grownBy w' r) : Same w w' := ⟨h.os, h.tape, h.output, h.size⟩
theorem own_below {w w' : World} {L : List HP} (h : Own w L) (hb : Below w.heap.size w w') : Own w' L :=
  own_heap h (fun i o hi => (hb.block i (Array.getElem?_eq_some_iff.1 hi).1).trans hi)
/-- At the end of a call of a law: nothing that was there has turned. -/
theorem below_of {w w' : World} {L : List HP} (h : Own w' (snap w :: L)) (hs : Same w w') : Below w.heap.size w w' :=
  ⟨hs.os, hs.tape, hs.output, hs.size, fun k hk => by
    have h1 : w.heap[k]? = some w.heap[k] := Array.getElem?_eq_getElem hk
    rw [h1]; exact own_kept h k _ h1⟩
end Go.Proofs.Ytjilkbkafigloaa.H
