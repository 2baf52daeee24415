/- The heap assertions that this seat's proofs use: parts of the heap that are owned or shared, their separating conjunction, and how it is kept by a new block, a store, and a world that kept its blocks. The steps of a walk over heap assertions: a box, an allocation, loads, stores, slices that are read, copied and appended to, and regions of open order. -/
import Derived.WalkKit
import Derived.KernelRfl
import Derived.Lib.Hide
import Derived.Laws.CopyOwn
import Derived.Laws.MakeOwn
import Derived.Laws.Rows
import Derived.Deep.MidRow
import Derived.Deep.Quiet
import Derived.Lib.ConvBytes
import Derived.Lib.BufferWrite
import Derived.Laws.BytesArg
import Derived.Laws.AppendOwn
import Derived.Laws.OwnMore
set_option linter.unusedVariables false
set_option linter.unusedSimpArgs false
namespace Go.Proofs.Ytonohjhmnlfakaa.H
open Go.RowKit

/-- Some blocks of a heap. -/
abbrev Part := Nat → Option Obj
/-- An assertion: on what is owned, and on what is shared and stays. -/
abbrev HP := Part → Part → Prop
def nul : Part := fun _ => none
def one (b : Nat) (o : Obj) : Part := fun i => if i = b then some o else none
def mrg (p q : Part) : Part := fun i => (p i).or (q i)
def dis (p q : Part) : Prop := ∀ i, p i = none ∨ q i = none
def agr (p q : Part) : Prop := ∀ i x y, p i = some x → q i = some y → x = y
def Part.le (p : Part) (w : World) : Prop := ∀ i o, p i = some o → w.heap[i]? = some o
def emp : HP := fun p q => p = nul ∧ q = nul
def sep (A B : HP) : HP := fun p q => ∃ p1 q1 p2 q2, A p1 q1 ∧ B p2 q2 ∧ dis p1 p2 ∧ dis p1 q2 ∧ dis p2 q1 ∧ agr q1 q2 ∧ p = mrg p1 p2 ∧ q = mrg q1 q2
def ex {α : Type} (A : α → HP) : HP := fun p q => ∃ x, A x p q
def pur (φ : Prop) : HP := fun p q => φ ∧ p = nul ∧ q = nul
/-- Block b is owned, and is o. -/
def pts (b : Nat) (o : Obj) : HP := fun p q => p = one b o ∧ q = nul
/-- Block b is shared, stays as it is, and is o. -/
def ro (b : Nat) (o : Obj) : HP := fun p q => p = nul ∧ q = one b o
/-- All that lies in a world stays. -/
def snap (w : World) : HP := fun p q => p = nul ∧ q = fun i => w.heap[i]?
def seps : List HP → HP
  | [] => emp
  | A :: L => sep A (seps L)
structure Own (w : World) (L : List HP) : Prop where mk :: (out : ∃ p q, seps L p q ∧ p.le w ∧ q.le w ∧ dis p q)

theorem mrg_nul (p : Part) : mrg p nul = p := by funext i; simp [mrg, nul]
theorem nul_mrg (p : Part) : mrg nul p = p := by funext i; simp [mrg, nul]
theorem mrg_assoc (p q r : Part) : mrg (mrg p q) r = mrg p (mrg q r) := by funext i; simp [mrg, Option.or_assoc]
theorem dis_nul (p : Part) : dis p nul := fun _ => .inr rfl
theorem nul_dis (p : Part) : dis nul p := fun _ => .inl rfl
theorem nul_le (w : World) : Part.le nul w := fun _ _ h => by cases h
theorem nul_agr (p : Part) : agr nul p := fun _ _ _ h => by cases h
theorem agr_nul (p : Part) : agr p nul := fun _ _ _ _ h => by cases h
theorem dis.symm {p q : Part} (h : dis p q) : dis q p := fun i => (h i).symm
theorem agr.symm {p q : Part} (h : agr p q) : agr q p := fun i x y hx hy => (h i y x hy hx).symm
theorem dis.agr {p q : Part} (h : dis p q) : agr p q := fun i x y hx hy => by
  rcases h i with h | h
  · rw [h] at hx; cases hx
  · rw [h] at hy; cases hy
theorem mrg_comm {p q : Part} (h : agr p q) : mrg p q = mrg q p := by
  funext i
  simp only [mrg]
  cases hp : p i with
  | none => simp
  | some x =>
    cases hq : q i with
    | none => simp
    | some y => simp [h i x y hp hq]
theorem dis_mrg {p q r : Part} : dis (mrg p q) r ↔ dis p r ∧ dis q r := by
  constructor
  · intro h
    refine ⟨fun i => ?_, fun i => ?_⟩
    · rcases h i with h | h
      · left; simp only [mrg, Option.or_eq_none_iff] at h; exact h.1
      · exact .inr h
    · rcases h i with h | h
      · left; simp only [mrg, Option.or_eq_none_iff] at h; exact h.2
      · exact .inr h
  · rintro ⟨h1, h2⟩ i
    rcases h1 i with h1 | h1
    · rcases h2 i with h2 | h2
      · left; simp [mrg, h1, h2]
      · exact .inr h2
    · exact .inr h1
theorem mrg_dis {p q r : Part} : dis r (mrg p q) ↔ dis r p ∧ dis r q :=
  ⟨fun h => ⟨(dis_mrg.1 h.symm).1.symm, (dis_mrg.1 h.symm).2.symm⟩, fun h => (dis_mrg.2 ⟨h.1.symm, h.2.symm⟩).symm⟩
theorem agr_mrg {p q r : Part} (hpq : agr p q) : agr (mrg p q) r ↔ agr p r ∧ agr q r := by
  constructor
  · intro h
    refine ⟨fun i x y hx hy => h i x y (by simp [mrg, hx]) hy, fun i x y hx hy => h i x y ?_ hy⟩
    rw [mrg_comm hpq]; simp [mrg, hx]
  · rintro ⟨h1, h2⟩ i x y hx hy
    simp only [mrg, Option.or_eq_some_iff] at hx
    rcases hx with hx | ⟨_, hx⟩
    · exact h1 i x y hx hy
    · exact h2 i x y hx hy
theorem mrg_agr {p q r : Part} (hpq : agr p q) : agr r (mrg p q) ↔ agr r p ∧ agr r q :=
  ⟨fun h => ⟨((agr_mrg hpq).1 h.symm).1.symm, ((agr_mrg hpq).1 h.symm).2.symm⟩, fun h => ((agr_mrg hpq).2 ⟨h.1.symm, h.2.symm⟩).symm⟩
theorem mrg_le {p q : Part} {w : World} : (mrg p q).le w → p.le w := fun h i o hi => h i o (by simp [mrg, hi])
theorem le_mrg {p q : Part} {w : World} (h1 : p.le w) (h2 : q.le w) : (mrg p q).le w := fun i o hi => by
  simp only [mrg, Option.or_eq_some_iff] at hi
  rcases hi with hi | ⟨_, hi⟩
  · exact h1 _ _ hi
  · exact h2 _ _ hi
theorem mrg_le_right {p q : Part} {w : World} (hd : agr p q) (h : (mrg p q).le w) : q.le w := by
  rw [mrg_comm hd] at h
  exact mrg_le h
theorem le_agr {p q : Part} {w : World} (h1 : p.le w) (h2 : q.le w) : agr p q := fun i x y hx hy => by
  have := (h1 _ _ hx).symm.trans (h2 _ _ hy)
  simpa using this

theorem sep_comm {A B : HP} {p q : Part} (h : sep A B p q) : sep B A p q := by
  obtain ⟨p1, q1, p2, q2, hA, hB, d1, d2, d3, a, rfl, rfl⟩ := h
  exact ⟨p2, q2, p1, q1, hB, hA, d1.symm, d3, d2, a.symm, mrg_comm d1.agr, mrg_comm a⟩
theorem sep_assoc {A B C : HP} {p q : Part} (h : sep (sep A B) C p q) : sep A (sep B C) p q := by
  obtain ⟨_, _, p3, q3, ⟨p1, q1, p2, q2, hA, hB, d1, d2, d3, a, rfl, rfl⟩, hC, e1, e2, e3, a2, rfl, rfl⟩ := h
  have f1 := dis_mrg.1 e1
  have f2 := dis_mrg.1 e2
  have f3 := mrg_dis.1 e3
  have g := (agr_mrg a).1 a2
  exact ⟨p1, q1, _, _, hA, ⟨p2, q2, p3, q3, hB, hC, f1.2, f2.2, f3.2, g.2, rfl, rfl⟩, mrg_dis.2 ⟨d1, f1.1⟩, mrg_dis.2 ⟨d2, f2.1⟩, dis_mrg.2 ⟨d3, f3.1⟩, (mrg_agr g.2).2 ⟨a, g.1⟩, mrg_assoc _ _ _, mrg_assoc _ _ _⟩
theorem sep_mono {A A' B B' : HP} (h1 : ∀ p q, A p q → A' p q) (h2 : ∀ p q, B p q → B' p q) {p q : Part} (h : sep A B p q) : sep A' B' p q := by
  obtain ⟨p1, q1, p2, q2, hA, hB, r⟩ := h
  exact ⟨p1, q1, p2, q2, h1 _ _ hA, h2 _ _ hB, r⟩
theorem sep_assoc' {A B C : HP} {p q : Part} (h : sep A (sep B C) p q) : sep (sep A B) C p q :=
  sep_comm (sep_assoc (sep_comm (sep_assoc (sep_comm h))))
theorem sep_swap {A B C : HP} {p q : Part} (h : sep A (sep B C) p q) : sep B (sep A C) p q :=
  sep_assoc (sep_mono (fun _ _ h => sep_comm h) (fun _ _ h => h) (sep_assoc' h))
theorem seps_perm {L L' : List HP} (h : L.Perm L') : ∀ {p q : Part}, seps L p q → seps L' p q := by
  induction h with
  | nil => exact fun h => h
  | cons x _ ih => exact fun h => sep_mono (fun _ _ h => h) (fun _ _ h => ih h) h
  | swap x y l => exact fun h => sep_swap h
  | trans _ _ ih1 ih2 => exact fun h => ih2 (ih1 h)

section
variable {w w' : World} {L L' : List HP} {A B : HP}
theorem own_perm (h : Own w L) (hp : L.Perm L') : Own w L' :=
  let ⟨p, q, hs, r⟩ := h.out
  ⟨p, q, seps_perm hp hs, r⟩
theorem own_cons : Own w (A :: L) ↔ ∃ p1 q1 p2 q2, A p1 q1 ∧ seps L p2 q2 ∧ p1.le w ∧ q1.le w ∧ p2.le w ∧ q2.le w ∧ dis p1 p2 ∧ dis p1 q2 ∧ dis p2 q1 ∧ dis p1 q1 ∧ dis p2 q2 := by
  constructor
  · rintro ⟨p, q, ⟨p1, q1, p2, q2, hA, hB, d1, d2, d3, a, rfl, rfl⟩, hp, hq, hd⟩
    have e1 := (dis_mrg.1 hd)
    have e2 := mrg_dis.1 e1.1
    have e3 := mrg_dis.1 e1.2
    exact ⟨p1, q1, p2, q2, hA, hB, mrg_le hp, mrg_le hq, mrg_le_right d1.agr hp, mrg_le_right a hq, d1, d2, d3, e2.1, e3.2⟩
  · rintro ⟨p1, q1, p2, q2, hA, hB, h1, h2, h3, h4, d1, d2, d3, d4, d5⟩
    exact ⟨_, _, ⟨p1, q1, p2, q2, hA, hB, d1, d2, d3, le_agr h2 h4, rfl, rfl⟩, le_mrg h1 h3, le_mrg h2 h4, dis_mrg.2 ⟨mrg_dis.2 ⟨d4, d2⟩, mrg_dis.2 ⟨d3, d5⟩⟩⟩
theorem own_drop (h : Own w (A :: L)) : Own w L := by
  obtain ⟨p1, q1, p2, q2, hA, hB, h1, h2, h3, h4, d1, d2, d3, d4, d5⟩ := own_cons.1 h
  exact ⟨p2, q2, hB, h3, h4, d5⟩
theorem own_head (h : Own w (A :: L)) (f : ∀ p q, p.le w → q.le w → A p q → B p q) : Own w (B :: L) := by
  obtain ⟨p1, q1, p2, q2, hA, hB, h1, h2, r⟩ := own_cons.1 h
  exact own_cons.2 ⟨p1, q1, p2, q2, f _ _ h1 h2 hA, hB, h1, h2, r⟩
theorem own_sep : Own w (sep A B :: L) ↔ Own w (A :: B :: L) :=
  ⟨fun ⟨p, q, hs, r⟩ => ⟨p, q, sep_assoc hs, r⟩, fun ⟨p, q, hs, r⟩ => ⟨p, q, sep_assoc' hs, r⟩⟩
theorem own_ex {α : Type} {A : α → HP} : Own w (ex A :: L) ↔ ∃ x, Own w (A x :: L) :=
  ⟨fun ⟨p, q, ⟨p1, q1, p2, q2, ⟨x, hA⟩, r⟩, r'⟩ => ⟨x, p, q, ⟨p1, q1, p2, q2, hA, r⟩, r'⟩, fun ⟨x, p, q, ⟨p1, q1, p2, q2, hA, r⟩, r'⟩ => ⟨p, q, ⟨p1, q1, p2, q2, ⟨x, hA⟩, r⟩, r'⟩⟩
theorem own_pur {φ : Prop} : Own w (pur φ :: L) ↔ φ ∧ Own w L := by
  constructor
  · intro h
    obtain ⟨p1, q1, p2, q2, hA, _⟩ := own_cons.1 h
    exact ⟨hA.1, own_drop h⟩
  · rintro ⟨hφ, p, q, hs, hp, hq, hd⟩
    exact own_cons.2 ⟨nul, nul, p, q, ⟨hφ, rfl, rfl⟩, hs, nul_le w, nul_le w, hp, hq, nul_dis _, nul_dis _, dis_nul _, nul_dis _, hd⟩
theorem own_emp : Own w (emp :: L) ↔ Own w L := by
  constructor
  · exact own_drop
  · rintro ⟨p, q, hs, hp, hq, hd⟩
    exact own_cons.2 ⟨nul, nul, p, q, ⟨rfl, rfl⟩, hs, nul_le w, nul_le w, hp, hq, nul_dis _, nul_dis _, dis_nul _, nul_dis _, hd⟩
theorem own_seps : Own w (seps L' :: L) ↔ Own w (L' ++ L) := by
  induction L' generalizing L with
  | nil => exact own_emp
  | cons A L' ih =>
    show Own w (sep A (seps L') :: L) ↔ _
    rw [own_sep]
    constructor
    · intro h
      have h2 := ih.1 (own_perm h (List.Perm.swap _ _ _))
      exact own_perm h2 List.perm_middle
    · intro h
      have h2 : Own w (L' ++ (A :: L)) := own_perm h List.perm_middle.symm
      exact own_perm (ih.2 h2) (List.Perm.swap _ _ _)
theorem own_nil : Own w [] := ⟨nul, nul, ⟨rfl, rfl⟩, nul_le w, nul_le w, nul_dis _⟩
theorem one_le {b : Nat} {o : Obj} : (one b o).le w ↔ w.heap[b]? = some o := by
  constructor
  · intro h; exact h b o (by simp [one])
  · intro h i x hx
    simp only [one] at hx
    split at hx
    · rename_i e; subst e; rw [h]; exact hx
    · cases hx
theorem own_pts {b : Nat} {o : Obj} (h : Own w (pts b o :: L)) : w.heap[b]? = some o := by
  obtain ⟨p1, q1, p2, q2, ⟨rfl, rfl⟩, hB, h1, _⟩ := own_cons.1 h
  exact one_le.1 h1
theorem own_ro {b : Nat} {o : Obj} (h : Own w (ro b o :: L)) : w.heap[b]? = some o := by
  obtain ⟨p1, q1, p2, q2, ⟨rfl, rfl⟩, hB, _, h1, _⟩ := own_cons.1 h
  exact one_le.1 h1
theorem own_share {b : Nat} {o : Obj} (h : Own w (pts b o :: L)) : Own w (ro b o :: L) := by
  obtain ⟨p1, q1, p2, q2, ⟨rfl, rfl⟩, hB, h1, h2, h3, h4, d1, d2, d3, d4, d5⟩ := own_cons.1 h
  exact own_cons.2 ⟨nul, one b o, p2, q2, ⟨rfl, rfl⟩, hB, nul_le _, h1, h3, h4, nul_dis _, nul_dis _, d1.symm, nul_dis _, d5⟩
/-- What owns nothing may be told twice. -/
theorem own_dup (h : Own w (A :: L)) (hA : ∀ p q, A p q → p = nul) : Own w (A :: A :: L) := by
  obtain ⟨p1, q1, p2, q2, h0, hB, h1, h2, h3, h4, d1, d2, d3, d4, d5⟩ := own_cons.1 h
  obtain rfl := hA _ _ h0
  refine own_cons.2 ⟨nul, q1, mrg nul p2, mrg q1 q2, h0, ⟨nul, q1, p2, q2, h0, hB, nul_dis _, nul_dis _, d3, le_agr h2 h4, rfl, rfl⟩, h1, h2, le_mrg h1 h3, le_mrg h2 h4, nul_dis _, nul_dis _, dis_mrg.2 ⟨nul_dis _, d3⟩, nul_dis _, dis_mrg.2 ⟨nul_dis _, mrg_dis.2 ⟨d3, d5⟩⟩⟩
theorem own_heap (h : Own w L) (hh : ∀ (i : Nat) (o : Obj), w.heap[i]? = some o → w'.heap[i]? = some o) : Own w' L :=
  let ⟨p, q, hs, hp, hq, hd⟩ := h.out
  ⟨p, q, hs, fun i o hi => hh _ _ (hp _ _ hi), fun i o hi => hh _ _ (hq _ _ hi), hd⟩
theorem own_new {o : Obj} {b : Nat} (h : Own w L) (hh : ∀ (i : Nat) (x : Obj), w.heap[i]? = some x → w'.heap[i]? = some x) (hb : w.heap.size ≤ b) (ho : w'.heap[b]? = some o) : Own w' (pts b o :: L) := by
  obtain ⟨p, q, hs, hp, hq, hd⟩ := h
  have hnone : ∀ r : Part, r.le w → dis (one b o) r := fun r hr i => by
    by_cases e : i = b
    · right
      subst e
      cases hx : r i with
      | none => rfl
      | some x =>
        have := (Array.getElem?_eq_some_iff.1 (hr _ _ hx)).1
        omega
    · left; simp [one, e]
  exact own_cons.2 ⟨one b o, nul, p, q, ⟨rfl, rfl⟩, hs, one_le.2 ho, nul_le _, fun i x hi => hh _ _ (hp _ _ hi), fun i x hi => hh _ _ (hq _ _ hi), hnone _ hp, hnone _ hq, dis_nul _, dis_nul _, hd⟩
theorem own_put {o o' : Obj} {b : Nat} (h : Own w (pts b o :: L)) (hh : ∀ (i : Nat), i ≠ b → ∀ (x : Obj), w.heap[i]? = some x → w'.heap[i]? = some x) (ho : w'.heap[b]? = some o') : Own w' (pts b o' :: L) := by
  obtain ⟨p1, q1, p2, q2, ⟨rfl, rfl⟩, hB, h1, h2, h3, h4, d1, d2, d3, d4, d5⟩ := own_cons.1 h
  have hne : ∀ r : Part, dis (one b o) r → r.le w → r.le w' ∧ dis (one b o') r := fun r hd hr => by
    have hb : r b = none := by
      rcases hd b with hd | hd
      · simp [one] at hd
      · exact hd
    refine ⟨fun i x hi => ?_, fun i => ?_⟩
    · have : i ≠ b := fun e => by subst e; rw [hb] at hi; cases hi
      exact hh i this x (hr _ _ hi)
    · by_cases e : i = b
      · subst e; exact .inr hb
      · left; simp [one, e]
  obtain ⟨a1, a2⟩ := hne _ d1 h3
  obtain ⟨a3, a4⟩ := hne _ d2 h4
  exact own_cons.2 ⟨_, nul, p2, q2, ⟨rfl, rfl⟩, hB, one_le.2 ho, nul_le _, a1, a3, a2, a4, dis_nul _, dis_nul _, d5⟩
theorem own_snap : Own w [snap w] :=
  own_cons.2 ⟨nul, fun i => w.heap[i]?, nul, nul, ⟨rfl, rfl⟩, ⟨rfl, rfl⟩, nul_le _, fun _ _ h => h, nul_le _, nul_le _, nul_dis _, nul_dis _, nul_dis _, nul_dis _, nul_dis _⟩
theorem own_kept (h : Own w' (snap w :: L)) (i : Nat) (o : Obj) (hi : w.heap[i]? = some o) : w'.heap[i]? = some o := by
  obtain ⟨p1, q1, p2, q2, ⟨rfl, rfl⟩, hB, h1, h2, _⟩ := own_cons.1 h
  exact h2 i o hi
theorem perm_at {α : Type} {A : α} : ∀ {L : List α} {k : Nat}, L[k]? = some A → L.Perm (A :: L.eraseIdx k)
  | x :: L, 0, h => by simp at h; subst h; exact List.Perm.refl _
  | x :: L, k + 1, h => by
    have h1 : L[k]? = some A := by simpa using h
    exact ((perm_at h1).cons x).trans (List.Perm.swap _ _ _)
theorem perm_set {α : Type} {B : α} : ∀ {L : List α} {k : Nat}, k < L.length → (B :: L.eraseIdx k).Perm (L.set k B)
  | x :: L, 0, h => by simp
  | x :: L, k + 1, h => by
    have h1 : k < L.length := by simpa using h
    exact (List.Perm.swap _ _ _).trans ((perm_set h1).cons x)
theorem own_at {k : Nat} (h : Own w L) (hk : L[k]? = some A) : Own w (A :: L.eraseIdx k) := own_perm h (perm_at hk)
theorem own_back {k : Nat} (h : Own w (B :: L.eraseIdx k)) (hk : k < L.length) : Own w (L.set k B) := own_perm h (perm_set hk)
end

/-- The streams are as they were. -/
structure Same (w w' : World) : Prop where
  os : w'.os = w.os
  tape : w'.tape = w.tape
  output : w'.output = w.output
  size : w.heap.size ≤ w'.heap.size
theorem Same.refl (w : World) : Same w w := ⟨rfl, rfl, rfl, Nat.le_refl _⟩
theorem Same.trans {a b c : World} (h : Same a b) (k : Same b c) : Same a c := ⟨k.os.trans h.os, k.tape.trans h.tape, k.output.trans h.output, Nat.le_trans h.size k.size⟩
theorem Same.alloc (w : World) (o : Obj) : Same w (w.alloc o) := ⟨rfl, rfl, rfl, by simp⟩
theorem Same.drew (w : World) : Same w w.drew := ⟨rfl, rfl, rfl, Nat.le_refl _⟩
theorem Same.of_below {B : Nat} {w w' : World} (h : Below B w w') : Same w w' := ⟨h.os, h.tape, h.output, h.size⟩
theorem Same.of_grown {w w' : World} {r : Option Nat} (h : w.grownBy w' r) : Same w w' := ⟨h.os, h.tape, h.output, h.size⟩
theorem own_below {w w' : World} {L : List HP} (h : Own w L) (hb : Below w.heap.size w w') : Own w' L :=
  own_heap h (fun i o hi => (hb.block i (Array.getElem?_eq_some_iff.1 hi).1).trans hi)
/-- At the end of a call of a law: nothing that was there has turned. -/
theorem below_of {w w' : World} {L : List HP} (h : Own w' (snap w :: L)) (hs : Same w w') : Below w.heap.size w w' :=
  ⟨hs.os, hs.tape, hs.output, hs.size, fun k hk => by
    have h1 : w.heap[k]? = some w.heap[k] := Array.getElem?_eq_getElem hk
    rw [h1]; exact own_kept h k _ h1⟩
end Go.Proofs.Ytonohjhmnlfakaa.H
set_option linter.unusedVariables false
set_option linter.unusedSimpArgs false
namespace Go.Proofs.Ytonohjhmnlfakaa.H
open Go.RowKit

/-- Bytes as cells. -/
def bcs (l : List UInt8) : List Value := l.map fun b => .int .u8 (b.toNat : Int)
theorem bcs_length (l : List UInt8) : (bcs l).length = l.length := by simp [bcs]
theorem bcs_one (l : List UInt8) : ∀ v ∈ bcs l, v.oneCell' = true := by
  intro v hv
  simp only [bcs, List.mem_map] at hv
  obtain ⟨b, _, rfl⟩ := hv
  rfl
def isRowB (P : Program) (T : TypeId) : Option Bool := (P.underlying T).map fun | .struct _ | .array _ _ => true | _ => false
theorem underlying_row {P : Program} {T : TypeId} {b : Bool} (h : isRowB P T = some b) : ∃ d, P.underlying T = some d ∧ (match d with | .struct _ | .array _ _ => true | _ => false) = b := by
  unfold isRowB at h
  cases hd : P.underlying T with
  | none => rw [hd] at h; cases h
  | some d => rw [hd] at h; exact ⟨d, rfl, by simpa using h⟩

/-- A cell of a block that is owned, as the walk asks for it. -/
theorem own_cell {w : World} {L : List HP} {b : Nat} {cs : Array Value} {t : TypeId} {fr : Nat × Nat} {v : Value} (k i : Nat) (h : Own w L) (hk : L[k]? = some (pts b (.cells cs t fr))) (hi : cs[i]? = some v) : w.cell? ⟨b, i, none⟩ = some v := by
  rw [cell_of_row w b i cs t fr (own_pts (own_at h hk)), hi]
theorem own_free {w : World} {L : List HP} {b : Nat} {cs : Array Value} {t : TypeId} (k i : Nat) (h : Own w L) (hk : L[k]? = some (pts b (.cells cs t))) : w.frozen? ⟨b, i, none⟩ = false := by
  have := own_pts (own_at h hk)
  simp [World.frozen?, this]
theorem own_get {w : World} {L : List HP} {b : Nat} {o : Obj} (k : Nat) (h : Own w L) (hk : L[k]? = some (pts b o)) : w.heap[b]? = some o := own_pts (own_at h hk)

section
variable {P : Program} {ops : Array Oper} {rest : List Oper} {o : Oper} {a : Act} {Q : Exit → Act → World → Prop} {w : World} {L : List HP}
theorem ev {w1 : World} {v : Value} (hw : Region.wanted o (yielded ops a.tmps) = true) (hrun : (execOp a.eval o).run P w = .ok (.value v) w1) (h : wpList P ops Q rest (a.put o.dst v) w1) : wpList P ops Q (o :: rest) a w := by
  refine wpList_step fun K hK => ?_
  rw [if_pos hw]
  unfold Oper.wp
  rw [hrun]
  exact hK _ _ h
theorem ev_skip {w1 : World} (hw : Region.wanted o (yielded ops a.tmps) = true) (hrun : (execOp a.eval o).run P w = .ok .skip w1) (h : wpList P ops Q rest (a.put o.dst undef) w1) : wpList P ops Q (o :: rest) a w := by
  refine wpList_step fun K hK => ?_
  rw [if_pos hw]
  unfold Oper.wp
  rw [hrun]
  exact hK _ _ h

theorem heap_alloc_keeps (w : World) (o : Obj) (i : Nat) (x : Obj) (h : w.heap[i]? = some x) : (w.alloc o).heap[i]? = some x := (Below.heap_alloc w o i (Array.getElem?_eq_some_iff.1 h).1).trans h
theorem heap_alloc_at (w : World) (o : Obj) : (w.alloc o).heap[w.heap.size]? = some o := by show (w.heap.push o)[w.heap.size]? = _; simp
theorem own_alloc_new (hO : Own w L) (o : Obj) : Own (w.alloc o) (pts w.heap.size o :: L) :=
  own_new hO (heap_alloc_keeps w o) (Nat.le_refl _) (heap_alloc_at w o)

theorem own_box {T : TypeId} {x : Operand} {v : Value} {cs : Array Value} (hw : Region.wanted o (yielded ops a.tmps) = true) (ho : o.op = .box T x) (hx : a.eval x = v) (hv : v.cells = cs) (hO : Own w L)
    (h : ∀ b w', Own w' (pts b (.cells cs T) :: L) → Same w w' → wpList P ops Q rest (a.put o.dst (.pointer (some ⟨b, 0, none⟩))) w') : wpList P ops Q (o :: rest) a w := by
  have hrun : (execOp a.eval o).run P w = .ok (.value (.pointer (some ⟨w.heap.size, 0, none⟩))) (w.alloc (.cells cs T)) := by
    simp only [execOp, ho, hx]
    simp [Instr.box, newVar, newRow, newObj, hv]
    rfl
  exact ev hw hrun (h _ _ (own_alloc_new hO _) (Same.alloc _ _))
theorem own_box_agg {T : TypeId} {x : Operand} {cs : Array Value} (hw : Region.wanted o (yielded ops a.tmps) = true) (ho : o.op = .box T x) (hx : a.eval x = .agg cs) (hO : Own w L)
    (h : ∀ b w', Own w' (pts b (.cells cs T) :: L) → Same w w' → wpList P ops Q rest (a.put o.dst (.pointer (some ⟨b, 0, none⟩))) w') : wpList P ops Q (o :: rest) a w :=
  own_box hw ho hx rfl hO h
theorem own_alloc {T : TypeId} {z : Value} {cs : Array Value} (hw : Region.wanted o (yielded ops a.tmps) = true) (ho : o.op = .alloc T) (hz : (P.info? T).map (·.zero) = some (some z)) (hv : z.cells = cs) (hO : Own w L)
    (h : ∀ b w', Own w' (pts b (.cells cs T) :: L) → Same w w' → wpList P ops Q rest (a.put o.dst (.pointer (some ⟨b, 0, none⟩))) w') : wpList P ops Q (o :: rest) a w := by
  cases hi : P.info? T with
  | none => rw [hi] at hz; cases hz
  | some i =>
    have hz' : i.zero = some z := by rw [hi] at hz; simpa using hz
    have hrun : (execOp a.eval o).run P w = .ok (.value (.pointer (some ⟨w.heap.size, 0, none⟩))) (w.alloc (.cells cs T)) := by
      simp only [execOp, ho]
      simp [Instr.alloc, zeroValue, typeInfo, hi, hz', newVar, newRow, newObj, hv]
      rfl
    exact ev hw hrun (h _ _ (own_alloc_new hO _) (Same.alloc _ _))

theorem run_load1 {T : TypeId} {b off : Nat} {cs : Array Value} {t : TypeId} {fr : Nat × Nat} {v : Value} (hT : isRowB P T = some false) (hg : w.heap[b]? = some (.cells cs t fr)) (hv : cs[off]? = some v) :
    (Instr.loadAt T (.pointer (some ⟨b, off, none⟩))).run P w = .ok v w := by
  obtain ⟨d, hd, hr⟩ := underlying_row hT
  have hc : w.cell? ⟨b, off, none⟩ = some v := by rw [cell_of_row w b off cs t fr hg, hv]
  have hagg : (isAgg T).run P w = .ok false w := by
    unfold isAgg
    rw [Sem.run_bind, run_underlying hd w]
    cases d <;> simp_all
  simp [Instr.loadAt, Instr.sureAddr, loadVar, Sem.run_bind, hagg, load]
  simp only [Sem.run, hc]
theorem run_loadrow {T : TypeId} {b off n : Nat} {cs : Array Value} {t : TypeId} {fr : Nat × Nat} (hT : isRowB P T = some true) (hsz : (P.info? T).map (·.size) = some n) (hg : w.heap[b]? = some (.cells cs t fr)) (hfit : off + n ≤ cs.size) :
    (Instr.loadAt T (.pointer (some ⟨b, off, none⟩))).run P w = .ok (.agg ((cs.toList.drop off).take n).toArray) w := by
  obtain ⟨d, hd, hr⟩ := underlying_row hT
  refine run_loadAt_mid w b off T _ d (fun j v hj => ?_) hd (by cases d <;> simp_all) (by rw [hsz]; simp; omega)
  rw [cell_of_row w b _ cs t fr hg]
  simp only [List.getElem?_take] at hj
  split at hj
  · simpa using hj
  · cases hj
theorem own_load1 {T : TypeId} {x : Operand} {b off : Nat} {cs : Array Value} {t : TypeId} {fr : Nat × Nat} {v : Value} (hw : Region.wanted o (yielded ops a.tmps) = true) (ho : o.op = .load T x) (hx : a.eval x = .pointer (some ⟨b, off, none⟩))
    (hT : isRowB P T = some false) (hg : w.heap[b]? = some (.cells cs t fr)) (hv : cs[off]? = some v) (h : wpList P ops Q rest (a.put o.dst v) w) : wpList P ops Q (o :: rest) a w := by
  refine ev hw ?_ h
  simp only [execOp, ho, hx, Sem.run_bind, run_load1 hT hg hv]
  rfl
theorem own_loadrow {T : TypeId} {x : Operand} {b off n : Nat} {cs : Array Value} {vs : List Value} {t : TypeId} {fr : Nat × Nat} (hw : Region.wanted o (yielded ops a.tmps) = true) (ho : o.op = .load T x) (hx : a.eval x = .pointer (some ⟨b, off, none⟩))
    (hT : isRowB P T = some true) (hsz : (P.info? T).map (·.size) = some n) (hg : w.heap[b]? = some (.cells cs t fr)) (hfit : off + n ≤ cs.size) (hv : (cs.toList.drop off).take n = vs) (h : wpList P ops Q rest (a.put o.dst (.agg vs.toArray)) w) : wpList P ops Q (o :: rest) a w := by
  refine ev hw ?_ h
  subst hv
  simp only [execOp, ho, hx, Sem.run_bind, run_loadrow hT hsz hg hfit]
  rfl

theorem setRow_keeps (w : World) (g : Nat) (cs : Array Value) (i : Nat) (hi : i ≠ g) (x : Obj) (h : w.heap[i]? = some x) : (w.setRow g cs).heap[i]? = some x := by
  rw [setRow_other w g i cs hi]; exact h
theorem Same.setRow (w : World) (g : Nat) (cs : Array Value) : Same w (w.setRow g cs) := ⟨rfl, rfl, rfl, by simp [World.setRow]⟩
theorem run_store_at {T : TypeId} {b off n : Nat} {cs : Array Value} {t : TypeId} {v : Value} (hsz : (P.info? T).map (·.size) = some n) (hg : w.heap[b]? = some (.cells cs t (0, 0))) (hn : v.cells.size = n) (h1 : ∀ u ∈ v.cells.toList, u.oneCell' = true) (hfit : off + n ≤ cs.size) :
    (Instr.storeAt T (.pointer (some ⟨b, off, none⟩)) v).run P w = .ok () (w.setRow b (cs.toList.take off ++ v.cells.toList ++ cs.toList.drop (off + n)).toArray) := by
  cases hi : P.info? T with
  | none => rw [hi] at hsz; cases hsz
  | some i =>
    have hs : i.size = n := by rw [hi] at hsz; simpa using hsz
    have hst := run_storeCells_at P b off t v.cells.toList 0 cs w hg (by simpa [hn] using hfit) h1
    simp only [Nat.add_zero, Array.length_toList, hn] at hst
    simp [Instr.storeAt, Instr.sureAddr, storeVar, sizeOf, typeInfo, hi, hs, hn, hst]
theorem own_store {T : TypeId} {p x : Operand} {b off n k : Nat} {cs : Array Value} {t : TypeId} {v : Value} {vs new : List Value} (hw : Region.wanted o (yielded ops a.tmps) = true) (ho : o.op = .store T p x) (hp : a.eval p = .pointer (some ⟨b, off, none⟩)) (hx : a.eval x = v)
    (hsz : (P.info? T).map (·.size) = some n) (hO : Own w L) (hk : L[k]? = some (pts b (.cells cs t))) (hv : v.cells.toList = vs) (hn : vs.length = n) (h1 : ∀ u ∈ vs, u.oneCell' = true) (hfit : off + n ≤ cs.size) (hnew : cs.toList.take off ++ vs ++ cs.toList.drop (off + n) = new)
    (h : ∀ w', Own w' (L.set k (pts b (.cells new.toArray t))) → Same w w' → wpList P ops Q rest (a.put o.dst undef) w') : wpList P ops Q (o :: rest) a w := by
  have hg := own_get k hO hk
  subst hv
  subst hnew
  have hrun : (execOp a.eval o).run P w = .ok .skip (w.setRow b (cs.toList.take off ++ v.cells.toList ++ cs.toList.drop (off + n)).toArray) := by
    simp only [execOp, ho, hp, hx, Sem.run_bind, run_store_at hsz hg (by simpa using hn) h1 hfit]
    rfl
  refine ev_skip hw hrun (h _ (own_back (own_put (own_at hO hk) (fun i hi x hx => setRow_keeps w b _ i hi x hx) (setRow_heap w b _ _ t _ hg)) ?_) (Same.setRow _ _ _))
  exact (List.getElem?_eq_some_iff.1 hk).1

theorem own_store_all {T : TypeId} {p x : Operand} {b n k : Nat} {cs vs : Array Value} {t : TypeId} (hw : Region.wanted o (yielded ops a.tmps) = true) (ho : o.op = .store T p x) (hp : a.eval p = .pointer (some ⟨b, 0, none⟩)) (hx : a.eval x = .agg vs)
    (hsz : (P.info? T).map (·.size) = some n) (hO : Own w L) (hk : L[k]? = some (pts b (.cells cs t))) (hn : vs.size = n) (hn2 : cs.size = n) (h1 : vs.toList.all (·.oneCell') = true)
    (h : ∀ w', Own w' (L.set k (pts b (.cells vs t))) → Same w w' → wpList P ops Q rest (a.put o.dst undef) w') : wpList P ops Q (o :: rest) a w := by
  refine own_store (new := vs.toList) (off := 0) hw ho hp hx hsz hO hk (vs := vs.toList) rfl (by simpa using hn) (fun u hu => by simpa using List.all_eq_true.1 h1 u hu) (by omega) ?_ (by simpa using h)
  simp only [List.take_zero, List.nil_append, Nat.zero_add]
  rw [List.drop_of_length_le (by simp; omega)]
  simp
theorem own_store1 {T : TypeId} {p x : Operand} {b off k : Nat} {cs cs' : Array Value} {t : TypeId} {v : Value} (hw : Region.wanted o (yielded ops a.tmps) = true) (ho : o.op = .store T p x) (hp : a.eval p = .pointer (some ⟨b, off, none⟩)) (hx : a.eval x = v)
    (hsz : (P.info? T).map (·.size) = some 1) (hO : Own w L) (hk : L[k]? = some (pts b (.cells cs t))) (h1 : v.oneCell' = true) (hfit : off < cs.size) (hcs : cs.setIfInBounds off v = cs')
    (h : ∀ w', Own w' (L.set k (pts b (.cells cs' t))) → Same w w' → wpList P ops Q rest (a.put o.dst undef) w') : wpList P ops Q (o :: rest) a w := by
  subst hcs
  have hc : v.cells = #[v] := by cases v <;> first | rfl | simp [Value.oneCell'] at h1
  refine own_store (new := (cs.setIfInBounds off v).toList) (off := off) hw ho hp hx hsz hO hk (vs := [v]) (by rw [hc]) rfl (fun u hu => by simp at hu; subst hu; exact h1) (by omega) ?_ (by rw [Array.toArray_toList]; exact h)
  simp only [Array.toList_setIfInBounds]
  rw [List.set_eq_take_append_cons_drop, if_pos (by simpa using hfit)]
  simp
/-! ### Slices that are read -/
/-- The slice v of n elements reads as the cells xs. -/
structure Rd (w : World) (size : Nat) (v : Value) (n : Nat) (xs : List Value) : Prop where mk ::
  out : xs.length = n * size ∧ ∃ A c, v = .slice A n c ∧ n ≤ c ∧ c ≤ 9223372036854775807 ∧ ∀ (j : Nat) (u : Value), xs[j]? = some u → ∃ ad : Addr, A = some ad ∧ w.cell? (ad.add j) = some u
/-- .. as bytes. -/
abbrev RdB (w : World) (v : Value) (bs : List UInt8) : Prop := Rd w 1 v bs.length (bcs bs)
/-- Bytes as a string. -/
def bstr (l : List UInt8) : ByteArray := ⟨l.toArray⟩
theorem bstr_data (s : ByteArray) : bstr s.data.toList = s := by simp [bstr]
theorem bstr_toList (l : List UInt8) : (bstr l).data.toList = l := rfl
theorem bstr_size (l : List UInt8) : (bstr l).size = l.length := by simp [bstr, ByteArray.size]
theorem addr_add (ad : Addr) (i j : Nat) : (ad.add i).add j = ad.add (i + j) := by
  unfold Addr.add
  by_cases hi : i = 0
  · subst hi; simp
  · by_cases hj : j = 0
    · subst hj; simp
    · simp [hi, hj, Nat.add_assoc]
theorem add_at (g o j : Nat) : (⟨g, o, none⟩ : Addr).add j = ⟨g, o + j, none⟩ := by unfold Addr.add; split <;> simp_all
theorem Rd.keep {w' : World} {size n : Nat} {v : Value} {xs : List Value} (h : Rd w size v n xs) (hk : ∀ (i : Nat) (x : Obj), w.heap[i]? = some x → w'.heap[i]? = some x) : Rd w' size v n xs := by
  obtain ⟨hl, A, c, hv, hc, hm, hr⟩ := h.out
  refine ⟨hl, A, c, hv, hc, hm, fun j u hu => ?_⟩
  obtain ⟨ad, hA, hcell⟩ := hr j u hu
  refine ⟨ad, hA, ?_⟩
  have hb := World.block_lt_of_cell? w _ hcell
  have h1 : w.heap[(ad.add j).block]? = some w.heap[(ad.add j).block] := Array.getElem?_eq_getElem hb
  rw [← hcell]
  exact World.cell?_of_block (h1 ▸ (hk _ _ h1) ▸ rfl)
theorem Rd.slice {size n : Nat} {v : Value} {xs : List Value} (h : Rd w size v n xs) : ∃ A c, v = .slice A n c := let ⟨_, A, c, hv, _⟩ := h.out; ⟨A, c, hv⟩
theorem rd_nil (w : World) (size : Nat) : Rd w size (.slice none 0 0) 0 [] := ⟨by simp, none, 0, rfl, Nat.le_refl _, by omega, fun j u hu => by simp at hu⟩
/-- A piece of a block. -/
theorem rd_block_at {b lo : Nat} {cs : Array Value} {t : TypeId} {fr : Nat × Nat} {n c : Nat} {xs : List Value} (hg : w.heap[b]? = some (.cells cs t fr)) (hx : (cs.toList.drop lo).take n = xs) (hl : lo + n ≤ cs.size) (hc : n ≤ c) (hm : c ≤ 9223372036854775807) :
    Rd w 1 (.slice (some ⟨b, lo, none⟩) n c) n xs := by
  subst hx
  refine ⟨by simp; omega, _, _, rfl, hc, hm, fun j u hu => ⟨_, rfl, ?_⟩⟩
  rw [add_at, cell_of_row w b _ cs t fr hg]
  simp only [List.getElem?_take, List.getElem?_drop] at hu
  split at hu
  · simpa using hu
  · cases hu
/-- A row of a block, from its head on. -/
theorem rd_block {b : Nat} {cs : Array Value} {t : TypeId} {fr : Nat × Nat} {size n c : Nat} {xs : List Value} (hg : w.heap[b]? = some (.cells cs t fr)) (hx : cs.toList.take (n * size) = xs) (hl : n * size ≤ cs.size) (hc : n ≤ c) (hm : c ≤ 9223372036854775807) :
    Rd w size (.slice (some ⟨b, 0, none⟩) n c) n xs := by
  subst hx
  refine ⟨by simp; omega, _, _, rfl, hc, hm, fun j u hu => ⟨_, rfl, ?_⟩⟩
  rw [add_at, cell_of_row w b _ cs t fr hg, Nat.zero_add]
  simp only [List.getElem?_take] at hu
  split at hu
  · simpa using hu
  · cases hu
theorem run_string {P : Program} {w : World} {src dst e : TypeId} (hs : P.underlying src = some (.slice e)) (he : P.underlying e = some (.int .u8)) (hd : P.underlying dst = some .string) {v : Value} {n : Nat} {bs : List UInt8} (hn : n = bs.length) (h : Rd w 1 v n (bcs bs)) :
    (convert src dst v).run P w = .ok (.string (bstr bs)) w := by
  subst hn
  obtain ⟨_, A, c, rfl, hc, hm, hr⟩ := h.out
  cases bs with
  | nil => 
    rw [run_convert_bytes_string w src dst e A _ c hs he hd]
    cases A <;> simp [Conv.bytesToString, bstr, loadCells, loadCellsFrom] <;> rfl
  | cons b bs =>
    obtain ⟨ad, rfl, _⟩ := hr 0 (.int .u8 b.toNat) (by simp [bcs])
    have hl := run_loadCells_list (P := P) w ad (bcs (b :: bs)) (fun j u hu => by obtain ⟨ad', h1, h2⟩ := hr j u hu; cases h1; exact h2)
    rw [bcs_length] at hl
    have hl2 : (loadCells ad (b :: bs).length).run P w = .ok ((((b :: bs).map fun b : UInt8 => (b.toNat : Int)).map (Value.int .u8)).toArray) w := by
      rw [hl]; simp [bcs, Function.comp_def]
    rw [run_convert_bytes_string w src dst e _ _ c hs he hd, run_bytesToString w ad _ c _ hl2, foldl_push_bytes]
    simp [bstr, ByteArray.empty, ByteArray.emptyWithCapacity, Function.comp_def]
    rfl
theorem own_string {src dst e : TypeId} {x : Operand} {v : Value} {n : Nat} {bs : List UInt8} (hw : Region.wanted o (yielded ops a.tmps) = true) (ho : o.op = .convert src dst x) (hx : a.eval x = v)
    (hs : P.underlying src = some (.slice e)) (he : P.underlying e = some (.int .u8)) (hd : P.underlying dst = some .string) (hn : n = bs.length) (hr : Rd w 1 v n (bcs bs))
    (h : wpList P ops Q rest (a.put o.dst (.string (bstr bs))) w) : wpList P ops Q (o :: rest) a w := by
  refine ev hw ?_ h
  simp only [execOp, ho, hx, Sem.run_bind, run_string hs he hd hn hr]
  rfl
theorem own_make {T e : TypeId} {z : Value} {size bytes : Nat} {lo hi : Operand} {kl kc : IntKind} {n : Nat} {cs : Array Value} (hw : Region.wanted o (yielded ops a.tmps) = true) (ho : o.op = .makeSlice T lo hi) (hlo : a.eval lo = .int kl (n : Int)) (hhi : a.eval hi = .int kc (n : Int))
    (ht : P.underlying T = some (.slice e)) (hinfo : (P.info? e).map (fun i => (i.zero, i.size, i.bytes)) = some (some z, size, bytes)) (hb : bytes * n ≤ 281474976710656) (hm : n ≤ 9223372036854775807) (hcs : madeCells z.cells (n * size) = cs) (hO : Own w L)
    (h : ∀ b w', Own w' (pts b (.cells cs e) :: L) → Same w w' → wpList P ops Q rest (a.put o.dst (.slice (some ⟨b, 0, none⟩) n n)) w') : wpList P ops Q (o :: rest) a w := by
  obtain ⟨i, hi, hzz⟩ := Option.map_eq_some_iff.1 hinfo
  simp only [Prod.mk.injEq] at hzz
  obtain ⟨hz, hsz, hby⟩ := hzz
  have hb' : (i.bytes : Int) * (n : Int) ≤ 281474976710656 := by
    have h : ((i.bytes * n : Nat) : Int) ≤ 281474976710656 := by rw [hby]; omega
    rwa [Int.natCast_mul] at h
  have hr := run_make (P := P) w T e i z ht hi hz kl kc n n (by omega) (Int.le_refl _) hb' (by omega)
  simp only [Int.toNat_natCast, hsz, hcs] at hr
  refine ev hw ?_ (h _ _ (own_alloc_new hO _) (Same.alloc _ _))
  simp only [execOp, ho, hlo, hhi, Sem.run_bind, hr]
  rfl
/-- copy into a row that is owned, from a string. -/
theorem own_copy_str {dT sT elem : TypeId} {d s : Operand} {g off dLen dCap k : Nat} {str : ByteArray} {cur : Array Value} {t : TypeId} {new : List Value} (hw : Region.wanted o (yielded ops a.tmps) = true)
    (ho : o.op = .call { callee := .builtin .copy, args := #[d, s], argTypes := #[dT, sT] }) (hd : a.eval d = .slice (some ⟨g, off, none⟩) dLen dCap) (hs : a.eval s = .string str)
    (hu : P.underlying dT = some (.slice elem)) (hsz : (P.info? elem).map (·.size) = some 1) (hO : Own w L) (hk : L[k]? = some (pts g (.cells cur t))) (hle : str.size ≤ dLen) (hfit : off + str.size ≤ cur.size)
    (hnew : cur.toList.take off ++ bcs str.data.toList ++ cur.toList.drop (off + str.size) = new)
    (h : ∀ w', Own w' (L.set k (pts g (.cells new.toArray t))) → Same w w' → wpList P ops Q rest (a.put o.dst (goInt str.size)) w') : wpList P ops Q (o :: rest) a w := by
  have hg := own_get k hO hk
  subst hnew
  have hrun := Lib.run_copy_row_string (P := P) w dT sT o.type elem g off dLen dCap str cur t hu hsz hg hle hfit
  refine ev (w1 := _) hw ?_ (h _ (own_back (own_put (own_at hO hk) (fun i hi x hx => setRow_keeps w g _ i hi x hx) (setRow_heap w g _ _ t _ hg)) (List.getElem?_eq_some_iff.1 hk).1) (Same.setRow _ _ _))
  simp only [execOp, ho]
  simp [resolve, invoke, builtin, hd, hs, hrun, Result.andThen]
  rfl
/-- copy into a row that is owned, from a slice that is read. -/
theorem own_copy {dT sT elem : TypeId} {d s : Operand} {g off dLen dCap k n m : Nat} {v : Value} {xs : List Value} {cur : Array Value} {t : TypeId} {new : List Value} (hw : Region.wanted o (yielded ops a.tmps) = true)
    (ho : o.op = .call { callee := .builtin .copy, args := #[d, s], argTypes := #[dT, sT] }) (hd : a.eval d = .slice (some ⟨g, off, none⟩) dLen dCap) (hs : a.eval s = v)
    (hu : P.underlying dT = some (.slice elem)) (hsz : (P.info? elem).map (·.size) = some 1) (hr : Rd w 1 v n xs) (h1 : ∀ u ∈ xs, u.oneCell' = true) (hO : Own w L) (hk : L[k]? = some (pts g (.cells cur t))) (hm : Nat.min n dLen = m) (hfit : off + m ≤ cur.size)
    (hnew : cur.toList.take off ++ xs.take m ++ cur.toList.drop (off + m) = new)
    (h : ∀ w', Own w' (L.set k (pts g (.cells new.toArray t))) → Same w w' → wpList P ops Q rest (a.put o.dst (goInt m)) w') : wpList P ops Q (o :: rest) a w := by
  have hg := own_get k hO hk
  subst hnew
  obtain ⟨hl, A, c, rfl, hc, hcm, hcell⟩ := hr.out
  have hlen : (xs.take m).length = m := by rw [List.length_take, hl]; have h3 : Nat.min n dLen ≤ n := Nat.min_le_left n dLen; rw [hm] at h3; omega
  have hrun : (Builtin.copy_ #[dT, sT] o.type #[.slice (some ⟨g, off, none⟩) dLen dCap, .slice A n c]).run P w = .ok (goInt m) (w.setRow g (cur.toList.take off ++ xs.take m ++ cur.toList.drop (off + m)).toArray) := by
    by_cases h0 : m = 0
    · subst h0
      rw [run_copy_none (P := P) w dT sT o.type elem _ _ dLen dCap n c hu hsz hm]
      simp only [List.take_zero, List.append_nil, Nat.add_zero, List.take_append_drop, Array.toArray_toList]
      rw [setRow_self w g cur t (0, 0) hg]
      rfl
    · have hx : 0 < xs.length := by have h3 : (xs.take m).length ≤ xs.length := List.length_take_le' _ _; omega
      obtain ⟨ad, rfl, _⟩ := hcell 0 xs[0] (List.getElem?_eq_getElem hx)
      have := run_copy_row (P := P) w dT sT o.type elem g off dLen dCap ad n c cur t (xs.take m) hu hsz hg (by rw [hlen, hm]) (fun j u hj => by
        have hj2 : xs[j]? = some u := by
          simp only [List.getElem?_take] at hj
          split at hj
          · exact hj
          · cases hj
        obtain ⟨ad', h1, h2⟩ := hcell j u hj2
        cases h1
        exact h2) (by rw [hlen]; exact hfit) (fun u hu => h1 u (List.mem_of_mem_take hu))
      rw [hlen] at this
      exact this
  refine ev (w1 := _) hw ?_ (h _ (own_back (own_put (own_at hO hk) (fun i hi x hx => setRow_keeps w g _ i hi x hx) (setRow_heap w g _ _ t _ hg)) (List.getElem?_eq_some_iff.1 hk).1) (Same.setRow _ _ _))
  simp only [execOp, ho]
  simp [resolve, invoke, builtin, hd, hs, hrun, Result.andThen]
end
theorem made_one (z : Value) (n : Nat) : madeCells #[z] n = (List.replicate n z).toArray := by
  apply Array.ext'
  simp only [madeCells, Array.toList_map, Array.toList_range]
  rw [List.eq_replicate_iff]
  refine ⟨by simp, fun b hb => ?_⟩
  obtain ⟨i, _, rfl⟩ := List.mem_map.1 hb
  simp [Nat.mod_one]
theorem made_bytes (n : Nat) : madeCells #[.int .u8 0] n = (bcs (List.replicate n 0)).toArray := by
  rw [made_one]; simp [bcs]
theorem copy_whole {cur xs : List Value} {m : Nat} (h1 : cur.length = m) (h2 : xs.length = m) : cur.take 0 ++ xs.take m ++ cur.drop (0 + m) = xs := by
  rw [List.take_of_length_le (by omega : xs.length ≤ m), List.drop_of_length_le (by omega)]
  simp
section
variable {P : Program} {ops : Array Oper} {rest : List Oper} {o : Oper} {a : Act} {Q : Exit → Act → World → Prop} {w : World} {L : List HP}
theorem run_loadrow_at {T : TypeId} {ad : Addr} {n : Nat} {vs : List Value} (hT : isRowB P T = some true) (hsz : (P.info? T).map (·.size) = some n) (hn : vs.length = n) (hc : ∀ (j : Nat) (u : Value), vs[j]? = some u → w.cell? (ad.add j) = some u) :
    (Instr.loadAt T (.pointer (some ad))).run P w = .ok (.agg vs.toArray) w := by
  obtain ⟨d, hd, hr⟩ := underlying_row hT
  have hl := run_loadCells_list (P := P) w ad vs hc
  cases hq : P.info? T with
  | none => rw [hq] at hsz; cases hsz
  | some i =>
    have hs : i.size = vs.length := by rw [hq] at hsz; simp at hsz; omega
    have hagg : (isAgg T).run P w = .ok true w := by
      unfold isAgg
      rw [Sem.run_bind, run_underlying hd w]
      cases d <;> simp_all
    simp [Instr.loadAt, Instr.sureAddr, loadVar, Sem.run_bind, hagg, sizeOf, typeInfo, hq, hs, hl]
theorem own_loadrow_at {T : TypeId} {x : Operand} {ad : Addr} {n : Nat} {vs : List Value} (hw : Region.wanted o (yielded ops a.tmps) = true) (ho : o.op = .load T x) (hx : a.eval x = .pointer (some ad))
    (hT : isRowB P T = some true) (hsz : (P.info? T).map (·.size) = some n) (hn : vs.length = n) (hc : ∀ (j : Nat) (u : Value), vs[j]? = some u → w.cell? (ad.add j) = some u) (h : wpList P ops Q rest (a.put o.dst (.agg vs.toArray)) w) : wpList P ops Q (o :: rest) a w := by
  refine ev hw ?_ h
  simp only [execOp, ho, hx, Sem.run_bind, run_loadrow_at hT hsz hn hc]
  rfl
theorem Rd.addr {size n : Nat} {A : Option Addr} {c : Nat} {xs : List Value} (h : Rd w size (.slice A n c) n xs) (hn : 0 < xs.length) : ∃ ad, A = some ad := by
  obtain ⟨hl, A', c', e, _, _, h3⟩ := h.out
  cases e
  obtain ⟨ad, hA, _⟩ := h3 0 xs[0] (List.getElem?_eq_getElem hn)
  exact ⟨ad, hA⟩
theorem Rd.cell {size n k j : Nat} {ad : Addr} {c : Nat} {xs : List Value} {u : Value} (h : Rd w size (.slice (some ad) n c) n xs) (hu : xs[k * size + j]? = some u) : w.cell? ((ad.add (k * size)).add j) = some u := by
  obtain ⟨hl, A', c', e, _, _, h3⟩ := h.out
  cases e
  obtain ⟨ad', hA, hc⟩ := h3 _ _ hu
  cases hA
  rw [addr_add]
  exact hc
theorem Rd.max {size n c : Nat} {A : Option Addr} {xs : List Value} (h : Rd w size (.slice A n c) n xs) : n ≤ c ∧ c ≤ 9223372036854775807 := by
  obtain ⟨hl, A', c', e, h1, h2, h3⟩ := h.out
  cases e
  exact ⟨h1, h2⟩
end
/-- What reads in a world reads as long as all that lies in that world stays. -/
theorem rd_snap {w0 w' : World} {L : List HP} {size n k : Nat} {v : Value} {xs : List Value} (h : Rd w0 size v n xs) (hO : Own w' L) (hk : L[k]? = some (snap w0)) : Rd w' size v n xs :=
  h.keep (fun i o hi => own_kept (own_at hO hk) i o hi)
/-- What a call hands back: a value, what it owns. -/
def Ret (w : World) (v : Value) (L : List HP) (e : Ending) (w' : World) : Prop := e = .returned v ∧ Own w' L ∧ Same w w'
/-- .. over something that the call has made. -/
def RetX {α : Type} (w : World) (v : α → Value) (L : α → List HP) (e : Ending) (w' : World) : Prop := ∃ x, e = .returned (v x) ∧ Own w' (L x) ∧ Same w w'
theorem results_cell_tmp {P : Program} {fn : Func} {p u : Tmp} {T : TypeId} (h : fn.results = #[.cell p T, .tmp u]) {tmps : Array Value} {w : World} {g : Nat} {t : TypeId} {cs : Array Value} {fr : Nat × Nat} (hp : tmps.getD p undef = .pointer (some ⟨g, 0, none⟩)) (hg : w.heap[g]? = some (.cells cs t fr))
    (hT : isRowB P T = some true) (hsz : (P.info? T).map (·.size) = some cs.size) : (results fn tmps).run P w = .ok (.tuple #[.agg cs, tmps.getD u undef]) w := by
  obtain ⟨d, hd, hr⟩ := underlying_row hT
  have hp' : tmps[p]?.getD undef = .pointer (some ⟨g, 0, none⟩) := by simpa using hp
  simp [results, h, hp', asAddr, run_loadVar_row w g t T cs fr d hg hd (by cases d <;> simp_all) hsz]
theorem results_cell {P : Program} {fn : Func} {p : Tmp} {T : TypeId} (h : fn.results = #[.cell p T]) {tmps : Array Value} {w : World} {g : Nat} {t : TypeId} {cs : Array Value} {fr : Nat × Nat} (hp : tmps.getD p undef = .pointer (some ⟨g, 0, none⟩)) (hg : w.heap[g]? = some (.cells cs t fr))
    (hT : isRowB P T = some true) (hsz : (P.info? T).map (·.size) = some cs.size) : (results fn tmps).run P w = .ok (.agg cs) w := by
  obtain ⟨d, hd, hr⟩ := underlying_row hT
  exact results_cell_row h tmps w g t cs fr d hp hg hd (by cases d <;> simp_all) hsz
/-- A cut of a slice that is read. -/
theorem Rd.cut {w : World} {size n c lo k c' : Nat} {A : Option Addr} {xs : List Value} (h : Rd w size (.slice A n c) n xs) (hk : lo + k ≤ n) (hc : k ≤ c') (hm : c' ≤ 9223372036854775807) :
    Rd w size (.slice (A.map (·.add (lo * size))) k c') k ((xs.drop (lo * size)).take (k * size)) := by
  obtain ⟨hl, A', c2, e, h1, h2, h3⟩ := h.out
  cases e
  have hmul : lo * size + k * size ≤ n * size := by rw [← Nat.add_mul]; exact Nat.mul_le_mul_right _ hk
  refine ⟨by simp; omega, _, _, rfl, hc, hm, fun j u hu => ?_⟩
  have hj : xs[lo * size + j]? = some u := by
    simp only [List.getElem?_take, List.getElem?_drop] at hu
    split at hu
    · exact hu
    · cases hu
  obtain ⟨ad, hA, hcell⟩ := h3 _ _ hj
  subst hA
  exact ⟨_, rfl, by rw [addr_add]; exact hcell⟩
theorem Rd.low {w : World} {size n c k c' : Nat} {A : Option Addr} {xs : List Value} (h : Rd w size (.slice A n c) n xs) (hk : k ≤ n) (hc : k ≤ c') (hm : c' ≤ 9223372036854775807) :
    Rd w size (.slice A k c') k (xs.take (k * size)) := by
  have := Rd.cut (lo := 0) h (by omega) hc hm
  simp only [Nat.zero_mul, List.drop_zero] at this
  have e : A.map (·.add 0) = A := by cases A <;> simp [Addr.add]
  rwa [e] at this
theorem bcs_sub (bs : List UInt8) (i k : Nat) : ((bcs bs).drop i).take k = bcs ((bs.drop i).take k) := by simp [bcs, List.map_take, List.map_drop]
end Go.Proofs.Ytonohjhmnlfakaa.H
