/- What a disk's memory is: the program's and the reference's. -/
import Derived.Test.YtjilkbkafigloaaJ1
import Derived.Test.YtjilkbkafigloaaH13
import Derived.Test.YtjilkbkafigloaaP1
set_option linter.unusedVariables false
set_option linter.unusedSimpArgs false
set_option maxRecDepth 100000
namespace Go.Proofs.Ytjilkbkafigloaa.H
open Go.RowKit
/-- A sector. -/
abbrev Sec := List UInt8
/-- A block: what lasts, its versions that do not, whether it is bad. -/
structure Blk where
  s : Sec
  vs : List Sec
  bad : Bool
def secs (l : List Sec) : List Value := l.flatMap bcs
theorem secs_length {l : List Sec} (h : ∀ s ∈ l, s.length = 32) : (secs l).length = l.length * 32 := by
  induction l with
  | nil => rfl
  | cons s l ih =>
    have e : secs (s :: l) = bcs s ++ secs l := rfl
    rw [e, List.length_append, ih (fun x hx => h x (List.mem_cons_of_mem _ hx)), bcs_length, h s (List.mem_cons_self ..), List.length_cons]
    omega
theorem secs_append (l l' : List Sec) : secs (l ++ l') = secs l ++ secs l' := List.flatMap_append
theorem secs_at {l : List Sec} (h : ∀ s ∈ l, s.length = 32) : ∀ {k : Nat} {s : Sec}, l[k]? = some s → ∀ {j : Nat} {u : Value}, (bcs s)[j]? = some u → (secs l)[k * 32 + j]? = some u := by
  induction l with
  | nil => intro k s hk; simp at hk
  | cons s0 l ih =>
    intro k s hk j u hu
    have e : secs (s0 :: l) = bcs s0 ++ secs l := rfl
    have h0 : (bcs s0).length = 32 := by rw [bcs_length, h s0 (List.mem_cons_self ..)]
    rw [e]
    cases k with
    | zero =>
      have es : s0 = s := by simpa using hk
      subst es
      rw [Nat.zero_mul, Nat.zero_add, List.getElem?_append_left (List.getElem?_eq_some_iff.1 hu).1]
      exact hu
    | succ k =>
      rw [List.getElem?_append_right (by omega), h0, show (k + 1) * 32 + j - 32 = k * 32 + j by omega]
      exact ih (fun x hx => h x (List.mem_cons_of_mem _ hx)) (by simpa using hk) hu
/-- Something that reads as these slices of sectors. -/
def rdV (l : List (Value × List Sec)) : HP := fun p q => ∀ w : World, p.le w → q.le w → ∀ x ∈ l, Rd w 32 x.1 x.2.length (secs x.2)
section
variable {w : World} {L : List HP} {l l' : List (Value × List Sec)}
theorem rdV_rd (h : Own w (rdV l :: L)) {x : Value × List Sec} (hx : x ∈ l) : Rd w 32 x.1 x.2.length (secs x.2) := by
  obtain ⟨p1, q1, p2, q2, hA, hB, h1, h2, _⟩ := own_cons.1 h
  exact hA w h1 h2 x hx
theorem rdV_nil (h : Own w L) : Own w (rdV [] :: L) := own_head (own_emp.2 h) (fun _ _ _ _ _ _ _ _ x hx => by simp at hx)
theorem rdV_cons {v : Value} {ss : List Sec} (h : Own w (rdA 32 v ss.length (secs ss) :: rdV l :: L)) : Own w (rdV ((v, ss) :: l) :: L) := by
  refine own_head (own_sep.2 h) (fun p q hp hq hA => ?_)
  obtain ⟨p1, q1, p2, q2, h1, h2, d1, d2, d3, a, rfl, rfl⟩ := hA
  intro w' e1 e2 x hx
  rcases List.mem_cons.1 hx with rfl | hx
  · exact h1 w' (mrg_le e1) (mrg_le e2)
  · exact h2 w' (mrg_le_right d1.agr e1) (mrg_le_right a e2) x hx
theorem rdV_sub (h : Own w (rdV l :: L)) (hs : ∀ x ∈ l', x ∈ l) : Own w (rdV l' :: L) := own_head h (fun p q _ _ hA w' e1 e2 x hx => hA w' e1 e2 x (hs x hx))
end
/-- What the disk's maps say of its blocks. -/
structure DiskOk (m : List Blk) (fv fb : List (Int × Value)) (l : List (Value × List Sec)) : Prop where
  len : m.length ≤ 96
  s32 : ∀ b ∈ m, b.s.length = 32
  v32 : ∀ b ∈ m, ∀ s ∈ b.vs, s.length = 32
  keyv : ∀ q ∈ fv, ∃ (i : Nat) (b : Blk), m[i]? = some b ∧ q.1 = i ∧ b.vs ≠ []
  vers : ∀ (i : Nat) (b : Blk), m[i]? = some b → ∃ A c, (mget fv i).getD (.slice none 0 0) = .slice A b.vs.length c ∧ ((.slice A b.vs.length c, b.vs) ∈ l)
  keyb : ∀ q ∈ fb, ∃ i : Nat, i < m.length ∧ q.1 = i
  bads : ∀ (i : Nat) (b : Blk), m[i]? = some b → (mget fb i).getD (.bool false) = .bool b.bad
/-- Block d is a disk of these blocks. -/
def diskX (d : Nat) (m : List Blk) (lv : Value) (bv bb : Nat) (fv fb : List (Int × Value)) (l : List (Value × List Sec)) : HP :=
  sep (pur (DiskOk m fv fb l)) (seps [pts d (.cells #[lv, .map (some bv), .map (some bb)] 66), owns 26 32 lv m.length (secs (m.map (·.s))), mapP bv fv, mapP bb fb, rdV l])
def diskP (d : Nat) (m : List Blk) : HP := ex fun lv => ex fun bv => ex fun bb => ex fun fv => ex fun fb => ex fun l => diskX d m lv bv bb fv fb l
theorem disk_open {w : World} {L : List HP} {d : Nat} {m : List Blk} : Own w (diskP d m :: L) ↔ ∃ lv bv bb fv fb l, DiskOk m fv fb l ∧ Own w (pts d (.cells #[lv, .map (some bv), .map (some bb)] 66) :: owns 26 32 lv m.length (secs (m.map (·.s))) :: mapP bv fv :: mapP bb fb :: rdV l :: L) := by
  unfold diskP diskX
  simp only [own_ex, own_sep, own_pur, own_seps, List.cons_append, List.nil_append]
/-- The reference's. -/
def rblk (v : Value) (b : Blk) : List Value := bcs b.s ++ [v, .bool b.bad]
end Go.Proofs.Ytjilkbkafigloaa.H
