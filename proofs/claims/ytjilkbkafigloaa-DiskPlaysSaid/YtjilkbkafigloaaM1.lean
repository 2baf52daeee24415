/- Plain words on patches: what a patch is, whether it is right, a block's bytes behind it. -/
import Derived.Test.YtjilkbkafigloaaH2
set_option linter.unusedVariables false
set_option linter.unusedSimpArgs false
namespace Go.Proofs.Ytjilkbkafigloaa.H
structure Pat where
  blk : Int
  off : Int
  dat : ByteArray
def Pat.cells (p : Pat) : List Value := [.int .i64 p.blk, .int .i64 p.off, .string p.dat]
/-- Right, as a Bool. -/
def rightB (p : Pat) : Bool := decide (0 ≤ p.blk ∧ p.blk < 96 ∧ 0 ≤ p.off ∧ p.off < 32 ∧ 1 ≤ p.dat.size ∧ (p.dat.size : Int) ≤ 32 - p.off)
theorem rightB_iff {p : Pat} : rightB p = true ↔ (0 ≤ p.blk ∧ p.blk < 96 ∧ 0 ≤ p.off ∧ p.off < 32 ∧ 1 ≤ p.dat.size ∧ (p.dat.size : Int) ≤ 32 - p.off) := by simp [rightB]
/-- The list with others laid over it from a place on. -/
def over {α : Type} (l : List α) (i : Nat) (d : List α) : List α := l.take i ++ d ++ l.drop (i + d.length)
theorem over_length {α : Type} (l : List α) (i : Nat) (d : List α) (h : i + d.length ≤ l.length) : (over l i d).length = l.length := by simp [over]; omega
theorem bcs_over (b : List UInt8) (i : Nat) (d : ByteArray) (hn : d.size = d.data.toList.length) : (bcs b).toArray.toList.take i ++ bcs d.data.toList ++ (bcs b).toArray.toList.drop (i + d.size) = bcs (over b i d.data.toList) := by
  simp only [bcs, over, List.map_append, List.map_take, List.map_drop, hn]
/-- A block's bytes behind a patch. -/
def app (b : List UInt8) (p : Pat) : List UInt8 := over b p.off.toNat p.dat.data.toList
theorem over_step {α : Type} (b d : List α) (i k : Nat) (hk : k < d.length) (hi : i + d.length ≤ b.length) : (over b i (d.take k)).set (i + k) d[k] = over b i (d.take (k + 1)) := by
  have hl : (d.take k).length = k := by rw [List.length_take]; omega
  have hl1 : (d.take (k + 1)).length = k + 1 := by rw [List.length_take]; omega
  have hbi : (b.take i).length = i := by rw [List.length_take]; omega
  unfold over
  rw [hl, hl1, List.take_succ_eq_append_getElem hk]
  have hd : b.drop (i + k) = b[i + k] :: b.drop (i + k + 1) := (List.drop_eq_getElem_cons (by omega))
  rw [hd, List.set_append_right _ _ (by simp [hl, hbi])]
  simp only [List.length_append, hbi, hl, Nat.sub_self, List.set_cons_zero, List.append_assoc, List.singleton_append, Nat.add_assoc]
theorem bcs_set (l : List UInt8) (i : Nat) (x : UInt8) : (bcs l).set i (.int .u8 (x.toNat : Int)) = bcs (l.set i x) := by
  simp only [bcs, List.map_set]
theorem over_same {α : Type} (b d : List α) (i : Nat) (hi : i + d.length ≤ b.length) : over b i d = b ↔ (b.drop i).take d.length = d := by
  have e : b = b.take i ++ ((b.drop i).take d.length ++ b.drop (i + d.length)) := by
    rw [← List.drop_drop, List.take_append_drop, List.take_append_drop]
  unfold over
  constructor
  · intro h
    rw [List.append_assoc] at h
    have h2 := h.trans e
    have h3 := List.append_cancel_left h2
    exact (List.append_cancel_right h3).symm
  · intro h
    rw [List.append_assoc]
    conv => rhs; rw [e]
    rw [h]
theorem app_idle (b : List UInt8) (p : Pat) (hb : b.length = 32) (hp : rightB p = true) : app b p = b ↔ (b.drop p.off.toNat).take p.dat.size = p.dat.data.toList := by
  obtain ⟨p1, p2, p3, p4, p5, p6⟩ := rightB_iff.1 hp
  have hs : p.dat.size = p.dat.data.toList.length := by rw [Array.length_toList]; rfl
  rw [hs]
  exact over_same _ _ _ (by omega)
/-- Patches as cells. -/
def cellsP (ps : List Pat) : List Value := ps.flatMap Pat.cells
theorem cellsP_length (ps : List Pat) : (cellsP ps).length = ps.length * 3 := by
  induction ps with
  | nil => rfl
  | cons p ps ih => simp only [cellsP, List.flatMap_cons, List.length_append, List.length_cons] at ih ⊢; rw [ih]; simp [Pat.cells]; omega
theorem cellsP_at (ps : List Pat) (k : Nat) (hk : k < ps.length) (j : Nat) (u : Value) (hu : ps[k].cells[j]? = some u) : (cellsP ps)[k * 3 + j]? = some u := by
  induction ps generalizing k with
  | nil => simp at hk
  | cons p ps ih =>
    have h3 : p.cells.length = 3 := rfl
    simp only [cellsP, List.flatMap_cons]
    cases k with
    | zero =>
      have hj : j < 3 := by
        have := (List.getElem?_eq_some_iff.1 hu).1
        simpa [Pat.cells] using this
      rw [List.getElem?_append_left (by rw [h3]; omega)]
      simpa using hu
    | succ k =>
      rw [List.getElem?_append_right (by rw [h3]; omega), h3, show (k + 1) * 3 + j - 3 = k * 3 + j by omega]
      exact ih k (by simpa using hk) (by simpa using hu)
/-- .. behind some, in order. -/
def appAll (b : List UInt8) (ps : List Pat) : List UInt8 := ps.foldl app b
theorem app_length (b : List UInt8) (p : Pat) (hb : b.length = 32) (hp : rightB p = true) : (app b p).length = 32 := by
  obtain ⟨p1, p2, p3, p4, p5, p6⟩ := rightB_iff.1 hp
  have hs : p.dat.size = p.dat.data.toList.length := by rw [Array.length_toList]; rfl
  unfold app
  rw [over_length _ _ _ (by omega), hb]
theorem appAll_snoc (b : List UInt8) (ps : List Pat) (p : Pat) : appAll b (ps ++ [p]) = app (appAll b ps) p := by simp [appAll]
theorem appAll_length (ps : List Pat) : ∀ (b : List UInt8), b.length = 32 → (∀ p ∈ ps, rightB p = true) → (appAll b ps).length = 32 := by
  induction ps with
  | nil => intro b h _; exact h
  | cons p ps ih => intro b h hp; exact ih _ (app_length b p h (hp p List.mem_cons_self)) (fun q hq => hp q (List.mem_cons_of_mem _ hq))
end Go.Proofs.Ytjilkbkafigloaa.H
