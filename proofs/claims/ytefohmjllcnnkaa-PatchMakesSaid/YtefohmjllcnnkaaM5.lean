/- Plain words: the patches that make one block's bytes another's. -/
import Derived.Test.YtefohmjllcnnkaaM3
set_option linter.unusedVariables false
set_option linter.unusedSimpArgs false
namespace Go.Proofs.Ytefohmjllcnnkaa.H
/-- Do two blocks differ at a place? -/
def dif (a b : List UInt8) (k : Nat) : Bool := a.getD k 0 != b.getD k 0
/-- The last one's bytes, made longer. -/
def grow (ps : List Pat) (x : UInt8) : List Pat := match ps.getLast? with
  | none => ps
  | some p => ps.dropLast ++ [⟨p.blk, p.off, p.dat ++ bstr [x]⟩]
/-- The patches of the first k places. -/
def dP (blk : Int) (a b : List UInt8) : Nat → List Pat
  | 0 => []
  | k + 1 => if dif a b k = false then dP blk a b k else if 0 < k ∧ dif a b (k - 1) = true then grow (dP blk a b k) (b.getD k 0) else dP blk a b k ++ [⟨blk, k, bstr [b.getD k 0]⟩]
theorem grow_snoc (ps : List Pat) (p : Pat) (x : UInt8) : grow (ps ++ [p]) x = ps ++ [⟨p.blk, p.off, p.dat ++ bstr [x]⟩] := by simp [grow]
theorem bstr_append (l m : List UInt8) : bstr l ++ bstr m = bstr (l ++ m) := by
  apply ByteArray.ext
  rw [ByteArray.data_append]
  simp [bstr]
/-- A run from i on: one patch of all its bytes. -/
theorem dP_run (blk : Int) (a b : List UInt8) (i : Nat) (hi : i = 0 ∨ dif a b (i - 1) = false) (hb : b.length = 32) (k : Nat) (hk : i + k + 1 ≤ 32) (hd : ∀ j, i ≤ j → j ≤ i + k → dif a b j = true) :
    dP blk a b (i + k + 1) = dP blk a b i ++ [⟨blk, i, bstr ((b.drop i).take (k + 1))⟩] := by
  induction k with
  | zero =>
    have h0 := hd i (Nat.le_refl _) (by omega)
    have hn : ¬ (0 < i ∧ dif a b (i - 1) = true) := by
      rintro ⟨h1, h2⟩
      rcases hi with h | h
      · omega
      · rw [h] at h2; cases h2
    show dP blk a b (i + 1) = _
    rw [dP, if_neg (by rw [h0]; simp), if_neg hn]
    congr 3
    rw [Nat.zero_add, List.take_succ_eq_append_getElem (by rw [List.length_drop]; omega)]
    simp [List.getD, List.getElem?_eq_getElem (show i < b.length by omega)]
  | succ k ih =>
    have h0 := hd (i + k + 1) (by omega) (by omega)
    have h1 := hd (i + k) (by omega) (by omega)
    have ih := ih (by omega) (fun j hj hj2 => hd j hj (by omega))
    show dP blk a b ((i + k + 1) + 1) = _
    rw [dP, if_neg (by rw [h0]; simp), if_pos ⟨by omega, by rw [show i + k + 1 - 1 = i + k by omega]; exact h1⟩, ih, grow_snoc]
    congr 3
    simp only
    rw [bstr_append]
    congr 1
    rw [List.take_succ_eq_append_getElem (show k + 1 < (b.drop i).length by rw [List.length_drop]; omega)]
    congr 2
    simp [List.getD, List.getElem?_eq_getElem (show i + k + 1 < b.length by omega)]
    congr 1
theorem dP_same (blk : Int) (a b : List UInt8) (k : Nat) (h : dif a b k = false) : dP blk a b (k + 1) = dP blk a b k := by rw [dP, if_pos h]
/-- What Diff says. -/
def diffL (blk : Int) (a b : List UInt8) : List Pat := if 0 ≤ blk ∧ blk < 96 ∧ a.length = 32 ∧ b.length = 32 then dP blk a b 32 else []
end Go.Proofs.Ytefohmjllcnnkaa.H
