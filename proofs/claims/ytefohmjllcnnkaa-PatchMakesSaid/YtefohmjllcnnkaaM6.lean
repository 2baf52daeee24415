/- More of Diff's plain law. -/
import Derived.Test.YtefohmjllcnnkaaM5
set_option linter.unusedVariables false
set_option linter.unusedSimpArgs false
namespace Go.Proofs.Ytefohmjllcnnkaa.H
theorem grow_length (ps : List Pat) (x : UInt8) : (grow ps x).length = ps.length := by
  unfold grow
  cases h : ps.getLast? with
  | none => rfl
  | some p =>
    have hn : ps ≠ [] := by intro e; subst e; simp at h
    have : 0 < ps.length := List.length_pos_iff.2 hn
    simp
    omega
theorem dP_len (blk : Int) (a b : List UInt8) (k : Nat) : (dP blk a b k).length ≤ k := by
  induction k with
  | zero => simp [dP]
  | succ k ih =>
    rw [dP]
    split
    · omega
    · split
      · rw [grow_length]; omega
      · simp; omega
/-- What holds at each round of Diff. -/
def OkAt (a b : List UInt8) (i : Nat) : Prop := i = 0 ∨ i = 33 ∨ dif a b (i - 1) = false
theorem dP_next (blk : Int) (a b : List UInt8) (i k : Nat) (hb : b.length = 32) (hi : i < 32) (hok : OkAt a b i) (hik : i < k) (hk : k ≤ 32) (hd : ∀ j, i ≤ j → j < k → dif a b j = true) (he : k = 32 ∨ dif a b k = false) :
    dP blk a b (min (k + 1) 32) = dP blk a b (min i 32) ++ [⟨blk, i, bstr ((b.drop i).take (k - i))⟩] := by
  have h := dP_run blk a b i (by rcases hok with h | h | h; exact .inl h; omega; exact .inr h) hb (k - i - 1) (by omega) (fun j h1 h2 => hd j h1 (by omega))
  rw [show i + (k - i - 1) + 1 = k by omega, show k - i - 1 + 1 = k - i by omega] at h
  rw [Nat.min_eq_left (by omega : i ≤ 32), ← h]
  rcases he with rfl | he
  · rfl
  · by_cases h32 : k = 32
    · subst h32; rfl
    · rw [Nat.min_eq_left (by omega : k + 1 ≤ 32), dP_same _ _ _ _ he]
theorem dP_stay (blk : Int) (a b : List UInt8) (i : Nat) (hi : i < 32) (he : dif a b i = false) : dP blk a b (min (i + 1) 32) = dP blk a b (min i 32) := by
  rw [Nat.min_eq_left (by omega : i ≤ 32), Nat.min_eq_left (by omega : i + 1 ≤ 32), dP_same _ _ _ _ he]
end Go.Proofs.Ytefohmjllcnnkaa.H
