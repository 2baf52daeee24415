/- Diff's plain law: the last patch, made longer. -/
import Derived.Test.YtefohmjllcnnkaaM6
set_option linter.unusedVariables false
set_option linter.unusedSimpArgs false
namespace Go.Proofs.Ytefohmjllcnnkaa.H
theorem dP_ne (blk : Int) (a b : List UInt8) (m : Nat) (h : dif a b m = true) : dP blk a b (m + 1) ≠ [] := by
  induction m with
  | zero => rw [dP, if_neg (by rw [h]; simp), if_neg (by simp)]; simp
  | succ m ih =>
    rw [dP, if_neg (by rw [h]; simp)]
    split
    · rename_i h2
      have h3 := ih (by simpa using h2.2)
      intro e
      have h4 := congrArg List.length e
      rw [grow_length] at h4
      exact h3 (List.eq_nil_of_length_eq_zero (by simpa using h4))
    · simp
theorem dP_last (blk : Int) (a b : List UInt8) (m : Nat) (h : dif a b m = true) : ∃ ps p, dP blk a b (m + 1) = ps ++ [p] :=
  ⟨_, _, (List.dropLast_concat_getLast (dP_ne blk a b m h)).symm⟩
theorem dP_grow (blk : Int) (a b : List UInt8) (m : Nat) (ps : List Pat) (p : Pat) (h : dif a b m = true) (h1 : dif a b (m + 1) = true) (hp : dP blk a b (m + 1) = ps ++ [p]) :
    dP blk a b (m + 2) = ps ++ [⟨p.blk, p.off, p.dat ++ bstr [b.getD (m + 1) 0]⟩] := by
  rw [dP, if_neg (by rw [h1]; simp), if_pos ⟨by omega, by simpa using h⟩, hp, grow_snoc]
theorem dP_new (blk : Int) (a b : List UInt8) (k : Nat) (h1 : dif a b k = true) (h : k = 0 ∨ dif a b (k - 1) = false) : dP blk a b (k + 1) = dP blk a b k ++ [⟨blk, k, bstr [b.getD k 0]⟩] := by
  rw [dP, if_neg (by rw [h1]; simp), if_neg]
  rintro ⟨h2, h3⟩
  rcases h with h | h
  · omega
  · rw [h] at h3; cases h3
theorem mem_dropLast {α : Type} {l : List α} {x : α} (h : x ∈ l.dropLast) : x ∈ l := by
  rw [List.dropLast_eq_take] at h
  exact List.mem_of_mem_take h
theorem grow_mem {ps : List Pat} {x : UInt8} {p : Pat} (h : p ∈ grow ps x) : ∃ q ∈ ps, p.dat.size ≤ q.dat.size + 1 := by
  unfold grow at h
  cases hl : ps.getLast? with
  | none => rw [hl] at h; exact ⟨p, h, by omega⟩
  | some q =>
    rw [hl] at h
    have hq := List.mem_of_getLast? hl
    simp only [List.mem_append, List.mem_singleton] at h
    rcases h with h | rfl
    · exact ⟨p, mem_dropLast h, by omega⟩
    · exact ⟨q, hq, by simp [ByteArray.size_append, bstr_size]⟩
theorem dP_size (blk : Int) (a b : List UInt8) (k : Nat) : ∀ p ∈ dP blk a b k, p.dat.size ≤ k := by
  induction k with
  | zero => intro p hp; simp [dP] at hp
  | succ k ih =>
    intro p hp
    rw [dP] at hp
    split at hp
    · exact Nat.le_succ_of_le (ih p hp)
    · split at hp
      · obtain ⟨q, hq, h⟩ := grow_mem hp
        have := ih q hq
        omega
      · simp only [List.mem_append, List.mem_singleton] at hp
        rcases hp with hp | rfl
        · exact Nat.le_succ_of_le (ih p hp)
        · simp [bstr_size]
theorem cellsP_snoc (ps : List Pat) (p : Pat) : cellsP (ps ++ [p]) = cellsP ps ++ [.int .i64 p.blk, .int .i64 p.off, .string p.dat] := by simp [cellsP, Pat.cells]
theorem cellsP_dat (ps : List Pat) (p : Pat) (rest : List Value) : (cellsP (ps ++ [p]) ++ rest).toArray[ps.length * 3 + 2]? = some (.string p.dat) := by
  rw [cellsP_snoc]
  simp only [List.getElem?_toArray, List.append_assoc]
  rw [List.getElem?_append_right (by rw [cellsP_length]; omega), cellsP_length]
  simp
theorem cellsP_put (ps : List Pat) (p : Pat) (rest : List Value) (y : ByteArray) : (cellsP (ps ++ [p]) ++ rest).toArray.setIfInBounds (ps.length * 3 + 2) (.string y) = (cellsP (ps ++ [⟨p.blk, p.off, y⟩]) ++ rest).toArray := by
  rw [cellsP_snoc, cellsP_snoc]
  apply Array.ext'
  simp only [Array.toList_setIfInBounds, List.append_assoc]
  rw [List.set_append_right _ _ (by rw [cellsP_length]; omega), cellsP_length]
  simp
end Go.Proofs.Ytefohmjllcnnkaa.H
