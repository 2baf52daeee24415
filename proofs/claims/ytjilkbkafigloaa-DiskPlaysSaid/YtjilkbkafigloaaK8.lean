/- The plain law of settle: what lasts of which block, in what order. -/
import Derived.Test.YtjilkbkafigloaaK7
set_option linter.unusedVariables false
set_option linter.unusedSimpArgs false
namespace Go.Proofs.Ytjilkbkafigloaa.H
open Go.RowKit
/-- What lasts of a block where v is picked. -/
def sett (v : Int) (b : Blk) : Sec := if 1 ≤ v ∧ v ≤ (b.vs.length : Int) then (b.vs[(v - 1).toNat]?).getD b.s else b.s
/-- The blocks that have versions, from o on. -/
def idxs : Nat → List Blk → List Nat
  | _, [] => []
  | o, b :: r => if b.vs = [] then idxs (o + 1) r else o :: idxs (o + 1) r
/-- Behind k of them: pk: what is picked. -/
def stK (pk : Nat → Nat → Int) : Nat → List Blk → Nat → List Blk
  | _, [], _ => []
  | k0, b :: r, k => if b.vs = [] then b :: stK pk k0 r k else match k with
    | 0 => b :: r
    | k + 1 => ⟨sett (pk k0 b.vs.length) b, [], b.bad⟩ :: stK pk (k0 + 1) r k
/-- Behind all of them. -/
def crashL (pk : Nat → Nat → Int) : Nat → List Blk → List Blk
  | _, [] => []
  | k0, b :: r => if b.vs = [] then b :: crashL pk k0 r else ⟨sett (pk k0 b.vs.length) b, [], b.bad⟩ :: crashL pk (k0 + 1) r
section
variable (pk : Nat → Nat → Int)
theorem stK_zero : ∀ (r : List Blk) (k0 : Nat), stK pk k0 r 0 = r
  | [], _ => rfl
  | b :: r, k0 => by
    unfold stK
    split
    · rw [stK_zero r k0]
    · rfl
theorem stK_all : ∀ (r : List Blk) (o k0 : Nat), stK pk k0 r (idxs o r).length = crashL pk k0 r
  | [], _, _ => rfl
  | b :: r, o, k0 => by
    unfold idxs crashL stK
    by_cases h : b.vs = []
    · rw [if_pos h, if_pos h, if_pos h, stK_all r (o + 1) k0]
    · rw [if_neg h, if_neg h, if_neg h, List.length_cons]
      show _ :: stK pk (k0 + 1) r (idxs (o + 1) r).length = _
      rw [stK_all r (o + 1) (k0 + 1)]
theorem stK_step : ∀ (r : List Blk) (o k0 k x : Nat), (idxs o r)[k]? = some x → ∃ i b, x = o + i ∧ r[i]? = some b ∧ b.vs ≠ [] ∧ (stK pk k0 r k)[i]? = some b ∧ stK pk k0 r (k + 1) = (stK pk k0 r k).set i ⟨sett (pk (k0 + k) b.vs.length) b, [], b.bad⟩
  | [], _, _, _, _, h => by simp [idxs] at h
  | b :: r, o, k0, k, x, h => by
    unfold idxs at h
    by_cases hb : b.vs = []
    · rw [if_pos hb] at h
      obtain ⟨i, c, e, h1, h2, h3, h4⟩ := stK_step r (o + 1) k0 k x h
      refine ⟨i + 1, c, by omega, by simpa using h1, h2, ?_, ?_⟩
      · unfold stK; rw [if_pos hb]; simpa using h3
      · unfold stK; rw [if_pos hb, if_pos hb, h4]; rfl
    · rw [if_neg hb] at h
      cases k with
      | zero =>
        have e : o = x := by simpa using h
        refine ⟨0, b, by omega, rfl, hb, ?_, ?_⟩
        · unfold stK; rw [if_neg hb]; rfl
        · unfold stK
          rw [if_neg hb, if_neg hb]
          show _ :: stK pk (k0 + 1) r 0 = _
          rw [stK_zero]
          rfl
      | succ k =>
        obtain ⟨i, c, e, h1, h2, h3, h4⟩ := stK_step r (o + 1) (k0 + 1) k x (by simpa using h)
        refine ⟨i + 1, c, by omega, by simpa using h1, h2, ?_, ?_⟩
        · unfold stK; rw [if_neg hb]; simpa using h3
        · unfold stK
          rw [if_neg hb, if_neg hb]
          show _ :: stK pk (k0 + 1) r (k + 1) = _
          rw [h4, show k0 + 1 + k = k0 + (k + 1) by omega]
          rfl
end
theorem idxs_mem : ∀ (r : List Blk) (o x : Nat), x ∈ idxs o r ↔ ∃ i b, x = o + i ∧ r[i]? = some b ∧ b.vs ≠ []
  | [], o, x => by simp [idxs]
  | b :: r, o, x => by
    have ih := idxs_mem r (o + 1) x
    unfold idxs
    by_cases hb : b.vs = []
    · rw [if_pos hb, ih]
      constructor
      · rintro ⟨i, c, e, h1, h2⟩; exact ⟨i + 1, c, by omega, by simpa using h1, h2⟩
      · rintro ⟨i, c, e, h1, h2⟩
        cases i with
        | zero => have : b = c := by simpa using h1
                  subst this; exact absurd hb h2
        | succ i => exact ⟨i, c, by omega, by simpa using h1, h2⟩
    · rw [if_neg hb, List.mem_cons, ih]
      constructor
      · rintro (rfl | ⟨i, c, e, h1, h2⟩)
        · exact ⟨0, b, rfl, rfl, hb⟩
        · exact ⟨i + 1, c, by omega, by simpa using h1, h2⟩
      · rintro ⟨i, c, e, h1, h2⟩
        cases i with
        | zero => exact .inl (by omega)
        | succ i => exact .inr ⟨i, c, by omega, by simpa using h1, h2⟩
theorem idxs_asc : ∀ (r : List Blk) (o : Nat), (idxs o r).Pairwise (· < ·)
  | [], _ => by simp [idxs]
  | b :: r, o => by
    unfold idxs
    split
    · exact idxs_asc r (o + 1)
    · refine List.pairwise_cons.2 ⟨fun x hx => ?_, idxs_asc r (o + 1)⟩
      obtain ⟨i, c, e, _⟩ := (idxs_mem r (o + 1) x).1 hx
      omega
theorem idxs_len (r : List Blk) : ∀ o, (idxs o r).length ≤ r.length := by
  induction r with
  | nil => intro o; simp [idxs]
  | cons b r ih =>
    intro o
    unfold idxs
    have := ih (o + 1)
    split <;> simp <;> omega
/-- The keys of a disk's map, rising. -/
theorem rising_keys {m : List Blk} {fv fb : List (Int × Value)} {l : List (Value × List Sec)} (hk : DiskOk m fv fb l) (hn : (fv.map (·.1)).Nodup) : rising (fv.map (·.1)) = (idxs 0 m).map fun i : Nat => (i : Int) := by
  have hp : (fv.map (·.1)).Perm ((idxs 0 m).map fun i : Nat => (i : Int)) := by
    refine (List.perm_ext_iff_of_nodup hn ?_).2 fun x => ?_
    · exact List.pairwise_map.2 ((idxs_asc m 0).imp fun h => by omega)
    · constructor
      · intro hx
        obtain ⟨q, hq, rfl⟩ := List.mem_map.1 hx
        obtain ⟨i, b, h1, h2, h3⟩ := hk.keyv q hq
        exact List.mem_map.2 ⟨i, (idxs_mem m 0 i).2 ⟨i, b, by omega, h1, h3⟩, h2.symm⟩
      · intro hx
        obtain ⟨i, hi, rfl⟩ := List.mem_map.1 hx
        obtain ⟨j, b, e, h1, h2⟩ := (idxs_mem m 0 i).1 hi
        have : j = i := by omega
        subst this
        obtain ⟨A, c, h3, _⟩ := hk.vers j b h1
        rcases map_cases fv (j : Int) with ⟨t, v, ht⟩ | hno
        · exact List.mem_map.2 ⟨_, List.mem_of_getElem? ht, rfl⟩
        · rw [mget_none hno] at h3
          simp only [Option.getD_none] at h3
          injection h3 with _ h4 _
          exact absurd (List.length_eq_zero_iff.1 h4.symm) h2
  rw [rising_perm hp]
  unfold rising
  refine List.mergeSort_of_pairwise ?_
  exact List.pairwise_map.2 ((idxs_asc m 0).imp fun h => by simp; omega)
theorem DiskOk.settle {m : List Blk} {fv fb : List (Int × Value)} {l : List (Value × List Sec)} (hk : DiskOk m fv fb l) {i : Nat} {b : Blk} (hi : m[i]? = some b) {s : Sec} (hs : s.length = 32) (h0 : (.slice Option.none 0 0, []) ∈ l) :
    DiskOk (m.set i ⟨s, [], b.bad⟩) (mdel fv i) fb l where
  len := by rw [List.length_set]; exact hk.len
  s32 := fun x hx => by
    rcases List.mem_or_eq_of_mem_set hx with hx | rfl
    · exact hk.s32 x hx
    · exact hs
  v32 := fun x hx y hy => by
    rcases List.mem_or_eq_of_mem_set hx with hx | rfl
    · exact hk.v32 x hx y hy
    · simp at hy
  keyv := fun q hq => by
    obtain ⟨hq, hne⟩ := mem_mdel hq
    obtain ⟨j, x, h1, h2, h3⟩ := hk.keyv q hq
    exact ⟨j, x, by rw [List.getElem?_set, if_neg (fun h => hne (by omega))]; exact h1, h2, h3⟩
  vers := fun j x hx => by
    rcases set_at hx with ⟨rfl, rfl⟩ | ⟨hne, hx⟩
    · exact ⟨Option.none, 0, by rw [mget_mdel, if_pos rfl]; rfl, h0⟩
    · obtain ⟨A', c', h1, h2⟩ := hk.vers j x hx
      exact ⟨A', c', by rw [mget_mdel, if_neg (by omega)]; exact h1, h2⟩
  keyb := fun q hq => by rw [List.length_set]; exact hk.keyb q hq
  bads := fun j x hx => by
    rcases set_at hx with ⟨rfl, rfl⟩ | ⟨hne, hx⟩
    · exact hk.bads j b hi
    · exact hk.bads j x hx
theorem sett_len {m : List Blk} {fv fb : List (Int × Value)} {l : List (Value × List Sec)} (hk : DiskOk m fv fb l) {i : Nat} {b : Blk} (hi : m[i]? = some b) (v : Int) : (sett v b).length = 32 := by
  have h1 := hk.s32 b (List.mem_of_getElem? hi)
  unfold sett
  split
  · cases h : b.vs[(v - 1).toNat]? with
    | none => exact h1
    | some s => exact hk.v32 b (List.mem_of_getElem? hi) s (List.mem_of_getElem? h)
  · exact h1
end Go.Proofs.Ytjilkbkafigloaa.H
