/- Diff's plain law: its patches are right, none is idle, none stands beside another, and all of them make the one block the other. -/
import Derived.Test.YtefohmjllcnnkaaM7
import Derived.Test.YtefohmjllcnnkaaL3
set_option linter.unusedVariables false
set_option linter.unusedSimpArgs false
namespace Go.Proofs.Ytefohmjllcnnkaa.H
/-- A patch of a run: bytes of the other block, each other than the one's. -/
structure RunP (blk : Int) (a b : List UInt8) (k : Nat) (p : Pat) : Prop where
  hb : p.blk = blk
  h0 : 0 ≤ p.off
  h1 : 1 ≤ p.dat.size
  hk : p.off + (p.dat.size : Int) ≤ (k : Int)
  hd : ∀ j : Nat, j < p.dat.size → p.dat.data.toList[j]? = some (b.getD (p.off.toNat + j) 0) ∧ dif a b (p.off.toNat + j) = true
def gap (p q : Pat) : Prop := p.off + p.dat.size < q.off
structure RunsP (blk : Int) (a b : List UInt8) (k : Nat) (ps : List Pat) : Prop where
  hp : ∀ p ∈ ps, RunP blk a b k p
  hg : ps.Pairwise gap
  hl : (0 < k ∧ dif a b (k - 1) = true ∧ ∃ (qs : List Pat) (p : Pat), ps = qs ++ [p] ∧ p.off + (p.dat.size : Int) = (k : Int)) ∨ ((k = 0 ∨ dif a b (k - 1) = false) ∧ ∀ p ∈ ps, p.off + (p.dat.size : Int) < (k : Int))
  ha : a.length = 32 → k ≤ 32 → ∀ j : Nat, j < 32 → (appAll a ps)[j]? = some (if j < k then b.getD j 0 else a.getD j 0)
theorem RunP.mono {blk : Int} {a b : List UInt8} {k k' : Nat} {p : Pat} (h : RunP blk a b k p) (hk : k ≤ k') : RunP blk a b k' p := ⟨h.hb, h.h0, h.h1, by have := h.hk; omega, h.hd⟩
theorem RunP.right {blk : Int} {a b : List UInt8} {k : Nat} {p : Pat} (h : RunP blk a b k p) (h0 : 0 ≤ blk) (h96 : blk < 96) (hk : k ≤ 32) : rightB p = true := by
  have h1 := h.hk; have h2 := h.h1; have h3 := h.h0; have h4 := h.hb
  exact rightB_iff.2 ⟨by omega, by omega, by omega, by omega, h2, by omega⟩
theorem dat_one (x : UInt8) (j : Nat) : (bstr [x]).data.toList[j]? = if j = 0 then some x else none := by
  cases j <;> simp [bstr]
theorem dat_more (d : ByteArray) (x : UInt8) (j : Nat) : (d ++ bstr [x]).data.toList[j]? = if j < d.size then d.data.toList[j]? else if j = d.size then some x else none := by
  have hs : d.size = d.data.toList.length := by rw [Array.length_toList]; rfl
  rw [ByteArray.data_append, Array.toList_append]
  by_cases h : j < d.size
  · rw [if_pos h, List.getElem?_append_left (by omega)]
  · rw [if_neg h, List.getElem?_append_right (by omega), ← hs, dat_one]
    by_cases h2 : j = d.size
    · rw [if_pos (by omega), if_pos h2]
    · rw [if_neg (by omega), if_neg h2]
theorem size_more (d : ByteArray) (x : UInt8) : (d ++ bstr [x]).size = d.size + 1 := by rw [ByteArray.size_append, bstr_size]; rfl
theorem runs (blk : Int) (a b : List UInt8) (h0 : 0 ≤ blk) (h96 : blk < 96) : ∀ k : Nat, RunsP blk a b k (dP blk a b k)
  | 0 => ⟨fun p hp => by simp [dP] at hp, by simp [dP], .inr ⟨.inl rfl, fun p hp => by simp [dP] at hp⟩, fun ha _ j hj => by
      simp [dP, appAll, List.getD, List.getElem?_eq_getElem (show j < a.length by omega)]⟩
  | k + 1 => by
    have ih := runs blk a b h0 h96 k
    cases hk : dif a b k with
    | false =>
      rw [dP_same _ _ _ _ hk]
      refine ⟨fun p hp => (ih.hp p hp).mono (by omega), ih.hg, .inr ⟨.inr hk, fun p hp => ?_⟩, fun ha h32 j hj => ?_⟩
      · have := (ih.hp p hp).hk; omega
      · rw [ih.ha ha (by omega) j hj]
        by_cases h1 : j < k
        · rw [if_pos h1, if_pos (by omega)]
        · rw [if_neg h1]
          by_cases h2 : j < k + 1
          · rw [if_pos h2]
            have : j = k := by omega
            subst this
            simp only [dif, bne_eq_false_iff_eq] at hk
            rw [hk]
          · rw [if_neg h2]
    | true =>
      by_cases hc : 0 < k ∧ dif a b (k - 1) = true
      · obtain ⟨m, rfl⟩ : ∃ m, k = m + 1 := ⟨k - 1, by omega⟩
        have hm : dif a b m = true := by simpa using hc.2
        rcases ih.hl with ⟨_, _, qs, p, hps, hend⟩ | ⟨h1 | h1, _⟩
        · rw [dP_grow blk a b m qs p hm hk hps]
          have hP := ih.hp p (by rw [hps]; simp)
          have hg := ih.hg
          rw [hps, List.pairwise_append] at hg
          obtain ⟨g1, _, g3⟩ := hg
          have q0 := hP.h0; have q1 := hP.h1; have q2 := hP.hk
          have hR : RunP blk a b (m + 1 + 1) ⟨p.blk, p.off, p.dat ++ bstr [b.getD (m + 1) 0]⟩ := by
            refine ⟨hP.hb, hP.h0, ?_, ?_, fun j hj => ?_⟩
            · simp only [size_more]; omega
            · simp only [size_more]; omega
            · simp only [size_more] at hj
              simp only [dat_more]
              by_cases hj2 : j < p.dat.size
              · rw [if_pos hj2]; exact hP.hd j hj2
              · have e : p.off.toNat + j = m + 1 := by omega
                rw [if_neg hj2, if_pos (by omega), e]
                exact ⟨rfl, hk⟩
          refine ⟨fun q hq => ?_, ?_, .inl ⟨by omega, hk, qs, _, rfl, ?_⟩, fun ha h32 j hj => ?_⟩
          · simp only [List.mem_append, List.mem_singleton] at hq
            rcases hq with hq | rfl
            · exact (ih.hp q (by rw [hps]; simp [hq])).mono (by omega)
            · exact hR
          · rw [List.pairwise_append]
            refine ⟨g1, by simp, fun x hx y hy => ?_⟩
            simp only [List.mem_singleton] at hy
            subst hy
            have := g3 x hx p (by simp)
            exact this
          · simp only [size_more]; omega
          · have hall : ∀ q ∈ qs, rightB q = true := fun q hq => (ih.hp q (by rw [hps]; simp [hq])).right h0 h96 (by omega)
            have hql := appAll_length qs a ha hall
            have h1 := ih.ha ha (by omega) j hj
            rw [hps, appAll_snoc, app_get _ p hql (hP.right h0 h96 (by omega))] at h1
            rw [appAll_snoc, app_get _ _ hql (hR.right h0 h96 h32)]
            simp only [size_more, dat_more]
            by_cases c1 : p.off ≤ j ∧ (j : Int) < p.off + p.dat.size
            · rw [if_pos c1] at h1
              rw [if_pos (by omega), if_pos (by omega), h1, if_pos (by omega), if_pos (by omega)]
            · rw [if_neg c1] at h1
              by_cases c2 : j = m + 1
              · rw [if_pos (by omega), if_neg (by omega), if_pos (by omega), if_pos (by omega), c2]
              · rw [if_neg (by omega), h1]
                by_cases c3 : j < m + 1
                · rw [if_pos c3, if_pos (by omega)]
                · rw [if_neg c3, if_neg (by omega)]
        · omega
        · rw [hc.2] at h1; cases h1
      · have hn : k = 0 ∨ dif a b (k - 1) = false := by
          by_cases e : k = 0
          · exact .inl e
          · right
            cases h : dif a b (k - 1) with
            | false => rfl
            | true => exact absurd ⟨by omega, h⟩ hc
        rw [dP_new blk a b k hk hn]
        have hlt : ∀ p ∈ dP blk a b k, p.off + p.dat.size < k := by
          rcases ih.hl with ⟨e1, e2, _⟩ | ⟨_, h⟩
          · exact absurd ⟨e1, e2⟩ hc
          · exact h
        have hR : RunP blk a b (k + 1) ⟨blk, k, bstr [b.getD k 0]⟩ := by
          refine ⟨rfl, by simp, by simp [bstr_size], by simp [bstr_size], fun j hj => ?_⟩
          simp only [bstr_size, List.length_singleton] at hj
          have : j = 0 := by omega
          subst this
          simp only [dat_one, if_pos, Int.toNat_natCast, Nat.add_zero]
          exact ⟨trivial, hk⟩
        refine ⟨fun q hq => ?_, ?_, .inl ⟨by omega, hk, _, _, rfl, by simp [bstr_size]⟩, fun ha h32 j hj => ?_⟩
        · simp only [List.mem_append, List.mem_singleton] at hq
          rcases hq with hq | rfl
          · exact (ih.hp q hq).mono (by omega)
          · exact hR
        · rw [List.pairwise_append]
          refine ⟨ih.hg, by simp, fun x hx y hy => ?_⟩
          simp only [List.mem_singleton] at hy
          subst hy
          exact hlt x hx
        · have hall : ∀ q ∈ dP blk a b k, rightB q = true := fun q hq => (ih.hp q hq).right h0 h96 (by omega)
          have h1 := ih.ha ha (by omega) j hj
          rw [appAll_snoc, app_get _ _ (appAll_length _ a ha hall) (hR.right h0 h96 h32), h1]
          simp only [bstr_size, List.length_singleton, dat_one]
          by_cases c1 : j = k
          · rw [if_pos (by omega), if_pos (by omega), if_pos (by omega), c1]
          · rw [if_neg (by omega)]
            by_cases c3 : j < k
            · rw [if_pos c3, if_pos (by omega)]
            · rw [if_neg c3, if_neg (by omega)]
section
variable {blk : Int} {a b : List UInt8}
theorem diff_right (h0 : 0 ≤ blk) (h96 : blk < 96) : ∀ p ∈ dP blk a b 32, rightB p = true := fun p hp => ((runs blk a b h0 h96 32).hp p hp).right h0 h96 (Nat.le_refl _)
theorem diff_makes (h0 : 0 ≤ blk) (h96 : blk < 96) (ha : a.length = 32) (hb : b.length = 32) : appAll a (dP blk a b 32) = b := by
  apply List.ext_getElem?
  intro j
  by_cases hj : j < 32
  · rw [(runs blk a b h0 h96 32).ha ha (Nat.le_refl _) j hj, if_pos hj, List.getD, List.getElem?_eq_getElem (by omega)]; rfl
  · rw [List.getElem?_eq_none (by rw [appAll_length _ a ha (diff_right h0 h96)]; omega), List.getElem?_eq_none (by omega)]
theorem diff_idle (h0 : 0 ≤ blk) (h96 : blk < 96) (ha : a.length = 32) : ∀ p ∈ dP blk a b 32, idleB a p = false := fun p hp => by
  have hP := (runs blk a b h0 h96 32).hp p hp
  have q0 := hP.h0; have q1 := hP.h1; have q2 := hP.hk
  cases h : idleB a p with
  | false => rfl
  | true =>
    simp only [idleB, Bool.and_eq_true, decide_eq_true_eq] at h
    have h2 := congrArg (fun l => l[0]?) h.2
    obtain ⟨h3, h4⟩ := hP.hd 0 (by omega)
    rw [h3, List.getElem?_take_of_lt (by omega), List.getElem?_drop, Nat.add_zero] at h2
    simp only [dif, bne_iff_ne, ne_eq, Nat.add_zero] at h4
    rw [List.getElem?_eq_getElem (by omega)] at h2
    exact absurd (by rw [← Option.some.inj h2, List.getD, List.getElem?_eq_getElem (by omega)]; rfl) h4
theorem diff_blk (h0 : 0 ≤ blk) (h96 : blk < 96) : ∀ p ∈ dP blk a b 32, p.blk = blk := fun p hp => ((runs blk a b h0 h96 32).hp p hp).hb
theorem diff_gap (h0 : 0 ≤ blk) (h96 : blk < 96) (i : Nat) (h : i + 1 < (dP blk a b 32).length) : (dP blk a b 32)[i].off + (dP blk a b 32)[i].dat.size < (dP blk a b 32)[i + 1].off :=
  List.pairwise_iff_getElem.1 (runs blk a b h0 h96 32).hg i (i + 1) (by omega) h (by omega)
theorem dP_none (k : Nat) (h : ∀ j, j < k → dif a b j = false) : dP blk a b k = [] := by
  induction k with
  | zero => rfl
  | succ k ih => rw [dP_same _ _ _ _ (h k (by omega))]; exact ih fun j hj => h j (by omega)
theorem diff_none (h0 : 0 ≤ blk) (h96 : blk < 96) (ha : a.length = 32) (hb : b.length = 32) : (dP blk a b 32).length = 0 ↔ a = b := by
  constructor
  · intro h
    have h2 := diff_makes h0 h96 ha hb
    rw [List.eq_nil_of_length_eq_zero h] at h2
    exact h2
  · rintro rfl
    rw [dP_none _ fun j _ => by simp [dif]]
    rfl
end
end Go.Proofs.Ytefohmjllcnnkaa.H
