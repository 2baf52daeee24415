/- Plain law: the joined patch is right, and does what both do. -/
import Derived.Test.YtdcbfdepkbplbaaM2
import Derived.Test.YtdcbfdepkbplbaaP7
set_option linter.unusedVariables false
set_option linter.unusedSimpArgs false
namespace Go.Proofs.Ytdcbfdepkbplbaa.H
theorem whole_length {p q : Pat} (hp : rightB p = true) (hq : rightB q = true) : (wholeOf p q).length = 32 := app_length _ _ (app_length _ _ (by simp) hp) hq
theorem whole_get {p q : Pat} (hp : rightB p = true) (hq : rightB q = true) (j : Nat) : (wholeOf p q)[j]? = if q.off ≤ j ∧ (j : Int) < q.off + q.dat.size then q.dat.data.toList[j - q.off.toNat]? else if p.off ≤ j ∧ (j : Int) < p.off + p.dat.size then p.dat.data.toList[j - p.off.toNat]? else (List.replicate 32 (0 : UInt8))[j]? := by
  unfold wholeOf
  rw [app_get _ q (app_length _ _ (by simp) hp) hq, app_get _ p (by simp) hp]
structure Joins (p q : Pat) : Prop where
  hp : rightB p = true
  hq : rightB q = true
  hb : p.blk = q.blk
  h1 : p.off ≤ q.off + q.dat.size
  h2 : q.off ≤ p.off + p.dat.size
theorem joins_iff {p q : Pat} : joinB p q = true ↔ Joins p q := by
  simp only [joinB, Bool.and_eq_true, decide_eq_true_eq]
  exact ⟨fun ⟨⟨⟨⟨h1, h2⟩, h3⟩, h4⟩, h5⟩ => ⟨h1, h2, h3, h4, h5⟩, fun ⟨h1, h2, h3, h4, h5⟩ => ⟨⟨⟨⟨h1, h2⟩, h3⟩, h4⟩, h5⟩⟩
theorem joinM_size {p q : Pat} (h : Joins p q) : (joinM p q).dat.size = (max (p.off + p.dat.size) (q.off + q.dat.size)).toNat - (min p.off q.off).toNat := by
  obtain ⟨p1, p2, p3, p4, p5, p6⟩ := rightB_iff.1 h.hp
  obtain ⟨q1, q2, q3, q4, q5, q6⟩ := rightB_iff.1 h.hq
  simp only [joinM, bstr_size, List.length_take, List.length_drop, whole_length h.hp h.hq]
  omega
theorem joinM_right {p q : Pat} (h : Joins p q) : rightB (joinM p q) = true := by
  obtain ⟨p1, p2, p3, p4, p5, p6⟩ := rightB_iff.1 h.hp
  obtain ⟨q1, q2, q3, q4, q5, q6⟩ := rightB_iff.1 h.hq
  have hs := joinM_size h
  refine rightB_iff.2 ?_
  rw [hs]
  have e1 : (joinM p q).blk = p.blk := rfl
  have e2 : (joinM p q).off = min p.off q.off := rfl
  rw [e1, e2]
  omega
theorem joinM_app (b : List UInt8) {p q : Pat} (h : Joins p q) (hb : b.length = 32) : app b (joinM p q) = app (app b p) q := by
  obtain ⟨p1, p2, p3, p4, p5, p6⟩ := rightB_iff.1 h.hp
  obtain ⟨q1, q2, q3, q4, q5, q6⟩ := rightB_iff.1 h.hq
  have j1 := h.h1
  have j2 := h.h2
  have hs := joinM_size h
  have e2 : (joinM p q).off = min p.off q.off := rfl
  apply List.ext_getElem?
  intro j
  rw [app_get _ _ hb (joinM_right h), app_get _ q (app_length b p hb h.hp) h.hq, app_get b p hb h.hp, hs, e2]
  by_cases hj : min p.off q.off ≤ j ∧ (j : Int) < min p.off q.off + ((max (p.off + p.dat.size) (q.off + q.dat.size)).toNat - (min p.off q.off).toNat : Nat)
  · rw [if_pos hj]
    have e3 : (joinM p q).dat.data.toList[j - (min p.off q.off).toNat]? = (wholeOf p q)[j]? := by
      have : (joinM p q).dat.data.toList = ((wholeOf p q).drop (min p.off q.off).toNat).take ((max (p.off + p.dat.size) (q.off + q.dat.size)).toNat - (min p.off q.off).toNat) := rfl
      rw [this, List.getElem?_take_of_lt (by omega), List.getElem?_drop, show (min p.off q.off).toNat + (j - (min p.off q.off).toNat) = j by omega]
    rw [e3, whole_get h.hp h.hq]
    by_cases hq : q.off ≤ j ∧ (j : Int) < q.off + q.dat.size
    · rw [if_pos hq, if_pos hq]
    · rw [if_neg hq, if_neg hq]
      rw [if_pos (by omega), if_pos (by omega)]
  · rw [if_neg hj, if_neg (by omega), if_neg (by omega)]
end Go.Proofs.Ytdcbfdepkbplbaa.H
