/- Plain law: where two patches write. -/
import Derived.Test.YtdcbfdepkbplbaaM3
import Derived.Test.YtdcbfdepkbplbaaR1
set_option linter.unusedVariables false
set_option linter.unusedSimpArgs false
namespace Go.Proofs.Ytdcbfdepkbplbaa.H
/-- Where two patches write: without a gap from lo to e1; then again at g, if that is before 32. -/
structure Runs (p q : Pat) (lo e1 g : Nat) : Prop where mk ::
  out : lo < e1 ∧ e1 ≤ 32 ∧ e1 ≤ g ∧ g ≤ 32 ∧ (∀ k, k < g → (wrB p k = true ∨ wrB q k = true ↔ lo ≤ k ∧ k < e1)) ∧ (g < 32 → (wrB p g = true ∨ wrB q g = true) ∧ e1 < g)
def datK (p q : Pat) (lo to : Nat) : List UInt8 := ((wholeOf p q).drop lo).take (to - lo)
theorem datK_length {p q : Pat} {lo to : Nat} (hp : rightB p = true) (hq : rightB q = true) (h : to ≤ 32) : (datK p q lo to).length = to - lo := by
  simp only [datK, List.length_take, List.length_drop, whole_length hp hq]
  omega
theorem datK_succ {p q : Pat} {lo k : Nat} {x : UInt8} (hk : lo ≤ k) (hx : (wholeOf p q)[k]? = some x) : datK p q lo (k + 1) = datK p q lo k ++ [x] := by
  have hl := (List.getElem?_eq_some_iff.1 hx).1
  have h2 : k - lo < ((wholeOf p q).drop lo).length := by rw [List.length_drop]; omega
  unfold datK
  rw [show k + 1 - lo = k - lo + 1 by omega, List.take_succ_eq_append_getElem h2]
  congr 1
  have h3 : ((wholeOf p q).drop lo)[k - lo]? = some x := by rw [List.getElem?_drop, show lo + (k - lo) = k by omega]; exact hx
  rw [List.getElem?_eq_getElem h2] at h3
  rw [Option.some.inj h3]
theorem runs_yes {p q : Pat} (h : Joins p q) : Runs p q (min p.off q.off).toNat (max (p.off + p.dat.size) (q.off + q.dat.size)).toNat 32 := by
  obtain ⟨p1, p2, p3, p4, p5, p6⟩ := rightB_iff.1 h.hp
  obtain ⟨q1, q2, q3, q4, q5, q6⟩ := rightB_iff.1 h.hq
  have j1 := h.h1
  have j2 := h.h2
  refine ⟨by omega, by omega, by omega, by omega, fun k hk => ?_, fun h => by omega⟩
  simp only [wrB, Bool.and_eq_true, decide_eq_true_eq]
  constructor
  · intro h; omega
  · intro h; omega
theorem runs_no {p q : Pat} (hp : rightB p = true) (hq : rightB q = true) (hn : ¬ (p.off ≤ q.off + q.dat.size ∧ q.off ≤ p.off + p.dat.size)) : Runs p q (min p.off q.off).toNat (min (p.off + p.dat.size) (q.off + q.dat.size)).toNat (max p.off q.off).toNat := by
  obtain ⟨p1, p2, p3, p4, p5, p6⟩ := rightB_iff.1 hp
  obtain ⟨q1, q2, q3, q4, q5, q6⟩ := rightB_iff.1 hq
  refine ⟨by omega, by omega, by omega, by omega, fun k hk => ?_, fun h => ⟨?_, by omega⟩⟩
  · simp only [wrB, Bool.and_eq_true, decide_eq_true_eq]
    constructor
    · intro h; omega
    · intro h; omega
  · simp only [wrB, Bool.and_eq_true, decide_eq_true_eq]
    omega
theorem whole_q {p q : Pat} (hp : rightB p = true) (hq : rightB q = true) {k : Nat} (h : wrB q k = true) : ∃ h2 : k - q.off.toNat < q.dat.data.toList.length, (wholeOf p q)[k]? = some (q.dat.data.toList[k - q.off.toNat]'h2) := by
  have hs : q.dat.size = q.dat.data.toList.length := by rw [Array.length_toList]; rfl
  simp only [wrB, Bool.and_eq_true, decide_eq_true_eq] at h
  have h2 : k - q.off.toNat < q.dat.data.toList.length := by omega
  refine ⟨h2, ?_⟩
  rw [whole_get hp hq, if_pos h, List.getElem?_eq_getElem h2]
theorem whole_p {p q : Pat} (hp : rightB p = true) (hq : rightB q = true) {k : Nat} (h : wrB p k = true) (h0 : wrB q k = false) : ∃ h2 : k - p.off.toNat < p.dat.data.toList.length, (wholeOf p q)[k]? = some (p.dat.data.toList[k - p.off.toNat]'h2) := by
  have hs : p.dat.size = p.dat.data.toList.length := by rw [Array.length_toList]; rfl
  simp only [wrB, Bool.and_eq_true, decide_eq_true_eq] at h
  have h3 : ¬ (q.off ≤ k ∧ (k : Int) < q.off + q.dat.size) := by
    intro h4
    have : wrB q k = true := by simp only [wrB, Bool.and_eq_true, decide_eq_true_eq]; exact h4
    rw [h0] at this
    cases this
  have h2 : k - p.off.toNat < p.dat.data.toList.length := by omega
  refine ⟨h2, ?_⟩
  rw [whole_get hp hq, if_neg h3, if_pos h, List.getElem?_eq_getElem h2]
end Go.Proofs.Ytdcbfdepkbplbaa.H
