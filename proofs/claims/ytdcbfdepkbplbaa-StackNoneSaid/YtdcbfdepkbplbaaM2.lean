/- Plain law: two patches that don't overlap commute. -/
import Derived.Test.YtdcbfdepkbplbaaP3
set_option linter.unusedVariables false
set_option linter.unusedSimpArgs false
namespace Go.Proofs.Ytdcbfdepkbplbaa.H
theorem over_get {α : Type} (b d : List α) (i j : Nat) (h : i + d.length ≤ b.length) : (over b i d)[j]? = if i ≤ j ∧ j < i + d.length then d[j - i]? else b[j]? := by
  have hl : (b.take i).length = i := by rw [List.length_take]; omega
  unfold over
  rw [List.append_assoc]
  by_cases h1 : j < i
  · rw [if_neg (by omega), List.getElem?_append_left (by omega), List.getElem?_take_of_lt h1]
  · rw [List.getElem?_append_right (by omega), hl]
    by_cases h2 : j < i + d.length
    · rw [if_pos ⟨by omega, h2⟩, List.getElem?_append_left (by omega)]
    · rw [if_neg (by omega), List.getElem?_append_right (by omega), List.getElem?_drop, show i + d.length + (j - i - d.length) = j by omega]
theorem app_get (b : List UInt8) (p : Pat) (hb : b.length = 32) (hp : rightB p = true) (j : Nat) : (app b p)[j]? = if p.off ≤ j ∧ (j : Int) < p.off + p.dat.size then p.dat.data.toList[j - p.off.toNat]? else b[j]? := by
  obtain ⟨p1, p2, p3, p4, p5, p6⟩ := rightB_iff.1 hp
  have hs : p.dat.size = p.dat.data.toList.length := by rw [Array.length_toList]; rfl
  unfold app
  rw [over_get _ _ _ _ (by omega)]
  by_cases h : p.off ≤ j ∧ (j : Int) < p.off + p.dat.size
  · rw [if_pos h, if_pos (by omega)]
  · rw [if_neg h, if_neg (by omega)]
theorem app_comm (b : List UInt8) (p q : Pat) (hb : b.length = 32) (hp : rightB p = true) (hq : rightB q = true) (he : p.blk = q.blk) (ho : overB p q = false) : app (app b p) q = app (app b q) p := by
  have hn : ¬ (p.off < q.off + q.dat.size ∧ q.off < p.off + p.dat.size) := by
    rintro ⟨h1, h2⟩
    have : overB p q = true := by simp only [overB, Bool.and_eq_true, decide_eq_true_eq]; exact ⟨⟨⟨⟨hp, hq⟩, he⟩, h1⟩, h2⟩
    rw [ho] at this
    cases this
  apply List.ext_getElem?
  intro j
  rw [app_get _ q (app_length b p hb hp) hq, app_get b p hb hp, app_get _ p (app_length b q hb hq) hp, app_get b q hb hq]
  by_cases h1 : p.off ≤ j ∧ (j : Int) < p.off + p.dat.size
  · rw [if_pos h1, if_neg (by omega), if_pos h1]
  · rw [if_neg h1]
    by_cases h2 : q.off ≤ j ∧ (j : Int) < q.off + q.dat.size
    · rw [if_pos h2, if_neg h1]
    · rw [if_neg h2, if_neg h1]
end Go.Proofs.Ytdcbfdepkbplbaa.H
