/- THE ROW: TopStacked: a stack and an engine say the same of a block: for every patches, and some of them. -/
import Derived.Test.YtonohjhmnlfakaaZ29
import Derived.WalkKit
import Derived.ProofKit
import Derived.OpenShut
import Derived.ShutString
import Derived.ChangeOld
import Derived.Below
set_option linter.unusedVariables false
namespace Go.Proofs.Ytonohjhmnlfakaa
open Go.ChangeShapes Go.WideShapes Go.ChangeAt Go.RowKit
namespace topStackedDone
set_option maxRecDepth 100000 in
theorem lifted (os : Os) (started : os.Started) (HH : Type) (enc : TypeId × Value → HH) :
    ReturnsInHanded {} Try.checked os 5 .any (Rows.topStackedSpec.pre6 enc Try.prog Try.f5 Rows.topStackedRow.domain false) (Rows.topStackedSpec.post enc Try.prog Try.f5 false true false false) := by
  refine returnsInHanded_of_change (C := Try.checked) H.ownk started (by kernel_rfl) Try.func5
    (ChangeSpec.witness6 (enc := enc) (C := Try.checked) false ⟨#[], #[.slice none 0 0, .slice none 0 0], []⟩ 8 (by kernel_rfl) (by kernel_rfl) (by kernel_rfl) (by kernel_rfl)) ?_
  intro W base args ds gs before hval0 hW hcnd _
  have hval : ∀ (j : Nat) t v, Try.f5.params[j]? = some t → args[j]? = some v → Value.okWide Try.prog W .any base t v := hval0
  have hW' := hW
  obtain ⟨p, q, hA0, hV, rfl, hfz, hnd⟩ := hW
  have hA : DataW.TrodAll enc Try.prog W 0 (fun _ => true) true Try.f5.params.toList args.toList ds p := hA0
  have hB := fun (W' : World) (bel : Below W.heap.size W W') => H.trodAll_below H.laidOut bel _ _ _ _ (by kernel_rfl) hA
  rw [Try.params5] at hA hval
  obtain ⟨v0, vs0, d0, ds0, p0, q0, hargs, rfl, rfl, h0, r0⟩ := trodAll_cons hA
  obtain ⟨v1, vs1, d1, ds1, p1, q1, rfl, rfl, rfl, h1, r1⟩ := trodAll_cons r0
  obtain ⟨rfl, rfl, rfl⟩ := trodAll_nil r1
  obtain rfl : args = #[v0, v1] := by cases args; simp_all
  obtain ⟨rfl, rfl⟩ := trodVars_none hV
  obtain ⟨A0, n0, c0, ps0, rfl, hl0, rd0⟩ := H.open_pats (hval 0 51 v0 rfl rfl) h0
  obtain ⟨A1, n1, c1, l1, rfl, hl1, rd1, il1⟩ := H.open_intl (hval 1 34 v1 rfl rfl) h1
  clear hA0 hval0
  refine (H.stacked_law W A0 n0 c0 ps0 hl0 rd0 A1 n1 c1 l1 hl1 rd1 il1).mono fun e W' ⟨he, bel⟩ => ?_
  subst he
  exact ⟨_, rfl, _, _, _, [], _, [], hW', trodAll_mk1 (shut_bool Try.underlying4 _), hB W' bel, rfl, bel.frame _, fun h => by cases h⟩
theorem over : Rows.topStackedRow.holds Try.pinned (OpenSpec.ofChange Rows.topStackedSpec) :=
  OpenClaim.holds_of_wide 5 Try.f5 rfl rfl rfl rfl rfl rfl rfl ⟨rfl, rfl, rfl, rfl, rfl⟩ rfl rfl rfl rfl rfl (by kernel_rfl) Try.func5 (by kernel_rfl)
    (of_decide_eq_true (by kernel_rfl)) (by unfold Func.isWrapper; first | (rw [if_pos (by decide +kernel)]; kernel_rfl) | (rw [if_neg (by decide +kernel)]; exact ⟨rfl, rfl⟩))
    (fun os started HH enc _ => lifted os started HH enc)
end topStackedDone
/-- THE STATEMENT. -/
theorem topStacked_proved : Rows.TopStackedSaid := topStackedDone.over
end Go.Proofs.Ytonohjhmnlfakaa
