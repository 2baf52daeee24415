/- THE ROW: EngineClosed: what a crash leaves is what there was at first with a set of patches applied, in order, that is closed, and has all that last. -/
import Derived.Test.YtlmkcnkidkoilaaZ28
import Derived.WalkKit
import Derived.ProofKit
import Derived.OpenShut
import Derived.ShutString
import Derived.ChangeOld
import Derived.Below
set_option linter.unusedVariables false
namespace Go.Proofs.Ytlmkcnkidkoilaa
open Go.ChangeShapes Go.WideShapes Go.ChangeAt Go.RowKit
namespace engineClosedDone
set_option maxRecDepth 100000 in
theorem lifted (os : Os) (started : os.Started) (HH : Type) (enc : TypeId × Value → HH) :
    ReturnsInHanded {} Try.checked os 4 .any (Rows.engineClosedSpec.pre6 enc Try.prog Try.f4 Rows.engineClosedRow.domain false) (Rows.engineClosedSpec.post enc Try.prog Try.f4 false true false false) := by
  refine returnsInHanded_of_change_sized (C := Try.checked) H.ownk started (by kernel_rfl) Try.func4
    (ChangeSpec.witness6 (enc := enc) (C := Try.checked) false ⟨#[], #[.slice none 0 0, .slice none 0 0, .slice none 0 0], []⟩ 8 (by kernel_rfl) (by kernel_rfl) (by kernel_rfl) (by kernel_rfl)) ?_
  intro W base args ds gs before hval0 hW hcnd hsz _
  have hval : ∀ (j : Nat) t v, Try.f4.params[j]? = some t → args[j]? = some v → Value.okWide Try.prog W .any base t v := hval0
  have hW' := hW
  obtain ⟨p, q, hA0, hV, rfl, hfz, hnd⟩ := hW
  have hA : DataW.TrodAll enc Try.prog W 0 (fun _ => true) true Try.f4.params.toList args.toList ds p := hA0
  have hB := fun (W' : World) (bel : Below W.heap.size W W') => H.trodAll_below H.laidOut bel _ _ _ _ (by kernel_rfl) hA
  rw [Try.params4] at hA hval
  obtain ⟨v0, vs0, d0, ds0, p0, q0, hargs, rfl, rfl, h0, r0⟩ := trodAll_cons hA
  obtain ⟨v1, vs1, d1, ds1, p1, q1, rfl, rfl, rfl, h1, r1⟩ := trodAll_cons r0
  obtain ⟨v2, vs2, d2, ds2, p2, q2, rfl, rfl, rfl, h2, r2⟩ := trodAll_cons r1
  obtain ⟨rfl, rfl, rfl⟩ := trodAll_nil r2
  obtain rfl : args = #[v0, v1, v2] := by cases args; simp_all
  obtain ⟨rfl, rfl⟩ := trodVars_none hV
  obtain ⟨A0, n0, c0, il0, rfl, hl0, rd0, ia0⟩ := H.open_itemsw (hval 0 22 v0 rfl rfl) h0
  obtain ⟨A1, n1, c1, l1, rfl, hl1, rd1⟩ := H.open_bytes (hval 1 23 v1 rfl rfl) h1
  obtain ⟨A2, n2, c2, l2, rfl, hl2, rd2, il2⟩ := H.open_intl (hval 2 31 v2 rfl rfl) h2
  clear hA0 hval0
  refine (H.closed_law W A0 n0 c0 il0 hl0 rd0 (fun x hx => (ia0 x hx).1) (fun x hx => H.size_ok hsz 0 rfl rfl (ia0 x hx).2) A1 n1 c1 l1 hl1 rd1 A2 n2 c2 l2 hl2 rd2).mono fun e W' ⟨he, bel⟩ => ?_
  subst he
  exact ⟨_, rfl, _, _, _, [], _, [], hW', trodAll_mk1 (shut_bool Try.underlying4 _), hB W' bel, rfl, bel.frame _, fun h => by cases h⟩
theorem over : Rows.engineClosedRow.holds Try.pinned (OpenSpec.ofChange Rows.engineClosedSpec) :=
  OpenClaim.holds_of_wide 4 Try.f4 rfl rfl rfl rfl rfl rfl rfl ⟨rfl, rfl, rfl, rfl, rfl⟩ rfl rfl rfl rfl rfl (by kernel_rfl) Try.func4 (by kernel_rfl)
    (of_decide_eq_true (by kernel_rfl)) (by unfold Func.isWrapper; first | (rw [if_pos (by decide +kernel)]; kernel_rfl) | (rw [if_neg (by decide +kernel)]; exact ⟨rfl, rfl⟩))
    (fun os started HH enc _ => lifted os started HH enc)
end engineClosedDone
/-- THE STATEMENT. -/
theorem engineClosed_proved : Rows.EngineClosedSaid := engineClosedDone.over
end Go.Proofs.Ytlmkcnkidkoilaa
