/- THE ROW: PatchMakes: all patches of Diff make the one block the other one; none stands side by side with another, none is idle; for every block number and every two slices of bytes. -/
import Derived.Test.YtefohmjllcnnkaaA1
import Derived.Test.YtefohmjllcnnkaaL9
import Derived.WalkKit
import Derived.ProofKit
import Derived.OpenShut
import Derived.ShutString
import Derived.ChangeOld
import Derived.Below
set_option linter.unusedVariables false
namespace Go.Proofs.Ytefohmjllcnnkaa
open Go.ChangeShapes Go.WideShapes Go.ChangeAt Go.RowKit
namespace patchMakesDone
set_option maxRecDepth 100000 in
theorem lifted (os : Os) (started : os.Started) (HH : Type) (enc : TypeId × Value → HH) :
    ReturnsInHanded {} Try.checked os 10 .any (Rows.patchMakesSpec.pre6 enc Try.prog Try.f10 Rows.patchMakesRow.domain false) (Rows.patchMakesSpec.post enc Try.prog Try.f10 false true false false) := by
  refine returnsInHanded_of_change (C := Try.checked) H.ownk started (by kernel_rfl) Try.func10
    (ChangeSpec.witness6 (enc := enc) (C := Try.checked) false ⟨#[], #[.int .u8 0, .slice none 0 0, .slice none 0 0], []⟩ 8 (by kernel_rfl) (by kernel_rfl) (by kernel_rfl) (by kernel_rfl)) ?_
  intro W base args ds gs before hval0 hW hcnd _
  have hval : ∀ (j : Nat) t v, Try.f10.params[j]? = some t → args[j]? = some v → Value.okWide Try.prog W .any base t v := hval0
  have hW' := hW
  obtain ⟨p, q, hA0, hV, rfl, hfz, hnd⟩ := hW
  have hA : DataW.TrodAll enc Try.prog W 0 (fun _ => true) true Try.f10.params.toList args.toList ds p := hA0
  have hB := fun (W' : World) (bel : Below W.heap.size W W') => H.trodAll_below H.laidOut bel _ _ _ _ (by kernel_rfl) hA
  rw [Try.params10] at hA hval
  obtain ⟨v0, vs0, d0, ds0, p0, q0, hargs, rfl, rfl, h0, r0⟩ := trodAll_cons hA
  obtain ⟨v1, vs1, d1, ds1, p1, q1, rfl, rfl, rfl, h1, r1⟩ := trodAll_cons r0
  obtain ⟨v2, vs2, d2, ds2, p2, q2, rfl, rfl, rfl, h2, r2⟩ := trodAll_cons r1
  obtain ⟨rfl, rfl, rfl⟩ := trodAll_nil r2
  obtain rfl : args = #[v0, v1, v2] := by cases args; simp_all
  obtain ⟨rfl, rfl⟩ := trodVars_none hV
  obtain ⟨i0, rfl, rfl, rfl, w0⟩ := open_int Try.underlying5 (hval 0 5 v0 rfl rfl) h0
  obtain ⟨A1, n1, c1, l1, rfl, hl1, rd1⟩ := H.open_bytes (hval 1 28 v1 rfl rfl) h1
  obtain ⟨A2, n2, c2, l2, rfl, hl2, rd2⟩ := H.open_bytes (hval 2 28 v2 rfl rfl) h2
  clear hA0 hval0
  refine (H.makes_c W A1 A2 n1 c1 n2 c2 i0 l1 l2 (H.u8_bounds w0).1 (H.u8_bounds w0).2 hl1 rd1 hl2 rd2).mono fun e W' ⟨he, bel⟩ => ?_
  subst he
  exact ⟨_, rfl, _, _, _, [], _, [], hW', trodAll_mk1 (shut_bool Try.underlying4 _), hB W' bel, rfl, bel.frame _, fun h => by cases h⟩
theorem over : Rows.patchMakesRow.holds Try.pinned (OpenSpec.ofChange Rows.patchMakesSpec) :=
  OpenClaim.holds_of_wide 10 Try.f10 rfl rfl rfl rfl rfl rfl rfl ⟨rfl, rfl, rfl, rfl, rfl⟩ rfl rfl rfl rfl rfl (by kernel_rfl) Try.func10 (by kernel_rfl)
    (of_decide_eq_true (by kernel_rfl)) (by unfold Func.isWrapper; first | (rw [if_pos (by decide +kernel)]; kernel_rfl) | (rw [if_neg (by decide +kernel)]; exact ⟨rfl, rfl⟩))
    (fun os started HH enc _ => lifted os started HH enc)
end patchMakesDone
/-- THE STATEMENT. -/
theorem patchMakes_proved : Rows.PatchMakesSaid := patchMakesDone.over
end Go.Proofs.Ytefohmjllcnnkaa
