/- THE ROW: EngineSyncs: without bad blocks Sync lets all last: for every deeds, and what is picked. -/
import Derived.Test.YtlmkcnkidkoilaaGreatZF18
import Derived.WalkKit
import Derived.ProofKit
import Derived.OpenShut
import Derived.ShutString
import Derived.ChangeOld
import Derived.Below
set_option linter.unusedVariables false
namespace Go.Proofs.YtlmkcnkidkoilaaGreat
open Go.ChangeShapes Go.WideShapes Go.ChangeAt Go.RowKit
namespace engineSyncsDone
set_option maxRecDepth 100000 in
theorem lifted (os : Os) (started : os.Started) (HH : Type) (enc : TypeId × Value → HH) :
    ReturnsInHanded {} Tryz.checked os 4 .any (Rows.engineSyncsSpec.pre6 enc Tryz.prog Tryz.f4 Rows.engineSyncsRow.domain false) (Rows.engineSyncsSpec.post enc Tryz.prog Tryz.f4 false true false false) := by
  refine returnsInHanded_of_change (C := Tryz.checked) H.ownk started (by kernel_rfl) Tryz.func4
    (ChangeSpec.witness6 (enc := enc) (C := Tryz.checked) false ⟨#[], #[.slice none 0 0, .slice none 0 0], []⟩ 8 (by kernel_rfl) (by kernel_rfl) (by kernel_rfl) (by kernel_rfl)) ?_
  intro W base args ds gs before hval0 hW hcnd _
  have hval : ∀ (j : Nat) t v, Tryz.f4.params[j]? = some t → args[j]? = some v → Value.okWide Tryz.prog W .any base t v := hval0
  have hW' := hW
  obtain ⟨p, q, hA0, hV, rfl, hfz, hnd⟩ := hW
  have hA : DataW.TrodAll enc Tryz.prog W 0 (fun _ => true) true Tryz.f4.params.toList args.toList ds p := hA0
  have hB := fun (W' : World) (bel : Below W.heap.size W W') => H.trodAll_below H.laidOut bel _ _ _ _ (by kernel_rfl) hA
  rw [Tryz.params4] at hA hval
  obtain ⟨v0, vs0, d0, ds0, p0, q0, hargs, rfl, rfl, h0, r0⟩ := trodAll_cons hA
  obtain ⟨v1, vs1, d1, ds1, p1, q1, rfl, rfl, rfl, h1, r1⟩ := trodAll_cons r0
  obtain ⟨rfl, rfl, rfl⟩ := trodAll_nil r1
  obtain rfl : args = #[v0, v1] := by cases args; simp_all
  obtain ⟨rfl, rfl⟩ := trodVars_none hV
  obtain ⟨A0, n0, c0, dl0, rfl, hl0, rd0, da0⟩ := H.open_edeeds (hval 0 22 v0 rfl rfl) h0
  obtain ⟨A1, n1, c1, l1, rfl, hl1, rd1, il1⟩ := H.open_intl (hval 1 38 v1 rfl rfl) h1
  clear hA0 hval0
  refine (H.esyncs_law W A0 n0 c0 dl0 ⟨hl0, rd0, da0⟩ A1 n1 c1 l1 hl1 rd1 il1).mono fun e W' ⟨he, bel⟩ => ?_
  subst he
  exact ⟨_, rfl, _, _, _, [], _, [], hW', trodAll_mk1 (shut_bool Tryz.underlying4 _), hB W' bel, rfl, bel.frame _, fun h => by cases h⟩
theorem over : Rows.engineSyncsRow.holds Tryz.pinned (OpenSpec.ofChange Rows.engineSyncsSpec) :=
  OpenClaim.holds_of_wide 4 Tryz.f4 rfl rfl rfl rfl rfl rfl rfl ⟨rfl, rfl, rfl, rfl, rfl⟩ rfl rfl rfl rfl rfl (by kernel_rfl) Tryz.func4 (by kernel_rfl)
    (of_decide_eq_true (by kernel_rfl)) (by unfold Func.isWrapper; first | (rw [if_pos (by decide +kernel)]; kernel_rfl) | (rw [if_neg (by decide +kernel)]; exact ⟨rfl, rfl⟩))
    (fun os started HH enc _ => lifted os started HH enc)
end engineSyncsDone
/-- THE STATEMENT. -/
theorem engineSyncs_proved : Rows.EngineSyncsSaid := engineSyncsDone.over
end Go.Proofs.YtlmkcnkidkoilaaGreat
