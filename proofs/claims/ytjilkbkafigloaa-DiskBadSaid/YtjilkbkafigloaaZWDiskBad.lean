/- THE ROW: DiskBad: what is bad is not written until it is good again: for every number, every deeds and a write. -/
import Derived.Test.YtjilkbkafigloaaZ12
import Derived.WalkKit
import Derived.ProofKit
import Derived.OpenShut
import Derived.ShutString
import Derived.ChangeOld
import Derived.Below
set_option linter.unusedVariables false
namespace Go.Proofs.Ytjilkbkafigloaa
open Go.ChangeShapes Go.WideShapes Go.ChangeAt Go.RowKit
theorem H.u8_nat {i : Int} (h : Lit.wf (.int .u8 i) = true) : ∃ n : Nat, n < 256 ∧ i = (n : Int) := by
  simp [Lit.wf, IntKind.min, IntKind.max, IntKind.signed, IntKind.bits] at h
  exact ⟨i.toNat, by omega, by omega⟩
theorem H.bad_di (w : World) (i : Int) (h0 : Lit.wf (.int .u8 i) = true) (A1 : Option Addr) (n1 c1 : Nat) (ds : List H.DDeed) (h : H.ArgX w A1 n1 c1 ds) (d : H.DDeed) :
    Calls Try.prog 6 #[.int .u8 i, .slice A1 n1 c1, .agg d.cells.toArray] w (fun e w' => e = .returned (.bool true) ∧ Below w.heap.size w w') := by
  obtain ⟨n, hn, rfl⟩ := H.u8_nat h0
  obtain ⟨k, i, c, v, l, b⟩ := d
  exact H.bad_d w n hn A1 n1 c1 ds h k i c v b
namespace diskBadDone
set_option maxRecDepth 100000 in
theorem lifted (os : Os) (started : os.Started) (HH : Type) (enc : TypeId × Value → HH) :
    ReturnsInHanded {} Try.checked os 6 .any (Rows.diskBadSpec.pre6 enc Try.prog Try.f6 Rows.diskBadRow.domain false) (Rows.diskBadSpec.post enc Try.prog Try.f6 false true false false) := by
  refine returnsInHanded_of_change (C := Try.checked) H.ownk started (by kernel_rfl) Try.func6
    (ChangeSpec.witness6 (enc := enc) (C := Try.checked) false ⟨#[], #[.int .u8 0, .slice none 0 0, .agg #[.int .i64 0, .int .i64 0, .int .u8 0, .slice none 0 0, .bool false]], []⟩ 8 (by kernel_rfl) (by kernel_rfl) (by kernel_rfl) (by kernel_rfl)) ?_
  intro W base args ds gs before hval0 hW hcnd _
  have hval : ∀ (j : Nat) t v, Try.f6.params[j]? = some t → args[j]? = some v → Value.okWide Try.prog W .any base t v := hval0
  have hW' := hW
  obtain ⟨p, q, hA0, hV, rfl, hfz, hnd⟩ := hW
  have hA : DataW.TrodAll enc Try.prog W 0 (fun _ => true) true Try.f6.params.toList args.toList ds p := hA0
  have hB := fun (W' : World) (bel : Below W.heap.size W W') => H.trodAll_below H.laidOut bel _ _ _ _ (by kernel_rfl) hA
  rw [Try.params6] at hA hval
  obtain ⟨v0, vs0, d0, ds0, p0, q0, hargs, rfl, rfl, h0, r0⟩ := trodAll_cons hA
  obtain ⟨v1, vs1, d1, ds1, p1, q1, rfl, rfl, rfl, h1, r1⟩ := trodAll_cons r0
  obtain ⟨v2, vs2, d2, ds2, p2, q2, rfl, rfl, rfl, h2, r2⟩ := trodAll_cons r1
  obtain ⟨rfl, rfl, rfl⟩ := trodAll_nil r2
  obtain rfl : args = #[v0, v1, v2] := by cases args; simp_all
  obtain ⟨rfl, rfl⟩ := trodVars_none hV
  obtain ⟨i0, rfl, rfl, rfl, w0⟩ := open_int Try.underlying5 (hval 0 5 v0 rfl rfl) h0
  obtain ⟨A1, n1, c1, dl1, rfl, hl1, rd1, da1⟩ := H.open_ddeeds (hval 1 37 v1 rfl rfl) h1
  obtain ⟨dd2, rfl, da2⟩ := H.open_ddeed (hval 2 50 v2 rfl rfl) h2
  clear hA0 hval0
  refine (H.bad_di W i0 w0 A1 n1 c1 dl1 ⟨hl1, rd1, da1⟩ dd2).mono fun e W' ⟨he, bel⟩ => ?_
  subst he
  exact ⟨_, rfl, _, _, _, [], _, [], hW', trodAll_mk1 (shut_bool Try.underlying4 _), hB W' bel, rfl, bel.frame _, fun h => by cases h⟩
theorem over : Rows.diskBadRow.holds Try.pinned (OpenSpec.ofChange Rows.diskBadSpec) :=
  OpenClaim.holds_of_wide 6 Try.f6 rfl rfl rfl rfl rfl rfl rfl ⟨rfl, rfl, rfl, rfl, rfl⟩ rfl rfl rfl rfl rfl (by kernel_rfl) Try.func6 (by kernel_rfl)
    (of_decide_eq_true (by kernel_rfl)) (by unfold Func.isWrapper; first | (rw [if_pos (by decide +kernel)]; kernel_rfl) | (rw [if_neg (by decide +kernel)]; exact ⟨rfl, rfl⟩))
    (fun os started HH enc _ => lifted os started HH enc)
end diskBadDone
/-- THE STATEMENT. -/
theorem diskBad_proved : Rows.DiskBadSaid := diskBadDone.over
end Go.Proofs.Ytjilkbkafigloaa
