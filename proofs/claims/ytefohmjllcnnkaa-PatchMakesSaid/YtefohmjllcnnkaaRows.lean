/-
  No cell of these rows narrows 'for every input' (looked for: loops, veiled, ifaces, maps, wideKeys, modest, calm, conditions, laid).
  DERIVED. THE GIVEN ROWS OF THIS SEAT. 8 by the template 'for every input the law returns true; each argument reads behind the call as it read before'; 0 by the template 'total and deterministic' (their statements: YtefohmjllcnnkaaTotals.lean).
  GIVEN WITH THE SEED: the statements are not yours to turn. If you find one false, say at which input.
  Laid BY PROGRAM, IN A SANDBOX (cutbox-rows.mjs): the forced cells as the released guide's own fill.sh prints them over the translation 8119f4989fb54d1c… (all of the seat's roots in one cut). By AI agents, Wed Nov 11 2026. No macro, syntax, notation, axiom, sorry.
-/
import Derived.Test.YtefohmjllcnnkaaChecked
import GoSem.Claim
import GoSem.ClaimJoined
import GoSem.ClaimMapViews
import Derived.JoinedTies
import Derived.KernelRfl
namespace Go.Proofs.Ytefohmjllcnnkaa
/- THE CELL 'sum', in the pinned program and in every row, IS THE sha256 OF THE DUMP (.gsa) THAT YtefohmjllcnnkaaProg.lean LOADS. Nothing in Lean hashes anything: it is a label: what it is worth is what the hold of that sum in a sandbox is worth. -/
noncomputable def Try.pinned : Pinned := { name := "ytefohmjllcnnkaa", sum := "8119f4989fb54d1ca0db07f7069aad1d59b80bc045f0f59d4575150dcdeeadc3", checked := Try.checked }
namespace Rows
def none {H : Type} : Left H := { results := [], args := [] }

/-- 'selvedgelaw04.PatchJoins': WHATEVER THE INPUT: true; the input reads as it did. -/
def patchJoinsSpec : ChangeSpec := { name := "patchJoins", fn := fun _ => fun
  | [d1, d2] => { results := [.lit (.bool true)], args := [d1, d2] }
  | _ => none }
def patchJoinsRow : OpenClaim := { program := "ytefohmjllcnnkaa", sum := "8119f4989fb54d1ca0db07f7069aad1d59b80bc045f0f59d4575150dcdeeadc3", func := "selvedge/selvedgelaw04.PatchJoins", spec := "patchJoins", apart := false }
def PatchJoinsSaid : Prop := patchJoinsRow.holds Try.pinned (OpenSpec.ofChange patchJoinsSpec)

/-- ITS FALSE NEIGHBOUR: 'it returns false'. Refute it at one input. -/
def patchJoinsWrong : ChangeSpec := { name := "patchJoins", fn := fun _ => fun
  | [d1, d2] => { results := [.lit (.bool false)], args := [d1, d2] }
  | _ => none }
def PatchJoinsWrongFalsely : Prop := patchJoinsRow.holds Try.pinned (OpenSpec.ofChange patchJoinsWrong)

/-- 'selvedgelaw04.PatchApplies': WHATEVER THE INPUT: true; the input reads as it did. -/
def patchAppliesSpec : ChangeSpec := { name := "patchApplies", fn := fun _ => fun
  | [d1, d2] => { results := [.lit (.bool true)], args := [d1, d2] }
  | _ => none }
def patchAppliesRow : OpenClaim := { program := "ytefohmjllcnnkaa", sum := "8119f4989fb54d1ca0db07f7069aad1d59b80bc045f0f59d4575150dcdeeadc3", func := "selvedge/selvedgelaw04.PatchApplies", spec := "patchApplies", apart := false }
def PatchAppliesSaid : Prop := patchAppliesRow.holds Try.pinned (OpenSpec.ofChange patchAppliesSpec)

/-- ITS FALSE NEIGHBOUR: 'it returns false'. Refute it at one input. -/
def patchAppliesWrong : ChangeSpec := { name := "patchApplies", fn := fun _ => fun
  | [d1, d2] => { results := [.lit (.bool false)], args := [d1, d2] }
  | _ => none }
def PatchAppliesWrongFalsely : Prop := patchAppliesRow.holds Try.pinned (OpenSpec.ofChange patchAppliesWrong)

/-- 'selvedgelaw04.PatchUndoes': WHATEVER THE INPUT: true; the input reads as it did. -/
def patchUndoesSpec : ChangeSpec := { name := "patchUndoes", fn := fun _ => fun
  | [d1, d2] => { results := [.lit (.bool true)], args := [d1, d2] }
  | _ => none }
def patchUndoesRow : OpenClaim := { program := "ytefohmjllcnnkaa", sum := "8119f4989fb54d1ca0db07f7069aad1d59b80bc045f0f59d4575150dcdeeadc3", func := "selvedge/selvedgelaw04.PatchUndoes", spec := "patchUndoes", apart := false }
def PatchUndoesSaid : Prop := patchUndoesRow.holds Try.pinned (OpenSpec.ofChange patchUndoesSpec)

/-- ITS FALSE NEIGHBOUR: 'it returns false'. Refute it at one input. -/
def patchUndoesWrong : ChangeSpec := { name := "patchUndoes", fn := fun _ => fun
  | [d1, d2] => { results := [.lit (.bool false)], args := [d1, d2] }
  | _ => none }
def PatchUndoesWrongFalsely : Prop := patchUndoesRow.holds Try.pinned (OpenSpec.ofChange patchUndoesWrong)

/-- 'selvedgelaw04.PatchAlls': WHATEVER THE INPUT: true; the input reads as it did. -/
def patchAllsSpec : ChangeSpec := { name := "patchAlls", fn := fun _ => fun
  | [d1, d2] => { results := [.lit (.bool true)], args := [d1, d2] }
  | _ => none }
def patchAllsRow : OpenClaim := { program := "ytefohmjllcnnkaa", sum := "8119f4989fb54d1ca0db07f7069aad1d59b80bc045f0f59d4575150dcdeeadc3", func := "selvedge/selvedgelaw04.PatchAlls", spec := "patchAlls", apart := false }
def PatchAllsSaid : Prop := patchAllsRow.holds Try.pinned (OpenSpec.ofChange patchAllsSpec)

/-- ITS FALSE NEIGHBOUR: 'it returns false'. Refute it at one input. -/
def patchAllsWrong : ChangeSpec := { name := "patchAlls", fn := fun _ => fun
  | [d1, d2] => { results := [.lit (.bool false)], args := [d1, d2] }
  | _ => none }
def PatchAllsWrongFalsely : Prop := patchAllsRow.holds Try.pinned (OpenSpec.ofChange patchAllsWrong)

/-- 'selvedgelaw04.PatchTwo': WHATEVER THE INPUT: true; the input reads as it did. -/
def patchTwoSpec : ChangeSpec := { name := "patchTwo", fn := fun _ => fun
  | [d1, d2, d3] => { results := [.lit (.bool true)], args := [d1, d2, d3] }
  | _ => none }
def patchTwoRow : OpenClaim := { program := "ytefohmjllcnnkaa", sum := "8119f4989fb54d1ca0db07f7069aad1d59b80bc045f0f59d4575150dcdeeadc3", func := "selvedge/selvedgelaw04.PatchTwo", spec := "patchTwo", apart := false }
def PatchTwoSaid : Prop := patchTwoRow.holds Try.pinned (OpenSpec.ofChange patchTwoSpec)

/-- ITS FALSE NEIGHBOUR: 'it returns false'. Refute it at one input. -/
def patchTwoWrong : ChangeSpec := { name := "patchTwo", fn := fun _ => fun
  | [d1, d2, d3] => { results := [.lit (.bool false)], args := [d1, d2, d3] }
  | _ => none }
def PatchTwoWrongFalsely : Prop := patchTwoRow.holds Try.pinned (OpenSpec.ofChange patchTwoWrong)

/-- 'selvedgelaw04.PatchDiffs': WHATEVER THE INPUT: true; the input reads as it did. -/
def patchDiffsSpec : ChangeSpec := { name := "patchDiffs", fn := fun _ => fun
  | [d1, d2, d3] => { results := [.lit (.bool true)], args := [d1, d2, d3] }
  | _ => none }
def patchDiffsRow : OpenClaim := { program := "ytefohmjllcnnkaa", sum := "8119f4989fb54d1ca0db07f7069aad1d59b80bc045f0f59d4575150dcdeeadc3", func := "selvedge/selvedgelaw04.PatchDiffs", spec := "patchDiffs", apart := false }
def PatchDiffsSaid : Prop := patchDiffsRow.holds Try.pinned (OpenSpec.ofChange patchDiffsSpec)

/-- ITS FALSE NEIGHBOUR: 'it returns false'. Refute it at one input. -/
def patchDiffsWrong : ChangeSpec := { name := "patchDiffs", fn := fun _ => fun
  | [d1, d2, d3] => { results := [.lit (.bool false)], args := [d1, d2, d3] }
  | _ => none }
def PatchDiffsWrongFalsely : Prop := patchDiffsRow.holds Try.pinned (OpenSpec.ofChange patchDiffsWrong)

/-- 'selvedgelaw04.PatchOrder': WHATEVER THE INPUT: true; the input reads as it did. -/
def patchOrderSpec : ChangeSpec := { name := "patchOrder", fn := fun _ => fun
  | [d1, d2, d3] => { results := [.lit (.bool true)], args := [d1, d2, d3] }
  | _ => none }
def patchOrderRow : OpenClaim := { program := "ytefohmjllcnnkaa", sum := "8119f4989fb54d1ca0db07f7069aad1d59b80bc045f0f59d4575150dcdeeadc3", func := "selvedge/selvedgelaw04.PatchOrder", spec := "patchOrder", apart := false }
def PatchOrderSaid : Prop := patchOrderRow.holds Try.pinned (OpenSpec.ofChange patchOrderSpec)

/-- ITS FALSE NEIGHBOUR: 'it returns false'. Refute it at one input. -/
def patchOrderWrong : ChangeSpec := { name := "patchOrder", fn := fun _ => fun
  | [d1, d2, d3] => { results := [.lit (.bool false)], args := [d1, d2, d3] }
  | _ => none }
def PatchOrderWrongFalsely : Prop := patchOrderRow.holds Try.pinned (OpenSpec.ofChange patchOrderWrong)

/-- 'selvedgelaw04.PatchMakes': WHATEVER THE INPUT: true; the input reads as it did. -/
def patchMakesSpec : ChangeSpec := { name := "patchMakes", fn := fun _ => fun
  | [d1, d2, d3] => { results := [.lit (.bool true)], args := [d1, d2, d3] }
  | _ => none }
def patchMakesRow : OpenClaim := { program := "ytefohmjllcnnkaa", sum := "8119f4989fb54d1ca0db07f7069aad1d59b80bc045f0f59d4575150dcdeeadc3", func := "selvedge/selvedgelaw04.PatchMakes", spec := "patchMakes", apart := false }
def PatchMakesSaid : Prop := patchMakesRow.holds Try.pinned (OpenSpec.ofChange patchMakesSpec)

/-- ITS FALSE NEIGHBOUR: 'it returns false'. Refute it at one input. -/
def patchMakesWrong : ChangeSpec := { name := "patchMakes", fn := fun _ => fun
  | [d1, d2, d3] => { results := [.lit (.bool false)], args := [d1, d2, d3] }
  | _ => none }
def PatchMakesWrongFalsely : Prop := patchMakesRow.holds Try.pinned (OpenSpec.ofChange patchMakesWrong)

/- THE SECOND FORM. 'bulk': how many values and letters a reading holds, each counted each time it is reached (what is shared counts as often as it is met; a slice's spare places count too). A statement '..UptoSaid' is the law's where the arguments, and the package variables that the reading takes, are together of bulk at most 1048576: NARROWER than '..Said'. Prove '..Said' where nothing that the law and all that it calls make is longer than what came in: it says more and counts as full. Else prove '..UptoSaid'. A law counts once. -/
mutual
def uptoBulk {H : Type} : DataW H → Nat
  | .lit (.string bytes) => bytes.length + 1
  | .lit _ => 1
  | .nil => 1
  | .ptr d => uptoBulk d + 1
  | .slice elems spare => uptoBulkAll elems + uptoBulkAll spare + 1
  | .agg parts => uptoBulkAll parts + 1
  | .iface _ d => uptoBulk d + 1
  | .map entries => uptoBulkEntries entries + 1
  | .held _ => 1
def uptoBulkAll {H : Type} : List (DataW H) → Nat
  | [] => 0
  | d :: r => uptoBulk d + uptoBulkAll r
def uptoBulkEntries {H : Type} : List (Lit × DataW H) → Nat
  | [] => 0
  | x :: r => uptoBulkEntry x + uptoBulkEntries r
def uptoBulkEntry {H : Type} : Lit × DataW H → Nat
  | (.string bytes, d) => bytes.length + uptoBulk d + 1
  | (_, d) => uptoBulk d + 1
 end
def uptoSmall : (H : Type) → List (DataW H) → Bool := fun _ ds => decide (uptoBulkAll ds ≤ 1048576)
def OpenSpec.upto (s : _root_.Go.ChangeSpec) : _root_.Go.OpenSpec := { _root_.Go.OpenSpec.ofChange s with cond := some uptoSmall }

/-- 'selvedgelaw04.PatchJoins', WHERE WHAT IT READS IS OF BULK AT MOST 1048576: true; the input reads as it did. -/
def patchJoinsUptoRow : OpenClaim := { program := "ytefohmjllcnnkaa", sum := "8119f4989fb54d1ca0db07f7069aad1d59b80bc045f0f59d4575150dcdeeadc3", func := "selvedge/selvedgelaw04.PatchJoins", spec := "patchJoins", apart := false, narrowed := true }
def PatchJoinsUptoSaid : Prop := patchJoinsUptoRow.holds Try.pinned (OpenSpec.upto patchJoinsSpec)

/-- 'selvedgelaw04.PatchApplies', WHERE WHAT IT READS IS OF BULK AT MOST 1048576: true; the input reads as it did. -/
def patchAppliesUptoRow : OpenClaim := { program := "ytefohmjllcnnkaa", sum := "8119f4989fb54d1ca0db07f7069aad1d59b80bc045f0f59d4575150dcdeeadc3", func := "selvedge/selvedgelaw04.PatchApplies", spec := "patchApplies", apart := false, narrowed := true }
def PatchAppliesUptoSaid : Prop := patchAppliesUptoRow.holds Try.pinned (OpenSpec.upto patchAppliesSpec)

/-- 'selvedgelaw04.PatchUndoes', WHERE WHAT IT READS IS OF BULK AT MOST 1048576: true; the input reads as it did. -/
def patchUndoesUptoRow : OpenClaim := { program := "ytefohmjllcnnkaa", sum := "8119f4989fb54d1ca0db07f7069aad1d59b80bc045f0f59d4575150dcdeeadc3", func := "selvedge/selvedgelaw04.PatchUndoes", spec := "patchUndoes", apart := false, narrowed := true }
def PatchUndoesUptoSaid : Prop := patchUndoesUptoRow.holds Try.pinned (OpenSpec.upto patchUndoesSpec)

/-- 'selvedgelaw04.PatchAlls', WHERE WHAT IT READS IS OF BULK AT MOST 1048576: true; the input reads as it did. -/
def patchAllsUptoRow : OpenClaim := { program := "ytefohmjllcnnkaa", sum := "8119f4989fb54d1ca0db07f7069aad1d59b80bc045f0f59d4575150dcdeeadc3", func := "selvedge/selvedgelaw04.PatchAlls", spec := "patchAlls", apart := false, narrowed := true }
def PatchAllsUptoSaid : Prop := patchAllsUptoRow.holds Try.pinned (OpenSpec.upto patchAllsSpec)

/-- 'selvedgelaw04.PatchTwo', WHERE WHAT IT READS IS OF BULK AT MOST 1048576: true; the input reads as it did. -/
def patchTwoUptoRow : OpenClaim := { program := "ytefohmjllcnnkaa", sum := "8119f4989fb54d1ca0db07f7069aad1d59b80bc045f0f59d4575150dcdeeadc3", func := "selvedge/selvedgelaw04.PatchTwo", spec := "patchTwo", apart := false, narrowed := true }
def PatchTwoUptoSaid : Prop := patchTwoUptoRow.holds Try.pinned (OpenSpec.upto patchTwoSpec)

/-- 'selvedgelaw04.PatchDiffs', WHERE WHAT IT READS IS OF BULK AT MOST 1048576: true; the input reads as it did. -/
def patchDiffsUptoRow : OpenClaim := { program := "ytefohmjllcnnkaa", sum := "8119f4989fb54d1ca0db07f7069aad1d59b80bc045f0f59d4575150dcdeeadc3", func := "selvedge/selvedgelaw04.PatchDiffs", spec := "patchDiffs", apart := false, narrowed := true }
def PatchDiffsUptoSaid : Prop := patchDiffsUptoRow.holds Try.pinned (OpenSpec.upto patchDiffsSpec)

/-- 'selvedgelaw04.PatchOrder', WHERE WHAT IT READS IS OF BULK AT MOST 1048576: true; the input reads as it did. -/
def patchOrderUptoRow : OpenClaim := { program := "ytefohmjllcnnkaa", sum := "8119f4989fb54d1ca0db07f7069aad1d59b80bc045f0f59d4575150dcdeeadc3", func := "selvedge/selvedgelaw04.PatchOrder", spec := "patchOrder", apart := false, narrowed := true }
def PatchOrderUptoSaid : Prop := patchOrderUptoRow.holds Try.pinned (OpenSpec.upto patchOrderSpec)

/-- 'selvedgelaw04.PatchMakes', WHERE WHAT IT READS IS OF BULK AT MOST 1048576: true; the input reads as it did. -/
def patchMakesUptoRow : OpenClaim := { program := "ytefohmjllcnnkaa", sum := "8119f4989fb54d1ca0db07f7069aad1d59b80bc045f0f59d4575150dcdeeadc3", func := "selvedge/selvedgelaw04.PatchMakes", spec := "patchMakes", apart := false, narrowed := true }
def PatchMakesUptoSaid : Prop := patchMakesUptoRow.holds Try.pinned (OpenSpec.upto patchMakesSpec)

end Rows
end Go.Proofs.Ytefohmjllcnnkaa
