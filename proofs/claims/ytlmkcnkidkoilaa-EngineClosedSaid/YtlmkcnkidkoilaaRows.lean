/-
  No cell of these rows narrows 'for every input' (looked for: loops, veiled, ifaces, maps, wideKeys, modest, calm, conditions, laid).
  DERIVED. THE GIVEN ROWS OF THIS SEAT. 3 by the template 'for every input the law returns true; each argument reads behind the call as it read before'; 0 by the template 'total and deterministic' (their statements: YtlmkcnkidkoilaaTotals.lean).
  GIVEN WITH THE SEED: the statements are not yours to turn. If you find one false, say at which input.
  Laid BY PROGRAM, IN A SANDBOX (cutbox-rows.mjs): the forced cells as the released guide's own fill.sh prints them over the translation afbed2154aca4361… (all of the seat's roots in one cut). By AI agents, Wed Nov 11 2026. No macro, syntax, notation, axiom, sorry.
-/
import Derived.Test.YtlmkcnkidkoilaaChecked
import GoSem.Claim
import GoSem.ClaimJoined
import GoSem.ClaimMapViews
import Derived.JoinedTies
import Derived.KernelRfl
namespace Go.Proofs.Ytlmkcnkidkoilaa
/- THE CELL 'sum', in the pinned program and in every row, IS THE sha256 OF THE DUMP (.gsa) THAT YtlmkcnkidkoilaaProg.lean LOADS. Nothing in Lean hashes anything: it is a label: what it is worth is what the hold of that sum in a sandbox is worth. -/
noncomputable def Try.pinned : Pinned := { name := "ytlmkcnkidkoilaa", sum := "afbed2154aca43614d7cdd46b9d56c9ac78d5e6df02b00df5de2d3af4ed3b4b9", checked := Try.checked }
namespace Rows
def none {H : Type} : Left H := { results := [], args := [] }

/-- 'selvedgelaw07.EngineBehind': WHATEVER THE INPUT: true; the input reads as it did. -/
def engineBehindSpec : ChangeSpec := { name := "engineBehind", fn := fun _ => fun
  | [d1, d2] => { results := [.lit (.bool true)], args := [d1, d2] }
  | _ => none }
def engineBehindRow : OpenClaim := { program := "ytlmkcnkidkoilaa", sum := "afbed2154aca43614d7cdd46b9d56c9ac78d5e6df02b00df5de2d3af4ed3b4b9", func := "selvedge/selvedgelaw07.EngineBehind", spec := "engineBehind", inPlace := ["maps.clone"], unfollowed := true, recurses := true, apart := false }
def EngineBehindSaid : Prop := engineBehindRow.holds Try.pinned (OpenSpec.ofChange engineBehindSpec)

/-- ITS FALSE NEIGHBOUR: 'it returns false'. Refute it at one input. -/
def engineBehindWrong : ChangeSpec := { name := "engineBehind", fn := fun _ => fun
  | [d1, d2] => { results := [.lit (.bool false)], args := [d1, d2] }
  | _ => none }
def EngineBehindWrongFalsely : Prop := engineBehindRow.holds Try.pinned (OpenSpec.ofChange engineBehindWrong)

/-- 'selvedgelaw07.EngineClosed': WHATEVER THE INPUT: true; the input reads as it did. -/
def engineClosedSpec : ChangeSpec := { name := "engineClosed", fn := fun _ => fun
  | [d1, d2, d3] => { results := [.lit (.bool true)], args := [d1, d2, d3] }
  | _ => none }
def engineClosedRow : OpenClaim := { program := "ytlmkcnkidkoilaa", sum := "afbed2154aca43614d7cdd46b9d56c9ac78d5e6df02b00df5de2d3af4ed3b4b9", func := "selvedge/selvedgelaw07.EngineClosed", spec := "engineClosed", inPlace := ["maps.clone"], unfollowed := true, recurses := true, apart := false }
def EngineClosedSaid : Prop := engineClosedRow.holds Try.pinned (OpenSpec.ofChange engineClosedSpec)

/-- ITS FALSE NEIGHBOUR: 'it returns false'. Refute it at one input. -/
def engineClosedWrong : ChangeSpec := { name := "engineClosed", fn := fun _ => fun
  | [d1, d2, d3] => { results := [.lit (.bool false)], args := [d1, d2, d3] }
  | _ => none }
def EngineClosedWrongFalsely : Prop := engineClosedRow.holds Try.pinned (OpenSpec.ofChange engineClosedWrong)

/-- 'selvedgelaw07.EngineNone': WHATEVER THE INPUT: true; the input reads as it did. -/
def engineNoneSpec : ChangeSpec := { name := "engineNone", fn := fun _ => fun
  | [d] => { results := [.lit (.bool true)], args := [d] }
  | _ => none }
def engineNoneRow : OpenClaim := { program := "ytlmkcnkidkoilaa", sum := "afbed2154aca43614d7cdd46b9d56c9ac78d5e6df02b00df5de2d3af4ed3b4b9", func := "selvedge/selvedgelaw07.EngineNone", spec := "engineNone", inPlace := ["maps.clone"], unfollowed := true, recurses := true, apart := false }
def EngineNoneSaid : Prop := engineNoneRow.holds Try.pinned (OpenSpec.ofChange engineNoneSpec)

/-- ITS FALSE NEIGHBOUR: 'it returns false'. Refute it at one input. -/
def engineNoneWrong : ChangeSpec := { name := "engineNone", fn := fun _ => fun
  | [d] => { results := [.lit (.bool false)], args := [d] }
  | _ => none }
def EngineNoneWrongFalsely : Prop := engineNoneRow.holds Try.pinned (OpenSpec.ofChange engineNoneWrong)

/- THE SECOND FORM. 'bulk': how many values and letters a reading holds, each counted each time it is reached (what is shared counts as often as it is met; a slice's spare places count too). A statement '..UptoSaid' is the law's where the arguments, and the package variables that the reading takes, are together of bulk at most 1048576: NARROWER than '..Said'. Prove '..Said' where nothing that the law and all that it calls make is longer than what came in: it says more and counts as full. Else prove '..UptoSaid'. A law counts once. -/
mutual
def uptoBulk {H : Type} : DataW H → Nat
  | .lit (.string bytes) => bytes.length + 1
  | .lit _ => 1
  | .nil => 1
  | .ptr d => uptoBulk d + 1
  | .slice elems spare => uptoBulkAll elems + uptoBulkAll spare + 1
  | .agg parts => uptoBulkAll parts + 1
  | .iface _ d => uptoBulk d + 1
  | .map entries => uptoBulkEntries entries + 1
  | .held _ => 1
def uptoBulkAll {H : Type} : List (DataW H) → Nat
  | [] => 0
  | d :: r => uptoBulk d + uptoBulkAll r
def uptoBulkEntries {H : Type} : List (Lit × DataW H) → Nat
  | [] => 0
  | x :: r => uptoBulkEntry x + uptoBulkEntries r
def uptoBulkEntry {H : Type} : Lit × DataW H → Nat
  | (.string bytes, d) => bytes.length + uptoBulk d + 1
  | (_, d) => uptoBulk d + 1
 end
def uptoSmall : (H : Type) → List (DataW H) → Bool := fun _ ds => decide (uptoBulkAll ds ≤ 1048576)
def OpenSpec.upto (s : _root_.Go.ChangeSpec) : _root_.Go.OpenSpec := { _root_.Go.OpenSpec.ofChange s with cond := some uptoSmall }

/-- 'selvedgelaw07.EngineBehind', WHERE WHAT IT READS IS OF BULK AT MOST 1048576: true; the input reads as it did. -/
def engineBehindUptoRow : OpenClaim := { program := "ytlmkcnkidkoilaa", sum := "afbed2154aca43614d7cdd46b9d56c9ac78d5e6df02b00df5de2d3af4ed3b4b9", func := "selvedge/selvedgelaw07.EngineBehind", spec := "engineBehind", inPlace := ["maps.clone"], unfollowed := true, recurses := true, apart := false, narrowed := true }
def EngineBehindUptoSaid : Prop := engineBehindUptoRow.holds Try.pinned (OpenSpec.upto engineBehindSpec)

/-- 'selvedgelaw07.EngineClosed', WHERE WHAT IT READS IS OF BULK AT MOST 1048576: true; the input reads as it did. -/
def engineClosedUptoRow : OpenClaim := { program := "ytlmkcnkidkoilaa", sum := "afbed2154aca43614d7cdd46b9d56c9ac78d5e6df02b00df5de2d3af4ed3b4b9", func := "selvedge/selvedgelaw07.EngineClosed", spec := "engineClosed", inPlace := ["maps.clone"], unfollowed := true, recurses := true, apart := false, narrowed := true }
def EngineClosedUptoSaid : Prop := engineClosedUptoRow.holds Try.pinned (OpenSpec.upto engineClosedSpec)

/-- 'selvedgelaw07.EngineNone', WHERE WHAT IT READS IS OF BULK AT MOST 1048576: true; the input reads as it did. -/
def engineNoneUptoRow : OpenClaim := { program := "ytlmkcnkidkoilaa", sum := "afbed2154aca43614d7cdd46b9d56c9ac78d5e6df02b00df5de2d3af4ed3b4b9", func := "selvedge/selvedgelaw07.EngineNone", spec := "engineNone", inPlace := ["maps.clone"], unfollowed := true, recurses := true, apart := false, narrowed := true }
def EngineNoneUptoSaid : Prop := engineNoneUptoRow.holds Try.pinned (OpenSpec.upto engineNoneSpec)

end Rows
end Go.Proofs.Ytlmkcnkidkoilaa
