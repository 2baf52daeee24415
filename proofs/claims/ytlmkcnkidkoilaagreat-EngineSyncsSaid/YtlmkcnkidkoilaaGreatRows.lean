/-
  No cell of these rows narrows 'for every input' (looked for: loops, veiled, ifaces, maps, wideKeys, modest, calm, conditions, laid).
  DERIVED. THE GIVEN ROWS OF THIS SEAT. 5 by the template 'for every input the law returns true; each argument reads behind the call as it read before'; 0 by the template 'total and deterministic' (their statements: YtlmkcnkidkoilaaGreatTotals.lean).
  GIVEN WITH THE SEED: the statements are not yours to turn. If you find one false, say at which input.
  Laid BY PROGRAM, IN A SANDBOX (cutbox-rows.mjs): the forced cells as the released guide's own fill.sh prints them over the translation 64b64cd142bf5f40… (all of the seat's roots in one cut). By AI agents, Wed Nov 11 2026. No macro, syntax, notation, axiom, sorry.
-/
import Derived.Test.YtlmkcnkidkoilaaGreatChecked
import GoSem.Claim
import GoSem.ClaimJoined
import GoSem.ClaimMapViews
import Derived.JoinedTies
import Derived.KernelRfl
namespace Go.Proofs.YtlmkcnkidkoilaaGreat
/- THE CELL 'sum', in the pinned program and in every row, IS THE sha256 OF THE DUMP (.gsa) THAT YtlmkcnkidkoilaaGreatProg.lean LOADS. Nothing in Lean hashes anything: it is a label: what it is worth is what the hold of that sum in a sandbox is worth. -/
noncomputable def Tryz.pinned : Pinned := { name := "ytlmkcnkidkoilaagreat", sum := "64b64cd142bf5f40f0a4518131982e7a932f0e9f79a58d331182b8d2af8c9bb1", checked := Tryz.checked }
namespace Rows
def none {H : Type} : Left H := { results := [], args := [] }

/-- 'selvedgelaw07.EngineBlock': WHATEVER THE INPUT: true; the input reads as it did. -/
def engineBlockSpec : ChangeSpec := { name := "engineBlock", fn := fun _ => fun
  | [d1, d2] => { results := [.lit (.bool true)], args := [d1, d2] }
  | _ => none }
def engineBlockRow : OpenClaim := { program := "ytlmkcnkidkoilaagreat", sum := "64b64cd142bf5f40f0a4518131982e7a932f0e9f79a58d331182b8d2af8c9bb1", func := "selvedge/selvedgelaw07.EngineBlock", spec := "engineBlock", inPlace := ["maps.clone"], unfollowed := true, recurses := true, apart := false }
def EngineBlockSaid : Prop := engineBlockRow.holds Tryz.pinned (OpenSpec.ofChange engineBlockSpec)

/-- ITS FALSE NEIGHBOUR: 'it returns false'. Refute it at one input. -/
def engineBlockWrong : ChangeSpec := { name := "engineBlock", fn := fun _ => fun
  | [d1, d2] => { results := [.lit (.bool false)], args := [d1, d2] }
  | _ => none }
def EngineBlockWrongFalsely : Prop := engineBlockRow.holds Tryz.pinned (OpenSpec.ofChange engineBlockWrong)

/-- 'selvedgelaw07.EngineSyncs': WHATEVER THE INPUT: true; the input reads as it did. -/
def engineSyncsSpec : ChangeSpec := { name := "engineSyncs", fn := fun _ => fun
  | [d1, d2] => { results := [.lit (.bool true)], args := [d1, d2] }
  | _ => none }
def engineSyncsRow : OpenClaim := { program := "ytlmkcnkidkoilaagreat", sum := "64b64cd142bf5f40f0a4518131982e7a932f0e9f79a58d331182b8d2af8c9bb1", func := "selvedge/selvedgelaw07.EngineSyncs", spec := "engineSyncs", inPlace := ["maps.clone"], unfollowed := true, recurses := true, apart := false }
def EngineSyncsSaid : Prop := engineSyncsRow.holds Tryz.pinned (OpenSpec.ofChange engineSyncsSpec)

/-- ITS FALSE NEIGHBOUR: 'it returns false'. Refute it at one input. -/
def engineSyncsWrong : ChangeSpec := { name := "engineSyncs", fn := fun _ => fun
  | [d1, d2] => { results := [.lit (.bool false)], args := [d1, d2] }
  | _ => none }
def EngineSyncsWrongFalsely : Prop := engineSyncsRow.holds Tryz.pinned (OpenSpec.ofChange engineSyncsWrong)

/-- 'selvedgelaw07.EnginePlays': WHATEVER THE INPUT: true; the input reads as it did. -/
def enginePlaysSpec : ChangeSpec := { name := "enginePlays", fn := fun _ => fun
  | [d1, d2] => { results := [.lit (.bool true)], args := [d1, d2] }
  | _ => none }
def enginePlaysRow : OpenClaim := { program := "ytlmkcnkidkoilaagreat", sum := "64b64cd142bf5f40f0a4518131982e7a932f0e9f79a58d331182b8d2af8c9bb1", func := "selvedge/selvedgelaw07.EnginePlays", spec := "enginePlays", inPlace := ["maps.clone"], unfollowed := true, recurses := true, apart := false }
def EnginePlaysSaid : Prop := enginePlaysRow.holds Tryz.pinned (OpenSpec.ofChange enginePlaysSpec)

/-- ITS FALSE NEIGHBOUR: 'it returns false'. Refute it at one input. -/
def enginePlaysWrong : ChangeSpec := { name := "enginePlays", fn := fun _ => fun
  | [d1, d2] => { results := [.lit (.bool false)], args := [d1, d2] }
  | _ => none }
def EnginePlaysWrongFalsely : Prop := enginePlaysRow.holds Tryz.pinned (OpenSpec.ofChange enginePlaysWrong)

/-- 'selvedgelaw07.EngineRefuses': WHATEVER THE INPUT: true; the input reads as it did. -/
def engineRefusesSpec : ChangeSpec := { name := "engineRefuses", fn := fun _ => fun
  | [d1, d2] => { results := [.lit (.bool true)], args := [d1, d2] }
  | _ => none }
def engineRefusesRow : OpenClaim := { program := "ytlmkcnkidkoilaagreat", sum := "64b64cd142bf5f40f0a4518131982e7a932f0e9f79a58d331182b8d2af8c9bb1", func := "selvedge/selvedgelaw07.EngineRefuses", spec := "engineRefuses", inPlace := ["maps.clone"], unfollowed := true, recurses := true, apart := false }
def EngineRefusesSaid : Prop := engineRefusesRow.holds Tryz.pinned (OpenSpec.ofChange engineRefusesSpec)

/-- ITS FALSE NEIGHBOUR: 'it returns false'. Refute it at one input. -/
def engineRefusesWrong : ChangeSpec := { name := "engineRefuses", fn := fun _ => fun
  | [d1, d2] => { results := [.lit (.bool false)], args := [d1, d2] }
  | _ => none }
def EngineRefusesWrongFalsely : Prop := engineRefusesRow.holds Tryz.pinned (OpenSpec.ofChange engineRefusesWrong)

/-- 'selvedgelaw07.EngineForks': WHATEVER THE INPUT: true; the input reads as it did. -/
def engineForksSpec : ChangeSpec := { name := "engineForks", fn := fun _ => fun
  | [d1, d2, d3] => { results := [.lit (.bool true)], args := [d1, d2, d3] }
  | _ => none }
def engineForksRow : OpenClaim := { program := "ytlmkcnkidkoilaagreat", sum := "64b64cd142bf5f40f0a4518131982e7a932f0e9f79a58d331182b8d2af8c9bb1", func := "selvedge/selvedgelaw07.EngineForks", spec := "engineForks", inPlace := ["maps.clone"], unfollowed := true, recurses := true, apart := false }
def EngineForksSaid : Prop := engineForksRow.holds Tryz.pinned (OpenSpec.ofChange engineForksSpec)

/-- ITS FALSE NEIGHBOUR: 'it returns false'. Refute it at one input. -/
def engineForksWrong : ChangeSpec := { name := "engineForks", fn := fun _ => fun
  | [d1, d2, d3] => { results := [.lit (.bool false)], args := [d1, d2, d3] }
  | _ => none }
def EngineForksWrongFalsely : Prop := engineForksRow.holds Tryz.pinned (OpenSpec.ofChange engineForksWrong)

/- THE SECOND FORM. 'bulk': how many values and letters a reading holds, each counted each time it is reached (what is shared counts as often as it is met; a slice's spare places count too). A statement '..UptoSaid' is the law's where the arguments, and the package variables that the reading takes, are together of bulk at most 1048576: NARROWER than '..Said'. Prove '..Said' where nothing that the law and all that it calls make is longer than what came in: it says more and counts as full. Else prove '..UptoSaid'. A law counts once. -/
mutual
def uptoBulk {H : Type} : DataW H → Nat
  | .lit (.string bytes) => bytes.length + 1
  | .lit _ => 1
  | .nil => 1
  | .ptr d => uptoBulk d + 1
  | .slice elems spare => uptoBulkAll elems + uptoBulkAll spare + 1
  | .agg parts => uptoBulkAll parts + 1
  | .iface _ d => uptoBulk d + 1
  | .map entries => uptoBulkEntries entries + 1
  | .held _ => 1
def uptoBulkAll {H : Type} : List (DataW H) → Nat
  | [] => 0
  | d :: r => uptoBulk d + uptoBulkAll r
def uptoBulkEntries {H : Type} : List (Lit × DataW H) → Nat
  | [] => 0
  | x :: r => uptoBulkEntry x + uptoBulkEntries r
def uptoBulkEntry {H : Type} : Lit × DataW H → Nat
  | (.string bytes, d) => bytes.length + uptoBulk d + 1
  | (_, d) => uptoBulk d + 1
 end
def uptoSmall : (H : Type) → List (DataW H) → Bool := fun _ ds => decide (uptoBulkAll ds ≤ 1048576)
def OpenSpec.upto (s : _root_.Go.ChangeSpec) : _root_.Go.OpenSpec := { _root_.Go.OpenSpec.ofChange s with cond := some uptoSmall }

/-- 'selvedgelaw07.EngineBlock', WHERE WHAT IT READS IS OF BULK AT MOST 1048576: true; the input reads as it did. -/
def engineBlockUptoRow : OpenClaim := { program := "ytlmkcnkidkoilaagreat", sum := "64b64cd142bf5f40f0a4518131982e7a932f0e9f79a58d331182b8d2af8c9bb1", func := "selvedge/selvedgelaw07.EngineBlock", spec := "engineBlock", inPlace := ["maps.clone"], unfollowed := true, recurses := true, apart := false, narrowed := true }
def EngineBlockUptoSaid : Prop := engineBlockUptoRow.holds Tryz.pinned (OpenSpec.upto engineBlockSpec)

/-- 'selvedgelaw07.EngineSyncs', WHERE WHAT IT READS IS OF BULK AT MOST 1048576: true; the input reads as it did. -/
def engineSyncsUptoRow : OpenClaim := { program := "ytlmkcnkidkoilaagreat", sum := "64b64cd142bf5f40f0a4518131982e7a932f0e9f79a58d331182b8d2af8c9bb1", func := "selvedge/selvedgelaw07.EngineSyncs", spec := "engineSyncs", inPlace := ["maps.clone"], unfollowed := true, recurses := true, apart := false, narrowed := true }
def EngineSyncsUptoSaid : Prop := engineSyncsUptoRow.holds Tryz.pinned (OpenSpec.upto engineSyncsSpec)

/-- 'selvedgelaw07.EnginePlays', WHERE WHAT IT READS IS OF BULK AT MOST 1048576: true; the input reads as it did. -/
def enginePlaysUptoRow : OpenClaim := { program := "ytlmkcnkidkoilaagreat", sum := "64b64cd142bf5f40f0a4518131982e7a932f0e9f79a58d331182b8d2af8c9bb1", func := "selvedge/selvedgelaw07.EnginePlays", spec := "enginePlays", inPlace := ["maps.clone"], unfollowed := true, recurses := true, apart := false, narrowed := true }
def EnginePlaysUptoSaid : Prop := enginePlaysUptoRow.holds Tryz.pinned (OpenSpec.upto enginePlaysSpec)

/-- 'selvedgelaw07.EngineRefuses', WHERE WHAT IT READS IS OF BULK AT MOST 1048576: true; the input reads as it did. -/
def engineRefusesUptoRow : OpenClaim := { program := "ytlmkcnkidkoilaagreat", sum := "64b64cd142bf5f40f0a4518131982e7a932f0e9f79a58d331182b8d2af8c9bb1", func := "selvedge/selvedgelaw07.EngineRefuses", spec := "engineRefuses", inPlace := ["maps.clone"], unfollowed := true, recurses := true, apart := false, narrowed := true }
def EngineRefusesUptoSaid : Prop := engineRefusesUptoRow.holds Tryz.pinned (OpenSpec.upto engineRefusesSpec)

/-- 'selvedgelaw07.EngineForks', WHERE WHAT IT READS IS OF BULK AT MOST 1048576: true; the input reads as it did. -/
def engineForksUptoRow : OpenClaim := { program := "ytlmkcnkidkoilaagreat", sum := "64b64cd142bf5f40f0a4518131982e7a932f0e9f79a58d331182b8d2af8c9bb1", func := "selvedge/selvedgelaw07.EngineForks", spec := "engineForks", inPlace := ["maps.clone"], unfollowed := true, recurses := true, apart := false, narrowed := true }
def EngineForksUptoSaid : Prop := engineForksUptoRow.holds Tryz.pinned (OpenSpec.upto engineForksSpec)

end Rows
end Go.Proofs.YtlmkcnkidkoilaaGreat
