/-
  No cell of these rows narrows 'for every input' (looked for: loops, veiled, ifaces, maps, wideKeys, modest, calm, conditions, laid).
  DERIVED. THE GIVEN ROWS OF THIS SEAT. 8 by the template 'for every input the law returns true; each argument reads behind the call as it read before'; 0 by the template 'total and deterministic' (their statements: YtdcbfdepkbplbaaTotals.lean).
  GIVEN WITH THE SEED: the statements are not yours to turn. If you find one false, say at which input.
  Laid BY PROGRAM, IN A SANDBOX (cutbox-rows.mjs): the forced cells as the released guide's own fill.sh prints them over the translation 11c8b7b0e3316ac3… (all of the seat's roots in one cut). By AI agents, Wed Nov 11 2026. No macro, syntax, notation, axiom, sorry.
-/
import Derived.Test.YtdcbfdepkbplbaaChecked
import GoSem.Claim
import GoSem.ClaimJoined
import GoSem.ClaimMapViews
import Derived.JoinedTies
import Derived.KernelRfl
namespace Go.Proofs.Ytdcbfdepkbplbaa
/- THE CELL 'sum', in the pinned program and in every row, IS THE sha256 OF THE DUMP (.gsa) THAT YtdcbfdepkbplbaaProg.lean LOADS. Nothing in Lean hashes anything: it is a label: what it is worth is what the hold of that sum in a sandbox is worth. -/
noncomputable def Try.pinned : Pinned := { name := "ytdcbfdepkbplbaa", sum := "11c8b7b0e3316ac36c0609dd75b4df5eeb563c08b2bf0d150f2180cf83340bc3", checked := Try.checked }
namespace Rows
def none {H : Type} : Left H := { results := [], args := [] }

/-- 'selvedgelaw17.StackNeeds': WHATEVER THE INPUT: true; the input reads as it did. -/
def stackNeedsSpec : ChangeSpec := { name := "stackNeeds", fn := fun _ => fun
  | [d1, d2, d3] => { results := [.lit (.bool true)], args := [d1, d2, d3] }
  | _ => none }
def stackNeedsRow : OpenClaim := { program := "ytdcbfdepkbplbaa", sum := "11c8b7b0e3316ac36c0609dd75b4df5eeb563c08b2bf0d150f2180cf83340bc3", func := "selvedge/selvedgelaw17.StackNeeds", spec := "stackNeeds", unfollowed := true, recurses := true, apart := false }
def StackNeedsSaid : Prop := stackNeedsRow.holds Try.pinned (OpenSpec.ofChange stackNeedsSpec)

/-- ITS FALSE NEIGHBOUR: 'it returns false'. Refute it at one input. -/
def stackNeedsWrong : ChangeSpec := { name := "stackNeeds", fn := fun _ => fun
  | [d1, d2, d3] => { results := [.lit (.bool false)], args := [d1, d2, d3] }
  | _ => none }
def StackNeedsWrongFalsely : Prop := stackNeedsRow.holds Try.pinned (OpenSpec.ofChange stackNeedsWrong)

/-- 'selvedgelaw17.StackWhole': WHATEVER THE INPUT: true; the input reads as it did. -/
def stackWholeSpec : ChangeSpec := { name := "stackWhole", fn := fun _ => fun
  | [d1, d2, d3] => { results := [.lit (.bool true)], args := [d1, d2, d3] }
  | _ => none }
def stackWholeRow : OpenClaim := { program := "ytdcbfdepkbplbaa", sum := "11c8b7b0e3316ac36c0609dd75b4df5eeb563c08b2bf0d150f2180cf83340bc3", func := "selvedge/selvedgelaw17.StackWhole", spec := "stackWhole", unfollowed := true, recurses := true, apart := false }
def StackWholeSaid : Prop := stackWholeRow.holds Try.pinned (OpenSpec.ofChange stackWholeSpec)

/-- ITS FALSE NEIGHBOUR: 'it returns false'. Refute it at one input. -/
def stackWholeWrong : ChangeSpec := { name := "stackWhole", fn := fun _ => fun
  | [d1, d2, d3] => { results := [.lit (.bool false)], args := [d1, d2, d3] }
  | _ => none }
def StackWholeWrongFalsely : Prop := stackWholeRow.holds Try.pinned (OpenSpec.ofChange stackWholeWrong)

/-- 'selvedgelaw17.StackPlays': WHATEVER THE INPUT: true; the input reads as it did. -/
def stackPlaysSpec : ChangeSpec := { name := "stackPlays", fn := fun _ => fun
  | [d1, d2] => { results := [.lit (.bool true)], args := [d1, d2] }
  | _ => none }
def stackPlaysRow : OpenClaim := { program := "ytdcbfdepkbplbaa", sum := "11c8b7b0e3316ac36c0609dd75b4df5eeb563c08b2bf0d150f2180cf83340bc3", func := "selvedge/selvedgelaw17.StackPlays", spec := "stackPlays", unfollowed := true, recurses := true, apart := false }
def StackPlaysSaid : Prop := stackPlaysRow.holds Try.pinned (OpenSpec.ofChange stackPlaysSpec)

/-- ITS FALSE NEIGHBOUR: 'it returns false'. Refute it at one input. -/
def stackPlaysWrong : ChangeSpec := { name := "stackPlays", fn := fun _ => fun
  | [d1, d2] => { results := [.lit (.bool false)], args := [d1, d2] }
  | _ => none }
def StackPlaysWrongFalsely : Prop := stackPlaysRow.holds Try.pinned (OpenSpec.ofChange stackPlaysWrong)

/-- 'selvedgelaw17.StackRolls': WHATEVER THE INPUT: true; the input reads as it did. -/
def stackRollsSpec : ChangeSpec := { name := "stackRolls", fn := fun _ => fun
  | [d1, d2, d3] => { results := [.lit (.bool true)], args := [d1, d2, d3] }
  | _ => none }
def stackRollsRow : OpenClaim := { program := "ytdcbfdepkbplbaa", sum := "11c8b7b0e3316ac36c0609dd75b4df5eeb563c08b2bf0d150f2180cf83340bc3", func := "selvedge/selvedgelaw17.StackRolls", spec := "stackRolls", unfollowed := true, recurses := true, apart := false }
def StackRollsSaid : Prop := stackRollsRow.holds Try.pinned (OpenSpec.ofChange stackRollsSpec)

/-- ITS FALSE NEIGHBOUR: 'it returns false'. Refute it at one input. -/
def stackRollsWrong : ChangeSpec := { name := "stackRolls", fn := fun _ => fun
  | [d1, d2, d3] => { results := [.lit (.bool false)], args := [d1, d2, d3] }
  | _ => none }
def StackRollsWrongFalsely : Prop := stackRollsRow.holds Try.pinned (OpenSpec.ofChange stackRollsWrong)

/-- 'selvedgelaw17.StackPops': WHATEVER THE INPUT: true; the input reads as it did. -/
def stackPopsSpec : ChangeSpec := { name := "stackPops", fn := fun _ => fun
  | [d1, d2, d3] => { results := [.lit (.bool true)], args := [d1, d2, d3] }
  | _ => none }
def stackPopsRow : OpenClaim := { program := "ytdcbfdepkbplbaa", sum := "11c8b7b0e3316ac36c0609dd75b4df5eeb563c08b2bf0d150f2180cf83340bc3", func := "selvedge/selvedgelaw17.StackPops", spec := "stackPops", unfollowed := true, recurses := true, apart := false }
def StackPopsSaid : Prop := stackPopsRow.holds Try.pinned (OpenSpec.ofChange stackPopsSpec)

/-- ITS FALSE NEIGHBOUR: 'it returns false'. Refute it at one input. -/
def stackPopsWrong : ChangeSpec := { name := "stackPops", fn := fun _ => fun
  | [d1, d2, d3] => { results := [.lit (.bool false)], args := [d1, d2, d3] }
  | _ => none }
def StackPopsWrongFalsely : Prop := stackPopsRow.holds Try.pinned (OpenSpec.ofChange stackPopsWrong)

/-- 'selvedgelaw17.StackSettles': WHATEVER THE INPUT: true; the input reads as it did. -/
def stackSettlesSpec : ChangeSpec := { name := "stackSettles", fn := fun _ => fun
  | [d1, d2] => { results := [.lit (.bool true)], args := [d1, d2] }
  | _ => none }
def stackSettlesRow : OpenClaim := { program := "ytdcbfdepkbplbaa", sum := "11c8b7b0e3316ac36c0609dd75b4df5eeb563c08b2bf0d150f2180cf83340bc3", func := "selvedge/selvedgelaw17.StackSettles", spec := "stackSettles", unfollowed := true, recurses := true, apart := false }
def StackSettlesSaid : Prop := stackSettlesRow.holds Try.pinned (OpenSpec.ofChange stackSettlesSpec)

/-- ITS FALSE NEIGHBOUR: 'it returns false'. Refute it at one input. -/
def stackSettlesWrong : ChangeSpec := { name := "stackSettles", fn := fun _ => fun
  | [d1, d2] => { results := [.lit (.bool false)], args := [d1, d2] }
  | _ => none }
def StackSettlesWrongFalsely : Prop := stackSettlesRow.holds Try.pinned (OpenSpec.ofChange stackSettlesWrong)

/-- 'selvedgelaw17.StackForks': WHATEVER THE INPUT: true; the input reads as it did. -/
def stackForksSpec : ChangeSpec := { name := "stackForks", fn := fun _ => fun
  | [d1, d2, d3] => { results := [.lit (.bool true)], args := [d1, d2, d3] }
  | _ => none }
def stackForksRow : OpenClaim := { program := "ytdcbfdepkbplbaa", sum := "11c8b7b0e3316ac36c0609dd75b4df5eeb563c08b2bf0d150f2180cf83340bc3", func := "selvedge/selvedgelaw17.StackForks", spec := "stackForks", unfollowed := true, recurses := true, apart := false }
def StackForksSaid : Prop := stackForksRow.holds Try.pinned (OpenSpec.ofChange stackForksSpec)

/-- ITS FALSE NEIGHBOUR: 'it returns false'. Refute it at one input. -/
def stackForksWrong : ChangeSpec := { name := "stackForks", fn := fun _ => fun
  | [d1, d2, d3] => { results := [.lit (.bool false)], args := [d1, d2, d3] }
  | _ => none }
def StackForksWrongFalsely : Prop := stackForksRow.holds Try.pinned (OpenSpec.ofChange stackForksWrong)

/-- 'selvedgelaw17.StackNone': WHATEVER THE INPUT: true; the input reads as it did. -/
def stackNoneSpec : ChangeSpec := { name := "stackNone", fn := fun _ => fun
  | [d1, d2] => { results := [.lit (.bool true)], args := [d1, d2] }
  | _ => none }
def stackNoneRow : OpenClaim := { program := "ytdcbfdepkbplbaa", sum := "11c8b7b0e3316ac36c0609dd75b4df5eeb563c08b2bf0d150f2180cf83340bc3", func := "selvedge/selvedgelaw17.StackNone", spec := "stackNone", unfollowed := true, recurses := true, apart := false }
def StackNoneSaid : Prop := stackNoneRow.holds Try.pinned (OpenSpec.ofChange stackNoneSpec)

/-- ITS FALSE NEIGHBOUR: 'it returns false'. Refute it at one input. -/
def stackNoneWrong : ChangeSpec := { name := "stackNone", fn := fun _ => fun
  | [d1, d2] => { results := [.lit (.bool false)], args := [d1, d2] }
  | _ => none }
def StackNoneWrongFalsely : Prop := stackNoneRow.holds Try.pinned (OpenSpec.ofChange stackNoneWrong)

/- THE SECOND FORM. 'bulk': how many values and letters a reading holds, each counted each time it is reached (what is shared counts as often as it is met; a slice's spare places count too). A statement '..UptoSaid' is the law's where the arguments, and the package variables that the reading takes, are together of bulk at most 1048576: NARROWER than '..Said'. Prove '..Said' where nothing that the law and all that it calls make is longer than what came in: it says more and counts as full. Else prove '..UptoSaid'. A law counts once. -/
mutual
def uptoBulk {H : Type} : DataW H → Nat
  | .lit (.string bytes) => bytes.length + 1
  | .lit _ => 1
  | .nil => 1
  | .ptr d => uptoBulk d + 1
  | .slice elems spare => uptoBulkAll elems + uptoBulkAll spare + 1
  | .agg parts => uptoBulkAll parts + 1
  | .iface _ d => uptoBulk d + 1
  | .map entries => uptoBulkEntries entries + 1
  | .held _ => 1
def uptoBulkAll {H : Type} : List (DataW H) → Nat
  | [] => 0
  | d :: r => uptoBulk d + uptoBulkAll r
def uptoBulkEntries {H : Type} : List (Lit × DataW H) → Nat
  | [] => 0
  | x :: r => uptoBulkEntry x + uptoBulkEntries r
def uptoBulkEntry {H : Type} : Lit × DataW H → Nat
  | (.string bytes, d) => bytes.length + uptoBulk d + 1
  | (_, d) => uptoBulk d + 1
 end
def uptoSmall : (H : Type) → List (DataW H) → Bool := fun _ ds => decide (uptoBulkAll ds ≤ 1048576)
def OpenSpec.upto (s : _root_.Go.ChangeSpec) : _root_.Go.OpenSpec := { _root_.Go.OpenSpec.ofChange s with cond := some uptoSmall }

/-- 'selvedgelaw17.StackNeeds', WHERE WHAT IT READS IS OF BULK AT MOST 1048576: true; the input reads as it did. -/
def stackNeedsUptoRow : OpenClaim := { program := "ytdcbfdepkbplbaa", sum := "11c8b7b0e3316ac36c0609dd75b4df5eeb563c08b2bf0d150f2180cf83340bc3", func := "selvedge/selvedgelaw17.StackNeeds", spec := "stackNeeds", unfollowed := true, recurses := true, apart := false, narrowed := true }
def StackNeedsUptoSaid : Prop := stackNeedsUptoRow.holds Try.pinned (OpenSpec.upto stackNeedsSpec)

/-- 'selvedgelaw17.StackWhole', WHERE WHAT IT READS IS OF BULK AT MOST 1048576: true; the input reads as it did. -/
def stackWholeUptoRow : OpenClaim := { program := "ytdcbfdepkbplbaa", sum := "11c8b7b0e3316ac36c0609dd75b4df5eeb563c08b2bf0d150f2180cf83340bc3", func := "selvedge/selvedgelaw17.StackWhole", spec := "stackWhole", unfollowed := true, recurses := true, apart := false, narrowed := true }
def StackWholeUptoSaid : Prop := stackWholeUptoRow.holds Try.pinned (OpenSpec.upto stackWholeSpec)

/-- 'selvedgelaw17.StackPlays', WHERE WHAT IT READS IS OF BULK AT MOST 1048576: true; the input reads as it did. -/
def stackPlaysUptoRow : OpenClaim := { program := "ytdcbfdepkbplbaa", sum := "11c8b7b0e3316ac36c0609dd75b4df5eeb563c08b2bf0d150f2180cf83340bc3", func := "selvedge/selvedgelaw17.StackPlays", spec := "stackPlays", unfollowed := true, recurses := true, apart := false, narrowed := true }
def StackPlaysUptoSaid : Prop := stackPlaysUptoRow.holds Try.pinned (OpenSpec.upto stackPlaysSpec)

/-- 'selvedgelaw17.StackRolls', WHERE WHAT IT READS IS OF BULK AT MOST 1048576: true; the input reads as it did. -/
def stackRollsUptoRow : OpenClaim := { program := "ytdcbfdepkbplbaa", sum := "11c8b7b0e3316ac36c0609dd75b4df5eeb563c08b2bf0d150f2180cf83340bc3", func := "selvedge/selvedgelaw17.StackRolls", spec := "stackRolls", unfollowed := true, recurses := true, apart := false, narrowed := true }
def StackRollsUptoSaid : Prop := stackRollsUptoRow.holds Try.pinned (OpenSpec.upto stackRollsSpec)

/-- 'selvedgelaw17.StackPops', WHERE WHAT IT READS IS OF BULK AT MOST 1048576: true; the input reads as it did. -/
def stackPopsUptoRow : OpenClaim := { program := "ytdcbfdepkbplbaa", sum := "11c8b7b0e3316ac36c0609dd75b4df5eeb563c08b2bf0d150f2180cf83340bc3", func := "selvedge/selvedgelaw17.StackPops", spec := "stackPops", unfollowed := true, recurses := true, apart := false, narrowed := true }
def StackPopsUptoSaid : Prop := stackPopsUptoRow.holds Try.pinned (OpenSpec.upto stackPopsSpec)

/-- 'selvedgelaw17.StackSettles', WHERE WHAT IT READS IS OF BULK AT MOST 1048576: true; the input reads as it did. -/
def stackSettlesUptoRow : OpenClaim := { program := "ytdcbfdepkbplbaa", sum := "11c8b7b0e3316ac36c0609dd75b4df5eeb563c08b2bf0d150f2180cf83340bc3", func := "selvedge/selvedgelaw17.StackSettles", spec := "stackSettles", unfollowed := true, recurses := true, apart := false, narrowed := true }
def StackSettlesUptoSaid : Prop := stackSettlesUptoRow.holds Try.pinned (OpenSpec.upto stackSettlesSpec)

/-- 'selvedgelaw17.StackForks', WHERE WHAT IT READS IS OF BULK AT MOST 1048576: true; the input reads as it did. -/
def stackForksUptoRow : OpenClaim := { program := "ytdcbfdepkbplbaa", sum := "11c8b7b0e3316ac36c0609dd75b4df5eeb563c08b2bf0d150f2180cf83340bc3", func := "selvedge/selvedgelaw17.StackForks", spec := "stackForks", unfollowed := true, recurses := true, apart := false, narrowed := true }
def StackForksUptoSaid : Prop := stackForksUptoRow.holds Try.pinned (OpenSpec.upto stackForksSpec)

/-- 'selvedgelaw17.StackNone', WHERE WHAT IT READS IS OF BULK AT MOST 1048576: true; the input reads as it did. -/
def stackNoneUptoRow : OpenClaim := { program := "ytdcbfdepkbplbaa", sum := "11c8b7b0e3316ac36c0609dd75b4df5eeb563c08b2bf0d150f2180cf83340bc3", func := "selvedge/selvedgelaw17.StackNone", spec := "stackNone", unfollowed := true, recurses := true, apart := false, narrowed := true }
def StackNoneUptoSaid : Prop := stackNoneUptoRow.holds Try.pinned (OpenSpec.upto stackNoneSpec)

end Rows
end Go.Proofs.Ytdcbfdepkbplbaa
