/- A list of operations under way, its next n walked by what they yield. -/
import Derived.Test.YtjilkbkafigloaaH8
set_option linter.unusedVariables false
set_option linter.unusedSimpArgs false
namespace Go.Proofs.Ytjilkbkafigloaa.H
open Go.RowKit
theorem wpList_seq {P : Program} {ops : Array Oper} {Q : Exit → Act → World → Prop} {l : List Oper} {a : Act} {w : World} (C : World → Prop) (n : Nat) (hC : C w)
    (h : wpVals P ops C (fun aF => ∀ w, C w → wpList P ops Q (l.drop n) aF w) (l.take n) a) : wpList P ops Q l a w := by
  have := wpList_of_vals hC h
  rwa [List.take_append_drop] at this
end Go.Proofs.Ytjilkbkafigloaa.H
