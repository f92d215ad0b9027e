/-
  No cell of these rows narrows 'for every input' (looked for: loops, veiled, ifaces, maps, wideKeys, modest, calm, conditions, laid).
  DERIVED. THE GIVEN ROWS OF THIS SEAT. 2 by the template 'for every input the law returns true; each argument reads behind the call as it read before'; 0 by the template 'total and deterministic' (their statements: YmwhbeTotals.lean).
  GIVEN WITH THE SEED: the statements are not yours to turn. If you find one false, say at which input.
  Laid BY PROGRAM, IN A SANDBOX (cutbox-rows.mjs): the forced cells as the released guide's own fill.sh prints them over the translation dd3374fed17a0a44… (all of the seat's roots in one cut). By AI agents, Wed Nov 11 2026. No macro, syntax, notation, axiom, sorry.
-/
import Derived.Test.YmwhbeChecked
import GoSem.Claim
import GoSem.ClaimJoined
import GoSem.ClaimMapViews
import Derived.JoinedTies
import Derived.KernelRfl
namespace Go.Proofs.Ymwhbe
/- THE CELL 'sum', in the pinned program and in every row, IS THE sha256 OF THE DUMP (.gsa) THAT YmwhbeProg.lean LOADS. Nothing in Lean hashes anything: it is a label: what it is worth is what the hold of that sum in a sandbox is worth. -/
noncomputable def Ybev.pinned : Pinned := { name := "ymwhbe", sum := "dd3374fed17a0a44dc88ffb8f704f0a79cfc39464fdb1292d6528d947ba1ecc8", checked := Ybev.checked }
namespace Rows
def none {H : Type} : Left H := { results := [], args := [] }

/-- 'huff.LawS930022QAAWhole': WHATEVER THE INPUT: true; the input reads as it did. -/
def lawS930022QAAWholeSpec : ChangeSpec := { name := "lawS930022QAAWhole", fn := fun _ => fun
  | [d] => { results := [.lit (.bool true)], args := [d] }
  | _ => none }
def lawS930022QAAWholeRow : OpenClaim := { program := "ymwhbe", sum := "dd3374fed17a0a44dc88ffb8f704f0a79cfc39464fdb1292d6528d947ba1ecc8", func := "example.com/own/huff.LawS930022QAAWhole", spec := "lawS930022QAAWhole", apart := false }
def LawS930022QAAWholeSaid : Prop := lawS930022QAAWholeRow.holds Ybev.pinned (OpenSpec.ofChange lawS930022QAAWholeSpec)

/-- ITS FALSE NEIGHBOUR: 'it returns false'. Refute it at one input. -/
def lawS930022QAAWholeWrong : ChangeSpec := { name := "lawS930022QAAWhole", fn := fun _ => fun
  | [d] => { results := [.lit (.bool false)], args := [d] }
  | _ => none }
def LawS930022QAAWholeWrongFalsely : Prop := lawS930022QAAWholeRow.holds Ybev.pinned (OpenSpec.ofChange lawS930022QAAWholeWrong)

/-- 'huff.LawS930022QABWhole': WHATEVER THE INPUT: true; the input reads as it did. -/
def lawS930022QABWholeSpec : ChangeSpec := { name := "lawS930022QABWhole", fn := fun _ => fun
  | [d1, d2, d3, d4] => { results := [.lit (.bool true)], args := [d1, d2, d3, d4] }
  | _ => none }
def lawS930022QABWholeRow : OpenClaim := { program := "ymwhbe", sum := "dd3374fed17a0a44dc88ffb8f704f0a79cfc39464fdb1292d6528d947ba1ecc8", func := "example.com/own/huff.LawS930022QABWhole", spec := "lawS930022QABWhole", apart := false }
def LawS930022QABWholeSaid : Prop := lawS930022QABWholeRow.holds Ybev.pinned (OpenSpec.ofChange lawS930022QABWholeSpec)

/-- ITS FALSE NEIGHBOUR: 'it returns false'. Refute it at one input. -/
def lawS930022QABWholeWrong : ChangeSpec := { name := "lawS930022QABWhole", fn := fun _ => fun
  | [d1, d2, d3, d4] => { results := [.lit (.bool false)], args := [d1, d2, d3, d4] }
  | _ => none }
def LawS930022QABWholeWrongFalsely : Prop := lawS930022QABWholeRow.holds Ybev.pinned (OpenSpec.ofChange lawS930022QABWholeWrong)

end Rows
end Go.Proofs.Ymwhbe
