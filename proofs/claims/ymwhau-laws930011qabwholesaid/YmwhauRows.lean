/-
  No cell of these rows narrows 'for every input' (looked for: loops, veiled, ifaces, maps, wideKeys, modest, calm, conditions, laid).
  DERIVED. THE GIVEN ROWS OF THIS SEAT. 2 by the template 'for every input the law returns true; each argument reads behind the call as it read before'; 0 by the template 'total and deterministic' (their statements: YmwhauTotals.lean).
  GIVEN WITH THE SEED: the statements are not yours to turn. If you find one false, say at which input.
  Laid BY PROGRAM, IN A SANDBOX (cutbox-rows.mjs): the forced cells as the released guide's own fill.sh prints them over the translation 5398a9c463b70902… (all of the seat's roots in one cut). By AI agents, Wed Nov 11 2026. No macro, syntax, notation, axiom, sorry.
-/
import Derived.Test.YmwhauChecked
import GoSem.Claim
import GoSem.ClaimJoined
import GoSem.ClaimMapViews
import Derived.JoinedTies
import Derived.KernelRfl
namespace Go.Proofs.Ymwhau
/- THE CELL 'sum', in the pinned program and in every row, IS THE sha256 OF THE DUMP (.gsa) THAT YmwhauProg.lean LOADS. Nothing in Lean hashes anything: it is a label: what it is worth is what the hold of that sum in a sandbox is worth. -/
noncomputable def Yauv.pinned : Pinned := { name := "ymwhau", sum := "5398a9c463b709021243c9f52d0524f1c26615317aeeee4b558eac90e758a271", checked := Yauv.checked }
namespace Rows
def none {H : Type} : Left H := { results := [], args := [] }

/-- 'csvline.LawS930011QAAWhole': WHATEVER THE INPUT: true; the input reads as it did. -/
def lawS930011QAAWholeSpec : ChangeSpec := { name := "lawS930011QAAWhole", fn := fun _ => fun
  | [d] => { results := [.lit (.bool true)], args := [d] }
  | _ => none }
def lawS930011QAAWholeRow : OpenClaim := { program := "ymwhau", sum := "5398a9c463b709021243c9f52d0524f1c26615317aeeee4b558eac90e758a271", func := "example.com/own/csvline.LawS930011QAAWhole", spec := "lawS930011QAAWhole", inPlace := ["internal/bytealg.IndexByteString"], apart := false }
def LawS930011QAAWholeSaid : Prop := lawS930011QAAWholeRow.holds Yauv.pinned (OpenSpec.ofChange lawS930011QAAWholeSpec)

/-- ITS FALSE NEIGHBOUR: 'it returns false'. Refute it at one input. -/
def lawS930011QAAWholeWrong : ChangeSpec := { name := "lawS930011QAAWhole", fn := fun _ => fun
  | [d] => { results := [.lit (.bool false)], args := [d] }
  | _ => none }
def LawS930011QAAWholeWrongFalsely : Prop := lawS930011QAAWholeRow.holds Yauv.pinned (OpenSpec.ofChange lawS930011QAAWholeWrong)

/-- 'csvline.LawS930011QABWhole': WHATEVER THE INPUT: true; the input reads as it did. -/
def lawS930011QABWholeSpec : ChangeSpec := { name := "lawS930011QABWhole", fn := fun _ => fun
  | [d] => { results := [.lit (.bool true)], args := [d] }
  | _ => none }
def lawS930011QABWholeRow : OpenClaim := { program := "ymwhau", sum := "5398a9c463b709021243c9f52d0524f1c26615317aeeee4b558eac90e758a271", func := "example.com/own/csvline.LawS930011QABWhole", spec := "lawS930011QABWhole", apart := false }
def LawS930011QABWholeSaid : Prop := lawS930011QABWholeRow.holds Yauv.pinned (OpenSpec.ofChange lawS930011QABWholeSpec)

/-- ITS FALSE NEIGHBOUR: 'it returns false'. Refute it at one input. -/
def lawS930011QABWholeWrong : ChangeSpec := { name := "lawS930011QABWhole", fn := fun _ => fun
  | [d] => { results := [.lit (.bool false)], args := [d] }
  | _ => none }
def LawS930011QABWholeWrongFalsely : Prop := lawS930011QABWholeRow.holds Yauv.pinned (OpenSpec.ofChange lawS930011QABWholeWrong)

end Rows
end Go.Proofs.Ymwhau
