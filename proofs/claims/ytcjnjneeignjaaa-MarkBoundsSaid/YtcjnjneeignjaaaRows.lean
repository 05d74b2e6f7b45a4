/-
  No cell of these rows narrows 'for every input' (looked for: loops, veiled, ifaces, maps, wideKeys, modest, calm, conditions, laid).
  DERIVED. THE GIVEN ROWS OF THIS SEAT. 5 by the template 'for every input the law returns true; each argument reads behind the call as it read before'; 0 by the template 'total and deterministic' (their statements: YtcjnjneeignjaaaTotals.lean).
  GIVEN WITH THE SEED: the statements are not yours to turn. If you find one false, say at which input.
  Laid BY PROGRAM, IN A SANDBOX (cutbox-rows.mjs): the forced cells as the released guide's own fill.sh prints them over the translation 0c20e41d28da4e1c… (all of the seat's roots in one cut). By AI agents, Wed Nov 11 2026. No macro, syntax, notation, axiom, sorry.
-/
import Derived.Test.YtcjnjneeignjaaaChecked
import GoSem.Claim
import GoSem.ClaimJoined
import GoSem.ClaimMapViews
import Derived.JoinedTies
import Derived.KernelRfl
namespace Go.Proofs.Ytcjnjneeignjaaa
/- THE CELL 'sum', in the pinned program and in every row, IS THE sha256 OF THE DUMP (.gsa) THAT YtcjnjneeignjaaaProg.lean LOADS. Nothing in Lean hashes anything: it is a label: what it is worth is what the hold of that sum in a sandbox is worth. -/
noncomputable def Try.pinned : Pinned := { name := "ytcjnjneeignjaaa", sum := "0c20e41d28da4e1c5bee1aca7a7d926e74073f7394d50fccef834bf97eea8e1a", checked := Try.checked }
namespace Rows
def none {H : Type} : Left H := { results := [], args := [] }

/-- 'chandlerlaw06.MarkUnders': WHATEVER THE INPUT: true; the input reads as it did. -/
def markUndersSpec : ChangeSpec := { name := "markUnders", fn := fun _ => fun
  | [d1, d2, d3] => { results := [.lit (.bool true)], args := [d1, d2, d3] }
  | _ => none }
def markUndersRow : OpenClaim := { program := "ytcjnjneeignjaaa", sum := "0c20e41d28da4e1c5bee1aca7a7d926e74073f7394d50fccef834bf97eea8e1a", func := "chandler/chandlerlaw06.MarkUnders", spec := "markUnders", apart := false }
def MarkUndersSaid : Prop := markUndersRow.holds Try.pinned (OpenSpec.ofChange markUndersSpec)

/-- ITS FALSE NEIGHBOUR: 'it returns false'. Refute it at one input. -/
def markUndersWrong : ChangeSpec := { name := "markUnders", fn := fun _ => fun
  | [d1, d2, d3] => { results := [.lit (.bool false)], args := [d1, d2, d3] }
  | _ => none }
def MarkUndersWrongFalsely : Prop := markUndersRow.holds Try.pinned (OpenSpec.ofChange markUndersWrong)

/-- 'chandlerlaw06.MarkDigests': WHATEVER THE INPUT: true; the input reads as it did. -/
def markDigestsSpec : ChangeSpec := { name := "markDigests", fn := fun _ => fun
  | [d1, d2] => { results := [.lit (.bool true)], args := [d1, d2] }
  | _ => none }
def markDigestsRow : OpenClaim := { program := "ytcjnjneeignjaaa", sum := "0c20e41d28da4e1c5bee1aca7a7d926e74073f7394d50fccef834bf97eea8e1a", func := "chandler/chandlerlaw06.MarkDigests", spec := "markDigests", apart := false }
def MarkDigestsSaid : Prop := markDigestsRow.holds Try.pinned (OpenSpec.ofChange markDigestsSpec)

/-- ITS FALSE NEIGHBOUR: 'it returns false'. Refute it at one input. -/
def markDigestsWrong : ChangeSpec := { name := "markDigests", fn := fun _ => fun
  | [d1, d2] => { results := [.lit (.bool false)], args := [d1, d2] }
  | _ => none }
def MarkDigestsWrongFalsely : Prop := markDigestsRow.holds Try.pinned (OpenSpec.ofChange markDigestsWrong)

/-- 'chandlerlaw06.MarkParses': WHATEVER THE INPUT: true; the input reads as it did. -/
def markParsesSpec : ChangeSpec := { name := "markParses", fn := fun _ => fun
  | [d] => { results := [.lit (.bool true)], args := [d] }
  | _ => none }
def markParsesRow : OpenClaim := { program := "ytcjnjneeignjaaa", sum := "0c20e41d28da4e1c5bee1aca7a7d926e74073f7394d50fccef834bf97eea8e1a", func := "chandler/chandlerlaw06.MarkParses", spec := "markParses", apart := false }
def MarkParsesSaid : Prop := markParsesRow.holds Try.pinned (OpenSpec.ofChange markParsesSpec)

/-- ITS FALSE NEIGHBOUR: 'it returns false'. Refute it at one input. -/
def markParsesWrong : ChangeSpec := { name := "markParses", fn := fun _ => fun
  | [d] => { results := [.lit (.bool false)], args := [d] }
  | _ => none }
def MarkParsesWrongFalsely : Prop := markParsesRow.holds Try.pinned (OpenSpec.ofChange markParsesWrong)

/-- 'chandlerlaw06.MarkBounds': WHATEVER THE INPUT: true; the input reads as it did. -/
def markBoundsSpec : ChangeSpec := { name := "markBounds", fn := fun _ => fun
  | [d1, d2] => { results := [.lit (.bool true)], args := [d1, d2] }
  | _ => none }
def markBoundsRow : OpenClaim := { program := "ytcjnjneeignjaaa", sum := "0c20e41d28da4e1c5bee1aca7a7d926e74073f7394d50fccef834bf97eea8e1a", func := "chandler/chandlerlaw06.MarkBounds", spec := "markBounds", apart := false }
def MarkBoundsSaid : Prop := markBoundsRow.holds Try.pinned (OpenSpec.ofChange markBoundsSpec)

/-- ITS FALSE NEIGHBOUR: 'it returns false'. Refute it at one input. -/
def markBoundsWrong : ChangeSpec := { name := "markBounds", fn := fun _ => fun
  | [d1, d2] => { results := [.lit (.bool false)], args := [d1, d2] }
  | _ => none }
def MarkBoundsWrongFalsely : Prop := markBoundsRow.holds Try.pinned (OpenSpec.ofChange markBoundsWrong)

/-- 'chandlerlaw06.MarkTexts': WHATEVER THE INPUT: true; the input reads as it did. -/
def markTextsSpec : ChangeSpec := { name := "markTexts", fn := fun _ => fun
  | [d] => { results := [.lit (.bool true)], args := [d] }
  | _ => none }
def markTextsRow : OpenClaim := { program := "ytcjnjneeignjaaa", sum := "0c20e41d28da4e1c5bee1aca7a7d926e74073f7394d50fccef834bf97eea8e1a", func := "chandler/chandlerlaw06.MarkTexts", spec := "markTexts", apart := false }
def MarkTextsSaid : Prop := markTextsRow.holds Try.pinned (OpenSpec.ofChange markTextsSpec)

/-- ITS FALSE NEIGHBOUR: 'it returns false'. Refute it at one input. -/
def markTextsWrong : ChangeSpec := { name := "markTexts", fn := fun _ => fun
  | [d] => { results := [.lit (.bool false)], args := [d] }
  | _ => none }
def MarkTextsWrongFalsely : Prop := markTextsRow.holds Try.pinned (OpenSpec.ofChange markTextsWrong)

/- THE SECOND FORM. 'bulk': how many values and letters a reading holds, each counted each time it is reached (what is shared counts as often as it is met; a slice's spare places count too). A statement '..UptoSaid' is the law's where the arguments, and the package variables that the reading takes, are together of bulk at most 1048576: NARROWER than '..Said'. Prove '..Said' where nothing that the law and all that it calls make is longer than what came in: it says more and counts as full. Else prove '..UptoSaid'. A law counts once. -/
mutual
def uptoBulk {H : Type} : DataW H → Nat
  | .lit (.string bytes) => bytes.length + 1
  | .lit _ => 1
  | .nil => 1
  | .ptr d => uptoBulk d + 1
  | .slice elems spare => uptoBulkAll elems + uptoBulkAll spare + 1
  | .agg parts => uptoBulkAll parts + 1
  | .iface _ d => uptoBulk d + 1
  | .map entries => uptoBulkEntries entries + 1
  | .held _ => 1
def uptoBulkAll {H : Type} : List (DataW H) → Nat
  | [] => 0
  | d :: r => uptoBulk d + uptoBulkAll r
def uptoBulkEntries {H : Type} : List (Lit × DataW H) → Nat
  | [] => 0
  | x :: r => uptoBulkEntry x + uptoBulkEntries r
def uptoBulkEntry {H : Type} : Lit × DataW H → Nat
  | (.string bytes, d) => bytes.length + uptoBulk d + 1
  | (_, d) => uptoBulk d + 1
 end
def uptoSmall : (H : Type) → List (DataW H) → Bool := fun _ ds => decide (uptoBulkAll ds ≤ 1048576)
def OpenSpec.upto (s : _root_.Go.ChangeSpec) : _root_.Go.OpenSpec := { _root_.Go.OpenSpec.ofChange s with cond := some uptoSmall }

/-- 'chandlerlaw06.MarkUnders', WHERE WHAT IT READS IS OF BULK AT MOST 1048576: true; the input reads as it did. -/
def markUndersUptoRow : OpenClaim := { program := "ytcjnjneeignjaaa", sum := "0c20e41d28da4e1c5bee1aca7a7d926e74073f7394d50fccef834bf97eea8e1a", func := "chandler/chandlerlaw06.MarkUnders", spec := "markUnders", apart := false, narrowed := true }
def MarkUndersUptoSaid : Prop := markUndersUptoRow.holds Try.pinned (OpenSpec.upto markUndersSpec)

/-- 'chandlerlaw06.MarkDigests', WHERE WHAT IT READS IS OF BULK AT MOST 1048576: true; the input reads as it did. -/
def markDigestsUptoRow : OpenClaim := { program := "ytcjnjneeignjaaa", sum := "0c20e41d28da4e1c5bee1aca7a7d926e74073f7394d50fccef834bf97eea8e1a", func := "chandler/chandlerlaw06.MarkDigests", spec := "markDigests", apart := false, narrowed := true }
def MarkDigestsUptoSaid : Prop := markDigestsUptoRow.holds Try.pinned (OpenSpec.upto markDigestsSpec)

/-- 'chandlerlaw06.MarkParses', WHERE WHAT IT READS IS OF BULK AT MOST 1048576: true; the input reads as it did. -/
def markParsesUptoRow : OpenClaim := { program := "ytcjnjneeignjaaa", sum := "0c20e41d28da4e1c5bee1aca7a7d926e74073f7394d50fccef834bf97eea8e1a", func := "chandler/chandlerlaw06.MarkParses", spec := "markParses", apart := false, narrowed := true }
def MarkParsesUptoSaid : Prop := markParsesUptoRow.holds Try.pinned (OpenSpec.upto markParsesSpec)

/-- 'chandlerlaw06.MarkBounds', WHERE WHAT IT READS IS OF BULK AT MOST 1048576: true; the input reads as it did. -/
def markBoundsUptoRow : OpenClaim := { program := "ytcjnjneeignjaaa", sum := "0c20e41d28da4e1c5bee1aca7a7d926e74073f7394d50fccef834bf97eea8e1a", func := "chandler/chandlerlaw06.MarkBounds", spec := "markBounds", apart := false, narrowed := true }
def MarkBoundsUptoSaid : Prop := markBoundsUptoRow.holds Try.pinned (OpenSpec.upto markBoundsSpec)

/-- 'chandlerlaw06.MarkTexts', WHERE WHAT IT READS IS OF BULK AT MOST 1048576: true; the input reads as it did. -/
def markTextsUptoRow : OpenClaim := { program := "ytcjnjneeignjaaa", sum := "0c20e41d28da4e1c5bee1aca7a7d926e74073f7394d50fccef834bf97eea8e1a", func := "chandler/chandlerlaw06.MarkTexts", spec := "markTexts", apart := false, narrowed := true }
def MarkTextsUptoSaid : Prop := markTextsUptoRow.holds Try.pinned (OpenSpec.upto markTextsSpec)

end Rows
end Go.Proofs.Ytcjnjneeignjaaa
