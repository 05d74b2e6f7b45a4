/-
  No cell of these rows narrows 'for every input' (looked for: loops, veiled, ifaces, maps, wideKeys, modest, calm, conditions, laid).
  DERIVED. THE GIVEN ROWS OF THIS SEAT. 9 by the template 'for every input the law returns true; each argument reads behind the call as it read before'; 0 by the template 'total and deterministic' (their statements: YtflcbbohnkgokaaTotals.lean).
  GIVEN WITH THE SEED: the statements are not yours to turn. If you find one false, say at which input.
  Laid BY PROGRAM, IN A SANDBOX (cutbox-rows.mjs): the forced cells as the released guide's own fill.sh prints them over the translation f1e8e5e8156829ad… (all of the seat's roots in one cut). By AI agents, Wed Nov 11 2026. No macro, syntax, notation, axiom, sorry.
-/
import Derived.Test.YtflcbbohnkgokaaChecked
import GoSem.Claim
import GoSem.ClaimJoined
import GoSem.ClaimMapViews
import Derived.JoinedTies
import Derived.KernelRfl
namespace Go.Proofs.Ytflcbbohnkgokaa
/- THE CELL 'sum', in the pinned program and in every row, IS THE sha256 OF THE DUMP (.gsa) THAT YtflcbbohnkgokaaProg.lean LOADS. Nothing in Lean hashes anything: it is a label: what it is worth is what the hold of that sum in a sandbox is worth. -/
noncomputable def Try.pinned : Pinned := { name := "ytflcbbohnkgokaa", sum := "f1e8e5e8156829ad69a6f555dea751db796d3c2035f4b7feefe077c61a0e35f0", checked := Try.checked }
namespace Rows
def none {H : Type} : Left H := { results := [], args := [] }

/-- 'chandlerlaw02.ScoreParses': WHATEVER THE INPUT: true; the input reads as it did. -/
def scoreParsesSpec : ChangeSpec := { name := "scoreParses", fn := fun _ => fun
  | [d1, d2] => { results := [.lit (.bool true)], args := [d1, d2] }
  | _ => none }
def scoreParsesRow : OpenClaim := { program := "ytflcbbohnkgokaa", sum := "f1e8e5e8156829ad69a6f555dea751db796d3c2035f4b7feefe077c61a0e35f0", func := "chandler/chandlerlaw02.ScoreParses", spec := "scoreParses", inPlace := ["math.Float64frombits", "math.Float64bits"], apart := false }
def ScoreParsesSaid : Prop := scoreParsesRow.holds Try.pinned (OpenSpec.ofChange scoreParsesSpec)

/-- ITS FALSE NEIGHBOUR: 'it returns false'. Refute it at one input. -/
def scoreParsesWrong : ChangeSpec := { name := "scoreParses", fn := fun _ => fun
  | [d1, d2] => { results := [.lit (.bool false)], args := [d1, d2] }
  | _ => none }
def ScoreParsesWrongFalsely : Prop := scoreParsesRow.holds Try.pinned (OpenSpec.ofChange scoreParsesWrong)

/-- 'chandlerlaw02.ScoreKinds': WHATEVER THE INPUT: true; the input reads as it did. -/
def scoreKindsSpec : ChangeSpec := { name := "scoreKinds", fn := fun _ => fun
  | [d] => { results := [.lit (.bool true)], args := [d] }
  | _ => none }
def scoreKindsRow : OpenClaim := { program := "ytflcbbohnkgokaa", sum := "f1e8e5e8156829ad69a6f555dea751db796d3c2035f4b7feefe077c61a0e35f0", func := "chandler/chandlerlaw02.ScoreKinds", spec := "scoreKinds", inPlace := ["math.Float64frombits", "math.Float64bits"], apart := false }
def ScoreKindsSaid : Prop := scoreKindsRow.holds Try.pinned (OpenSpec.ofChange scoreKindsSpec)

/-- ITS FALSE NEIGHBOUR: 'it returns false'. Refute it at one input. -/
def scoreKindsWrong : ChangeSpec := { name := "scoreKinds", fn := fun _ => fun
  | [d] => { results := [.lit (.bool false)], args := [d] }
  | _ => none }
def ScoreKindsWrongFalsely : Prop := scoreKindsRow.holds Try.pinned (OpenSpec.ofChange scoreKindsWrong)

/-- 'chandlerlaw02.ScoreOrders': WHATEVER THE INPUT: true; the input reads as it did. -/
def scoreOrdersSpec : ChangeSpec := { name := "scoreOrders", fn := fun _ => fun
  | [d1, d2, d3] => { results := [.lit (.bool true)], args := [d1, d2, d3] }
  | _ => none }
def scoreOrdersRow : OpenClaim := { program := "ytflcbbohnkgokaa", sum := "f1e8e5e8156829ad69a6f555dea751db796d3c2035f4b7feefe077c61a0e35f0", func := "chandler/chandlerlaw02.ScoreOrders", spec := "scoreOrders", inPlace := ["math.Float64frombits", "math.Float64bits"], apart := false }
def ScoreOrdersSaid : Prop := scoreOrdersRow.holds Try.pinned (OpenSpec.ofChange scoreOrdersSpec)

/-- ITS FALSE NEIGHBOUR: 'it returns false'. Refute it at one input. -/
def scoreOrdersWrong : ChangeSpec := { name := "scoreOrders", fn := fun _ => fun
  | [d1, d2, d3] => { results := [.lit (.bool false)], args := [d1, d2, d3] }
  | _ => none }
def ScoreOrdersWrongFalsely : Prop := scoreOrdersRow.holds Try.pinned (OpenSpec.ofChange scoreOrdersWrong)

/-- 'chandlerlaw02.ScoreBests': WHATEVER THE INPUT: true; the input reads as it did. -/
def scoreBestsSpec : ChangeSpec := { name := "scoreBests", fn := fun _ => fun
  | [d] => { results := [.lit (.bool true)], args := [d] }
  | _ => none }
def scoreBestsRow : OpenClaim := { program := "ytflcbbohnkgokaa", sum := "f1e8e5e8156829ad69a6f555dea751db796d3c2035f4b7feefe077c61a0e35f0", func := "chandler/chandlerlaw02.ScoreBests", spec := "scoreBests", inPlace := ["math.Float64frombits", "math.Float64bits"], apart := false }
def ScoreBestsSaid : Prop := scoreBestsRow.holds Try.pinned (OpenSpec.ofChange scoreBestsSpec)

/-- ITS FALSE NEIGHBOUR: 'it returns false'. Refute it at one input. -/
def scoreBestsWrong : ChangeSpec := { name := "scoreBests", fn := fun _ => fun
  | [d] => { results := [.lit (.bool false)], args := [d] }
  | _ => none }
def ScoreBestsWrongFalsely : Prop := scoreBestsRow.holds Try.pinned (OpenSpec.ofChange scoreBestsWrong)

/-- 'chandlerlaw02.ScoreNegs': WHATEVER THE INPUT: true; the input reads as it did. -/
def scoreNegsSpec : ChangeSpec := { name := "scoreNegs", fn := fun _ => fun
  | [d1, d2] => { results := [.lit (.bool true)], args := [d1, d2] }
  | _ => none }
def scoreNegsRow : OpenClaim := { program := "ytflcbbohnkgokaa", sum := "f1e8e5e8156829ad69a6f555dea751db796d3c2035f4b7feefe077c61a0e35f0", func := "chandler/chandlerlaw02.ScoreNegs", spec := "scoreNegs", inPlace := ["math.Float64frombits", "math.Float64bits"], apart := false }
def ScoreNegsSaid : Prop := scoreNegsRow.holds Try.pinned (OpenSpec.ofChange scoreNegsSpec)

/-- ITS FALSE NEIGHBOUR: 'it returns false'. Refute it at one input. -/
def scoreNegsWrong : ChangeSpec := { name := "scoreNegs", fn := fun _ => fun
  | [d1, d2] => { results := [.lit (.bool false)], args := [d1, d2] }
  | _ => none }
def ScoreNegsWrongFalsely : Prop := scoreNegsRow.holds Try.pinned (OpenSpec.ofChange scoreNegsWrong)

/-- 'chandlerlaw02.ScoreSums': WHATEVER THE INPUT: true; the input reads as it did. -/
def scoreSumsSpec : ChangeSpec := { name := "scoreSums", fn := fun _ => fun
  | [d] => { results := [.lit (.bool true)], args := [d] }
  | _ => none }
def scoreSumsRow : OpenClaim := { program := "ytflcbbohnkgokaa", sum := "f1e8e5e8156829ad69a6f555dea751db796d3c2035f4b7feefe077c61a0e35f0", func := "chandler/chandlerlaw02.ScoreSums", spec := "scoreSums", inPlace := ["math.Float64frombits", "math.Float64bits"], apart := false }
def ScoreSumsSaid : Prop := scoreSumsRow.holds Try.pinned (OpenSpec.ofChange scoreSumsSpec)

/-- ITS FALSE NEIGHBOUR: 'it returns false'. Refute it at one input. -/
def scoreSumsWrong : ChangeSpec := { name := "scoreSums", fn := fun _ => fun
  | [d] => { results := [.lit (.bool false)], args := [d] }
  | _ => none }
def ScoreSumsWrongFalsely : Prop := scoreSumsRow.holds Try.pinned (OpenSpec.ofChange scoreSumsWrong)

/-- 'chandlerlaw02.ScoreMeans': WHATEVER THE INPUT: true; the input reads as it did. -/
def scoreMeansSpec : ChangeSpec := { name := "scoreMeans", fn := fun _ => fun
  | [d] => { results := [.lit (.bool true)], args := [d] }
  | _ => none }
def scoreMeansRow : OpenClaim := { program := "ytflcbbohnkgokaa", sum := "f1e8e5e8156829ad69a6f555dea751db796d3c2035f4b7feefe077c61a0e35f0", func := "chandler/chandlerlaw02.ScoreMeans", spec := "scoreMeans", inPlace := ["math.Float64frombits", "math.Float64bits"], apart := false }
def ScoreMeansSaid : Prop := scoreMeansRow.holds Try.pinned (OpenSpec.ofChange scoreMeansSpec)

/-- ITS FALSE NEIGHBOUR: 'it returns false'. Refute it at one input. -/
def scoreMeansWrong : ChangeSpec := { name := "scoreMeans", fn := fun _ => fun
  | [d] => { results := [.lit (.bool false)], args := [d] }
  | _ => none }
def ScoreMeansWrongFalsely : Prop := scoreMeansRow.holds Try.pinned (OpenSpec.ofChange scoreMeansWrong)

/-- 'chandlerlaw02.ScoreCompares': WHATEVER THE INPUT: true; the input reads as it did. -/
def scoreComparesSpec : ChangeSpec := { name := "scoreCompares", fn := fun _ => fun
  | [d1, d2] => { results := [.lit (.bool true)], args := [d1, d2] }
  | _ => none }
def scoreComparesRow : OpenClaim := { program := "ytflcbbohnkgokaa", sum := "f1e8e5e8156829ad69a6f555dea751db796d3c2035f4b7feefe077c61a0e35f0", func := "chandler/chandlerlaw02.ScoreCompares", spec := "scoreCompares", inPlace := ["math.Float64frombits", "math.Float64bits"], apart := false }
def ScoreComparesSaid : Prop := scoreComparesRow.holds Try.pinned (OpenSpec.ofChange scoreComparesSpec)

/-- ITS FALSE NEIGHBOUR: 'it returns false'. Refute it at one input. -/
def scoreComparesWrong : ChangeSpec := { name := "scoreCompares", fn := fun _ => fun
  | [d1, d2] => { results := [.lit (.bool false)], args := [d1, d2] }
  | _ => none }
def ScoreComparesWrongFalsely : Prop := scoreComparesRow.holds Try.pinned (OpenSpec.ofChange scoreComparesWrong)

/-- 'chandlerlaw02.ScoreClamps': WHATEVER THE INPUT: true; the input reads as it did. -/
def scoreClampsSpec : ChangeSpec := { name := "scoreClamps", fn := fun _ => fun
  | [d1, d2, d3] => { results := [.lit (.bool true)], args := [d1, d2, d3] }
  | _ => none }
def scoreClampsRow : OpenClaim := { program := "ytflcbbohnkgokaa", sum := "f1e8e5e8156829ad69a6f555dea751db796d3c2035f4b7feefe077c61a0e35f0", func := "chandler/chandlerlaw02.ScoreClamps", spec := "scoreClamps", inPlace := ["math.Float64frombits", "math.Float64bits"], apart := false }
def ScoreClampsSaid : Prop := scoreClampsRow.holds Try.pinned (OpenSpec.ofChange scoreClampsSpec)

/-- ITS FALSE NEIGHBOUR: 'it returns false'. Refute it at one input. -/
def scoreClampsWrong : ChangeSpec := { name := "scoreClamps", fn := fun _ => fun
  | [d1, d2, d3] => { results := [.lit (.bool false)], args := [d1, d2, d3] }
  | _ => none }
def ScoreClampsWrongFalsely : Prop := scoreClampsRow.holds Try.pinned (OpenSpec.ofChange scoreClampsWrong)

/- THE SECOND FORM. 'bulk': how many values and letters a reading holds, each counted each time it is reached (what is shared counts as often as it is met; a slice's spare places count too). A statement '..UptoSaid' is the law's where the arguments, and the package variables that the reading takes, are together of bulk at most 1048576: NARROWER than '..Said'. Prove '..Said' where nothing that the law and all that it calls make is longer than what came in: it says more and counts as full. Else prove '..UptoSaid'. A law counts once. -/
mutual
def uptoBulk {H : Type} : DataW H → Nat
  | .lit (.string bytes) => bytes.length + 1
  | .lit _ => 1
  | .nil => 1
  | .ptr d => uptoBulk d + 1
  | .slice elems spare => uptoBulkAll elems + uptoBulkAll spare + 1
  | .agg parts => uptoBulkAll parts + 1
  | .iface _ d => uptoBulk d + 1
  | .map entries => uptoBulkEntries entries + 1
  | .held _ => 1
def uptoBulkAll {H : Type} : List (DataW H) → Nat
  | [] => 0
  | d :: r => uptoBulk d + uptoBulkAll r
def uptoBulkEntries {H : Type} : List (Lit × DataW H) → Nat
  | [] => 0
  | x :: r => uptoBulkEntry x + uptoBulkEntries r
def uptoBulkEntry {H : Type} : Lit × DataW H → Nat
  | (.string bytes, d) => bytes.length + uptoBulk d + 1
  | (_, d) => uptoBulk d + 1
 end
def uptoSmall : (H : Type) → List (DataW H) → Bool := fun _ ds => decide (uptoBulkAll ds ≤ 1048576)
def OpenSpec.upto (s : _root_.Go.ChangeSpec) : _root_.Go.OpenSpec := { _root_.Go.OpenSpec.ofChange s with cond := some uptoSmall }

/-- 'chandlerlaw02.ScoreParses', WHERE WHAT IT READS IS OF BULK AT MOST 1048576: true; the input reads as it did. -/
def scoreParsesUptoRow : OpenClaim := { program := "ytflcbbohnkgokaa", sum := "f1e8e5e8156829ad69a6f555dea751db796d3c2035f4b7feefe077c61a0e35f0", func := "chandler/chandlerlaw02.ScoreParses", spec := "scoreParses", inPlace := ["math.Float64frombits", "math.Float64bits"], apart := false, narrowed := true }
def ScoreParsesUptoSaid : Prop := scoreParsesUptoRow.holds Try.pinned (OpenSpec.upto scoreParsesSpec)

/-- 'chandlerlaw02.ScoreKinds', WHERE WHAT IT READS IS OF BULK AT MOST 1048576: true; the input reads as it did. -/
def scoreKindsUptoRow : OpenClaim := { program := "ytflcbbohnkgokaa", sum := "f1e8e5e8156829ad69a6f555dea751db796d3c2035f4b7feefe077c61a0e35f0", func := "chandler/chandlerlaw02.ScoreKinds", spec := "scoreKinds", inPlace := ["math.Float64frombits", "math.Float64bits"], apart := false, narrowed := true }
def ScoreKindsUptoSaid : Prop := scoreKindsUptoRow.holds Try.pinned (OpenSpec.upto scoreKindsSpec)

/-- 'chandlerlaw02.ScoreOrders', WHERE WHAT IT READS IS OF BULK AT MOST 1048576: true; the input reads as it did. -/
def scoreOrdersUptoRow : OpenClaim := { program := "ytflcbbohnkgokaa", sum := "f1e8e5e8156829ad69a6f555dea751db796d3c2035f4b7feefe077c61a0e35f0", func := "chandler/chandlerlaw02.ScoreOrders", spec := "scoreOrders", inPlace := ["math.Float64frombits", "math.Float64bits"], apart := false, narrowed := true }
def ScoreOrdersUptoSaid : Prop := scoreOrdersUptoRow.holds Try.pinned (OpenSpec.upto scoreOrdersSpec)

/-- 'chandlerlaw02.ScoreBests', WHERE WHAT IT READS IS OF BULK AT MOST 1048576: true; the input reads as it did. -/
def scoreBestsUptoRow : OpenClaim := { program := "ytflcbbohnkgokaa", sum := "f1e8e5e8156829ad69a6f555dea751db796d3c2035f4b7feefe077c61a0e35f0", func := "chandler/chandlerlaw02.ScoreBests", spec := "scoreBests", inPlace := ["math.Float64frombits", "math.Float64bits"], apart := false, narrowed := true }
def ScoreBestsUptoSaid : Prop := scoreBestsUptoRow.holds Try.pinned (OpenSpec.upto scoreBestsSpec)

/-- 'chandlerlaw02.ScoreNegs', WHERE WHAT IT READS IS OF BULK AT MOST 1048576: true; the input reads as it did. -/
def scoreNegsUptoRow : OpenClaim := { program := "ytflcbbohnkgokaa", sum := "f1e8e5e8156829ad69a6f555dea751db796d3c2035f4b7feefe077c61a0e35f0", func := "chandler/chandlerlaw02.ScoreNegs", spec := "scoreNegs", inPlace := ["math.Float64frombits", "math.Float64bits"], apart := false, narrowed := true }
def ScoreNegsUptoSaid : Prop := scoreNegsUptoRow.holds Try.pinned (OpenSpec.upto scoreNegsSpec)

/-- 'chandlerlaw02.ScoreSums', WHERE WHAT IT READS IS OF BULK AT MOST 1048576: true; the input reads as it did. -/
def scoreSumsUptoRow : OpenClaim := { program := "ytflcbbohnkgokaa", sum := "f1e8e5e8156829ad69a6f555dea751db796d3c2035f4b7feefe077c61a0e35f0", func := "chandler/chandlerlaw02.ScoreSums", spec := "scoreSums", inPlace := ["math.Float64frombits", "math.Float64bits"], apart := false, narrowed := true }
def ScoreSumsUptoSaid : Prop := scoreSumsUptoRow.holds Try.pinned (OpenSpec.upto scoreSumsSpec)

/-- 'chandlerlaw02.ScoreMeans', WHERE WHAT IT READS IS OF BULK AT MOST 1048576: true; the input reads as it did. -/
def scoreMeansUptoRow : OpenClaim := { program := "ytflcbbohnkgokaa", sum := "f1e8e5e8156829ad69a6f555dea751db796d3c2035f4b7feefe077c61a0e35f0", func := "chandler/chandlerlaw02.ScoreMeans", spec := "scoreMeans", inPlace := ["math.Float64frombits", "math.Float64bits"], apart := false, narrowed := true }
def ScoreMeansUptoSaid : Prop := scoreMeansUptoRow.holds Try.pinned (OpenSpec.upto scoreMeansSpec)

/-- 'chandlerlaw02.ScoreCompares', WHERE WHAT IT READS IS OF BULK AT MOST 1048576: true; the input reads as it did. -/
def scoreComparesUptoRow : OpenClaim := { program := "ytflcbbohnkgokaa", sum := "f1e8e5e8156829ad69a6f555dea751db796d3c2035f4b7feefe077c61a0e35f0", func := "chandler/chandlerlaw02.ScoreCompares", spec := "scoreCompares", inPlace := ["math.Float64frombits", "math.Float64bits"], apart := false, narrowed := true }
def ScoreComparesUptoSaid : Prop := scoreComparesUptoRow.holds Try.pinned (OpenSpec.upto scoreComparesSpec)

/-- 'chandlerlaw02.ScoreClamps', WHERE WHAT IT READS IS OF BULK AT MOST 1048576: true; the input reads as it did. -/
def scoreClampsUptoRow : OpenClaim := { program := "ytflcbbohnkgokaa", sum := "f1e8e5e8156829ad69a6f555dea751db796d3c2035f4b7feefe077c61a0e35f0", func := "chandler/chandlerlaw02.ScoreClamps", spec := "scoreClamps", inPlace := ["math.Float64frombits", "math.Float64bits"], apart := false, narrowed := true }
def ScoreClampsUptoSaid : Prop := scoreClampsUptoRow.holds Try.pinned (OpenSpec.upto scoreClampsSpec)

end Rows
end Go.Proofs.Ytflcbbohnkgokaa
