/- Calls with what is known, run once (part 0). -/
import Derived.Test.YtoebfmhogkjmgaaGreatDoorRaR
namespace Go.Proofs.YtoebfmhogkjmgaaGreatDoor.Gx
open Go.RowKit
set_option linter.unusedVariables false
def Raq0 : Fact := ⟨27, [.c (.s [112, 111, 108, 105, 99, 121, 10, 115, 111, 117, 114, 99, 101, 32, 109, 97, 105, 110, 32, 51, 102, 102, 48, 48, 48, 48, 48, 48, 48, 48, 48, 48, 48, 48, 48, 32, 111, 112, 101, 110, 10, 116, 101, 110, 97, 110, 116, 32, 116, 32, 45, 10])], [], 10, .tup [.agg [.sl 121 0 1 1 3 false, .v (.slice none 0 0), .v (.slice none 0 0), .v (.slice none 0 0), .sl 132 0 1 1 2 false], .agg [gi 0, gi 0, gi 0]], [(121, .cells 278 [.s [109, 97, 105, 110], .v (.float .f64 4607182418800017408), .v (.bool true)] 121), (132, .cells 307 [.s [116], .v (.int .u32 (.ofNat 0))] 132)], 138⟩
theorem Raq0_ok : FactOk Tryz.prog Raq0 := fact_ok Ramixed RaregsOk (F := 100000) (d := 60) (tab := []) AllOk.nil (by kernel_rfl)
end Go.Proofs.YtoebfmhogkjmgaaGreatDoor.Gx
