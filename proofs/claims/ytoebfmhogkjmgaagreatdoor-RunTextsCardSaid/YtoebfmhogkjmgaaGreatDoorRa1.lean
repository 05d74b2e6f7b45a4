/- Calls with what is known, run once (part 1). -/
import Derived.Test.YtoebfmhogkjmgaaGreatDoorRa0
namespace Go.Proofs.YtoebfmhogkjmgaaGreatDoor.Gx
open Go.RowKit
set_option linter.unusedVariables false
def Raq1 : Fact := ⟨29, [.c (.s [109, 97, 110, 105, 102, 101, 115, 116, 10, 114, 111, 111, 116, 32, 97, 32, 42, 10])], [], 140, .tup [.agg [.sl 236 0 1 1 3 false], .agg [gi 0, gi 0, gi 0]], [(224, .cells 431 [gi 8, gi 0, gi 0, gi 0, .s []] 224), (226, .cells 359 [.sl 224 0 1 1 5 false] 226), (236, .cells 178 [.s [97], .sl 226 0 1 1 1 false, .v (.slice none 0 0)] 236)], 242⟩
theorem Raq1_ok : FactOk Tryz.prog Raq1 := fact_ok Ramixed RaregsOk (F := 100000) (d := 60) (tab := []) AllOk.nil (by kernel_rfl)
def Raq2 : Fact := ⟨31, [.c (.s [105, 110, 100, 101, 120, 32, 109, 97, 105, 110, 10, 101, 110, 116, 114, 121, 32, 97, 32, 49, 46, 48, 46, 48, 32, 48, 48, 48, 48, 48, 48, 48, 48, 48, 48, 48, 48, 48, 48, 97, 97, 32, 45, 10])], [], 253, .tup [.agg [.s [109, 97, 105, 110], .sl 364 0 1 1 11 false], .agg [gi 0, gi 0, gi 0]], [(364, .cells 138 [.s [97], gi 1, gi 0, gi 0, .s [], .v (.int .u64 (.ofNat 170)), .v (.int .u32 (.ofNat 0)), .v (.bool false), .v (.slice none 0 0), .v (.slice none 0 0), .v (.slice none 0 0)] 364)], 370⟩
theorem Raq2_ok : FactOk Tryz.prog Raq2 := fact_ok Ramixed RaregsOk (F := 100000) (d := 60) (tab := []) AllOk.nil (by kernel_rfl)
end Go.Proofs.YtoebfmhogkjmgaaGreatDoor.Gx
