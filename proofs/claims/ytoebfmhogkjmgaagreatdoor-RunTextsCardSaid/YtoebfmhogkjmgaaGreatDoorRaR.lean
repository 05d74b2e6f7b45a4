/- The functions that a run enters, looked at ahead of it. -/
import Derived.Test.YtoebfmhogkjmgaaGreatDoorProg
import Derived.Test.YtoebfmhogkjmgaaGreatDoorGxK
namespace Go.Proofs.YtoebfmhogkjmgaaGreatDoor.Gx
open Go.RowKit
set_option linter.unusedVariables false
def gi (n : Nat) : GC := .v (.int .i64 (.ofNat n))
def gu (n : Nat) : GC := .v (.int .u8 (.ofNat n))
def Raregs : Nat := 11090768933155567031679690949052133371003978349028378209956934560687189630781982746517783622057911361156857949718342185080680611616
theorem Raok0 : ([5, 8, 9, 10, 11, 12, 13, 14, 15, 16, 17, 18, 19, 20, 21, 22, 23, 24, 25, 26, 27, 29, 30, 31, 32] : List Nat).all (funOk Tryz.prog) = true := by kernel_rfl
theorem Raok1 : ([34, 35, 36, 37, 38, 39, 40, 41, 42, 43, 44, 45, 46, 47, 48, 49, 50, 52, 53, 54, 55, 56, 57, 58, 59] : List Nat).all (funOk Tryz.prog) = true := by kernel_rfl
theorem Raok2 : ([61, 62, 63, 64, 65, 66, 67, 68, 72, 73, 74, 75, 76, 77, 78, 79, 80, 81, 82, 85, 87, 88, 89, 91, 92] : List Nat).all (funOk Tryz.prog) = true := by kernel_rfl
theorem Raok3 : ([93, 94, 95, 96, 97, 98, 99, 100, 101, 102, 103, 104, 105, 106, 107, 108, 109, 111, 112, 113, 114, 117, 118, 121, 122] : List Nat).all (funOk Tryz.prog) = true := by kernel_rfl
theorem Raok4 : ([123, 124, 125, 126, 127, 128, 129, 131, 132, 133, 134, 135, 136, 137, 142, 143, 144, 146, 147, 148, 149, 150, 167, 168, 169] : List Nat).all (funOk Tryz.prog) = true := by kernel_rfl
theorem Raok5 : ([170, 171, 172, 173, 174, 175, 176, 177, 178, 182, 183, 184, 185, 187, 189, 191, 194, 195, 196, 197, 198, 199, 201, 202, 204] : List Nat).all (funOk Tryz.prog) = true := by kernel_rfl
theorem Raok6 : ([205, 206, 207, 209, 210, 211, 213, 214, 215, 216, 217, 218, 219, 220, 221, 223, 224, 225, 226, 227, 228, 229, 231, 232, 234] : List Nat).all (funOk Tryz.prog) = true := by kernel_rfl
theorem Raok7 : ([235, 236, 237, 238, 239, 240, 241, 243, 248, 252, 253, 255, 256, 257, 258, 259, 262, 263, 265, 267, 269, 272, 281, 283, 284] : List Nat).all (funOk Tryz.prog) = true := by kernel_rfl
theorem Raok8 : ([285, 286, 287, 288, 289, 290, 292, 293, 300, 301, 302, 303, 304, 306, 316, 317, 318, 321, 322, 324, 325, 326, 329, 334, 336] : List Nat).all (funOk Tryz.prog) = true := by kernel_rfl
theorem Raok9 : ([338, 339, 340, 346, 347, 354, 357, 367, 374, 381, 383, 384, 401, 405, 406, 411, 415, 432] : List Nat).all (funOk Tryz.prog) = true := by kernel_rfl
theorem Ramixed : Tryz.prog.follows .mixedOrders = true := by kernel_rfl
theorem RaregsOk : RegsOk Tryz.prog Raregs := regs_ok (l := [5, 8, 9, 10, 11, 12, 13, 14, 15, 16, 17, 18, 19, 20, 21, 22, 23, 24, 25, 26, 27, 29, 30, 31, 32] ++ [34, 35, 36, 37, 38, 39, 40, 41, 42, 43, 44, 45, 46, 47, 48, 49, 50, 52, 53, 54, 55, 56, 57, 58, 59] ++ [61, 62, 63, 64, 65, 66, 67, 68, 72, 73, 74, 75, 76, 77, 78, 79, 80, 81, 82, 85, 87, 88, 89, 91, 92] ++ [93, 94, 95, 96, 97, 98, 99, 100, 101, 102, 103, 104, 105, 106, 107, 108, 109, 111, 112, 113, 114, 117, 118, 121, 122] ++ [123, 124, 125, 126, 127, 128, 129, 131, 132, 133, 134, 135, 136, 137, 142, 143, 144, 146, 147, 148, 149, 150, 167, 168, 169] ++ [170, 171, 172, 173, 174, 175, 176, 177, 178, 182, 183, 184, 185, 187, 189, 191, 194, 195, 196, 197, 198, 199, 201, 202, 204] ++ [205, 206, 207, 209, 210, 211, 213, 214, 215, 216, 217, 218, 219, 220, 221, 223, 224, 225, 226, 227, 228, 229, 231, 232, 234] ++ [235, 236, 237, 238, 239, 240, 241, 243, 248, 252, 253, 255, 256, 257, 258, 259, 262, 263, 265, 267, 269, 272, 281, 283, 284] ++ [285, 286, 287, 288, 289, 290, 292, 293, 300, 301, 302, 303, 304, 306, 316, 317, 318, 321, 322, 324, 325, 326, 329, 334, 336] ++ [338, 339, 340, 346, 347, 354, 357, 367, 374, 381, 383, 384, 401, 405, 406, 411, 415, 432]) (by kernel_rfl) (by
  simp only [List.all_append, Bool.and_eq_true]
  exact ⟨⟨⟨⟨⟨⟨⟨⟨⟨Raok0, Raok1⟩, Raok2⟩, Raok3⟩, Raok4⟩, Raok5⟩, Raok6⟩, Raok7⟩, Raok8⟩, Raok9⟩)
end Go.Proofs.YtoebfmhogkjmgaaGreatDoor.Gx
