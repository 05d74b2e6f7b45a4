/- A row of sixteen bytes that is filled with a number's digits, and its text; no condition. -/
import Derived.Test.YtflcbbohnkgokaaRefHex
import Derived.Laws.NewBlocks
namespace Go.Proofs.Ytflcbbohnkgokaa
open Go.RowKit
open Go.PlainAid (bt get_bt bt_nonneg bt_le)
set_option linter.unusedVariables false

def byteVals (l : List UInt8) : List Value := l.map fun c => Value.int .u8 (c.toNat : Int)
def hexCells (n k : Nat) : Array Value := (byteVals (hexTo n k) ++ List.replicate (16 - k) (Value.int .u8 0)).toArray
theorem hexCells_size (n k : Nat) (h : k ≤ 16) : (hexCells n k).size = 16 := by simp [hexCells, byteVals, hexTo_length]; omega
theorem hexCells_set (n k : Nat) (h : k < 16) (d : UInt8) (x : Int) (hx : x = d.toNat) (hd : hexTo n (k + 1) = hexTo n k ++ [d]) : (hexCells n k).setIfInBounds k (.int .u8 x) = hexCells n (k + 1) := by
  have hl := hexTo_length n k
  subst hx
  apply Array.toList_inj.1
  rw [Array.toList_setIfInBounds]
  simp only [hexCells, hd, byteVals]
  have e : 16 - k = (16 - (k + 1)) + 1 := by omega
  rw [List.set_append_right _ _ (by simp [hl])]
  simp only [List.length_map, hl, Nat.sub_self]
  rw [e, List.replicate_succ, List.set_cons_zero]
  simp
theorem strOf_byteVals (l : List UInt8) : strOfNums (l.map fun c => (c.toNat : Int)) = ⟨l.toArray⟩ := by
  unfold strOfNums
  congr 1
  simp [Function.comp_def]
/-- 'string(b)' of a row of bytes that lies in a block of its own -/
theorem conv_row (wx : World) (l : List UInt8) (c : Nat) (A : Array Value) (hA : A = (byteVals l).toArray) : (convert 52 9 (.slice (some ⟨wx.heap.size, 0, none⟩) l.length c)).run Try.prog (wx.alloc (.cells A 5)) = .ok (.string ⟨l.toArray⟩) (wx.alloc (.cells A 5)) := by
  subst hA
  rw [← strOf_byteVals l]
  refine run_convert_bytes_arg _ 52 5 Try.underlying52 Try.underlying5 _ 0 l.length c (l.map fun c => (c.toNat : Int)) (by simp) (fun i hi => ?_) 9 Try.underlying9
  simp [go_sem, byteVals, hi]
end Go.Proofs.Ytflcbbohnkgokaa
