/- What Each defers. -/
import Derived.Test.YtfhicmjfifpjkaaLinB
import Derived.Defers
import Derived.Recover
import Derived.Laws.Pointers
namespace Go.Proofs.Ytfhicmjfifpjkaa
open Go.RowKit
set_option linter.unusedVariables false
def stopW (c l k : Int) : Value := .iface 72 (.agg #[.int .i64 c, .int .i64 l, .int .i64 k])
theorem assert_stop (v : Value) (w : World) : (Instr.typeAssert (.iface 72 v) 20 72 true).run Try.prog w = .ok (.tuple #[v, .bool true]) w := by kernel_rfl
set_option maxRecDepth 100000 in
theorem each1_panicking (H : Nat) (c l k : Int) (older : List PanicEntry) (w : World) (hv : ∃ a b d, VarAt w H [a, b, d]) :
    CallsD Try.prog 34 #[.pointer (some ⟨H, 0, none⟩)] (.panicking ({ v := stopW c l k, recovered := false } :: older)) w fun e u' w' =>
      e = .returned (.tuple #[]) ∧ u' = .panicking ({ v := stopW c l k, recovered := true } :: older) ∧ VarAt w' H [.int .i64 c, .int .i64 l, .int .i64 k] ∧ Near (fun b => b = H) w w' := by
  obtain ⟨a, b, d, hv⟩ := hv
  have c0 := hv.get 0 rfl
  have c1 := hv.get 1 rfl
  have c2 := hv.get 2 rfl
  have z := hv.free
  have hl := hv.lt
  refine callsD_of_wpS Try.func34 rfl fun c₀ cs hu => ?_
  apply wpS_seq
  apply wpS_region
  simp [wpOpsS, go_sem, recoverD, hu, Try.ntmps34, Exit.thenS]
  have hT : #[Value.pointer (some ⟨H, 0, none⟩)] ++ (Array.replicate 11 undef).setIfInBounds 3 (stopW c l k) = #[.pointer (some ⟨H, 0, none⟩), undef, undef, undef, stopW c l k, undef, undef, undef, undef, undef, undef, undef] := by rfl
  rw [hT]
  clear hT
  refine wpS_of_wp ?_
  unfold stopW
  clear hu
  have hta := assert_stop (.agg #[.int .i64 c, .int .i64 l, .int .i64 k])
  have hn1 : ¬ H = w.heap.size := by omega
  have HV := Lib.hid ((((hv.set 0 (by simp) (.int .i64 c)).set 1 (by simp) (.int .i64 l)).set 2 (by simp) (.int .i64 k)).alloc (.cells #[.int .i64 c, .int .i64 l, .int .i64 k] 72))
  have HN := Lib.hid ((((near_setCell w ⟨H, 0, none⟩ (.int .i64 c) (F := fun b => b = H) rfl).trans (near_setCell _ ⟨H, 1, none⟩ (.int .i64 l) (F := fun b => b = H) rfl)).trans (near_setCell _ ⟨H, 2, none⟩ (.int .i64 k) (F := fun b => b = H) rfl)).trans (near_alloc _ _ (.cells #[.int .i64 c, .int .i64 l, .int .i64 k] 72)))
  clear hv
  go_wp2_with fail
  simp [bodyPostS, results, Try.results34]
  exact ⟨HV.out, HN.out⟩
set_option maxRecDepth 100000 in
theorem each1_idle (H : Nat) (w : World) :
    CallsD Try.prog 34 #[.pointer (some ⟨H, 0, none⟩)] .returning w fun e u' w' => e = .returned (.tuple #[]) ∧ u' = .returning ∧ w' = w := by
  refine callsD_of_wpS Try.func34 rfl fun c₀ cs hu => ?_
  apply wpS_seq
  apply wpS_region
  simp [wpOpsS, go_sem, recoverD, hu, Try.ntmps34, Exit.thenS]
  have hT : #[Value.pointer (some ⟨H, 0, none⟩)] ++ (Array.replicate 11 undef).setIfInBounds 3 (.nilIface) = #[.pointer (some ⟨H, 0, none⟩), undef, undef, undef, .nilIface, undef, undef, undef, undef, undef, undef, undef] := by rfl
  rw [hT]
  clear hT
  refine wpS_of_wp ?_
  go_wp2_with fail
  cases c₀
  simp_all [bodyPostS, results, Try.results34]
end Go.Proofs.Ytfhicmjfifpjkaa
