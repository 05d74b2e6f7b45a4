/- Parts of the proofs, put together: CnS. -/
import Derived.Test.YtiimkhnngpfnbaaR13
import Derived.Shelf.SlicesE.DeleteFunc
/- slices.DeleteFunc laid at this program; a clause without a literal. -/
namespace Go.Proofs
open Go.Shelf
def Try.delL_ren : Go.Shelf.Ren := ⟨fun | 6 => 69 | 10 => 54 | n => n, fun | 0 => 0 | 3 => 3 | 4 => 4 | 22 => 27 | 23 => 3 | 25 => 80 | n => n, fun | n => n⟩
theorem Try.delL : Go.Proofs.SlLaysH.n10 Try.prog Try.delL_ren := {
  mixed := by kernel_rfl
  f6 := ⟨Try.f69.name, by decide, Try.func69.trans (congrArg some (by kernel_rfl))⟩
  f10 := ⟨Try.f54.name, by decide, Try.func54.trans (congrArg some (by kernel_rfl))⟩
  t0 := Try.underlying0
  a0 := Try.isAgg0
  z0 := Try.sizeOf0
  v0 := Try.zeroValue0
  t3 := Try.underlying3
  a3 := Try.isAgg3
  z3 := Try.sizeOf3
  v3 := Try.zeroValue3
  t4 := Try.underlying4
  a4 := Try.isAgg4
  z4 := Try.sizeOf4
  v4 := Try.zeroValue4
  t22 := Try.underlying27
  a22 := Try.isAgg27
  z22 := Try.sizeOf27
  v22 := Try.zeroValue27
  a23 := Try.isAgg3
  z23 := Try.sizeOf3
  t25 := Try.underlying80
  a25 := Try.isAgg80
  z25 := Try.sizeOf80
  v25 := Try.zeroValue80 }
end Go.Proofs
namespace Go.Proofs.Ytiimkhnngpfnbaa
open Go.RowKit
set_option linter.unusedVariables false
theorem without1_any (b : Nat) (x v : Int) (w : World) (hb : w.cell? ⟨b, 0, none⟩ = some (.int .i64 v)) :
    Calls Try.prog 55 #[.int .i64 x, .pointer (some ⟨b, 0, none⟩)] w fun e w' => e = .returned (.bool (x == v)) ∧ w' = w := by
  by_cases h : x = v
  · subst h
    go_enter Try.func55, Try.ntmps55
    go_wp2_with fail
    go_ret
    exact ⟨by simp, rfl⟩
  · have e0 := ief h
    go_enter Try.func55, Try.ntmps55
    go_wp2_with fail
    go_ret
    exact ⟨by simp [h], rfl⟩
theorem ent_without (args : Array Value) (w : World) : (callFunc 55 args).run Try.prog w = .ok (.enter 55 args) w :=
  Go.MuLone.run_callFunc_enter Try.func55 (by kernel_rfl) rfl args w
def withoutL (c : List Int) (v : Int) : List Int := c.filter fun x => !(x == v)
theorem delete_own (base g cap b : Nat) (c : List Int) (v : Int) (w : World) (h : OwnI w base g cap c) (hb : w.cell? ⟨b, 0, none⟩ = some (.int .i64 v)) (hne : b ≠ g) (w0 : World) (hb0 : Below base w0 w) :
    Calls Try.prog 54 #[.slice (some ⟨g, 0, none⟩) c.length cap, .func (.func 55) #[] #[.pointer (some ⟨b, 0, none⟩)]] w
      fun e w' => e = .returned (.slice (some ⟨g, 0, none⟩) (withoutL c v).length cap) ∧ OwnI w' base g cap (withoutL c v) ∧ Below base w0 w' := by
  have hmx := h.mx
  have hcp := h.hcap
  unfold maxLen at hmx
  have hbl := lt_of_cell hb
  have hcon := AnyE.slices_DeleteFunc Try.delL (Value.int .i64) (fun _ => rfl) (fun x => x == v) 55 #[.pointer (some ⟨b, 0, none⟩)] ent_without 0 Try.zeroValue3 g 0 cap c.toArray w
    (fun W x hbW => (without1_any b x v W ((hbW.cell (p := ⟨b, 0, none⟩) hbl).trans hb)).mono (fun e w' h => ⟨h.1, 0, by rw [h.2, World.drewN_zero]⟩))
    (fun n os dk x hs => (without1_any b x v _ (by
      unfold sortWorld
      rw [Go.Sort.cell?_grow _ _ _ (by show b < (Go.Sort.putRow _ _ _ _ _).heap.size; rw [Go.Sort.size_putRow]; exact hbl), Go.Sort.cell?_putRow_other _ _ g 0 _ _ (Or.inl hne)]
      exact hb)).mono (fun e w' h => ⟨h.1, 0, by rw [h.2, World.drewN_zero]⟩)) h.holds (by simp; omega) (by simpa using hcp)
  refine hcon.mono ?_
  rintro e w' ⟨rfl, q, rfl⟩
  have hle : (withoutL c v).length ≤ c.length := List.length_filter_le _ _
  refine ⟨rfl, ?_, Go.Lib.below_putRow hb0 h.bg⟩
  have := h.put q (withoutL c v).length (withoutL c v ++ List.replicate (c.length - (withoutL c v).length) 0) (by simp; omega) hle
  rw [List.take_left] at this
  exact this
/-- a clause without a literal; the clause is not empty -/
theorem without_any (ad : Addr) (cap : Nat) (c : List Int) (v : Int) (w : World) (h : ValRow w (.slice (some ad) c.length cap) (intVals c)) (hl : c.length ≤ 1000000) :
    Calls Try.prog 46 #[.slice (some ad) c.length cap, .int .i64 v] w (SliceOf w (withoutL c v)) := by
  have hmf : ∀ (fn : Fn) (first cap : Array Value) (w : World), (Instr.makeFunc fn first cap).run Try.prog w = .ok (.func fn first cap) w := fun _ _ _ _ => rfl
  have hb0 : Below w.heap.size w (w.alloc (.cells #[.int .i64 v] 3)) := (Below.refl _ _).alloc (Nat.le_refl _) _
  have hv0 := varAt_new w #[.int .i64 v] 3 _ rfl
  have H := Lib.hid (h.below hb0)
  have HB0 := Lib.hid hb0
  have HV0 := Lib.hid hv0
  have hsz : (w.alloc (.cells #[.int .i64 v] 3)).heap.size = w.heap.size + 1 := by simp
  have HSZ := Lib.hid hsz
  clear h hb0 hv0 hsz
  go_enter Try.func46, Try.ntmps46
  go_wp2_with fail
  refine (clone_some ad cap c _ H.out hl).mono ?_
  rintro e w1 ⟨g, cp, rfl, ho, hb⟩
  have HO := Lib.hid ho
  have HB := Lib.hid hb
  have HV1 := Lib.hid (HV0.out.after hb)
  clear ho hb
  go_wp2_with fail
  refine (delete_own _ g cp w.heap.size c v _ HO.out (HV1.out.get 0 rfl) (by have := HO.out.bg; rw [HSZ.out] at this; omega) _ HB.out).mono ?_
  rintro e w2 ⟨rfl, ho, hb⟩
  have HO2 := Lib.hid ho
  have HB2 := Lib.hid (HB0.out.trans (hb.mono HB0.out.size))
  clear ho hb
  go_wp2_with fail
  go_ret
  exact ⟨_, _, rfl, HO2.out.row, HB2.out⟩
end Go.Proofs.Ytiimkhnngpfnbaa
