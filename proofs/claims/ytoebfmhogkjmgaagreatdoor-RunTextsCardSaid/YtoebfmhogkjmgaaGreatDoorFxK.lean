/- Steps of a walk on states. No program in sight. -/
import Derived.Test.YtoebfmhogkjmgaaGreatDoorFxJ
namespace Go.Proofs.YtoebfmhogkjmgaaGreatDoor.Fx
open Go.RowKit
set_option linter.unusedVariables false
set_option linter.unusedSimpArgs false
section
variable {P : Program} {n : Nat} {Q : AEx → ASt → Prop} {s : ASt}
def kdLe : Kd → Kd → Bool
  | .p, .p => true
  | .p, .r => true
  | .p, .w => true
  | .r, .r => true
  | .r, .w => true
  | .n, .n => true
  | .n, .w => true
  | .w, .w => true
  | _, _ => false
theorem StepK.up {k k' : Kd} {o : Oper} {ρ : Operand → AV} {H H' : AHeap} {v : AV} (hs : StepK P k o ρ H H' v) (hle : kdLe k k' = true) : StepK P k' o ρ H H' v := by
  cases k <;> cases k' <;> first | exact hs | (cases hle; done) | exact ⟨hs.1, fun H2 _ => hs.2 H2⟩ | exact hs.step
theorem run_step {l : List Oper} {i : Nat} {κ : Kd} {r : List (Nat × Kd)} {K : ASt → Prop} {o : Oper} (ho : l[i]? = some o) (hw : wanted1 l.toArray s.sl o = some true) {k : Kd} {v : AV} {H' : AHeap} (hs : StepK P k o (ev s.sl) s.hp H' v) (hle : kdLe k κ = true)
    (h : RunL P l.toArray r ⟨sput s.sl o.dst v, H'⟩ K) : RunL P l.toArray ((i, κ) :: r) s K :=
  ⟨o, by simpa using ho, .inl ⟨hw, v, H', hs.up hle, h⟩⟩
theorem run_skip {l : List Oper} {i : Nat} {κ : Kd} {r : List (Nat × Kd)} {K : ASt → Prop} {o : Oper} (ho : l[i]? = some o) (hw : wanted1 l.toArray s.sl o = some false)
    (h : RunL P l.toArray r ⟨sput s.sl o.dst (.tup []), s.hp⟩ K) : RunL P l.toArray ((i, κ) :: r) s K :=
  ⟨o, by simpa using ho, .inr ⟨hw, h⟩⟩
theorem run_nil {ops : Array Oper} {K : ASt → Prop} (h : K s) : RunL P ops [] s K := h
/-- a region in the text's order -/
def RunT (P : Program) (ops : Array Oper) : List Oper → ASt → (ASt → Prop) → Prop
  | [], s, K => K s
  | o :: r, s, K => (wanted1 ops s.sl o = some true ∧ ∃ v H', Step P o (ev s.sl) s.hp H' v ∧ RunT P ops r ⟨sput s.sl o.dst v, H'⟩ K) ∨ (wanted1 ops s.sl o = some false ∧ RunT P ops r ⟨sput s.sl o.dst (.tup []), s.hp⟩ K)
theorem runT_runL {ops : List Oper} {K : ASt → Prop} : ∀ (l : List Oper) (k : Nat) (s : ASt), (∀ j, l[j]? = ops[k + j]?) → RunT P ops.toArray l s K → RunL P ops.toArray ((List.range' k l.length).map fun i => (i, Kd.w)) s K := by
  intro l
  induction l with
  | nil => intro k s _ h; exact h
  | cons o r ih =>
    intro k s hk h
    have h0 : ops[k]? = some o := by simpa using (hk 0).symm
    have ih' := fun s => ih (k + 1) s (fun j => by have := hk (j + 1); simpa [Nat.add_assoc, Nat.add_comm 1 j] using this)
    rw [List.length_cons, List.range'_succ, List.map_cons]
    refine ⟨o, by simpa using h0, ?_⟩
    rcases h with ⟨hw, v, H', hs, h⟩ | ⟨hw, h⟩
    · exact .inl ⟨hw, v, H', hs, ih' _ h⟩
    · exact .inr ⟨hw, ih' _ h⟩
theorem awp_text {id : Nat} {ops : List Oper} (hd : dstsOk n ops.toArray = true) (h : RunT P ops.toArray ops s (fun s => Q .normal s)) : awp P n (.region id ops.toArray false) Q s :=
  awp_region ((List.range' 0 ops.length).map fun i => (i, Kd.w)) (by rw [List.map_map]; simp [Function.comp_def, List.range_eq_range']) hd (runT_runL ops 0 s (fun j => by simp) h)
theorem runT_step {ops : Array Oper} {o : Oper} {r : List Oper} {K : ASt → Prop} (hw : wanted1 ops s.sl o = some true) {k : Kd} {v : AV} {H' : AHeap} (hs : StepK P k o (ev s.sl) s.hp H' v) (h : RunT P ops r ⟨sput s.sl o.dst v, H'⟩ K) : RunT P ops (o :: r) s K := .inl ⟨hw, v, H', hs.step, h⟩
theorem runT_skip {ops : Array Oper} {o : Oper} {r : List Oper} {K : ASt → Prop} (hw : wanted1 ops s.sl o = some false) (h : RunT P ops r ⟨sput s.sl o.dst (.tup []), s.hp⟩ K) : RunT P ops (o :: r) s K := .inr ⟨hw, h⟩
theorem runT_nil {ops : Array Oper} {K : ASt → Prop} (h : K s) : RunT P ops [] s K := h
/-- a known value's slot -/
theorem step_known {o : Oper} {ρ : Operand → AV} {H : AHeap} (hs : ∀ cs b, o.op ≠ .select cs b) (hx : ∀ x ∈ o.op.operands, (exAV (ρ x)).isSome = true) (y : Value) {v : AV} (hrun : ∀ w, (execOp (fun x => (exAV (ρ x)).getD undef) o).run P w = .ok (.value y) w) (hv : constAV y = v) : StepK P .p o ρ H H v := hv ▸ step_exact hs y hx hrun
end
end Go.Proofs.YtoebfmhogkjmgaaGreatDoor.Fx
