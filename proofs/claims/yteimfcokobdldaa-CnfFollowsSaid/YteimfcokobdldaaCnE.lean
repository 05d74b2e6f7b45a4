/- Holds, Taut, Subsumes: the program's, and the reference's. -/
import Derived.Test.YteimfcokobdldaaCnD
namespace Go.Proofs.Yteimfcokobdldaa
open Go.RowKit
set_option linter.unusedVariables false
/-- numbers that are no more than a million, up or down, and not 0 -/
def Lits (c : List Int) : Prop := ∀ x ∈ c, x ≠ 0 ∧ -1000000 ≤ x ∧ x ≤ 1000000
def holdsB (LL : List (List Int)) (M : List Bool) : Bool := LL.all fun c => c.any (trueB M)
def tautB (c : List Int) : Bool := c.any fun x => hasB c (-x)
def subB (a b : List Int) : Bool := a.all fun x => hasB b x
theorem ent_h1 (args : Array Value) (w : World) : (callFunc 50 args).run Try.prog w = .ok (.enter 50 args) w :=
  Go.MuLone.run_callFunc_enter Try.func50 (by kernel_rfl) rfl args w
theorem ent_h11 (args : Array Value) (w : World) : (callFunc 51 args).run Try.prog w = .ok (.enter 51 args) w :=
  Go.MuLone.run_callFunc_enter Try.func51 (by kernel_rfl) rfl args w
theorem ent_taut (args : Array Value) (w : World) : (callFunc 44 args).run Try.prog w = .ok (.enter 44 args) w :=
  Go.MuLone.run_callFunc_enter Try.func44 (by kernel_rfl) rfl args w
theorem ent_sub (args : Array Value) (w : World) : (callFunc 55 args).run Try.prog w = .ok (.enter 55 args) w :=
  Go.MuLone.run_callFunc_enter Try.func55 (by kernel_rfl) rfl args w
theorem h11_any (b : Nat) (x : Int) (a : Option Addr) (cap : Nat) (M : List Bool) (w : World) (hb : w.cell? ⟨b, 0, none⟩ = some (.slice a M.length cap)) (h : ValRow w (.slice a M.length cap) (boolVals M)) (h0 : x ≠ 0) (h1 : -1000000 ≤ x) (h2 : x ≤ 1000000) :
    Calls Try.prog 51 #[.int .i64 x, .pointer (some ⟨b, 0, none⟩)] w fun e w' => e = .returned (.bool (trueB M x)) ∧ w = w' := by
  obtain ⟨v, hv⟩ : ∃ v, trueB M x = v := ⟨_, rfl⟩
  have HC := Lib.hid (true_any x a cap M w h h0 h1 h2 v (Lib.hid hv))
  rw [hv]
  clear h hv h0
  go_enter Try.func51, Try.ntmps51
  go_wp2_with fail
  refine HC.out.mono ?_
  rintro e w1 ⟨rfl, rfl⟩
  go_wp2_with fail
  go_ret
  exact ⟨rfl, rfl⟩
theorem h1_any (b : Nat) (va : Option Addr) (vc : Nat) (c : List Int) (a : Option Addr) (cap : Nat) (M : List Bool) (w : World) (hb : w.cell? ⟨b, 0, none⟩ = some (.slice a M.length cap)) (h : ValRow w (.slice a M.length cap) (boolVals M)) (hc : ValRow w (.slice va c.length vc) (intVals c)) (hl : Lits c) :
    Calls Try.prog 50 #[.slice va c.length vc, .pointer (some ⟨b, 0, none⟩)] w fun e w' => e = .returned (.bool (!c.any (trueB M))) ∧ w = w' := by
  have hmf : ∀ (fn : Fn) (first cap : Array Value) (w : World), (Instr.makeFunc fn first cap).run Try.prog w = .ok (.func fn first cap) w := fun _ _ _ _ => rfl
  obtain ⟨v, hv⟩ : ∃ v, c.any (trueB M) = v := ⟨_, rfl⟩
  have HC := Lib.hid (contF_any (trueB M) 51 #[.pointer (some ⟨b, 0, none⟩)] va vc c w hc ent_h11 (fun x hx => h11_any b x a cap M w hb h (hl x hx).1 (hl x hx).2.1 (hl x hx).2.2) v (Lib.hid hv))
  rw [hv]
  clear h hv hl hc hb
  go_enter Try.func50, Try.ntmps50
  go_wp2_with fail
  refine HC.out.mono ?_
  rintro e w1 ⟨rfl, rfl⟩
  go_wp2_with fail
  go_ret
  exact ⟨rfl, rfl⟩
theorem holds_not (LL : List (List Int)) (M : List Bool) : (!(LL.any fun c => !c.any (trueB M))) = holdsB LL M := by
  unfold holdsB
  rw [List.not_any_eq_all_not]
  simp
theorem holds_any (n : Int) (va : Option Addr) (vc : Nat) (LL : List (List Int)) (a : Option Addr) (cap : Nat) (M : List Bool) (w : World) (hL : RowOf 1 IntsC w (.slice va LL.length vc) LL) (h : ValRow w (.slice a M.length cap) (boolVals M)) (hl : ∀ c ∈ LL, Lits c) (v : Bool) (hv : Hid (holdsB LL M = v)) :
    Calls Try.prog 26 #[.agg #[.int .i64 n, .slice va LL.length vc], .slice a M.length cap] w fun e w' => e = .returned (.bool v) ∧ Below w.heap.size w w' := by
  have hmf : ∀ (fn : Fn) (first cap : Array Value) (w : World), (Instr.makeFunc fn first cap).run Try.prog w = .ok (.func fn first cap) w := fun _ _ _ _ => rfl
  obtain ⟨u, hu⟩ : ∃ u, (LL.any fun c => !c.any (trueB M)) = u := ⟨_, rfl⟩
  have HU : Hid ((!u) = v) := Lib.hid (by rw [← hu, holds_not]; exact hv.out)
  have hb2 : Below w.heap.size w ((w.alloc (.cells #[.int .i64 n, .slice va LL.length vc] 26)).alloc (.cells #[.slice a M.length cap] 44)) := ((Below.refl _ _).alloc (Nat.le_refl _) _).alloc (by simp) _
  have hm1 : ((w.alloc (.cells #[.int .i64 n, .slice va LL.length vc] 26)).alloc (.cells #[.slice a M.length cap] 44)).cell? ⟨w.heap.size + 1, 0, none⟩ = some (.slice a M.length cap) :=
    (varAt_new _ #[.slice a M.length cap] 44 (w.heap.size + 1) (by simp)).get 0 rfl
  have HB2 := Lib.hid hb2
  have HC := Lib.hid (contG_any (fun c => !c.any (trueB M)) 50 #[.pointer (some ⟨w.heap.size + 1, 0, none⟩)] va vc LL _ (hL.below intsC_lasts hb2) ent_h1 (fun c hc va vc hr => h1_any (w.heap.size + 1) va vc c a cap M _ hm1 (h.below hb2) hr (hl c hc)) u (Lib.hid hu))
  clear h hv hl hL hb2 hm1 hu
  go_enter Try.func26, Try.ntmps26
  go_wp2_with fail
  refine HC.out.mono ?_
  rintro e w1 ⟨rfl, rfl⟩
  go_wp2_with fail
  go_ret
  exact ⟨ret_bool HU.out, HB2.out⟩
theorem taut1_any (b : Nat) (x : Int) (a : Option Addr) (cap : Nat) (c : List Int) (w : World) (hb : w.cell? ⟨b, 0, none⟩ = some (.slice a c.length cap)) (h : ValRow w (.slice a c.length cap) (intVals c)) (h1 : -1000000 ≤ x) (h2 : x ≤ 1000000) :
    Calls Try.prog 44 #[.int .i64 x, .pointer (some ⟨b, 0, none⟩)] w fun e w' => e = .returned (.bool (hasB c (-x))) ∧ w = w' := by
  obtain ⟨v, hv⟩ : ∃ v, hasB c (-x) = v := ⟨_, rfl⟩
  have HC := Lib.hid (contains_any a cap c (-x) w h v (Lib.hid hv))
  rw [hv]
  clear h hv
  go_enter Try.func44, Try.ntmps44
  go_wp2_with fail
  refine HC.out.mono ?_
  rintro e w1 ⟨rfl, rfl⟩
  go_wp2_with fail
  go_ret
  exact ⟨rfl, rfl⟩
theorem taut_any (a : Option Addr) (cap : Nat) (c : List Int) (w : World) (h : ValRow w (.slice a c.length cap) (intVals c)) (hl : Lits c) (v : Bool) (hv : Hid (tautB c = v)) :
    Calls Try.prog 19 #[.slice a c.length cap] w fun e w' => e = .returned (.bool v) ∧ Below w.heap.size w w' := by
  have hmf : ∀ (fn : Fn) (first cap : Array Value) (w : World), (Instr.makeFunc fn first cap).run Try.prog w = .ok (.func fn first cap) w := fun _ _ _ _ => rfl
  have hb2 : Below w.heap.size w (w.alloc (.cells #[.slice a c.length cap] 31)) := (Below.refl _ _).alloc (Nat.le_refl _) _
  have hm1 : (w.alloc (.cells #[.slice a c.length cap] 31)).cell? ⟨w.heap.size, 0, none⟩ = some (.slice a c.length cap) := (varAt_new w #[.slice a c.length cap] 31 _ rfl).get 0 rfl
  have HB2 := Lib.hid hb2
  have HC := Lib.hid (contF_any (fun x => hasB c (-x)) 44 #[.pointer (some ⟨w.heap.size, 0, none⟩)] a cap c _ (h.below hb2) ent_taut (fun x hx => taut1_any w.heap.size x a cap c _ hm1 (h.below hb2) (hl x hx).2.1 (hl x hx).2.2) v hv)
  clear h hv hl hb2 hm1
  go_enter Try.func19, Try.ntmps19
  go_wp2_with fail
  refine HC.out.mono ?_
  rintro e w1 ⟨rfl, rfl⟩
  go_wp2_with fail
  go_ret
  exact ⟨rfl, HB2.out⟩
theorem sub1_any (b : Nat) (x : Int) (a : Option Addr) (cap : Nat) (c : List Int) (w : World) (hb : w.cell? ⟨b, 0, none⟩ = some (.slice a c.length cap)) (h : ValRow w (.slice a c.length cap) (intVals c)) :
    Calls Try.prog 55 #[.int .i64 x, .pointer (some ⟨b, 0, none⟩)] w fun e w' => e = .returned (.bool (!hasB c x)) ∧ w = w' := by
  obtain ⟨v, hv⟩ : ∃ v, hasB c x = v := ⟨_, rfl⟩
  have HC := Lib.hid (contains_any a cap c x w h v (Lib.hid hv))
  rw [hv]
  clear h hv
  go_enter Try.func55, Try.ntmps55
  go_wp2_with fail
  refine HC.out.mono ?_
  rintro e w1 ⟨rfl, rfl⟩
  go_wp2_with fail
  go_ret
  exact ⟨rfl, rfl⟩
theorem sub_not (a b : List Int) : (!(a.any fun x => !hasB b x)) = subB a b := by
  unfold subB
  rw [List.not_any_eq_all_not]
  simp
theorem subsumes_any (va : Option Addr) (vc : Nat) (x : List Int) (a : Option Addr) (cap : Nat) (c : List Int) (w : World) (hx : ValRow w (.slice va x.length vc) (intVals x)) (h : ValRow w (.slice a c.length cap) (intVals c)) (v : Bool) (hv : Hid (subB x c = v)) :
    Calls Try.prog 33 #[.slice va x.length vc, .slice a c.length cap] w fun e w' => e = .returned (.bool v) ∧ Below w.heap.size w w' := by
  have hmf : ∀ (fn : Fn) (first cap : Array Value) (w : World), (Instr.makeFunc fn first cap).run Try.prog w = .ok (.func fn first cap) w := fun _ _ _ _ => rfl
  obtain ⟨u, hu⟩ : ∃ u, (x.any fun y => !hasB c y) = u := ⟨_, rfl⟩
  have HU : Hid ((!u) = v) := Lib.hid (by rw [← hu, sub_not]; exact hv.out)
  have hb2 : Below w.heap.size w (w.alloc (.cells #[.slice a c.length cap] 31)) := (Below.refl _ _).alloc (Nat.le_refl _) _
  have hm1 : (w.alloc (.cells #[.slice a c.length cap] 31)).cell? ⟨w.heap.size, 0, none⟩ = some (.slice a c.length cap) := (varAt_new w #[.slice a c.length cap] 31 _ rfl).get 0 rfl
  have HB2 := Lib.hid hb2
  have HC := Lib.hid (contF_any (fun y => !hasB c y) 55 #[.pointer (some ⟨w.heap.size, 0, none⟩)] va vc x _ (hx.below hb2) ent_sub (fun y hy => sub1_any w.heap.size y a cap c _ hm1 (h.below hb2)) u (Lib.hid hu))
  clear h hv hx hb2 hm1 hu
  go_enter Try.func33, Try.ntmps33
  go_wp2_with fail
  refine HC.out.mono ?_
  rintro e w1 ⟨rfl, rfl⟩
  go_wp2_with fail
  go_ret
  exact ⟨ret_bool HU.out, HB2.out⟩
end Go.Proofs.Yteimfcokobdldaa
