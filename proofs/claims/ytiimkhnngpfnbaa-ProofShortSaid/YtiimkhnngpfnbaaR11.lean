/- Parts of the proofs, put together: CnO, CnQ, CnG, CnH. -/
import Derived.Test.YtiimkhnngpfnbaaR10
import Derived.Lib.OwnBridge
/- slices.Clone, SortFunc, Compact, Clip at slices of ints, in this proof's own words; Norm. -/
namespace Go.Proofs.Ytiimkhnngpfnbaa
open Go.RowKit
set_option linter.unusedVariables false
/-- a slice of ints of the call's own, not nil: where it lies -/
structure OwnI (w : World) (base g cap : Nat) (l : List Int) : Prop where
  own : w.ownsRow base 3 1 (.slice (some ⟨g, 0, none⟩) l.length cap) l.length (intVals l)
  bg : base ≤ g
  lt : g < w.heap.size
  hcap : l.length ≤ cap
  mx : cap ≤ maxLen
  holds : Go.Sort.Holds (Value.int .i64) w g 0 l.toArray
theorem ownI_of {w : World} {base n : Nat} {v : Value} {l : List Int} (h : w.ownsRow base 3 1 v n (l.map (Value.int .i64))) (hv : v ≠ .slice none 0 0) : ∃ g cap, v = .slice (some ⟨g, 0, none⟩) l.length cap ∧ OwnI w base g cap l := by
  obtain ⟨g, cap, rfl, h1, h2, h3, h4, h5, h6⟩ := Go.Lib.holds_of_ownsRow h hv
  subst h5
  exact ⟨g, cap, rfl, h, h1, h2, h3, h4, h6⟩
theorem clone_some (ad : Addr) (cap : Nat) (c : List Int) (w : World) (h : ValRow w (.slice (some ad) c.length cap) (intVals c)) (hl : c.length ≤ 1000000) :
    Calls Try.prog 29 #[.slice (some ad) c.length cap] w fun e w' => ∃ g cp, e = .returned (.slice (some ⟨g, 0, none⟩) c.length cp) ∧ OwnI w' w.heap.size g cp c ∧ Below w.heap.size w w' := by
  rcases h with ⟨a', cap', h1, h2⟩ | ⟨b, off, cap', h1, h2, h3, h4, h5⟩
  · have hc0 : c = [] := by unfold intVals at h2; simpa using h2
    subst hc0
    refine (Try.slices_Clone_int_zero ad cap w).mono ?_
    rintro e w' ⟨v', rfl, ho, hn, hb⟩
    obtain ⟨g, cp, rfl, hO⟩ := ownI_of (l := []) ho hn
    exact ⟨g, cp, rfl, hO, hb⟩
  · simp only [Value.slice.injEq, Option.some.injEq] at h1
    obtain ⟨rfl, h1, rfl⟩ := h1
    refine (Try.slices_Clone_int b off c.length cap c w (Nat.le_refl _) (by omega) (fun j hj => ?_)).mono ?_
    · have := h5 j (by rw [intVals_length]; exact hj)
      rw [this, intVals_get _ _ hj]
    · rintro e w' ⟨v', rfl, ho, hn, hb⟩
      rw [List.take_length] at ho
      obtain ⟨g, cp, rfl, hO⟩ := ownI_of ho hn
      exact ⟨g, cp, rfl, hO, hb⟩
theorem OwnI.put {w : World} {base g cap : Nat} {l : List Int} (h : OwnI w base g cap l) (q k : Nat) (ys : List Int) (hy : ys.length = l.length) (hk : k ≤ l.length) : OwnI (Go.Sort.putRow (Value.int .i64) (Go.Sort.ahead w q) g 0 ys.toArray) base g cap (ys.take k) := by
  have ho := Go.Lib.ownsRow_putRow (q := q) h.own hy hk
  obtain ⟨g', cap', e1, hO⟩ := ownI_of (l := ys.take k) ho (by simp)
  simp only [Value.slice.injEq, Option.some.injEq, Addr.mk.injEq] at e1
  obtain ⟨⟨rfl, _⟩, _, rfl⟩ := e1
  exact hO
theorem OwnI.grown {w w' : World} {base g cap : Nat} {l : List Int} (h : OwnI w base g cap l) (hb : Below w.heap.size w w') : OwnI w' base g cap l := by
  obtain ⟨g', cap', e1, hO⟩ := ownI_of (ownsRow_below h.own hb) (by simp)
  simp only [Value.slice.injEq, Option.some.injEq, Addr.mk.injEq] at e1
  obtain ⟨⟨rfl, _⟩, _, rfl⟩ := e1
  exact hO
theorem below_osg (w : World) (os : Array Obj) : Below w.heap.size w (Go.Sort.grow w os) :=
  ⟨rfl, rfl, rfl, by simp [Go.Sort.grow], fun k hk => by
    simp only [Go.Sort.grow]
    rw [Array.getElem?_append_left hk]⟩
theorem ent_order (args : Array Value) (w : World) : (callFunc 41 args).run Try.prog w = .ok (.enter 41 args) w :=
  Go.MuLone.run_callFunc_enter Try.func41 (by kernel_rfl) rfl args w
theorem sort_own (base g cap : Nat) (c : List Int) (w : World) (h : OwnI w base g cap c) (hl : ∀ x ∈ c, -1000000 ≤ x ∧ x ≤ 1000000) (hlen : c.length ≤ 1000000) (w0 : World) (hb0 : Below base w0 w) :
    Calls Try.prog 40 #[.slice (some ⟨g, 0, none⟩) c.length cap, .func (.func 41) #[] #[]] w fun e w' => e = .returned (.tuple #[]) ∧ OwnI w' base g cap (sortI c) ∧ Below base w0 w' := by
  have hmx := h.mx
  have hcp := h.hcap
  unfold maxLen at hmx
  refine (Any.slices_SortFunc_total Try.sortL (Value.int .i64) (fun _ => rfl) cfW swo_cfW 41 #[] g 0 cap c.toArray w ent_order ?_ h.holds h.lt (by simp; omega) tot_cfW).mono ?_
  · intro m os dk _ x y
    refine (order_any x y _).mono ?_
    rintro e w' ⟨rfl, rfl⟩
    exact ⟨rfl, 0, #[], by rw [World.drewN_zero, Go.Sort.grow_empty]⟩
  · rintro e w' ⟨rfl, n, os, rfl⟩
    refine ⟨rfl, ?_, ?_⟩
    · have h1 := h.put n c.length (sortI c) (sortI_length c) (Nat.le_refl _)
      rw [← sortI_length c, List.take_length] at h1
      have e : (c.toArray.toList.mergeSort fun x y => !(ltOf cfW) y x) = sortI c := sortW_eq hl
      rw [e]
      exact h1.grown (below_osg _ os)
    · have h1 := Go.Lib.below_putRow (enc := Value.int .i64) (q := n) (d := (c.toArray.toList.mergeSort fun x y => !(ltOf cfW) y x).toArray) hb0 h.bg
      refine h1.trans ((below_osg _ os).mono ?_)
      rw [Go.Sort.size_putRow]
      exact Nat.le_trans h.bg (Nat.le_of_lt h.lt)
theorem compact_own (base g cap : Nat) (c : List Int) (w : World) (h : OwnI w base g cap c) (w0 : World) (hb0 : Below base w0 w) :
    Calls Try.prog 43 #[.slice (some ⟨g, 0, none⟩) c.length cap] w fun e w' => e = .returned (.slice (some ⟨g, 0, none⟩) (Go.Lib.compact c).length cap) ∧ OwnI w' base g cap (Go.Lib.compact c) ∧ Below base w0 w' := by
  have hmx := h.mx
  have hcp := h.hcap
  unfold maxLen at hmx
  have hle := Go.Lib.compact_length_le c
  refine (Try.slices_Compact_int g 0 cap c w h.holds (by omega) hcp).mono ?_
  rintro e w' ⟨rfl, q, rfl⟩
  refine ⟨rfl, ?_, Go.Lib.below_putRow hb0 h.bg⟩
  have := h.put q (Go.Lib.compact c).length (Go.Lib.compact c ++ List.replicate (c.length - (Go.Lib.compact c).length) 0) (by simp; omega) hle
  rwa [List.take_left] at this
theorem OwnI.row {w : World} {base g cap : Nat} {l : List Int} (h : OwnI w base g cap l) : ValRow w (.slice (some ⟨g, 0, none⟩) l.length cap) (intVals l) := valRow_own h.own
theorem OwnI.clipped {w : World} {base g cap : Nat} {l : List Int} (h : OwnI w base g cap l) : ValRow w (.slice (some ⟨g, 0, none⟩) l.length l.length) (intVals l) := by
  have hc := h.hcap
  have hm := h.mx
  rcases h.row with ⟨a', cap', h1, h2⟩ | ⟨b, off, cap', h1, h2, h3, h4, h5⟩
  · have hc0 : l = [] := by unfold intVals at h2; simpa using h2
    subst hc0
    exact .inl ⟨_, _, rfl, rfl⟩
  · simp only [Value.slice.injEq, Option.some.injEq, Addr.mk.injEq] at h1
    obtain ⟨⟨rfl, rfl, _⟩, _, rfl⟩ := h1
    rw [intVals_length] at h2
    exact .inr ⟨g, 0, l.length, by rw [intVals_length], by rw [intVals_length]; exact ⟨h2.1, Nat.le_refl _⟩, by omega, h4, h5⟩
theorem clip_any (g n cap : Nat) (w : World) (hn : n ≤ cap) (hm : cap ≤ maxLen) :
    Calls Try.prog 42 #[.slice (some ⟨g, 0, none⟩) n cap] w fun e w' => e = .returned (.slice (some ⟨g, 0, none⟩) n n) ∧ w = w' := by
  unfold maxLen at hm
  go_enter Try.func42, Try.ntmps42
  go_wp2_with fail
  go_ret
  exact ⟨rfl, rfl⟩
theorem clip_nil (w : World) :
    Calls Try.prog 42 #[.slice none 0 0] w fun e w' => e = .returned (.slice none 0 0) ∧ w = w' := by
  go_enter Try.func42, Try.ntmps42
  go_wp2_with fail
  go_ret
  exact ⟨rfl, rfl⟩
end Go.Proofs.Ytiimkhnngpfnbaa
/- The program's Norm. -/
namespace Go.Proofs.Ytiimkhnngpfnbaa
open Go.RowKit
set_option linter.unusedVariables false
def SliceOf (w0 : World) (l : List Int) (e : Ending) (w' : World) : Prop := ∃ a cap, e = .returned (.slice a l.length cap) ∧ ValRow w' (.slice a l.length cap) (intVals l) ∧ Below w0.heap.size w0 w'
theorem norm_nil (cap : Nat) (w : World) : Calls Try.prog 33 #[.slice none 0 cap] w (SliceOf w []) := by
  go_enter Try.func33, Try.ntmps33
  go_wp2_with fail
  refine (Try.slices_Clone_int_nil 0 cap _).mono ?_
  rintro e w1 ⟨rfl, rfl⟩
  go_wp2_with fail
  refine (AnyF.slices_SortFunc_none { Try.sortL with } none 0 _ _).mono ?_
  rintro e w1 ⟨rfl, rfl⟩
  go_wp2_with fail
  refine (Try.slices_Compact_int_empty none 0 _).mono ?_
  rintro e w1 ⟨rfl, rfl⟩
  go_wp2_with fail
  refine (clip_nil _).mono ?_
  rintro e w1 ⟨rfl, rfl⟩
  go_wp2_with fail
  go_ret
  exact ⟨none, 0, rfl, .inl ⟨_, _, rfl, rfl⟩, Below.refl _ _⟩
theorem norm_some (ad : Addr) (cap : Nat) (c : List Int) (w : World) (h : ValRow w (.slice (some ad) c.length cap) (intVals c)) (hlen : c.length ≤ 1000000) (hl : ∀ x ∈ c, -1000000 ≤ x ∧ x ≤ 1000000) :
    Calls Try.prog 33 #[.slice (some ad) c.length cap] w (SliceOf w (normL c)) := by
  have H := Lib.hid h
  have HL := Lib.hid hl
  clear h hl
  go_enter Try.func33, Try.ntmps33
  go_wp2_with fail
  refine (clone_some ad cap c _ H.out hlen).mono ?_
  rintro e w1 ⟨g, cp, rfl, ho, hb⟩
  have HO := Lib.hid ho
  have HB := Lib.hid hb
  clear ho hb
  go_wp2_with fail
  refine (sort_own w.heap.size g cp c _ HO.out HL.out hlen w HB.out).mono ?_
  rintro e w2 ⟨rfl, ho, hb⟩
  have HO2 := Lib.hid ho
  have HB2 := Lib.hid hb
  have e1 : (sortI c).length = c.length := sortI_length c
  clear ho hb
  go_wp2_with fail
  have hc := compact_own w.heap.size g cp (sortI c) _ HO2.out w HB2.out
  rw [e1] at hc
  refine hc.mono ?_
  clear hc
  rintro e w3 ⟨rfl, ho, hb⟩
  have HO3 := Lib.hid ho
  have HB3 := Lib.hid hb
  clear ho hb
  go_wp2_with fail
  refine (clip_any g _ cp _ HO3.out.hcap HO3.out.mx).mono ?_
  rintro e w4 ⟨rfl, rfl⟩
  go_wp2_with fail
  go_ret
  exact ⟨_, _, rfl, HO3.out.clipped, HB3.out⟩
theorem norm_any (a : Option Addr) (cap : Nat) (c : List Int) (w : World) (h : ValRow w (.slice a c.length cap) (intVals c)) (hlen : c.length ≤ 1000000) (hl : ∀ x ∈ c, -1000000 ≤ x ∧ x ≤ 1000000) :
    Calls Try.prog 33 #[.slice a c.length cap] w (SliceOf w (normL c)) := by
  cases a with
  | none =>
    have hc : c = [] := by
      rcases h with ⟨_, _, _, h2⟩ | ⟨b, off, cap', h1, _⟩
      · simpa [intVals] using h2
      · simp at h1
    subst hc
    have : normL [] = [] := List.eq_nil_of_length_eq_zero (Nat.le_zero.1 (normL_len []))
    rw [this]
    exact norm_nil cap w
  | some ad => exact norm_some ad cap c w h hlen hl
end Go.Proofs.Ytiimkhnngpfnbaa
/- What variables are: of, set, unit. -/
namespace Go.Proofs.Ytiimkhnngpfnbaa
open Go.RowKit
set_option linter.unusedVariables false
def i8Vals (V : List Int) : List Value := V.map (Value.int .i8)
theorem i8Vals_length (V : List Int) : (i8Vals V).length = V.length := by simp [i8Vals]
theorem i8Vals_get (V : List Int) (k : Nat) (h : k < V.length) : (i8Vals V)[k]? = some (.int .i8 (V.getD k 0)) := by simp [i8Vals, h]
theorem i8Vals_set (V : List Int) (k : Nat) (x : Int) : (i8Vals V).set k (.int .i8 x) = i8Vals (V.set k x) := by simp [i8Vals, List.map_set]
/-- what variables are, in memory: each -1, 0 or 1 -/
structure ValsAt (w : World) (b : Nat) (V : List Int) : Prop where
  var : VarAt w b (i8Vals V)
  small : ∀ v ∈ V, -1 ≤ v ∧ v ≤ 1
theorem ValsAt.at_ {w : World} {b : Nat} {V : List Int} (h : ValsAt w b V) (k : Nat) (hk : k < V.length) : w.cell? ⟨b, k, none⟩ = some (.int .i8 (V.getD k 0)) ∧ -1 ≤ V.getD k 0 ∧ V.getD k 0 ≤ 1 := by
  have e : V.getD k 0 = V[k] := by simp [hk]
  exact ⟨h.var.get k (i8Vals_get V k hk), by rw [e]; exact h.small _ (List.getElem_mem hk)⟩
/-- what a literal is -/
def ofV (V : List Int) (x : Int) : Int := if x < 0 then -(V.getD x.natAbs 0) else V.getD x.natAbs 0
/-- a literal made true -/
def setV (V : List Int) (x : Int) : List Int := V.set x.natAbs (if x < 0 then -1 else 1)
theorem ValsAt.set {w : World} {b : Nat} {V : List Int} (h : ValsAt w b V) (k : Nat) (hk : k < V.length) (u : Int) (hu : -1 ≤ u ∧ u ≤ 1) : ValsAt (w.setCell ⟨b, k, none⟩ (.int .i8 u)) b (V.set k u) := by
  refine ⟨?_, fun v hv => ?_⟩
  · have := h.var.set k (by rw [i8Vals_length]; exact hk) (.int .i8 u)
    rwa [i8Vals_set] at this
  · rcases List.mem_or_eq_of_mem_set hv with hv | rfl
    · exact h.small v hv
    · exact hu
end Go.Proofs.Ytiimkhnngpfnbaa
/- unit: what a clause makes true. -/
namespace Go.Proofs.Ytiimkhnngpfnbaa
open Go.RowKit
set_option linter.unusedVariables false
end Go.Proofs.Ytiimkhnngpfnbaa
