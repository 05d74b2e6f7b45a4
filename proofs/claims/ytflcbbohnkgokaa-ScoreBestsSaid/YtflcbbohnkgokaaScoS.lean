/- Sums of floats: plain facts (what a sum may be, up to which word of no number it is), and the contracts of the walks of the law's all and the score's Sum; the length of the slice is bound so that its copy fits. -/
import Derived.Test.YtflcbbohnkgokaaScoreParsesW
import Derived.OwnWalk
import Derived.WalkSmall
namespace Go.Proofs.Ytflcbbohnkgokaa
open Go.RowKit Ieee
set_option linter.unusedVariables false
/-- one word, or both no number -/
def Same (a b : Nat) : Prop := a = b ∨ (nan a = true ∧ nan b = true)
theorem same_canon {a b : Nat} (h : Same a b) : canon a = canon b := by
  rcases h with rfl | ⟨h1, h2⟩
  · rfl
  · unfold canon; rw [h1, h2]; rfl
/-- what a sum of two may come to -/
def AddR (x y r : Nat) : Prop := r < 18446744073709551616 ∧ (double.add x y = some r ∨ (double.add x y = none ∧ nan r = true))
def DivR (x y r : Nat) : Prop := r < 18446744073709551616 ∧ (double.div x y = some r ∨ (double.div x y = none ∧ nan r = true))
theorem read_nan (x : Nat) (h : nan x = true) : ∃ s t, double.read x = .nan s t := by
  have h := of_decide_eq_true h
  rw [read_word, if_neg (by omega), if_neg (by omega), if_neg (by omega)]
  exact ⟨_, _, rfl⟩
theorem add_nan (x y : Nat) (h : nan x = true ∨ nan y = true) : double.add x y = none := by
  unfold Format.add
  rcases h with h | h
  · obtain ⟨s, t, e⟩ := read_nan x h
    rw [e]; cases double.read y <;> rfl
  · obtain ⟨s, t, e⟩ := read_nan y h
    rw [e]; cases double.read x <;> rfl
theorem div_nan (x y : Nat) (h : nan x = true ∨ nan y = true) : double.div x y = none := by
  unfold Format.div
  rcases h with h | h
  · obtain ⟨s, t, e⟩ := read_nan x h
    rw [e]; cases double.read y <;> rfl
  · obtain ⟨s, t, e⟩ := read_nan y h
    rw [e]; cases double.read x <;> rfl
theorem AddR.nanr {x y r : Nat} (h : AddR x y r) (hn : nan x = true ∨ nan y = true) : nan r = true := by
  rcases h.2 with h | h
  · rw [add_nan x y hn] at h; cases h
  · exact h.2
theorem AddR.same {x x' y r r' : Nat} (h : AddR x y r) (h' : AddR x' y r') (hs : Same x x') : Same r r' := by
  rcases hs with rfl | ⟨h1, h2⟩
  · rcases h.2 with h | h <;> rcases h'.2 with h' | h'
    · rw [h] at h'; exact .inl (Option.some.inj h')
    · rw [h] at h'; cases h'.1
    · rw [h.1] at h'; cases h'
    · exact .inr ⟨h.2, h'.2⟩
  · exact .inr ⟨h.nanr (.inl h1), h'.nanr (.inl h2)⟩
theorem DivR.same {x x' y r r' : Nat} (h : DivR x y r) (h' : DivR x' y r') (hs : Same x x') : Same r r' := by
  have key : ∀ {x r}, DivR x y r → nan x = true → nan r = true := by
    intro x r h hn
    rcases h.2 with h | h
    · rw [div_nan x y (.inl hn)] at h; cases h
    · exact h.2
  rcases hs with rfl | ⟨h1, h2⟩
  · rcases h.2 with h | h <;> rcases h'.2 with h' | h'
    · rw [h] at h'; exact .inl (Option.some.inj h')
    · rw [h] at h'; cases h'.1
    · rw [h.1] at h'; cases h'
    · exact .inr ⟨h.2, h'.2⟩
  · exact .inr ⟨key h h1, key h' h2⟩
/-- infinite numbers -/
def infW (s : Bool) : Nat := if s then 18442240474082181120 else 9218868437227405312
theorem read_infW (s : Bool) : double.read (infW s) = .infinity s := by cases s <;> decide +kernel
theorem read_ok (y : Nat) (h : nan y = false) : (∃ s m e, double.read y = .number s m e) ∨ ∃ s, double.read y = .infinity s := by
  have h := of_decide_eq_false h
  by_cases h1 : rung y < 9218868437227405312
  · obtain ⟨m, e, h2, _⟩ := read_finite y h1
    exact .inl ⟨_, _, _, h2⟩
  · exact .inr ⟨_, read_inf y (by omega)⟩
theorem write_inf (s : Bool) : double.write (.infinity s) = infW s := by cases s <;> decide +kernel
/-- an infinite number stays, or there is none -/
theorem AddR.inf {x y r : Nat} {s : Bool} (h : AddR x y r) (hi : (x = infW s ∨ y = infW s)) : nan r = true ∨ r = infW s := by
  rcases h.2 with h1 | h1
  · right
    have hx : nan x = false := by
      cases e : nan x
      · rfl
      · rw [add_nan x y (.inl e)] at h1; cases h1
    have hy : nan y = false := by
      cases e : nan y
      · rfl
      · rw [add_nan x y (.inr e)] at h1; cases h1
    unfold Format.add at h1
    rcases hi with rfl | rfl
    · rw [read_infW] at h1
      rcases read_ok y hy with ⟨t, m, e, hr⟩ | ⟨t, hr⟩
      · rw [hr] at h1
        have : some (double.write (.infinity s)) = some r := h1
        rw [write_inf] at this
        exact (Option.some.inj this).symm
      · rw [hr] at h1
        by_cases e : s = t
        · subst e
          have h2 : ((if s = s then some (Datum.infinity s) else none).map double.write) = some r := h1
          rw [if_pos rfl] at h2
          have : some (double.write (.infinity s)) = some r := h2
          rw [write_inf] at this
          exact (Option.some.inj this).symm
        · have h2 : ((if s = t then some (Datum.infinity s) else none).map double.write) = some r := h1
          rw [if_neg e] at h2; cases h2
    · rw [read_infW] at h1
      rcases read_ok x hx with ⟨t, m, e, hr⟩ | ⟨t, hr⟩
      · rw [hr] at h1
        have : some (double.write (.infinity s)) = some r := h1
        rw [write_inf] at this
        exact (Option.some.inj this).symm
      · rw [hr] at h1
        by_cases e : t = s
        · subst e
          have h2 : ((if t = t then some (Datum.infinity t) else none).map double.write) = some r := h1
          rw [if_pos rfl] at h2
          have : some (double.write (.infinity t)) = some r := h2
          rw [write_inf] at this
          exact (Option.some.inj this).symm
        · have h2 : ((if t = s then some (Datum.infinity t) else none).map double.write) = some r := h1
          rw [if_neg e] at h2; cases h2
  · exact .inl h1.2
/-- more numbers added to what there is -/
def AccR : List Nat → Nat → Nat → Prop
  | [], a, r => r = a
  | y :: ys, a, r => ∃ m, AddR a y m ∧ AccR ys m r
theorem AccR_snoc (ys : List Nat) (y a r : Nat) : AccR (ys ++ [y]) a r ↔ ∃ m, AccR ys a m ∧ AddR m y r := by
  induction ys generalizing a with
  | nil => simp [AccR]
  | cons z zs ih =>
    simp only [List.cons_append, AccR, ih]
    constructor
    · rintro ⟨m, h1, n, h2, h3⟩; exact ⟨n, ⟨m, h1, h2⟩, h3⟩
    · rintro ⟨n, ⟨m, h1, h2⟩, h3⟩; exact ⟨m, h1, n, h2, h3⟩
theorem AccR.same {ys : List Nat} {a a' r r' : Nat} (h : AccR ys a r) (h' : AccR ys a' r') (hs : Same a a') : Same r r' := by
  induction ys generalizing a a' with
  | nil => cases h; cases h'; exact hs
  | cons y ys ih =>
    obtain ⟨m, h1, h2⟩ := h
    obtain ⟨m', h1', h2'⟩ := h'
    exact ih h2 h2' (h1.same h1' hs)
theorem AccR.nanr {ys : List Nat} {a r : Nat} (h : AccR ys a r) (hn : nan a = true ∨ ∃ y ∈ ys, nan y = true) : nan r = true := by
  induction ys generalizing a with
  | nil =>
    cases h
    rcases hn with h | ⟨y, hy, _⟩
    · exact h
    · cases hy
  | cons y ys ih =>
    obtain ⟨m, h1, h2⟩ := h
    refine ih h2 ?_
    rcases hn with h | ⟨z, hz, hn⟩
    · exact .inl (h1.nanr (.inl h))
    · rw [List.mem_cons] at hz
      rcases hz with rfl | hz
      · exact .inl (h1.nanr (.inr hn))
      · exact .inr ⟨z, hz, hn⟩
theorem AccR.inf {ys : List Nat} {a r : Nat} {s : Bool} (h : AccR ys a r) (hn : (nan a = true ∨ a = infW s) ∨ infW s ∈ ys) : nan r = true ∨ r = infW s := by
  induction ys generalizing a with
  | nil =>
    cases h
    rcases hn with h | h
    · exact h
    · cases h
  | cons y ys ih =>
    obtain ⟨m, h1, h2⟩ := h
    refine ih h2 ?_
    rcases hn with (h | h) | h
    · exact .inl (.inl (h1.nanr (.inl h)))
    · exact .inl (h1.inf (.inl h))
    · rw [List.mem_cons] at h
      rcases h with h | h
      · exact .inl (h1.inf (.inr h.symm))
      · exact .inr h
/-- what a sum may come to -/
def SumR : List Nat → Nat → Prop
  | [], r => r = 0
  | x :: xs, r => AccR xs x r
theorem SumR.same {l : List Nat} {r r' : Nat} (h : SumR l r) (h' : SumR l r') : Same r r' := by
  cases l with
  | nil => cases h; cases h'; exact .inl rfl
  | cons x xs => exact AccR.same h h' (.inl rfl)
theorem SumR.nanr {l : List Nat} {r : Nat} (h : SumR l r) (hn : ∃ y ∈ l, nan y = true) : nan r = true := by
  cases l with
  | nil => obtain ⟨y, hy, _⟩ := hn; cases hy
  | cons x xs =>
    obtain ⟨y, hy, hn⟩ := hn
    rw [List.mem_cons] at hy
    refine AccR.nanr h ?_
    rcases hy with rfl | hy
    · exact .inl hn
    · exact .inr ⟨y, hy, hn⟩
theorem SumR.inf {l : List Nat} {r : Nat} {s : Bool} (h : SumR l r) (hn : infW s ∈ l) : nan r = true ∨ r = infW s := by
  cases l with
  | nil => cases hn
  | cons x xs =>
    rw [List.mem_cons] at hn
    refine AccR.inf h ?_
    rcases hn with hn | hn
    · exact .inl (.inr hn.symm)
    · exact .inr hn
theorem SumR_snoc (l : List Nat) (x y r : Nat) (h : SumR (x :: l) r) (m : Nat) (hm : AddR r y m) : SumR (x :: l ++ [y]) m := (AccR_snoc l y x m).2 ⟨r, h, hm⟩
theorem kind_up (b : Nat) (h : b < 18446744073709551616) : kindN b = 6 ↔ b = infW false := by
  rcases kind_cases b h with ⟨k1, n1, g1⟩ | ⟨k1, n1, g1⟩ | ⟨k1, n1, g1⟩ | ⟨k1, n1, g1⟩ | ⟨k1, n1, g1⟩ | ⟨k1, n1, g1⟩ | ⟨k1, n1, g1⟩ <;> (rw [k1, show infW false = 9218868437227405312 from rfl]; omega)
theorem kind_down (b : Nat) (h : b < 18446744073709551616) : kindN b = 1 ↔ b = infW true := by
  rcases kind_cases b h with ⟨k1, n1, g1⟩ | ⟨k1, n1, g1⟩ | ⟨k1, n1, g1⟩ | ⟨k1, n1, g1⟩ | ⟨k1, n1, g1⟩ | ⟨k1, n1, g1⟩ | ⟨k1, n1, g1⟩ <;> (rw [k1, show infW true = 18442240474082181120 from rfl]; omega)
/-! the runs of + and / on floats -/
theorem nan_cut (x y t : Nat) : nan ((Question.nanBits .f64 x y).cut t) = true ∧ (Question.nanBits .f64 x y).cut t < 18446744073709551616 := by
  show nan ((t % 2) * 2 ^ 63 + 0x7ff0000000000000 + 1 + (t / 2) % (2 ^ 52 - 1)) = true ∧ (t % 2) * 2 ^ 63 + 0x7ff0000000000000 + 1 + (t / 2) % (2 ^ 52 - 1) < 18446744073709551616
  have h1 : t % 2 < 2 := Nat.mod_lt _ (by decide)
  have h2 : t / 2 % (2 ^ 52 - 1) < 2 ^ 52 - 1 := Nat.mod_lt _ (by decide)
  generalize t % 2 = a at *
  generalize t / 2 % (2 ^ 52 - 1) = b at *
  refine ⟨?_, by omega⟩
  unfold nan rung
  refine decide_eq_true ?_
  omega
theorem add_run (P : Program) (t : TypeId) (x y : Nat) (w : World) : ∃ r n, (binOp .add t (.float .f64 x) (.float .f64 y)).run P w = .ok (.float .f64 r) (w.drewN n) ∧ AddR x y r := by
  cases h : double.add x y with
  | some r =>
    refine ⟨r, 0, ?_, Format.add_lt double h, .inl h⟩
    exact run_float_arith (w := w) .add t .f64 x y r h
  | none =>
    have hc := nan_cut x y (w.tape w.drawn (Question.nanBits .f64 x y))
    refine ⟨_, 1, ?_, hc.2, .inr ⟨h, hc.1⟩⟩
    have e : FloatKind.f64.format.add x y = none := h
    simp only [binOp, Op.floatArith, e]
    simp [Question.forced]
    rfl
theorem div_run (P : Program) (t : TypeId) (x y : Nat) (w : World) : ∃ r n, (binOp .quo t (.float .f64 x) (.float .f64 y)).run P w = .ok (.float .f64 r) (w.drewN n) ∧ DivR x y r := by
  cases h : double.div x y with
  | some r =>
    refine ⟨r, 0, ?_, Format.div_lt double h, .inl h⟩
    exact run_float_arith (w := w) .quo t .f64 x y r h
  | none =>
    have hc := nan_cut x y (w.tape w.drawn (Question.nanBits .f64 x y))
    refine ⟨_, 1, ?_, hc.2, .inr ⟨h, hc.1⟩⟩
    have e : FloatKind.f64.format.div x y = none := h
    simp only [binOp, Op.floatArith, e]
    simp [Question.forced]
    rfl
theorem info_f64 : (Try.prog.info? 23).map (fun i => (i.zero, i.size, i.bytes)) = some (some (.float .f64 0), 1, 8) := by kernel_rfl
def natsOf (l : List Nat) : List Int := l.map fun n : Nat => (n : Int)
theorem natsOf_getD (l : List Nat) (i : Nat) : (natsOf l).getD i 0 = ((l.getD i 0 : Nat) : Int) := by
  unfold natsOf
  simp only [List.getD, List.getElem?_map]
  cases l[i]? <;> simp
theorem natsOf_length (l : List Nat) : (natsOf l).length = l.length := by simp [natsOf]
theorem take_snoc_nat (l : List Nat) (k : Nat) (h : k < l.length) : l.take (k + 1) = l.take k ++ [l.getD k 0] := by
  rw [List.take_succ_eq_append_getElem h]
  simp [List.getD, h]
theorem floVals_snoc (l : List Nat) (x : Nat) : floVals (l ++ [x]) = floVals l ++ [.float .f64 x] := by simp [floVals]
theorem intRow_cells {k : IntKind} {w : World} {a : Option Addr} {n cap : Nat} {l : List Int} (h : IntRow k w (.slice a n cap) l) (j : Nat) (hj : j < l.length) :
    ∃ b off, a = some ⟨b, off, none⟩ ∧ b < w.heap.size ∧ ∀ i, i < l.length → w.cell? ⟨b, off + i, none⟩ = some (.int k (l.getD i 0)) := by
  rcases h with ⟨_, _, _, rfl⟩ | ⟨b, off, cap', hv, _, _, hbw, hc⟩
  · simp at hj
  · simp only [Value.slice.injEq] at hv
    exact ⟨b, off, hv.1, hbw, hc⟩
theorem valRow_cells {w : World} {a : Option Addr} {n cap : Nat} {l : List Value} (h : ValRow w (.slice a n cap) l) (j : Nat) (hj : j < l.length) :
    ∃ b off, a = some ⟨b, off, none⟩ ∧ b < w.heap.size ∧ ∀ i, i < l.length → w.cell? ⟨b, off + i, none⟩ = l[i]? := by
  rcases h with ⟨_, _, _, rfl⟩ | ⟨b, off, cap', hv, _, _, hbw, hc⟩
  · simp at hj
  · simp only [Value.slice.injEq] at hv
    exact ⟨b, off, hv.1, hbw, hc⟩
def AllPost (l : List Nat) (w : World) (e : Ending) (w' : World) : Prop := ∃ v, e = .returned v ∧ ValRow w' v (floVals l) ∧ Below w.heap.size w w'
set_option maxHeartbeats 800000 in
theorem all_any (a : Option Addr) (cap : Nat) (l : List Nat) (w : World) (hr : IntRow .u64 w (.slice a l.length cap) (natsOf l)) (hl : ∀ x ∈ l, x < 18446744073709551616) (hmax : l.length * 8 ≤ 140737488355328) :
    Calls Try.prog 24 #[.slice a l.length cap] w (AllPost l w) := by
  obtain ⟨i0, hi, hz0, hz1, hz2⟩ := info_parts info_f64
  have HR := Lib.hid hr
  have HL := Lib.hid hl
  clear hr hl
  go_enter Try.func24, Try.ntmps24
  go_wp2_with fail
  go_loopw [3, 4] (fun o i wr => ∃ k : Nat, k ≤ l.length ∧ i = .int .i64 k ∧ wr.ownsRow w.heap.size 23 1 o (l.take k).length (floVals (l.take k)) ∧ Below w.heap.size w wr) (fun _ i _ => l.length - (intOf i).toNat)
  case atStart => exact ⟨0, by omega, rfl, World.ownsRow_nil _ _ _ _, Below.refl _ _⟩
  case round =>
    obtain ⟨k, hk, rfl, hown, hb⟩ := hrel
    have hsz := hb.size
    by_cases hlt : k < l.length
    · obtain ⟨b, off, rfl, hbw, hcell⟩ := intRow_cells HR.out k (by rw [natsOf_length]; exact hlt)
      have hc := hcell k (by rw [natsOf_length]; exact hlt)
      rw [natsOf_getD] at hc
      have hx := getD_lt l k HL.out
      have hcr : wr.cell? ⟨b, off + k, none⟩ = some (.int .u64 (l.getD k 0 : Nat)) := by rw [hb.cell (p := ⟨b, off + k, none⟩) hbw]; exact hc
      have hlk : (l.take k).length = k := by simp; omega
      have HS3 : Hid (floVals (l.take (k + 1)) = floVals (l.take k) ++ [.float .f64 (l.getD k 0)]) := by rw [take_snoc_nat l k hlt, floVals_snoc]; rfl
      have HS4 : Hid ((l.take (k + 1)).length = k + 1) := by rw [List.length_take]; show min _ _ = _; omega
      rw [hlk] at hown
      clear hcell hc hlk
      generalize l.getD k 0 = x at *
      generalize floVals (l.take k) = xs at *
      go_wp2_with fail
      refine (of_any x _ hx).mono ?_
      rintro e w1 ⟨rfl, hb1⟩
      have hown1 : w1.ownsRow w.heap.size 23 1 u3 k xs := ownsRow_below hown hb1
      have hb1' := bthen hb hb1
      have hsz1 := hb1'.size
      clear hown
      go_wp2_with (at_builtin; refine wpList_append_own _ rfl _ _ 41 rfl w.heap.size 23 i0 (.float .f64 0) 1 8 Try.underlying41 hi hz0 hz1 hz2 rfl (by decide) _ _ _ rfl (hown1.alloc _) ⟨w1.heap.size, 0, none⟩ 1 1 [.float .f64 x] rfl rfl ?_ ?_ ?_ ?_ ?_ ?_)
      · exact cell_one_new _ _ _
      · intro u hu; rw [List.mem_singleton] at hu; subst hu; rfl
      · unfold maxLen; omega
      · omega
      · simp; omega
      intro v' w2 hown' hgrow _
      have hb2 : Below w.heap.size w w2 := (hb1'.alloc hsz1 _).grown hgrow (by simp; omega) (fun g hg => (hown1.lt g hg).1)
      have hown2 : w2.ownsRow w.heap.size 23 1 v' (l.take (k + 1)).length (floVals (l.take (k + 1))) := by
        rw [HS3.out, HS4.out]; exact hown'
      have HO2 := Lib.hid hown2
      clear hown' hgrow hown2 hown1
      go_wp2_with fail
      go_roundw
      case rel => exact ⟨k + 1, by omega, by go_num, HO2.out, hb2⟩
      case measure => simp [intOf]; omega
    · obtain rfl : k = l.length := by omega
      rw [List.take_length] at hown
      go_wp2_with fail
      go_ret
      exact ⟨_, rfl, valRow_own hown, hb⟩
def SumPost (l : List Nat) (w : World) (e : Ending) (w' : World) : Prop := ∃ r, e = .returned (.float .f64 r) ∧ SumR l r ∧ r < 18446744073709551616 ∧ Below w.heap.size w w'
theorem take_one (x : Nat) (xs : List Nat) (k : Nat) : (x :: xs).take (k + 1) = x :: xs.take k := rfl
set_option maxHeartbeats 800000 in
theorem sum_any (v : Value) (l : List Nat) (w : World) (hr : ValRow w v (floVals l)) (hl : ∀ x ∈ l, x < 18446744073709551616) :
    Calls Try.prog 26 #[v] w (SumPost l w) := by
  have hmax := hr.len
  rw [floVals_length] at hmax
  unfold maxLen at hmax
  cases l with
  | nil =>
    obtain ⟨a, cap, rfl⟩ := hr.shape
    clear hr hl
    go_enter Try.func26, Try.ntmps26
    go_wp2_with fail
    go_ret
    exact ⟨_, rfl, rfl, by decide, Below.refl _ _⟩
  | cons x xs =>
    rcases hr with ⟨_, _, _, h0⟩ | ⟨b, off, cap, hv, ⟨hpos, hcap⟩, hcm, hbw, hcell⟩
    · simp [floVals] at h0
    rw [floVals_length] at hv hcell hcap
    subst hv
    simp only [List.length_cons] at hmax hcap
    unfold maxLen at hcm
    have HC := Lib.hid hcell
    have HL := Lib.hid hl
    have hx := hl x (by simp)
    have hc0 := hcell 0 (by simp)
    rw [floVals_at _ 0 (by simp)] at hc0
    simp only [Nat.add_zero, List.getD_cons_zero] at hc0
    clear hcell hl hpos
    simp only [List.length_cons]
    generalize hn : xs.length = n at *
    have HN := Lib.hid hn
    clear hn
    have hne : (((n : Int) + 1) == 0) = false := by simp; omega
    by_cases hc1 : cap = 1
    · obtain rfl : n = 0 := by omega
      obtain rfl : xs = [] := List.length_eq_zero_iff.1 HN.out
      subst hc1
      go_enter Try.func26, Try.ntmps26
      go_wp2_with fail
      refine wp_loop_rounds 1 ?_
      rw [rounds_succ]
      go_wp2_with fail
      go_ret
      exact ⟨x, rfl, rfl, hx, Below.refl _ _⟩
    · go_enter Try.func26, Try.ntmps26
      go_wp2_with fail
      go_loopw [3, 15] (fun o i wr => ∃ (k r m : Nat), k ≤ n ∧ i = .int .i64 k ∧ o = .float .f64 r ∧ SumR (x :: xs.take k) r ∧ r < 18446744073709551616 ∧ wr = w.drewN m) (fun _ i _ => n - (intOf i).toNat)
      case atStart => exact ⟨0, x, 0, by omega, rfl, rfl, rfl, hx, rfl⟩
      case round =>
        obtain ⟨k, r, m, hk, rfl, rfl, hs, hrl, rfl⟩ := hrel
        have HS := Lib.hid hs
        clear hs
        by_cases hlt : k < n
        · have hcell := HC.out (k + 1) (by rw [List.length_cons, HN.out]; omega)
          rw [floVals_at _ (k + 1) (by rw [List.length_cons, HN.out]; omega), show off + (k + 1) = off + 1 + k from by omega, List.getD_cons_succ] at hcell
          have hy := getD_lt xs k (fun z hz => HL.out z (by simp [hz]))
          have HT : Hid (xs.take (k + 1) = xs.take k ++ [xs.getD k 0]) := take_snoc_nat xs k (by rw [HN.out]; exact hlt)
          generalize xs.getD k 0 = y at *
          obtain ⟨r', m', hrun, hadd⟩ := add_run Try.prog 23 r y (w.drewN m)
          have HADD := Lib.hid hadd
          clear hadd
          go_wp2_with fail
          go_roundw
          case rel => exact ⟨k + 1, r', _, by omega, by go_num, rfl, by rw [HT.out]; exact SumR_snoc _ x y r HS.out r' HADD.out, HADD.out.1, rfl⟩
          case measure => simp [intOf]; omega
        · obtain rfl : k = n := by omega
          go_wp2_with fail
          go_ret
          refine ⟨r, rfl, ?_, hrl, below_drewN (Below.refl _ _) _⟩
          have := HS.out
          rwa [← HN.out, List.take_length] at this
end Go.Proofs.Ytflcbbohnkgokaa
