/- Parts of the proofs, put together: Ints, CnA, CnB. -/
import Derived.Test.YtiimkhnngpfnbaaR5
import Derived.Test.YtiimkhnngpfnbaaChecked
import Derived.WalkLawsBesides
import Derived.WalkSpells
import Derived.Outline
import Derived.Handy
import Derived.Deep.QuietTactic
import Derived.BigQuiet
import Derived.IntWalk
/- Slices of integers as lists; slices of such slices; the reference's Ints at what is the same. -/
namespace Go.Proofs.Ytiimkhnngpfnbaa
open Go.RowKit Go.ChangeShapes Go.WideShapes Go.Deep
set_option linter.unusedVariables false
theorem ret_int {k : IntKind} {a b : Int} (h : a = b) : Ending.returned (.int k a) = .returned (.int k b) := by rw [h]
theorem ret_bool {a b : Bool} (h : a = b) : Ending.returned (.bool a) = .returned (.bool b) := by rw [h]
def intVals (l : List Int) : List Value := l.map (Value.int .i64)
theorem intVals_length (l : List Int) : (intVals l).length = l.length := by simp [intVals]
theorem intVals_get (l : List Int) (k : Nat) (h : k < l.length) : (intVals l)[k]? = some (.int .i64 (l.getD k 0)) := by simp [intVals, h]
theorem intVals_one (l : List Int) : ∀ u ∈ intVals l, u.oneCell' = true := by
  intro u hu
  obtain ⟨s, _, rfl⟩ := List.mem_map.1 hu
  rfl
theorem intVals_app (a b : List Int) : intVals (a ++ b) = intVals a ++ intVals b := by simp [intVals]
theorem ValRow.drewN {w : World} {v : Value} {l : List Value} (h : ValRow w v l) (q : Nat) : ValRow (w.drewN q) v l := h
theorem below_drewN' {B : Nat} {w w' : World} (h : Below B w w') (m : Nat) : Below B w (w'.drewN m) := ⟨h.os, h.tape, h.output, h.size, h.block⟩
/-- an int of a slice, and where it lies -/
theorem int_at {w : World} {a : Option Addr} {cap : Nat} {l : List Int} (h : ValRow w (.slice a l.length cap) (intVals l)) (k : Nat) (hk : k < l.length) :
    ∃ b off, a = some ⟨b, off, none⟩ ∧ b < w.heap.size ∧ w.cell? ⟨b, off + k, none⟩ = some (.int .i64 (l.getD k 0)) := by
  rcases h with ⟨a', cap', h1, h2⟩ | ⟨b, off, cap', h1, h2, h3, h4, h5⟩
  · have := congrArg List.length h2
    rw [intVals_length] at this
    simp at this
    rw [this] at hk; simp at hk
  · simp only [Value.slice.injEq] at h1
    exact ⟨b, off, h1.1, h4, by rw [h5 k (by rw [intVals_length]; exact hk), intVals_get _ _ hk]⟩
/-- an element: a slice of ints -/
def IntsC (w : World) (cs : List Value) (x : List Int) : Prop := ∃ v, cs = [v] ∧ ValRow w v (intVals x) ∧ ∀ y ∈ x, -9223372036854775808 ≤ y ∧ y ≤ 9223372036854775807
theorem intsC_lasts : Lasts IntsC := by
  rintro w w' cs x hb ⟨v, h1, h2, h3⟩
  exact ⟨v, h1, h2.below hb, h3⟩
/-- a row of a slice of slices -/
theorem ints_row {w : World} {a : Option Addr} {cap : Nat} {LL : List (List Int)} (h : RowOf 1 IntsC w (.slice a LL.length cap) LL) (i : Nat) (hi : i < LL.length) :
    ∃ b off va vc, a = some ⟨b, off, none⟩ ∧ b < w.heap.size ∧ w.cell? ⟨b, off + i, none⟩ = some (.slice va (LL.getD i []).length vc) ∧ ValRow w (.slice va (LL.getD i []).length vc) (intVals (LL.getD i [])) ∧ (∀ y ∈ LL.getD i [], -9223372036854775808 ≤ y ∧ y ≤ 9223372036854775807) := by
  obtain ⟨b, off, ha, hb, cs, ⟨_, hc⟩, v, rfl, hr, hm⟩ := h.at_ i hi
  have e : LL.getD i [] = LL[i] := by simp [hi]
  rw [e]
  obtain ⟨va, vc, rfl⟩ := hr.shape
  rw [intVals_length] at hr hc
  refine ⟨b, off, va, vc, ha, hb, ?_, hr, hm⟩
  have := hc 0 (by omega)
  simpa using this
set_option maxHeartbeats 800000 in
theorem ints_same (a b : Value) (A : List Int) (w : World) (ha : ValRow w a (intVals A)) (hb : ValRow w b (intVals A)) :
    Calls Try.prog 12 #[a, b] w fun e w' => e = .returned (.bool true) ∧ ∃ m, w' = w.drewN m := by
  obtain ⟨aa, ac, rfl⟩ := ha.shape
  obtain ⟨ba, bc, rfl⟩ := hb.shape
  have hmax := ha.len
  rw [intVals_length] at hmax ⊢
  rw [intVals_length] at ha hb
  unfold maxLen at hmax
  have HA := Lib.hid ha
  have HB := Lib.hid hb
  have hne : (A.length != A.length) = false := by simp
  have hne2 : ((A.length : Int) != (A.length : Int)) = false := by simp
  clear ha hb
  go_enter Try.func12, Try.ntmps12
  go_wp2_with fail
  go_loopw [5] (fun i wr => ∃ k : Nat, i = .int .i64 k ∧ k ≤ A.length ∧ ∃ m, wr = w.drewN m) (fun i _ => A.length - (intOf i).toNat)
  case atStart => exact ⟨0, rfl, Nat.zero_le _, 0, rfl⟩
  case round =>
    obtain ⟨k, rfl, hk, m, rfl⟩ := hrel
    by_cases hlt : k < A.length
    · obtain ⟨b1, o1, rfl, _, hc1⟩ := valRow_cells HA.out k (by rw [intVals_length]; exact hlt)
      obtain ⟨b2, o2, rfl, _, hc2⟩ := valRow_cells HB.out k (by rw [intVals_length]; exact hlt)
      have c1 := hc1 k (by rw [intVals_length]; exact hlt)
      have c2 := hc2 k (by rw [intVals_length]; exact hlt)
      rw [intVals_get _ _ hlt] at c1 c2
      clear hc1 hc2
      obtain ⟨x, hx⟩ : ∃ x, A.getD k 0 = x := ⟨_, rfl⟩
      rw [hx] at c1 c2
      clear hx
      have d1 : (w.drewN m).cell? ⟨b1, o1 + k, none⟩ = some (.int .i64 x) := c1
      have d2 : (w.drewN m).cell? ⟨b2, o2 + k, none⟩ = some (.int .i64 x) := c2
      obtain ⟨wm, HW⟩ : ∃ wm, Hid (w.drewN m = wm) := ⟨_, rfl⟩
      rw [HW.out] at d1 d2 ⊢
      have k0 : (0 : Int) ≤ (k : Int) := by omega
      have k1 : (k : Int) < (A.length : Int) := by omega
      have hd : decide (k < A.length) = true := decide_eq_true hlt
      have hxx : (x != x) = false := by simp
      clear c1 c2
      go_wp2_with fail
      go_quiet (fail)
      go_wp2_with fail
      go_roundw
      case rel => exact ⟨k + 1, by go_num, by omega, m + nq, by rw [← HW.out, World.drewN_drewN]⟩
      case measure => simp [intOf]; omega
    · have hd : decide (k < A.length) = false := decide_eq_false hlt
      go_wp2_with fail
      go_ret
      exact ⟨rfl, m, rfl⟩
end Go.Proofs.Ytiimkhnngpfnbaa
/- Literals and clauses: the program's and the reference's checks. -/
namespace Go.Proofs.Ytiimkhnngpfnbaa
open Go.RowKit
set_option linter.unusedVariables false
/-- is it a literal over so many variables? -/
def fitB (n x : Int) : Bool := !(x == 0) && decide (-n ≤ x) && decide (x ≤ n)
def okC (n : Int) (c : List Int) : Bool := c.all (fitB n)
theorem fitB_cases (n x : Int) : (x = 0 ∧ fitB n x = false) ∨ (x ≠ 0 ∧ x < -n ∧ fitB n x = false) ∨ (x ≠ 0 ∧ -n ≤ x ∧ n < x ∧ fitB n x = false) ∨ (x ≠ 0 ∧ -n ≤ x ∧ x ≤ n ∧ fitB n x = true) := by
  unfold fitB
  by_cases h0 : x = 0
  · exact .inl ⟨h0, by simp [h0]⟩
  · by_cases h1 : -n ≤ x
    · by_cases h2 : x ≤ n
      · exact .inr (.inr (.inr ⟨h0, h1, h2, by simp [h0, h1, h2]⟩))
      · exact .inr (.inr (.inl ⟨h0, h1, by omega, by simp [h2]⟩))
    · exact .inr (.inl ⟨h0, by omega, by simp [h1]⟩)
theorem ine {a b : Int} (h : a ≠ b) : (a != b) = true := by simp [h]
theorem inf {a b : Int} (h : a = b) : (a != b) = false := by simp [h]
theorem iet {a b : Int} (h : a = b) : (a == b) = true := by simp [h]
theorem ief {a b : Int} (h : a ≠ b) : (a == b) = false := by simp [h]
theorem fits_any (x n : Int) (v : Bool) (w : World) (hn0 : 0 ≤ n) (hn : n ≤ 9223372036854775807) (hv : Hid (fitB n x = v)) :
    Calls Try.prog 39 #[.int .i64 x, .int .i64 n] w fun e w' => e = .returned (.bool v) ∧ w = w' := by
  rcases fitB_cases n x with ⟨h0, h⟩ | ⟨h0, h1, h⟩ | ⟨h0, h1, h2, h⟩ | ⟨h0, h1, h2, h⟩
  · obtain rfl : v = false := by rw [← hv.out, h]
    have e0 := inf h0
    clear h hv h0
    go_enter Try.func39, Try.ntmps39
    go_wp2_with fail
    go_ret
    exact ⟨rfl, rfl⟩
  · obtain rfl : v = false := by rw [← hv.out, h]
    have e0 := ine h0
    have d1 : decide (-n ≤ x) = false := decide_eq_false (by omega)
    clear h hv h0
    go_enter Try.func39, Try.ntmps39
    go_wp2_with fail
    go_ret
    exact ⟨rfl, rfl⟩
  · obtain rfl : v = false := by rw [← hv.out, h]
    have e0 := ine h0
    have d1 : decide (-n ≤ x) = true := decide_eq_true h1
    have d2 : decide (x ≤ n) = false := decide_eq_false (by omega)
    clear h hv h0
    go_enter Try.func39, Try.ntmps39
    go_wp2_with fail
    go_ret
    exact ⟨rfl, rfl⟩
  · obtain rfl : v = true := by rw [← hv.out, h]
    have e0 := ine h0
    have d1 : decide (-n ≤ x) = true := decide_eq_true h1
    have d2 : decide (x ≤ n) = true := decide_eq_true h2
    clear h hv h0
    go_enter Try.func39, Try.ntmps39
    go_wp2_with fail
    go_ret
    exact ⟨rfl, rfl⟩
theorem okC_stop {n : Int} {c : List Int} {k : Nat} (hk : k < c.length) (h : fitB n (c.getD k 0) = false) : okC n c = false := by
  have e : c.getD k 0 = c[k] := by simp [hk]
  rw [e] at h
  unfold okC
  rw [Bool.eq_false_iff]
  intro ha
  have := List.all_eq_true.1 ha _ (List.getElem_mem hk)
  rw [h] at this; cases this
theorem okC_take {n : Int} {c : List Int} {k : Nat} (hk : k < c.length) (h : fitB n (c.getD k 0) = true) (hp : okC n (c.take k) = true) : okC n (c.take (k + 1)) = true := by
  have e : c.getD k 0 = c[k] := by simp [hk]
  rw [e] at h
  unfold okC at hp ⊢
  rw [List.take_succ_eq_append_getElem hk, List.all_append, hp]
  simp [h]
def chkV (v : Bool) : Int := if v = true then 0 else 8
set_option maxHeartbeats 800000 in
theorem checkClause_neg (a : Option Addr) (cap : Nat) (c : List Int) (n : Int) (w : World) (h : ValRow w (.slice a c.length cap) (intVals c)) (hn : n ≤ 9223372036854775807) (hneg : n < 0) (v : Bool) (hv : Hid (okC 0 c = v)) :
    Calls Try.prog 32 #[.slice a c.length cap, .int .i64 n] w fun e w' => e = .returned (.int .i64 (chkV v)) ∧ w = w' := by
  have hl := h.len
  rw [intVals_length] at hl
  unfold maxLen at hl
  have H := Lib.hid h
  clear h
  have hdn : decide (n < 0) = true := decide_eq_true hneg
  go_enter Try.func32, Try.ntmps32
  go_wp2_with fail
  go_loop [11] (fun i => ∃ k : Nat, i = .int .i64 k ∧ k ≤ c.length ∧ okC 0 (c.take k) = true) (fun i => c.length - (intOf i).toNat)
  case atStart => exact ⟨0, rfl, Nat.zero_le _, rfl⟩
  case round =>
    obtain ⟨k, rfl, hk, hok⟩ := hrel
    have HOK := Lib.hid hok
    clear hok
    have k0 : (0 : Int) ≤ (k : Int) := by omega
    by_cases hlt : k < c.length
    · have k1 : (k : Int) < (c.length : Int) := by omega
      have hdk : decide (k < c.length) = true := decide_eq_true hlt
      obtain ⟨b, off, rfl, _, hc⟩ := int_at H.out k hlt
      have HST := Lib.hid (fun h => @okC_stop 0 c k hlt h)
      have HTK := Lib.hid (fun h => @okC_take 0 c k hlt h HOK.out)
      obtain ⟨x, hx⟩ : ∃ x, c.getD k 0 = x := ⟨_, rfl⟩
      rw [hx] at hc HST HTK
      clear hx
      cases hf : fitB 0 x with
      | false =>
        have HF := Lib.hid hf
        have HV : Hid (v = false) := Lib.hid (by rw [← hv.out]; exact HST.out hf)
        clear hf
        go_wp2_with fail
        refine (fits_any x 0 false _ (by omega) (by omega) HF).mono ?_
        rintro e w1 ⟨rfl, rfl⟩
        go_wp2_with fail
        go_ret
        exact ⟨ret_int (by rw [HV.out]; rfl), rfl⟩
      | true =>
        have HF := Lib.hid hf
        have HNX := Lib.hid (HTK.out hf)
        clear hf
        go_wp2_with fail
        refine (fits_any x 0 true _ (by omega) (by omega) HF).mono ?_
        rintro e w1 ⟨rfl, rfl⟩
        go_wp2_with fail
        go_round
        case rel => exact ⟨k + 1, by go_num, by omega, HNX.out⟩
        case measure => simp [intOf]; omega
    · have hdk : decide (k < c.length) = false := decide_eq_false hlt
      have HV : Hid (v = true) := Lib.hid (by rw [← hv.out, ← HOK.out, List.take_of_length_le (by omega)])
      have HLT := Lib.hid hlt
      clear hlt
      go_wp2_with fail
      go_ret
      exact ⟨ret_int (by rw [HV.out]; rfl), rfl⟩
set_option maxHeartbeats 800000 in
theorem checkClause_pos (a : Option Addr) (cap : Nat) (c : List Int) (n : Int) (w : World) (h : ValRow w (.slice a c.length cap) (intVals c)) (hn : n ≤ 9223372036854775807) (hneg : 0 ≤ n) (v : Bool) (hv : Hid (okC n c = v)) :
    Calls Try.prog 32 #[.slice a c.length cap, .int .i64 n] w fun e w' => e = .returned (.int .i64 (chkV v)) ∧ w = w' := by
  have hl := h.len
  rw [intVals_length] at hl
  unfold maxLen at hl
  have H := Lib.hid h
  clear h
  have hdn : decide (n < 0) = false := decide_eq_false (by omega)
  have hnn : ¬ n < 0 := by omega
  go_enter Try.func32, Try.ntmps32
  go_wp2_with fail
  go_loop [11] (fun i => ∃ k : Nat, i = .int .i64 k ∧ k ≤ c.length ∧ okC n (c.take k) = true) (fun i => c.length - (intOf i).toNat)
  case atStart => exact ⟨0, rfl, Nat.zero_le _, rfl⟩
  case round =>
    obtain ⟨k, rfl, hk, hok⟩ := hrel
    have HOK := Lib.hid hok
    clear hok
    have k0 : (0 : Int) ≤ (k : Int) := by omega
    by_cases hlt : k < c.length
    · have k1 : (k : Int) < (c.length : Int) := by omega
      have hdk : decide (k < c.length) = true := decide_eq_true hlt
      obtain ⟨b, off, rfl, _, hc⟩ := int_at H.out k hlt
      have HST := Lib.hid (fun h => @okC_stop n c k hlt h)
      have HTK := Lib.hid (fun h => @okC_take n c k hlt h HOK.out)
      obtain ⟨x, hx⟩ : ∃ x, c.getD k 0 = x := ⟨_, rfl⟩
      rw [hx] at hc HST HTK
      clear hx
      cases hf : fitB n x with
      | false =>
        have HF := Lib.hid hf
        have HV : Hid (v = false) := Lib.hid (by rw [← hv.out]; exact HST.out hf)
        clear hf
        go_wp2_with fail
        refine (fits_any x n false _ (by omega) (by omega) HF).mono ?_
        rintro e w1 ⟨rfl, rfl⟩
        go_wp2_with fail
        go_ret
        exact ⟨ret_int (by rw [HV.out]; rfl), rfl⟩
      | true =>
        have HF := Lib.hid hf
        have HNX := Lib.hid (HTK.out hf)
        clear hf
        go_wp2_with fail
        refine (fits_any x n true _ (by omega) (by omega) HF).mono ?_
        rintro e w1 ⟨rfl, rfl⟩
        go_wp2_with fail
        go_round
        case rel => exact ⟨k + 1, by go_num, by omega, HNX.out⟩
        case measure => simp [intOf]; omega
    · have hdk : decide (k < c.length) = false := decide_eq_false hlt
      have HV : Hid (v = true) := Lib.hid (by rw [← hv.out, ← HOK.out, List.take_of_length_le (by omega)])
      have HLT := Lib.hid hlt
      clear hlt
      go_wp2_with fail
      go_ret
      exact ⟨ret_int (by rw [HV.out]; rfl), rfl⟩
set_option maxHeartbeats 1600000 in
theorem rcheckClause_neg (a : Option Addr) (cap : Nat) (c : List Int) (n : Int) (w : World) (h : ValRow w (.slice a c.length cap) (intVals c)) (hn : n ≤ 9223372036854775807) (hneg : n < 0) (v : Bool) (hv : Hid (okC 0 c = v)) :
    Calls Try.prog 21 #[.slice a c.length cap, .int .i64 n] w fun e w' => e = .returned (.int .i64 (chkV v)) ∧ w = w' := by
  have hl := h.len
  rw [intVals_length] at hl
  unfold maxLen at hl
  have H := Lib.hid h
  clear h
  have hdn : decide (n < 0) = true := decide_eq_true hneg
  go_enter Try.func21, Try.ntmps21
  go_wp2_with fail
  go_loop [5] (fun i => ∃ k : Nat, i = .int .i64 k ∧ k ≤ c.length ∧ okC 0 (c.take k) = true) (fun i => c.length - (intOf i).toNat)
  case atStart => exact ⟨0, rfl, Nat.zero_le _, rfl⟩
  case round =>
    obtain ⟨k, rfl, hk, hok⟩ := hrel
    have HOK := Lib.hid hok
    clear hok
    have k0 : (0 : Int) ≤ (k : Int) := by omega
    by_cases hlt : k < c.length
    · have k1 : (k : Int) < (c.length : Int) := by omega
      have hdk : decide (k < c.length) = true := decide_eq_true hlt
      obtain ⟨b, off, rfl, _, hc⟩ := int_at H.out k hlt
      have HST := Lib.hid (fun h => @okC_stop 0 c k hlt h)
      have HTK := Lib.hid (fun h => @okC_take 0 c k hlt h HOK.out)
      obtain ⟨x, hx⟩ : ∃ x, c.getD k 0 = x := ⟨_, rfl⟩
      rw [hx] at hc HST HTK
      clear hx
      rcases fitB_cases 0 x with ⟨h0, h⟩ | ⟨h0, h1, h⟩ | ⟨h0, h1, h2, h⟩ | ⟨h0, h1, h2, h⟩
      · have HV : Hid (v = false) := Lib.hid (by rw [← hv.out]; exact HST.out h)
        have e0 := iet h0
        clear h h0
        go_wp2_with fail
        go_ret
        exact ⟨ret_int (by rw [HV.out]; rfl), rfl⟩
      · have HV : Hid (v = false) := Lib.hid (by rw [← hv.out]; exact HST.out h)
        have e0 := ief h0
        have d1 : decide (0 < x) = false := decide_eq_false (by omega)
        have d2 : decide (x < 0) = true := decide_eq_true (by omega)
        clear h h0
        go_wp2_with fail
        go_ret
        exact ⟨ret_int (by rw [HV.out]; rfl), rfl⟩
      · have HV : Hid (v = false) := Lib.hid (by rw [← hv.out]; exact HST.out h)
        have e0 := ief h0
        have d1 : decide (0 < x) = true := decide_eq_true h2
        clear h h0
        go_wp2_with fail
        go_ret
        exact ⟨ret_int (by rw [HV.out]; rfl), rfl⟩
      · have HNX := Lib.hid (HTK.out h)
        have e0 := ief h0
        have d1 : decide (0 < x) = false := decide_eq_false (by omega)
        have d2 : decide (x < 0) = false := decide_eq_false (by omega)
        clear h h0
        go_wp2_with fail
        go_round
        case rel => exact ⟨k + 1, by go_num, by omega, HNX.out⟩
        case measure => simp [intOf]; omega
    · have hdk : decide (k < c.length) = false := decide_eq_false hlt
      have HV : Hid (v = true) := Lib.hid (by rw [← hv.out, ← HOK.out, List.take_of_length_le (by omega)])
      have HLT := Lib.hid hlt
      clear hlt
      go_wp2_with fail
      go_ret
      exact ⟨ret_int (by rw [HV.out]; rfl), rfl⟩
set_option maxHeartbeats 1600000 in
theorem rcheckClause_pos (a : Option Addr) (cap : Nat) (c : List Int) (n : Int) (w : World) (h : ValRow w (.slice a c.length cap) (intVals c)) (hn : n ≤ 9223372036854775807) (hneg : 0 ≤ n) (v : Bool) (hv : Hid (okC n c = v)) :
    Calls Try.prog 21 #[.slice a c.length cap, .int .i64 n] w fun e w' => e = .returned (.int .i64 (chkV v)) ∧ w = w' := by
  have hl := h.len
  rw [intVals_length] at hl
  unfold maxLen at hl
  have H := Lib.hid h
  clear h
  have hdn : decide (n < 0) = false := decide_eq_false (by omega)
  have hnn : ¬ n < 0 := by omega
  go_enter Try.func21, Try.ntmps21
  go_wp2_with fail
  go_loop [5] (fun i => ∃ k : Nat, i = .int .i64 k ∧ k ≤ c.length ∧ okC n (c.take k) = true) (fun i => c.length - (intOf i).toNat)
  case atStart => exact ⟨0, rfl, Nat.zero_le _, rfl⟩
  case round =>
    obtain ⟨k, rfl, hk, hok⟩ := hrel
    have HOK := Lib.hid hok
    clear hok
    have k0 : (0 : Int) ≤ (k : Int) := by omega
    by_cases hlt : k < c.length
    · have k1 : (k : Int) < (c.length : Int) := by omega
      have hdk : decide (k < c.length) = true := decide_eq_true hlt
      obtain ⟨b, off, rfl, _, hc⟩ := int_at H.out k hlt
      have HST := Lib.hid (fun h => @okC_stop n c k hlt h)
      have HTK := Lib.hid (fun h => @okC_take n c k hlt h HOK.out)
      obtain ⟨x, hx⟩ : ∃ x, c.getD k 0 = x := ⟨_, rfl⟩
      rw [hx] at hc HST HTK
      clear hx
      rcases fitB_cases n x with ⟨h0, h⟩ | ⟨h0, h1, h⟩ | ⟨h0, h1, h2, h⟩ | ⟨h0, h1, h2, h⟩
      · have HV : Hid (v = false) := Lib.hid (by rw [← hv.out]; exact HST.out h)
        have e0 := iet h0
        clear h h0
        go_wp2_with fail
        go_ret
        exact ⟨ret_int (by rw [HV.out]; rfl), rfl⟩
      · have HV : Hid (v = false) := Lib.hid (by rw [← hv.out]; exact HST.out h)
        have e0 := ief h0
        have d1 : decide (n < x) = false := decide_eq_false (by omega)
        have d2 : decide (x < -n) = true := decide_eq_true (by omega)
        clear h h0
        go_wp2_with fail
        go_ret
        exact ⟨ret_int (by rw [HV.out]; rfl), rfl⟩
      · have HV : Hid (v = false) := Lib.hid (by rw [← hv.out]; exact HST.out h)
        have e0 := ief h0
        have d1 : decide (n < x) = true := decide_eq_true h2
        clear h h0
        go_wp2_with fail
        go_ret
        exact ⟨ret_int (by rw [HV.out]; rfl), rfl⟩
      · have HNX := Lib.hid (HTK.out h)
        have e0 := ief h0
        have d1 : decide (n < x) = false := decide_eq_false (by omega)
        have d2 : decide (x < -n) = false := decide_eq_false (by omega)
        clear h h0
        go_wp2_with fail
        go_round
        case rel => exact ⟨k + 1, by go_num, by omega, HNX.out⟩
        case measure => simp [intOf]; omega
    · have hdk : decide (k < c.length) = false := decide_eq_false hlt
      have HV : Hid (v = true) := Lib.hid (by rw [← hv.out, ← HOK.out, List.take_of_length_le (by omega)])
      have HLT := Lib.hid hlt
      clear hlt
      go_wp2_with fail
      go_ret
      exact ⟨ret_int (by rw [HV.out]; rfl), rfl⟩
theorem checkClause_any (a : Option Addr) (cap : Nat) (c : List Int) (n : Int) (w : World) (h : ValRow w (.slice a c.length cap) (intVals c)) (hn : n ≤ 9223372036854775807) (v : Bool) (hv : Hid (okC (max n 0) c = v)) :
    Calls Try.prog 32 #[.slice a c.length cap, .int .i64 n] w fun e w' => e = .returned (.int .i64 (chkV v)) ∧ w = w' := by
  by_cases hneg : n < 0
  · exact checkClause_neg a cap c n w h hn hneg v (Lib.hid (by have := hv.out; rwa [show max n 0 = 0 from by omega] at this))
  · exact checkClause_pos a cap c n w h hn (by omega) v (Lib.hid (by have := hv.out; rwa [show max n 0 = n from by omega] at this))
theorem rcheckClause_any (a : Option Addr) (cap : Nat) (c : List Int) (n : Int) (w : World) (h : ValRow w (.slice a c.length cap) (intVals c)) (hn : n ≤ 9223372036854775807) (v : Bool) (hv : Hid (okC (max n 0) c = v)) :
    Calls Try.prog 21 #[.slice a c.length cap, .int .i64 n] w fun e w' => e = .returned (.int .i64 (chkV v)) ∧ w = w' := by
  by_cases hneg : n < 0
  · exact rcheckClause_neg a cap c n w h hn hneg v (Lib.hid (by have := hv.out; rwa [show max n 0 = 0 from by omega] at this))
  · exact rcheckClause_pos a cap c n w h hn (by omega) v (Lib.hid (by have := hv.out; rwa [show max n 0 = n from by omega] at this))
end Go.Proofs.Ytiimkhnngpfnbaa
/- Formulas: whether they are few, and may be. -/
namespace Go.Proofs.Ytiimkhnngpfnbaa
open Go.RowKit
set_option linter.unusedVariables false
def chkF (n : Int) (LL : List (List Int)) : Int := if n < 0 ∨ 400 < n then 8 else if 8000 < LL.length then 2 else if LL.all (okC n) = true then 0 else 8
def fewP (LL : List (List Int)) (many long : Nat) : Prop := LL.length ≤ many ∧ ∀ c ∈ LL, c.length ≤ long
instance (LL : List (List Int)) (many long : Nat) : Decidable (fewP LL many long) := by unfold fewP; infer_instance
set_option maxHeartbeats 1600000 in
theorem check_any (a : Option Addr) (cap : Nat) (LL : List (List Int)) (n : Int) (w : World) (h : RowOf 1 IntsC w (.slice a LL.length cap) LL) (hn : n ≤ 9223372036854775807) (v : Int) (hv : Hid (chkF n LL = v)) :
    Calls Try.prog 24 #[.agg #[.int .i64 n, .slice a LL.length cap]] w fun e w' => e = .returned (.int .i64 v) ∧ Below w.heap.size w w' := by
  have hmx := h.len
  unfold maxLen at hmx
  have HR := Lib.hid (h.below intsC_lasts ((Below.refl _ _).alloc (Nat.le_refl _) (.cells #[.int .i64 n, .slice a LL.length cap] 46)))
  clear h
  by_cases h0 : n < 0
  · have hd : decide (n < 0) = true := decide_eq_true h0
    have HV : Hid (8 = v) := Lib.hid (by rw [← hv.out]; unfold chkF; rw [if_pos (.inl h0)])
    go_enter Try.func24, Try.ntmps24
    go_wp2_with fail
    go_ret
    exact ⟨ret_int HV.out, (Below.refl _ _).alloc (Nat.le_refl _) _⟩
  have hd : decide (n < 0) = false := decide_eq_false h0
  by_cases h4 : 400 < n
  · have hd2 : decide (400 < n) = true := decide_eq_true h4
    have HV : Hid (8 = v) := Lib.hid (by rw [← hv.out]; unfold chkF; rw [if_pos (.inr h4)])
    go_enter Try.func24, Try.ntmps24
    go_wp2_with fail
    go_ret
    exact ⟨ret_int HV.out, (Below.refl _ _).alloc (Nat.le_refl _) _⟩
  have hd2 : decide (400 < n) = false := decide_eq_false h4
  by_cases h8 : 8000 < LL.length
  · have hd3 : decide (8000 < LL.length) = true := decide_eq_true h8
    have hd4 : decide ((8000 : Int) < (LL.length : Int)) = true := decide_eq_true (by omega)
    have HV : Hid (2 = v) := Lib.hid (by rw [← hv.out]; unfold chkF; rw [if_neg (show ¬ (n < 0 ∨ 400 < n) from by omega), if_pos h8])
    go_enter Try.func24, Try.ntmps24
    go_wp2_with fail
    go_ret
    exact ⟨ret_int HV.out, (Below.refl _ _).alloc (Nat.le_refl _) _⟩
  have hd3 : decide (8000 < LL.length) = false := decide_eq_false h8
  have hd4 : decide ((8000 : Int) < (LL.length : Int)) = false := decide_eq_false (by omega)
  have HV : Hid ((if LL.all (okC n) = true then 0 else 8) = v) := Lib.hid (by rw [← hv.out]; unfold chkF; rw [if_neg (show ¬ (n < 0 ∨ 400 < n) from by omega), if_neg h8])
  have hm0 : max n 0 = n := by omega
  have HM0 := Lib.hid hm0
  clear hm0
  go_enter Try.func24, Try.ntmps24
  go_wp2_with fail
  go_loop [23] (fun i => ∃ k : Nat, i = .int .i64 k ∧ k ≤ LL.length ∧ (LL.take k).all (okC n) = true) (fun i => LL.length - (intOf i).toNat)
  case atStart => exact ⟨0, rfl, Nat.zero_le _, rfl⟩
  case round =>
    obtain ⟨k, rfl, hk, hok⟩ := hrel
    have HOK := Lib.hid hok
    clear hok
    have k0 : (0 : Int) ≤ (k : Int) := by omega
    by_cases hlt : k < LL.length
    · have k1 : (k : Int) < (LL.length : Int) := by omega
      have hdk : decide (k < LL.length) = true := decide_eq_true hlt
      obtain ⟨b, off, va, vc, rfl, _, hc, hrw, _⟩ := ints_row HR.out k hlt
      have e : LL.getD k [] = LL[k] := by simp [hlt]
      have HTK := Lib.hid (List.take_succ_eq_append_getElem hlt)
      have HMEM := Lib.hid (List.getElem_mem hlt)
      rw [← e] at HTK HMEM
      clear e
      obtain ⟨c, hcc⟩ : ∃ c, LL.getD k [] = c := ⟨_, rfl⟩
      rw [hcc] at hc hrw HTK HMEM
      have HRW := Lib.hid hrw
      clear hrw hcc
      cases hf : okC n c with
      | false =>
        have HF : Hid (okC (max n 0) c = false) := Lib.hid (by rw [HM0.out]; exact hf)
        have HVV : Hid (8 = v) := Lib.hid (by
          rw [← HV.out, if_neg]
          intro ha
          have := List.all_eq_true.1 ha _ HMEM.out
          rw [hf] at this; cases this)
        clear hf
        go_wp2_with fail
        refine (checkClause_any va vc c n _ HRW.out hn false HF).mono ?_
        rintro e w1 ⟨rfl, rfl⟩
        go_wp2_with fail
        go_ret
        exact ⟨ret_int HVV.out, (Below.refl _ _).alloc (Nat.le_refl _) _⟩
      | true =>
        have HF : Hid (okC (max n 0) c = true) := Lib.hid (by rw [HM0.out]; exact hf)
        have HNX : Hid ((LL.take (k + 1)).all (okC n) = true) := Lib.hid (by rw [HTK.out, List.all_append, HOK.out]; simp [hf])
        clear hf
        go_wp2_with fail
        refine (checkClause_any va vc c n _ HRW.out hn true HF).mono ?_
        rintro e w1 ⟨rfl, rfl⟩
        go_wp2_with fail
        go_round
        case rel => exact ⟨k + 1, by go_num, by omega, HNX.out⟩
        case measure => simp [intOf]; omega
    · have hdk : decide (k < LL.length) = false := decide_eq_false hlt
      have HVV : Hid (0 = v) := Lib.hid (by
        have := HOK.out
        rw [List.take_of_length_le (by omega)] at this
        rw [← HV.out, if_pos this])
      have HLT := Lib.hid hlt
      clear hlt
      go_wp2_with fail
      go_ret
      exact ⟨ret_int HVV.out, (Below.refl _ _).alloc (Nat.le_refl _) _⟩
set_option maxHeartbeats 1600000 in
theorem rcheck_any (a : Option Addr) (cap : Nat) (LL : List (List Int)) (n : Int) (w : World) (h : RowOf 1 IntsC w (.slice a LL.length cap) LL) (hn : n ≤ 9223372036854775807) (v : Int) (hv : Hid (chkF n LL = v)) :
    Calls Try.prog 13 #[.int .i64 n, .slice a LL.length cap] w fun e w' => e = .returned (.int .i64 v) ∧ w = w' := by
  have hmx := h.len
  unfold maxLen at hmx
  have HR := Lib.hid h
  clear h
  by_cases h0 : n < 0
  · have hd : decide (n < 0) = true := decide_eq_true h0
    have HV : Hid (8 = v) := Lib.hid (by rw [← hv.out]; unfold chkF; rw [if_pos (.inl h0)])
    go_enter Try.func13, Try.ntmps13
    go_wp2_with fail
    go_ret
    exact ⟨ret_int HV.out, rfl⟩
  have hd : decide (n < 0) = false := decide_eq_false h0
  by_cases h4 : 400 < n
  · have hd2 : decide (400 < n) = true := decide_eq_true h4
    have HV : Hid (8 = v) := Lib.hid (by rw [← hv.out]; unfold chkF; rw [if_pos (.inr h4)])
    go_enter Try.func13, Try.ntmps13
    go_wp2_with fail
    go_ret
    exact ⟨ret_int HV.out, rfl⟩
  have hd2 : decide (400 < n) = false := decide_eq_false h4
  by_cases h8 : 8000 < LL.length
  · have hd3 : decide (8000 < LL.length) = true := decide_eq_true h8
    have hd4 : decide ((8000 : Int) < (LL.length : Int)) = true := decide_eq_true (by omega)
    have HV : Hid (2 = v) := Lib.hid (by rw [← hv.out]; unfold chkF; rw [if_neg (show ¬ (n < 0 ∨ 400 < n) from by omega), if_pos h8])
    go_enter Try.func13, Try.ntmps13
    go_wp2_with fail
    go_ret
    exact ⟨ret_int HV.out, rfl⟩
  have hd3 : decide (8000 < LL.length) = false := decide_eq_false h8
  have hd4 : decide ((8000 : Int) < (LL.length : Int)) = false := decide_eq_false (by omega)
  have HV : Hid ((if LL.all (okC n) = true then 0 else 8) = v) := Lib.hid (by rw [← hv.out]; unfold chkF; rw [if_neg (show ¬ (n < 0 ∨ 400 < n) from by omega), if_neg h8])
  have hm0 : max n 0 = n := by omega
  have HM0 := Lib.hid hm0
  clear hm0
  go_enter Try.func13, Try.ntmps13
  go_wp2_with fail
  go_loop [5] (fun i => ∃ k : Nat, i = .int .i64 k ∧ k ≤ LL.length ∧ (LL.take k).all (okC n) = true) (fun i => LL.length - (intOf i).toNat)
  case atStart => exact ⟨0, rfl, Nat.zero_le _, rfl⟩
  case round =>
    obtain ⟨k, rfl, hk, hok⟩ := hrel
    have HOK := Lib.hid hok
    clear hok
    have k0 : (0 : Int) ≤ (k : Int) := by omega
    by_cases hlt : k < LL.length
    · have k1 : (k : Int) < (LL.length : Int) := by omega
      have hdk : decide (k < LL.length) = true := decide_eq_true hlt
      obtain ⟨b, off, va, vc, rfl, _, hc, hrw, _⟩ := ints_row HR.out k hlt
      have e : LL.getD k [] = LL[k] := by simp [hlt]
      have HTK := Lib.hid (List.take_succ_eq_append_getElem hlt)
      have HMEM := Lib.hid (List.getElem_mem hlt)
      rw [← e] at HTK HMEM
      clear e
      obtain ⟨c, hcc⟩ : ∃ c, LL.getD k [] = c := ⟨_, rfl⟩
      rw [hcc] at hc hrw HTK HMEM
      have HRW := Lib.hid hrw
      clear hrw hcc
      cases hf : okC n c with
      | false =>
        have HF : Hid (okC (max n 0) c = false) := Lib.hid (by rw [HM0.out]; exact hf)
        have HVV : Hid (8 = v) := Lib.hid (by
          rw [← HV.out, if_neg]
          intro ha
          have := List.all_eq_true.1 ha _ HMEM.out
          rw [hf] at this; cases this)
        clear hf
        go_wp2_with fail
        refine (rcheckClause_any va vc c n _ HRW.out hn false HF).mono ?_
        rintro e w1 ⟨rfl, rfl⟩
        go_wp2_with fail
        go_ret
        exact ⟨ret_int HVV.out, rfl⟩
      | true =>
        have HF : Hid (okC (max n 0) c = true) := Lib.hid (by rw [HM0.out]; exact hf)
        have HNX : Hid ((LL.take (k + 1)).all (okC n) = true) := Lib.hid (by rw [HTK.out, List.all_append, HOK.out]; simp [hf])
        clear hf
        go_wp2_with fail
        refine (rcheckClause_any va vc c n _ HRW.out hn true HF).mono ?_
        rintro e w1 ⟨rfl, rfl⟩
        go_wp2_with fail
        go_round
        case rel => exact ⟨k + 1, by go_num, by omega, HNX.out⟩
        case measure => simp [intOf]; omega
    · have hdk : decide (k < LL.length) = false := decide_eq_false hlt
      have HVV : Hid (0 = v) := Lib.hid (by
        have := HOK.out
        rw [List.take_of_length_le (by omega)] at this
        rw [← HV.out, if_pos this])
      have HLT := Lib.hid hlt
      clear hlt
      go_wp2_with fail
      go_ret
      exact ⟨ret_int HVV.out, rfl⟩
end Go.Proofs.Ytiimkhnngpfnbaa
