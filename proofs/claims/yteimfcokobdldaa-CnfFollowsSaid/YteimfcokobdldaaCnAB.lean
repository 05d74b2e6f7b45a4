/- Arguments opened; CnfChecks. -/
import Derived.Test.YteimfcokobdldaaCnAA
namespace Go.Proofs.Yteimfcokobdldaa
open Go.RowKit Go.ChangeShapes Go.WideShapes Go.Deep
set_option linter.unusedVariables false
def InR (l : List Int) : Prop := ∀ y ∈ l, -9223372036854775808 ≤ y ∧ y ≤ 9223372036854775807
theorem int_wf {n : Int} (h : (Lit.int .i64 n).wf = true) : -9223372036854775808 ≤ n ∧ n ≤ 9223372036854775807 := by
  simp [Lit.wf] at h
  have h1 : IntKind.i64.min = -9223372036854775808 := by rfl
  have h2 : IntKind.i64.max = 9223372036854775807 := by rfl
  omega
theorem ints_core {w : World} {x : Addr} {len cap : Nat} {zs : List Int} (h1 : len ≤ cap) (h2 : cap ≤ maxLen) (h3 : len ≤ zs.length) (h4 : ∀ i, i < zs.length → w.cell? (x.add i) = some (.int .i64 (zs.getD i 0))) (h5 : ∀ n ∈ zs, (Lit.int .i64 n).wf = true) :
    ∃ l, ValRow w (.slice (some x) len cap) (intVals l) ∧ l.length = len ∧ InR l := by
  have hl : (zs.take len).length = len := by simp; omega
  refine ⟨zs.take len, ?_, hl, fun y hy => int_wf (h5 y (List.mem_of_mem_take hy))⟩
  by_cases h0 : len = 0
  · subst h0; exact .inl ⟨_, _, rfl, by simp [intVals]⟩
  · right
    obtain ⟨b, off, rfl, hc⟩ := ints_at h4 (by omega)
    have hc' : ∀ i, i < len → w.cell? ⟨b, off + i, none⟩ = some (.int .i64 ((zs.take len).getD i 0)) := fun i hi => by
      rw [getD_take zs len i hi]; exact hc i (by omega)
    refine ⟨b, off, cap, by rw [intVals_length, hl], by rw [intVals_length]; omega, h2, lt_of_cell (hc' 0 (by omega)), fun i hi => ?_⟩
    rw [intVals_length] at hi
    rw [hc' i (by omega), intVals_get _ _ hi]
/-- a slice of ints that came in -/
theorem ints_arg {w : World} {a : Option Addr} {len cap : Nat} {zs : List Int} (h : IsRow .i64 w a len cap zs) : ∃ l, ValRow w (.slice a len cap) (intVals l) ∧ l.length = len ∧ InR l := by
  rcases h with ⟨rfl, rfl, rfl, rfl⟩ | ⟨x, rfl, h1, h2, h3, h4, h5⟩
  · exact ⟨[], .inl ⟨_, _, rfl, rfl⟩, rfl, fun y hy => absurd hy (by simp)⟩
  · exact ints_core h1 h2 (by omega) h4 h5
theorem intsC_open {H : Type} {enc : TypeId × Value → H} {w : World} {base : Nat} {spare : Nat → Bool} {held : Bool} (m : Nat) (cs : List Value) (y : DataW H × List MemPlace)
    (h : DataW.trod enc Try.prog w base spare held m 31 cs = some y) : ∃ x : List Int, IntsC w cs x := by
  rcases open_ints Try.underlying31 Try.underlying3 (by kernel_rfl) h with ⟨rfl, _⟩ | ⟨x, l, c, zs, rfl, _, hl, hm, hz, _, hcell, hwz⟩
  · exact ⟨[], _, rfl, .inl ⟨_, _, rfl, rfl⟩, by simp⟩
  · obtain ⟨l', h1, h2, h3⟩ := ints_core (w := w) hl hm (by rw [hz]; split <;> omega) hcell hwz
    exact ⟨l', _, rfl, h1, h3⟩
theorem boolC_cells {w : World} {a : Option Addr} {len cap : Nat} {l : List Bool} (h : RowOf 1 (fun _ cs (x : Bool) => cs = [Value.bool x]) w (.slice a len cap) l) : ValRow w (.slice a len cap) (boolVals l) := by
  rcases h with ⟨a', cap', h1, rfl, hc⟩ | ⟨b, off, cap', h1, h2, h3, h4, h5⟩
  · exact .inl ⟨a', cap', h1, rfl⟩
  · by_cases h0 : l.length = 0
    · rw [h0] at h1
      exact .inl ⟨_, _, h1, by rw [List.length_eq_zero_iff.1 h0]; rfl⟩
    · refine .inr ⟨b, off, cap', by rw [boolVals_length]; exact h1, by rw [boolVals_length]; omega, h3, h4, fun i hi => ?_⟩
      rw [boolVals_length] at hi
      obtain ⟨cs, ⟨_, hc⟩, rfl⟩ := h5 i hi
      have := hc 0 (by omega)
      rw [Nat.mul_one] at this
      rw [boolVals_get _ _ hi]
      simpa [hi] using this
def BoolC (_ : World) (cs : List Value) (x : Bool) : Prop := cs = [Value.bool x]
theorem boolC_open {H : Type} {enc : TypeId × Value → H} {w : World} {base : Nat} {spare : Nat → Bool} {held : Bool} (m : Nat) (cs : List Value) (y : DataW H × List MemPlace)
    (h : DataW.trod enc Try.prog w base spare held m 4 cs = some y) : ∃ x : Bool, BoolC w cs x := by
  obtain ⟨b, h1, _⟩ := DataW.trod_bool Try.underlying4 h
  exact ⟨b, h1⟩
set_option maxRecDepth 100000 in
set_option maxHeartbeats 1600000 in
theorem cnfChecks_list (n : Int) (a : Option Addr) (cap : Nat) (LL : List (List Int)) (w : World) (h : RowOf 1 IntsC w (.slice a LL.length cap) LL) (hn : -9223372036854775808 ≤ n ∧ n ≤ 9223372036854775807) :
    Calls Try.prog 3 #[.int .i64 n, .slice a LL.length cap] w fun e w' => e = .returned (.bool true) ∧ Below w.heap.size w w' := by
  have hmx := h.len
  unfold maxLen at hmx
  have H := Lib.hid h
  clear h
  obtain ⟨u, hu⟩ : ∃ u, decide (fewP LL 8010 500) = u := ⟨_, rfl⟩
  have HU := Lib.hid hu
  clear hu
  obtain ⟨v, hv⟩ : ∃ v, chkF n LL = v := ⟨_, rfl⟩
  have HV := Lib.hid hv
  clear hv
  go_enter Try.func3, Try.ntmps3
  go_wp2_with fail
  refine (resolved_true _).mono ?_
  rintro e w1 ⟨rfl, hb1⟩
  have HB1 := Lib.hid hb1
  have H1 := Lib.hid (H.out.below intsC_lasts hb1)
  clear hb1
  go_wp2_with fail
  refine (few_any a cap LL 8010 500 _ H1.out (by omega) (by omega) u HU).mono ?_
  rintro e w2 ⟨rfl, rfl⟩
  cases u with
  | false =>
    go_wp2_with fail
    refine (resolved_true _).mono ?_
    rintro e w3 ⟨rfl, hb3⟩
    have HB3 := Lib.hid (HB1.out.trans (hb3.mono HB1.out.size))
    clear hb3
    go_wp2_with fail
    go_ret
    exact ⟨rfl, HB3.out⟩
  | true =>
    have hb2 := below_lit w1 (.cells #[.int .i64 n, .slice a LL.length cap] 26)
    have H2 := Lib.hid (H1.out.below intsC_lasts hb2)
    have HB2 := Lib.hid (HB1.out.trans (hb2.mono HB1.out.size))
    clear hb2
    go_wp2_with fail
    refine (check_any a cap LL n _ H2.out hn.2 v HV).mono ?_
    rintro e w3 ⟨rfl, hb3⟩
    have H3 := Lib.hid (H2.out.below intsC_lasts hb3)
    have HB3 := Lib.hid (HB2.out.trans (hb3.mono HB2.out.size))
    clear hb3
    go_wp2_with fail
    refine (rcheck_any a cap LL n _ H3.out hn.2 v HV).mono ?_
    rintro e w4 ⟨rfl, rfl⟩
    have hvv : (v != v) = false := by simp
    by_cases h0 : LL.length = 0
    · have e0 : ((LL.length : Int) == 0) = true := iet (by omega)
      have e0' : (LL.length == 0) = true := by simp [h0]
      have H0 := Lib.hid h0
      clear h0
      go_wp2_with fail
      go_quiet (fail)
      go_wp2_with fail
      go_ret
      exact ⟨rfl, below_drewN' HB3.out _⟩
    · have e0 : ((LL.length : Int) == 0) = false := ief (by omega)
      have e0' : (LL.length == 0) = false := by simp [h0]
      obtain ⟨b, off, va, vc, rfl, hbl, hc, hrw, _⟩ := ints_row H3.out 0 (by omega)
      obtain ⟨c, hcc⟩ : ∃ c, LL.getD 0 [] = c := ⟨_, rfl⟩
      rw [hcc] at hc hrw
      obtain ⟨u3, hu3⟩ : ∃ u, okC (max n 0) c = u := ⟨_, rfl⟩
      have HU3 := Lib.hid hu3
      have HRW := Lib.hid hrw
      have HC1 := fun (W : World) (hW : ValRow W (.slice va c.length vc) (intVals c)) => Lib.hid ((checkClause_any va vc c n W hW hn.2 u3 HU3).mono fun _ _ h => (⟨h.1, h.2.symm⟩ : _ ∧ _))
      have HC2 := fun (W : World) (hW : ValRow W (.slice va c.length vc) (intVals c)) => Lib.hid ((rcheckClause_any va vc c n W hW hn.2 u3 HU3).mono fun _ _ h => (⟨h.1, h.2.symm⟩ : _ ∧ _))
      have l1 : (0 : Int) < (LL.length : Int) := by omega
      obtain ⟨cv, hcv⟩ : ∃ cv, chkV u3 = cv := ⟨_, rfl⟩
      rw [hcv] at HC1 HC2
      have hcc2 : (cv == cv) = true := by simp
      obtain ⟨nl, hnl⟩ : ∃ nl, LL.length = nl := ⟨_, rfl⟩
      rw [hnl] at e0 e0' l1 ⊢
      rw [Nat.add_zero] at hc
      have l2 : 0 < nl := by omega
      clear h0 hcc hu3 hrw hcv hnl
      go_wp2_with fail
      go_quiet (first | (go_at_call 14; exact Calls.quiet_of_same ((HC1 _ (HRW.out.drewN _)).out)) | (go_at_call 15; exact Calls.quiet_of_same ((HC2 _ (HRW.out.drewN _)).out)))
      go_wp2_with fail
      go_ret
      exact ⟨rfl, below_drewN' HB3.out _⟩
theorem cnfChecks_walk (a0 : Int) (w0 : (Lit.int .i64 a0).wf = true) (a1 : Option Addr) (len1 cap1 : Nat) (z1 : List (List Int)) (w : World) (w1 : RowOf 1 IntsC w (.slice a1 len1 cap1) z1) :
    Calls Try.prog 3 #[.int .i64 a0, .slice a1 len1 cap1] w fun e w' => e = .returned (.bool true) ∧ Below w.heap.size w w' := by
  obtain ⟨a', cap', he⟩ := w1.shape
  simp only [Value.slice.injEq] at he
  obtain ⟨_, hlen, _⟩ := he
  subst hlen
  exact cnfChecks_list a0 a1 cap1 z1 w w1 (int_wf w0)
end Go.Proofs.Yteimfcokobdldaa
