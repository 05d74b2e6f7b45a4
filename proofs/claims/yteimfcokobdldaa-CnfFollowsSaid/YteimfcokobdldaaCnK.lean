/- Spread of what may not be. -/
import Derived.Test.YteimfcokobdldaaCnJ
namespace Go.Proofs.Yteimfcokobdldaa
open Go.RowKit
set_option linter.unusedVariables false
theorem checkClause_not (a : Option Addr) (cap : Nat) (c : List Int) (n : Int) (w : World) (h : ValRow w (.slice a c.length cap) (intVals c)) (hn : n ≤ 9223372036854775807) (hv : Hid (okC (max n 0) c = false)) :
    Calls Try.prog 14 #[.slice a c.length cap, .int .i64 n] w fun e w' => e = .returned (.int .i64 8) ∧ w = w' := checkClause_any a cap c n w h hn false hv
theorem spread_no (n : Int) (va : Option Addr) (vc : Nat) (LL : List (List Int)) (a : Option Addr) (cap : Nat) (lits : List Int) (w : World) (hL : RowOf 1 IntsC w (.slice va LL.length vc) LL) (h : ValRow w (.slice a lits.length cap) (intVals lits)) (hn : n ≤ 9223372036854775807) (hno : Hid (¬ (chkF n LL = 0 ∧ okC n lits = true))) :
    Calls Try.prog 30 #[.agg #[.int .i64 n, .slice va LL.length vc], .slice a lits.length cap] w fun e w' => e = .returned (.tuple #[.slice none 0 0, .bool false]) ∧ Below w.heap.size w w' := by
  have hb0 : Below w.heap.size w (w.alloc (.cells #[.int .i64 n, .slice va LL.length vc] 26)) := (Below.refl _ _).alloc (Nat.le_refl _) _
  have HB0 := Lib.hid hb0
  have HL := Lib.hid hL
  have H := Lib.hid h
  clear hL h hb0
  obtain ⟨v, hv⟩ : ∃ v, chkF n LL = v := ⟨_, rfl⟩
  have HV := Lib.hid hv
  by_cases h0 : v = 0
  · have hok := chkF_ok (hv.trans h0)
    have HC : Hid (okC (max n 0) lits = false) := Lib.hid (by
      rw [show max n 0 = n from by omega, Bool.eq_false_iff]
      exact fun hh => hno.out ⟨hv.trans h0, hh⟩)
    obtain rfl := h0
    clear hv hok
    go_enter Try.func30, Try.ntmps30
    go_wp2_with fail
    refine (check_any va vc LL n _ (HL.out.below intsC_lasts HB0.out) hn 0 HV).mono ?_
    rintro e w1 ⟨rfl, hb1⟩
    have HB1 := Lib.hid (HB0.out.trans (hb1.mono HB0.out.size))
    have f0 := ((varAt_new w #[.int .i64 n, .slice va LL.length vc] 26 _ rfl).after hb1).get 0 rfl
    clear hb1
    go_wp2_with fail
    refine (checkClause_not a cap lits n _ (H.out.below HB1.out) hn HC).mono ?_
    rintro e w2 ⟨rfl, rfl⟩
    go_wp2_with fail
    go_ret2
    exact ⟨rfl, HB1.out⟩
  · have d0 := ine h0
    clear hv h0
    go_enter Try.func30, Try.ntmps30
    go_wp2_with fail
    refine (check_any va vc LL n _ (HL.out.below intsC_lasts HB0.out) hn v HV).mono ?_
    rintro e w1 ⟨rfl, hb1⟩
    have HB1 := Lib.hid (HB0.out.trans (hb1.mono HB0.out.size))
    clear hb1
    go_wp2_with fail
    go_ret2
    exact ⟨rfl, HB1.out⟩
end Go.Proofs.Yteimfcokobdldaa
