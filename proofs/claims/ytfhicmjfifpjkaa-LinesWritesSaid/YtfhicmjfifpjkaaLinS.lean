/- A reader's Number. -/
import Derived.Test.YtfhicmjfifpjkaaLinO
namespace Go.Proofs.Ytfhicmjfifpjkaa
open Go.RowKit
set_option linter.unusedVariables false
theorem Moved.drewN {G : Nat → Prop} {w : World} {r : Nat} {wv cv : Value} {x : LineD} {k : Nat} {w' : World} (h : Moved G w r wv cv x k w') (q : Nat) : Moved G w r wv cv x k (w'.drewN q) := by
  obtain ⟨h1, m, h2⟩ := h
  exact ⟨h1.drewN q, m + q, by rw [h2, World.drewN_drewN]⟩
theorem rnum_none (G : Nat → Prop) (w : World) (r : Nat) (wv cv : Value) (x : LineD) (k : Nat) (h : RdAt G w r wv cv x k) (hk : ¬ k < x.ws.length) (most : Int) :
    Calls Try.prog 21 #[.pointer (some ⟨r, 0, none⟩), .int .i64 most] w fun e w' => e = .panicked [{ v := stopV 1 x.no 0, recovered := false }] ∧ ∃ m, w' = w.drewN m := by
  have HR := Lib.hid h
  clear h
  go_enter Try.func21, Try.ntmps21
  go_wp2_with fail
  refine (rword_no G w r wv cv x k HR.out hk).mono ?_
  rintro e w1 ⟨rfl, m, rfl⟩
  go_wp2_with fail
  exact ⟨rfl, rfl, m, rfl⟩
/-- what a number comes to: its value, or with what it is given up -/
def NumPost (G : Nat → Prop) (w : World) (r : Nat) (wv cv : Value) (x : LineD) (k : Nat) (most : Int) : Option Nat → Ending → World → Prop
  | none, e, w' => e = .panicked [{ v := stopV 1 x.no (colAt x (k + 1)), recovered := false }] ∧ Moved G w r wv cv x (k + 1) w'
  | some n, e, w' => (most < n ∧ e = .panicked [{ v := stopV 8 x.no (colAt x (k + 1)), recovered := false }] ∧ Moved G w r wv cv x (k + 1) w') ∨ ((n : Int) ≤ most ∧ e = .returned (.int .i64 n) ∧ Moved G w r wv cv x (k + 1) w')
theorem num_bad {G : Nat → Prop} {w : World} {r : Nat} {wv cv : Value} {x : LineD} {k : Nat} {most : Int} {v : Option Nat} (hv : v = none) {e : Ending} {w' : World} (he : e = .panicked [{ v := stopV 1 x.no (colAt x (k + 1)), recovered := false }]) (hm : Moved G w r wv cv x (k + 1) w') : NumPost G w r wv cv x k most v e w' := by
  subst hv; exact ⟨he, hm⟩
set_option maxHeartbeats 1600000 in
theorem rnum_any (G : Nat → Prop) (w : World) (r : Nat) (wv cv : Value) (x : LineD) (k : Nat) (h : RdAt G w r wv cv x k) (hk : k < x.ws.length) (l : List UInt8) (hs : Hid (x.ws.getD k [] = l)) (hl : l.length ≤ 9223372036854775807) (most : Int) (v : Option Nat) (hv : Hid (numL l = v)) :
    Calls Try.prog 21 #[.pointer (some ⟨r, 0, none⟩), .int .i64 most] w (NumPost G w r wv cv x k most v) := by
  have HR := Lib.hid h
  clear h
  have hgb := get_by8 l
  have h8 := by8_le l 0
  obtain ⟨col, hcol⟩ : ∃ col, colAt x (k + 1) = col := ⟨_, rfl⟩
  have HC := Lib.hid hcol
  clear hcol
  rcases front_cases l with ⟨hf, h⟩ | ⟨hf, h1, h2, h3⟩
  · have HV : Hid (v = none) := Lib.hid (by rw [← hv.out]; exact numL_front hf)
    clear hf hv
    rcases h with h | ⟨h1, h⟩ | ⟨h1, h2, h3, h4⟩
    case' inl =>
      have hd : decide ((l.length : Int) < 1) = true := decide_eq_true (by omega)
    case' inr.inl =>
      have hd : decide ((l.length : Int) < 1) = false := decide_eq_false (by omega)
      have hd2 : decide ((9 : Int) < (l.length : Int)) = true := decide_eq_true (by omega)
    case' inr.inr =>
      have hd : decide ((l.length : Int) < 1) = false := decide_eq_false (by omega)
      have hd2 : decide ((9 : Int) < (l.length : Int)) = false := decide_eq_false (by omega)
      have hd3 : decide ((1 : Int) < (l.length : Int)) = true := decide_eq_true (by omega)
      have hd4 : ((by8 l 0 : Int) == 48) = true := ieq_t h4
      clear h4
    all_goals
      go_enter Try.func21, Try.ntmps21
      go_wp2_with fail
      refine (rword_yes G w r wv cv x k HR.out hk l hs).mono ?_
      rintro e w1 ⟨rfl, hm1⟩
      have HM1 := Lib.hid hm1
      clear hm1
      go_wp2_with fail
      refine (fail_any G w1 r wv cv x (k + 1) HM1.out.rd 1 col HC).mono ?_
      rintro e w2 ⟨rfl, m2, rfl⟩
      go_wp2_with fail
      refine ⟨rfl, num_bad HV.out (by rw [HC.out]) (HM1.out.drewN m2)⟩
  · have hd : decide ((l.length : Int) < 1) = false := decide_eq_false (by omega)
    have hd2 : decide ((9 : Int) < (l.length : Int)) = false := decide_eq_false (by omega)
    have HF := Lib.hid hf
    clear hf
    rcases h3 with h3 | ⟨h3, h4⟩
    case' inl =>
      have hd3 : decide ((1 : Int) < (l.length : Int)) = false := decide_eq_false (by omega)
    case' inr =>
      have hd3 : decide ((1 : Int) < (l.length : Int)) = true := decide_eq_true (by omega)
      have hd4 : ((by8 l 0 : Int) == 48) = false := ieq_f h4
      clear h4
    all_goals
      clear h3
      go_enter Try.func21, Try.ntmps21
      go_wp2_with fail
      refine (rword_yes G w r wv cv x k HR.out hk l hs).mono ?_
      rintro e w1 ⟨rfl, hm1⟩
      have HM1 := Lib.hid hm1
      clear hm1
      go_wp2_with fail
      go_loop [6, 32] (fun n i => ∃ q N : Nat, i = .int .i64 q ∧ q ≤ l.length ∧ n = .int .i64 N ∧ N = numV (l.take q) ∧ N ≤ 1000000000 ∧ ∀ i, i < q → digC (by8 l i) = true) (fun _ i => l.length - (intOf i).toNat)
      case atStart => exact ⟨0, 0, rfl, Nat.zero_le _, rfl, rfl, by omega, fun i hi => absurd hi (by omega)⟩
      case round =>
        obtain ⟨q, N, rfl, hq, rfl, hN, hNb, hall⟩ := hrel
        have HN := Lib.hid hN
        have HA := Lib.hid hall
        clear hN hall
        have k8 := by8_le l q
        have k0 : (0 : Int) ≤ (q : Int) := by omega
        by_cases hlt : q < l.length
        · have k1 : (q : Int) < (l.length : Int) := by omega
          have hdk : decide (q < l.length) = true := decide_eq_true hlt
          cases hdc : digC (by8 l q)
          · have HV : Hid (v = none) := Lib.hid (by rw [← hv.out]; exact numL_stop hlt hdc)
            have hn := digC_no hdc
            clear hdc
            by_cases h48 : by8 l q < 48
            case' pos =>
              have hd5 : decide ((by8 l q : Int) < 48) = true := decide_eq_true (by omega)
            case' neg =>
              have hd5 : decide ((by8 l q : Int) < 48) = false := decide_eq_false (by omega)
              have hd6 : decide ((57 : Int) < (by8 l q : Int)) = true := decide_eq_true (by omega)
            all_goals
              clear hn
              go_wp2_with fail
              refine (fail_any G w1 r wv cv x (k + 1) HM1.out.rd 1 col HC).mono ?_
              rintro e w2 ⟨rfl, m2, rfl⟩
              go_wp2_with fail
              refine ⟨rfl, num_bad HV.out (by rw [HC.out]) (HM1.out.drewN m2)⟩
          · have hy := digC_yes hdc
            obtain ⟨y1, y2⟩ := hy
            have HD := Lib.hid hdc
            have hd5 : decide ((by8 l q : Int) < 48) = false := decide_eq_false (by omega)
            have hd6 : decide ((57 : Int) < (by8 l q : Int)) = false := decide_eq_false (by omega)
            have HT := Lib.hid (numV_take l q hlt)
            have HB : Hid (numV (l.take (q + 1)) ≤ 1000000000) := Lib.hid (by
              have h9 := numV_le l (q + 1) (by omega) (fun i hi => if e : i = q then e ▸ hdc else HA.out i (by omega))
              have : 10 ^ (q + 1) ≤ 10 ^ 9 := Nat.pow_le_pow_right (by omega) (by omega)
              omega)
            clear hdc
            go_wp2_with fail
            go_round
            case rel => exact ⟨q + 1, numV (l.take (q + 1)), by go_num, by omega, by rw [HT.out, ← HN.out]; congr 1; omega, rfl, HB.out, fun i hi => if e : i = q then e ▸ HD.out else HA.out i (by omega)⟩
            case measure => simp [intOf]; omega
        · obtain rfl : q = l.length := by omega
          have hdk : decide (l.length < l.length) = false := decide_eq_false (by omega)
          have hvv : v = some N := by rw [← hv.out, numL_yes HF.out HA.out, HN.out, List.take_length]
          subst hvv
          by_cases hbig : most < (N : Int)
          · have hdb : decide (most < (N : Int)) = true := decide_eq_true hbig
            go_wp2_with fail
            refine (fail_any G w1 r wv cv x (k + 1) HM1.out.rd 8 col HC).mono ?_
            rintro e w2 ⟨rfl, m2, rfl⟩
            go_wp2_with fail
            refine ⟨rfl, .inl ⟨hbig, by rw [HC.out], HM1.out.drewN m2⟩⟩
          · have hdb : decide (most < (N : Int)) = false := decide_eq_false hbig
            go_wp2_with fail
            go_ret
            exact .inr ⟨by omega, rfl, HM1.out⟩
end Go.Proofs.Ytfhicmjfifpjkaa
