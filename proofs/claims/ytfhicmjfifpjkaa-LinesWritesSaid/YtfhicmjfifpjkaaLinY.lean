/- Take, with the law's closure. -/
import Derived.Test.YtfhicmjfifpjkaaLinX
import Derived.Conc.MuLone
namespace Go.Proofs.Ytfhicmjfifpjkaa
open Go.RowKit
set_option linter.unusedVariables false
theorem one1_any (s t : List UInt8) (O : Nat) (a b : Value) (w : World) (h : VarAt w O [a, b, .string ⟨t.toArray⟩]) (v : Bool) (hv : Hid ((s == t) = v)) :
    Calls Try.prog 40 #[.string ⟨s.toArray⟩, .pointer (some ⟨O, 0, none⟩)] w fun e w' => e = .returned (.tuple #[.string ⟨s.toArray⟩, .bool v]) ∧ ∃ m, w' = w.drewN m := by
  have c2 := h.get 2 rfl
  have hst : (s == t) = v := hv.out
  clear h
  go_enter Try.func40, Try.ntmps40
  go_wp2_with fail
  go_quiet (fail)
  go_wp2_with fail
  go_ret2
  exact ⟨rfl, _, rfl⟩
theorem ent_one1 (args : Array Value) (w : World) : (callFunc 40 args).run Try.prog w = .ok (.enter 40 args) w :=
  Go.MuLone.run_callFunc_enter Try.func40 (by kernel_rfl) rfl args w
theorem func_nil2 (fn : Fn) (first cap : Array Value) (w : World) : (binOp .eql 78 (.func fn first cap) .nilFunc).run Try.prog w = .ok (.bool false) w := by kernel_rfl
theorem take_none (G : Nat → Prop) (w : World) (r : Nat) (wv cv : Value) (x : LineD) (k : Nat) (h : RdAt G w r wv cv x k) (hk : ¬ k < x.ws.length) (fv : Value) :
    Calls Try.prog 39 #[.pointer (some ⟨r, 0, none⟩), fv] w fun e w' => e = .panicked [{ v := stopV 1 x.no 0, recovered := false }] ∧ ∃ m, w' = w.drewN m := by
  have HR := Lib.hid h
  clear h
  go_enter Try.func39, Try.ntmps39
  go_wp2_with fail
  refine (rword_no G w r wv cv x k HR.out hk).mono ?_
  rintro e w1 ⟨rfl, m, rfl⟩
  go_wp2_with fail
  exact ⟨rfl, rfl, m, rfl⟩
def TakePost (G : Nat → Prop) (w : World) (r : Nat) (wv cv : Value) (x : LineD) (k : Nat) (s : List UInt8) : Bool → Ending → World → Prop
  | false, e, w' => e = .panicked [{ v := stopV 1 x.no (colAt x (k + 1)), recovered := false }] ∧ Moved G w r wv cv x (k + 1) w'
  | true, e, w' => e = .returned (.string ⟨s.toArray⟩) ∧ Moved G w r wv cv x (k + 1) w'
theorem Moved.varO {G : Nat → Prop} {w : World} {r : Nat} {wv cv : Value} {x : LineD} {k : Nat} {w' : World} (h : Moved G w r wv cv x k w') {b : Nat} {vs : List Value} (hv : VarAt w b vs) (hn : r ≠ b) : VarAt w' b vs := by
  obtain ⟨_, m, rfl⟩ := h
  exact (hv.setO hn _).drewN m
set_option maxHeartbeats 800000 in
theorem take_some (G : Nat → Prop) (w : World) (r : Nat) (wv cv : Value) (x : LineD) (k : Nat) (h : RdAt G w r wv cv x k) (hk : k < x.ws.length) (s : List UInt8) (hs : Hid (x.ws.getD k [] = s)) (t : List UInt8) (O : Nat) (a b : Value) (ho : VarAt w O [a, b, .string ⟨t.toArray⟩]) (hO : r ≠ O) (v : Bool) (hv : Hid ((s == t) = v)) :
    Calls Try.prog 39 #[.pointer (some ⟨r, 0, none⟩), .func (.func 40) #[] #[.pointer (some ⟨O, 0, none⟩)]] w (TakePost G w r wv cv x k s v) := by
  have HR := Lib.hid h
  have HO := Lib.hid ho
  have hfn := func_nil2 (.func 40) #[] #[.pointer (some ⟨O, 0, none⟩)]
  have hent := ent_one1
  clear h ho
  go_enter Try.func39, Try.ntmps39
  go_wp2_with fail
  refine (rword_yes G w r wv cv x k HR.out hk s hs).mono ?_
  rintro e w1 ⟨rfl, hm1⟩
  have HM1 := Lib.hid hm1
  clear hm1
  go_wp2_with fail
  refine (one1_any s t O a b w1 (HM1.out.varO HO.out hO) v hv).mono ?_
  rintro e w2 ⟨rfl, m2, rfl⟩
  cases v with
  | false =>
    go_wp2_with fail
    refine (fail_any G _ r wv cv x (k + 1) (HM1.out.rd.drewN m2) 1 (colAt x (k + 1)) (Lib.hid rfl)).mono ?_
    rintro e w3 ⟨rfl, m3, rfl⟩
    go_wp2_with fail
    have hm := HM1.out
    obtain ⟨h1, q, h2⟩ := hm
    exact ⟨rfl, rfl, h1.drewN (m2 + m3), q + (m2 + m3), by rw [h2, World.drewN_drewN]⟩
  | true =>
    go_wp2_with fail
    go_ret
    have hm := HM1.out
    obtain ⟨h1, q, h2⟩ := hm
    exact ⟨rfl, h1.drewN m2, q + m2, by rw [h2, World.drewN_drewN]⟩
end Go.Proofs.Ytfhicmjfifpjkaa
