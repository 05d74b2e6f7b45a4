/- An outcome that came in, opened. -/
import Derived.Test.YtoebfmhogkjmgaaGreatDoorRtF
import Derived.OpenShut
import Derived.ChangeArms
import Derived.SizedLaws
namespace Go.Proofs.YtoebfmhogkjmgaaGreatDoor
open Go.RowKit Go.WideShapes
set_option linter.unusedVariables false
theorem i64_of {n : Int} (h : (Lit.int .i64 n).wf = true) : I64 n := by
  have h2 : decide (IntKind.i64.min ≤ n ∧ n ≤ IntKind.i64.max) = true := by
    first | exact h | simpa [Lit.wf] using h
  have h3 := of_decide_eq_true h2
  exact ⟨h3.1, h3.2⟩
theorem fld_at {H : Type} {enc : TypeId × Value → H} {P : Program} {W : World} {base n : Nat} {sp : Nat → Bool} {held : Bool} {fs : Array Field} {l : List Value} {xs : List (DataW H × List MemPlace)}
    (hf : ∀ (i : Nat) (f : Field), fs[i]? = some f → DataW.trod enc P W base sp held n f.type ((l.drop f.offset).take (P.cellsOf f.type)) = xs[i]?) (i : Nat) {f : Field} (hi : fs[i]? = some f) {t o c : Nat} (h1 : f.type = t) (h2 : f.offset = o) (h3 : P.cellsOf t = c) :
    DataW.trod enc P W base sp held n t ((l.drop o).take c) = xs[i]? := by
  subst h1; subst h2; subst h3
  exact hf i f hi
theorem out_open {H : Type} {enc : TypeId × Value → H} {W : World} {base : Nat} {sp : Nat → Bool} {held : Bool} {cs : Array Value} {d : DataW H} {ps : List MemPlace} (h : DataW.Trod enc Tryz.prog W base sp held 26 (.agg cs) d ps) :
    ∃ (tag inp code ln col st : Int) (lk wy au : ByteArray), cs = #[.int .i64 tag, .int .i64 inp, .int .i64 code, .int .i64 ln, .int .i64 col, .int .i64 st, .string lk, .string wy, .string au] ∧ I64 tag ∧ I64 inp ∧ I64 code ∧ I64 ln ∧ I64 col ∧ I64 st ∧
      d = .agg [.lit (.int .i64 tag), .lit (.int .i64 inp), .agg [.lit (.int .i64 code), .lit (.int .i64 ln), .lit (.int .i64 col)], .lit (.int .i64 st), .lit (.string lk.data.toList), .lit (.string wy.data.toList), .lit (.string au.data.toList)] := by
  obtain ⟨m, hm⟩ := h
  obtain ⟨xs, n, _, hx, hl, hn, hf⟩ := DataW.trod_struct Tryz.underlying26 hm
  have hc : Tryz.prog.cellsOf 26 = 9 := by kernel_rfl
  have c3 : Tryz.prog.cellsOf 3 = 1 := by kernel_rfl
  have c9 : Tryz.prog.cellsOf 9 = 1 := by kernel_rfl
  have c22 : Tryz.prog.cellsOf 22 = 1 := by kernel_rfl
  have c24 : Tryz.prog.cellsOf 24 = 3 := by kernel_rfl
  obtain ⟨l⟩ := cs
  have hl' : l.length = 9 := (show l.length = _ from hl).trans hc
  have e0 : (Value.agg ⟨l⟩).cells.toList = l := rfl
  rw [e0] at hf
  have f0 := fld_at hf 0 rfl (t := 3) (o := 0) rfl rfl c3
  have f1 := fld_at hf 1 rfl (t := 3) (o := 1) rfl rfl c3
  have f2 := fld_at hf 2 rfl (t := 24) (o := 2) rfl rfl c24
  have f3 := fld_at hf 3 rfl (t := 3) (o := 5) rfl rfl c3
  have f4 := fld_at hf 4 rfl (t := 9) (o := 6) rfl rfl c9
  have f5 := fld_at hf 5 rfl (t := 9) (o := 7) rfl rfl c9
  have f6 := fld_at hf 6 rfl (t := 9) (o := 8) rfl rfl c9
  clear hf hm hl hc e0
  match l, hl', xs, hn, hx with
  | [a0, a1, a2, a3, a4, a5, a6, a7, a8], _, [x0, x1, x2, x3, x4, x5, x6], _, hx =>
    simp only [List.drop_succ_cons, List.drop_zero, List.take_succ_cons, List.take_zero, List.getElem?_cons_zero, List.getElem?_cons_succ] at f0 f1 f2 f3 f4 f5 f6
    obtain ⟨k0, e0, y0, w0⟩ := DataW.trod_int Tryz.underlying3 f0
    obtain ⟨k1, e1, y1, w1⟩ := DataW.trod_int Tryz.underlying3 f1
    obtain ⟨k3, e3, y3, w3⟩ := DataW.trod_int Tryz.underlying3 f3
    obtain ⟨s4, e4, y4, w4⟩ := DataW.trod_string Tryz.underlying9 f4
    obtain ⟨s5, e5, y5, w5⟩ := DataW.trod_string Tryz.underlying9 f5
    obtain ⟨s6, e6, y6, w6⟩ := DataW.trod_string Tryz.underlying9 f6
    obtain ⟨zs, q, _, hz, _, hq, hg⟩ := DataW.trod_struct Tryz.underlying24 f2
    have g0 := fld_at hg 0 rfl (t := 22) (o := 0) rfl rfl c22
    have g1 := fld_at hg 1 rfl (t := 3) (o := 1) rfl rfl c3
    have g2 := fld_at hg 2 rfl (t := 3) (o := 2) rfl rfl c3
    clear hg
    match zs, hq, hz with
    | [z0, z1, z2], _, hz =>
      simp only [List.drop_succ_cons, List.drop_zero, List.take_succ_cons, List.take_zero, List.getElem?_cons_zero, List.getElem?_cons_succ] at g0 g1 g2
      obtain ⟨j0, u0, v0, r0⟩ := DataW.trod_int Tryz.underlying22 g0
      obtain ⟨j1, u1, v1, r1⟩ := DataW.trod_int Tryz.underlying3 g1
      obtain ⟨j2, u2, v2, r2⟩ := DataW.trod_int Tryz.underlying3 g2
      simp only [List.cons.injEq, and_true] at e0 e1 e3 e4 e5 e6 u0 u1 u2
      subst e0; subst e1; subst e3; subst e4; subst e5; subst e6; subst u0; subst u1; subst u2
      refine ⟨k0, k1, j0, j1, j2, k3, s4, s5, s6, rfl, i64_of w0, i64_of w1, i64_of r0, i64_of r1, i64_of r2, i64_of w3, ?_⟩
      have hd := congrArg Prod.fst hx
      simp only at hd
      rw [hd, y0, y1, hz, v0, v1, v2, y3, y4, y5, y6]
      rfl
end Go.Proofs.YtoebfmhogkjmgaaGreatDoor
