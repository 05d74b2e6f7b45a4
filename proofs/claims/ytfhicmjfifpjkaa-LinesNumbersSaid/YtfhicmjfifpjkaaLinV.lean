/- LinesNumbers: its closure, its walk. -/
import Derived.Test.YtfhicmjfifpjkaaLinU
import Derived.Test.YtfhicmjfifpjkaaLinK
import Derived.Test.YtfhicmjfifpjkaaLinR
namespace Go.Proofs.Ytfhicmjfifpjkaa
open Go.RowKit
set_option linter.unusedVariables false
theorem Moved.var {G : Nat → Prop} {w : World} {r : Nat} {wv cv : Value} {x : LineD} {k : Nat} {w' : World} (h : Moved G w r wv cv x k w') {b : Nat} {vs : List Value} (hv : VarAt w b vs) (hn : r ≠ b) : VarAt w' b vs := by
  obtain ⟨_, m, rfl⟩ := h
  exact (hv.setO hn _).drewN m
theorem Moved.near {G : Nat → Prop} {w : World} {r : Nat} {wv cv : Value} {x : LineD} {k : Nat} {w' : World} (h : Moved G w r wv cv x k w') {F : Nat → Prop} (hF : F r) : Near F w w' := by
  obtain ⟨_, m, rfl⟩ := h
  exact (near_setCell w ⟨r, 3, none⟩ _ hF).trans (near_drewN _ _ _)
/-- the line "x w" -/
def numLine (l : List UInt8) : LineD := ⟨1, [[120], l], [1, 3]⟩
theorem num_read (l : List UInt8) (h : wordL l = true) : readTop (120 :: 32 :: l) = .ok [numLine l] := by
  have h80 := ((wordL_iff l).1 h).2.1
  have hx : wordL [120] = true := by decide
  have hm : ∀ c ∈ (120 :: 32 :: l : List UInt8), c ≠ 10 ∧ c ≠ 35 := fun c hc => by
    simp only [List.mem_cons] at hc
    rcases hc with rfl | rfl | hc
    · decide
    · decide
    · exact word_mem h hc
  have hb : bare (120 :: 32 :: l) = 120 :: 32 :: l := bare_all _ (fun c hc => (hm c hc).2)
  have hs : splitL (120 :: 32 :: l) = .ok [[120], l] [1, 3] := by
    unfold splitL
    rw [hb]
    rw [scan_one (120 :: 32 :: l) 0 [120] (32 :: l) [] [] (by simp) hx (.inr ⟨32, l, rfl, by decide⟩) (by simp)]
    rw [scan_gap (120 :: 32 :: l) [32] (0 + [120].length) l _ _ (by simp) (fun c hc => by rw [List.mem_singleton] at hc; rw [hc]; decide)]
    rw [scan_one (120 :: 32 :: l) _ l [] _ _ (by simp) h (.inl rfl) (by simp)]
    rw [scan_end _ _ _ _ (by simp; omega)]
    rfl
  unfold readTop
  rw [if_neg (by simp; omega), readL_last 800 _ 1 [] (by simp) (fun c hc => (hm c hc).1) (by omega) hs, if_neg (by simp)]
  rfl
structure NumInv (H3 H5 : Nat) (most g : Int) (w : World) : Prop where
  v3 : VarAt w H3 [.int .i64 most]
  v5 : VarAt w H5 [.int .i64 g]
theorem NumInv.near {H3 H5 : Nat} {most g : Int} {w w' : World} {F : Nat → Prop} (h : NumInv H3 H5 most g w) (hN : Near F w w') (h3 : ¬ F H3) (h5 : ¬ F H5) : NumInv H3 H5 most g w' := by
  have key : ∀ {b vs}, VarAt w b vs → ¬ F b → VarAt w' b vs := by
    intro b vs hv hb
    have e := hN.block b hv.lt hb
    exact ⟨Nat.lt_of_lt_of_le hv.lt hN.size, fun i hi => by rw [World.cell?_of_block (w := w) (a := ⟨b, i, none⟩) e]; exact hv.cell i hi, fun i => by rw [World.frozen?_of_block (w := w) (a := ⟨b, i, none⟩) e]; exact hv.free i⟩
  exact ⟨key h.v3 h3, key h.v5 h5⟩
def NumFin (l : List UInt8) (H3 H5 : Nat) (most c ln k : Int) (w : World) : Prop :=
  ln = 1 ∧ k = 3 ∧ ((c = 1 ∧ numL l = none) ∨ (c = 8 ∧ ∃ n, numL l = some n ∧ most < (n : Int))) ∧ NumInv H3 H5 most (-1) w
def NumDone (l : List UInt8) (H3 H5 : Nat) (most : Int) (w : World) : Prop := ∃ n : Nat, numL l = some n ∧ (n : Int) ≤ most ∧ NumInv H3 H5 most n w
set_option maxHeartbeats 1600000 in
theorem num_clo (l : List UInt8) (hw : wordL l = true) (most : Int) (G : Nat → Prop) (B H3 H5 : Nat) (hG5 : G H5) (h35 : H3 ≠ H5) (hB3 : H3 < B) (hB5 : H5 < B) (w : World) (r : Nat) (wv cv : Value) (hr : B < r) (hvB : VarAt w B [.int .i64 0, .int .i64 0, .int .i64 0]) (hrd : RdAt G w r wv cv (numLine l) 0) (hi : NumInv H3 H5 most (-1) w) :
    Calls Try.prog 19 #[.pointer (some ⟨r, 0, none⟩), .pointer (some ⟨H3, 0, none⟩), .pointer (some ⟨H5, 0, none⟩)] w fun e w' =>
      CloPost G B w r wv cv (numLine l) (fun w2 => VarAt w2 B [.int .i64 0, .int .i64 0, .int .i64 0] → NumDone l H3 H5 most w2) (NumFin l H3 H5 most) e w' ∧ VarAt w' B [.int .i64 0, .int .i64 0, .int .i64 0] := by
  have hl := ((wordL_iff l).1 hw).2.1
  have HRD := Lib.hid hrd
  have HI := Lib.hid hi
  have HVB := Lib.hid hvB
  clear hrd hi hvB
  go_enter Try.func19, Try.ntmps19
  go_wp2_with fail
  refine (rword_yes G w r wv cv (numLine l) 0 HRD.out (by simp [numLine]) [120] (Lib.hid rfl)).mono ?_
  rintro e w1 ⟨rfl, hm1⟩
  have HM1 := Lib.hid hm1
  have v3 := hm1.var HI.out.v3 (by omega)
  have c3 := v3.get 0 rfl
  have HV3 := Lib.hid v3
  have HV5 := Lib.hid (hm1.var HI.out.v5 (by omega))
  have HVB1 := Lib.hid (hm1.var HVB.out (by omega))
  clear hm1 v3
  obtain ⟨v, hv⟩ : ∃ v, numL l = v := ⟨_, rfl⟩
  have HV := Lib.hid hv
  clear hv
  go_wp2_with fail
  refine (rnum_any G w1 r wv cv (numLine l) 1 HM1.out.rd (by simp [numLine]) l (Lib.hid rfl) (by omega) most v HV).mono ?_
  have HCOL : Hid (colAt (numLine l) 2 = 3) := Lib.hid rfl
  cases v with
  | none =>
    rintro e w2 ⟨rfl, hm2⟩
    go_wp2_with fail
    refine ⟨rfl, .inr (.inr ⟨1, 1, 3, rfl, (HM1.out.near HRD.out.hG).trans (hm2.near HRD.out.hG), fun w9 hN => ?_⟩), hm2.var HVB1.out (by omega)⟩
    exact ⟨rfl, rfl, .inl ⟨rfl, HV.out⟩, NumInv.near ⟨hm2.var HV3.out (by omega), hm2.var HV5.out (by omega)⟩ hN (by omega) (by omega)⟩
  | some n =>
    rintro e w2 (⟨hbig, rfl, hm2⟩ | ⟨hle, rfl, hm2⟩)
    · go_wp2_with fail
      refine ⟨rfl, .inr (.inr ⟨8, 1, 3, rfl, (HM1.out.near HRD.out.hG).trans (hm2.near HRD.out.hG), fun w9 hN => ?_⟩), hm2.var HVB1.out (by omega)⟩
      exact ⟨rfl, rfl, .inr ⟨rfl, n, HV.out, hbig⟩, NumInv.near ⟨hm2.var HV3.out (by omega), hm2.var HV5.out (by omega)⟩ hN (by omega) (by omega)⟩
    · have v5 := hm2.var HV5.out (by omega)
      have c5 := v5.get 0 rfl
      have z5 := v5.free 0
      have HM2 := Lib.hid hm2
      have HLE := Lib.hid hle
      clear hm2 hle
      go_wp2_with fail
      go_end0
      have hv3 := (HM2.out.var HV3.out (by omega)).setO (a := ⟨H5, 0, none⟩) (Ne.symm h35) (.int .i64 n)
      have hv5 : VarAt (w2.setCell ⟨H5, 0, none⟩ (.int .i64 n)) H5 [.int .i64 n] := v5.set 0 (by simp) _
      refine ⟨.inl ⟨2, rfl, HM2.out.rd.near (near_setCell _ _ _ hG5) (HM2.out.rd.var.setO (by simp; omega) _), ((HM1.out.near HRD.out.hG).trans (HM2.out.near HRD.out.hG)).trans (near_setCell _ _ _ hG5), rfl, fun w9 hN _ => ?_⟩, (HM2.out.var HVB1.out (by omega)).setO (by simp; omega) _⟩
      exact ⟨n, HV.out, HLE.out, NumInv.near ⟨hv3, hv5⟩ hN (by omega) (by omega)⟩
end Go.Proofs.Ytfhicmjfifpjkaa
