/- Each: whatever is called with a reader of each line. -/
import Derived.Test.YtfhicmjfifpjkaaLinS
import Derived.Test.YtfhicmjfifpjkaaLinT
namespace Go.Proofs.Ytfhicmjfifpjkaa
open Go.RowKit
set_option linter.unusedVariables false
/-- what may become of a call with a reader of a line: it returns, with so many words taken, or gives up -/
def CloPost (G : Nat → Prop) (B : Nat) (w : World) (r : Nat) (wv cv : Value) (x : LineD) (Next : World → Prop) (Fin : Int → Int → Int → World → Prop) (e : Ending) (w' : World) : Prop :=
  (∃ k, e = .returned (.tuple #[]) ∧ RdAt G w' r wv cv x k ∧ Near G w w' ∧ k = x.ws.length ∧ ∀ w'', Near (fun b => b = r) w' w'' → Next w'') ∨
  (∃ k, e = .returned (.tuple #[]) ∧ RdAt G w' r wv cv x k ∧ Near G w w' ∧ k < x.ws.length ∧ ∀ w'', Near (fun b => b = r ∨ b = B) w' w'' → Fin 1 x.no (x.cs.getD k 0 : Nat) w'') ∨
  ∃ c l k, e = .panicked [{ v := stopV c l k, recovered := false }] ∧ Near G w w' ∧ ∀ w'', Near (fun b => b = r ∨ b = B) w' w'' → Fin c l k w''
def EachPost (G : Nat → Prop) (W : World) (Last : World → Prop) (Fin : Int → Int → Int → World → Prop) (e : Ending) (w' : World) : Prop :=
  (e = .returned (.agg #[.int .i64 0, .int .i64 0, .int .i64 0]) ∧ Last w' ∧ Near G W w') ∨
  ∃ c l k, e = .returned (.agg #[.int .i64 c, .int .i64 l, .int .i64 k]) ∧ Fin c l k w' ∧ Near G W w'
structure EachRel (G : Nat → Prop) (W : World) (Inv : Nat → World → Prop) (k : Nat) (wr : World) : Prop where
  near : Near G W wr
  inv : Inv k wr
  var : VarAt wr W.heap.size [.int .i64 0, .int .i64 0, .int .i64 0]
theorem func_nil (fn : Fn) (first cap : Array Value) (w : World) : (binOp .eql 49 (.func fn first cap) .nilFunc).run Try.prog w = .ok (.bool false) w := by kernel_rfl
set_option maxRecDepth 1000000 in
set_option maxHeartbeats 3200000 in
theorem each_any (G : Nat → Prop) (W : World) (v : Value) (L : List LineD) (N : FuncId) (caps : Array Value) (hG : ∀ b, W.heap.size ≤ b → G b)
    (hrow : FixOf 3 LineC G W v L) (hlen : ∀ x ∈ L, x.ws.length = x.cs.length ∧ x.ws.length ≤ 20) (hent : ∀ (args : Array Value) (w : World), (callFunc N args).run Try.prog w = .ok (.enter N args) w)
    (Inv : Nat → World → Prop) (Fin : Int → Int → Int → World → Prop) (hst : ∀ k w w', Inv k w → Near (fun b => b = W.heap.size) w w' → Inv k w') (h0 : Inv 0 W)
    (hclo : ∀ (k : Nat) (hk : k < L.length) (w : World) (r : Nat) (wv cv : Value), Near G W w → VarAt w W.heap.size [.int .i64 0, .int .i64 0, .int .i64 0] → W.heap.size < r → RdAt G w r wv cv L[k] 0 → Inv k w → (∃ w0, Inv k w0 ∧ w0.heap.size < r ∧ r < w.heap.size ∧ Near (fun _ => False) w0 w) →
      Calls Try.prog N (#[.pointer (some ⟨r, 0, none⟩)] ++ caps) w (fun e w' => CloPost G W.heap.size w r wv cv L[k] (fun w2 => VarAt w2 W.heap.size [.int .i64 0, .int .i64 0, .int .i64 0] → Inv (k + 1) w2) Fin e w' ∧ VarAt w' W.heap.size [.int .i64 0, .int .i64 0, .int .i64 0])) :
    Calls Try.prog 18 #[v, .func (.func N) #[] caps] W (EachPost G W (Inv L.length) Fin) := by
  have hmf : ∀ (fn : Fn) (first cap : Array Value) (w : World), (Instr.makeFunc fn first cap).run Try.prog w = .ok (.func fn first cap) w := fun _ _ _ _ => rfl
  have HG := Lib.hid hG
  have HROW := Lib.hid hrow
  have HLEN := Lib.hid hlen
  have HST := Lib.hid hst
  have HCLO := Lib.hid hclo
  obtain ⟨va, vc, rfl⟩ := hrow.shape
  have hmx := hrow.row.len
  unfold maxLen at hmx
  have H0 : Hid (EachRel G W Inv 0 (W.alloc (.cells #[.int .i64 0, .int .i64 0, .int .i64 0] 30))) :=
    Lib.hid ⟨near_alloc _ _ _, hst _ _ _ h0 (near_alloc _ _ _), varAt_new W #[.int .i64 0, .int .i64 0, .int .i64 0] _ _ rfl⟩
  clear hG hrow hlen hst hclo h0
  have hfn := func_nil (.func N) #[] caps
  go_enter_defers Try.func18, Try.ntmps18
  go_wp2_with fail
  obtain ⟨H, HH⟩ : ∃ H, Hid (W.heap.size = H) := ⟨_, rfl⟩
  rw [HH.out]
  go_loopw [14] (fun i wr => ∃ k : Nat, i = .int .i64 k ∧ k ≤ L.length ∧ EachRel G W Inv k wr) (fun i _ => L.length - (intOf i).toNat)
  case atStart => exact ⟨0, rfl, Nat.zero_le _, H0.out⟩
  case round =>
    obtain ⟨k, rfl, hk, hR⟩ := hrel
    have HR := Lib.hid hR
    clear hR H0
    have hHl := HR.out.var.lt
    rw [HH.out] at hHl
    by_cases hlt : k < L.length
    · obtain ⟨b1, o1, wv, cv, ha, hwx⟩ : ∃ b1 o1 wv cv, va = some ⟨b1, o1, none⟩ ∧ ∀ w', Near G W w' → w'.cell? ⟨b1, o1 + k * 3, none⟩ = some (.int .i64 (L[k]).no) ∧ w'.cell? ⟨b1, o1 + k * 3 + 1, none⟩ = some wv ∧ w'.cell? ⟨b1, o1 + k * 3 + 2, none⟩ = some cv ∧ ValRow w' wv (strVals (L[k]).ws) ∧ ValRow w' cv (natVals (L[k]).cs) := by
        rcases HROW.out with ⟨_, _, _, h0, _⟩ | ⟨b, off, cap, css, h1, _, _, _, h5, h6⟩
        · have : L.length = 0 := by rw [h0]; rfl
          omega
        · obtain ⟨_, wv, cv, hcs, _, _⟩ := h6 k (by omega) hlt W (Near.refl _ _)
          simp only [Value.slice.injEq] at h1
          refine ⟨b, off, wv, cv, h1.1, fun w' hN => ?_⟩
          obtain ⟨⟨_, hc⟩, wv', cv', hcs', hv, hu⟩ := h6 k (by omega) hlt w' hN
          rw [hcs] at hcs'
          simp only [List.cons.injEq, and_true, true_and] at hcs'
          obtain ⟨rfl, rfl⟩ := hcs'
          rw [hcs] at hc
          exact ⟨hc 0 (by omega), hc 1 (by omega), hc 2 (by omega), hv, hu⟩
      subst ha
      obtain ⟨d0, d1, d2, hv1, hu1⟩ := hwx wr HR.out.near
      have HX : Hid (∀ w', Near G W w' → ValRow w' wv (strVals (L[k]).ws) ∧ ValRow w' cv (natVals (L[k]).cs)) := Lib.hid (fun w' hN => (hwx w' hN).2.2.2)
      have HLX := Lib.hid (HLEN.out L[k] (List.getElem_mem _))
      have HCL := Lib.hid (HCLO.out k hlt)
      obtain ⟨wa, wc', rfl⟩ := hv1.shape
      obtain ⟨ca, cc, rfl⟩ := hu1.shape
      clear hwx hv1 hu1
      obtain ⟨x, hx⟩ : ∃ x, L[k] = x := ⟨_, rfl⟩
      rw [hx] at d0 d1 d2 HX HLX HCL
      clear hx
      have HRD : Hid (RdAt G ((wr.alloc (.cells #[.int .i64 x.no, .slice wa (strVals x.ws).length wc', .slice ca (natVals x.cs).length cc] 34)).alloc (.cells #[.int .i64 x.no, .slice wa (strVals x.ws).length wc', .slice ca (natVals x.cs).length cc, .int .i64 0] 74)) (wr.heap.size + 1) (.slice wa (strVals x.ws).length wc') (.slice ca (natVals x.cs).length cc) x 0) := by
        have hN : Near G W ((wr.alloc (.cells #[.int .i64 x.no, .slice wa (strVals x.ws).length wc', .slice ca (natVals x.cs).length cc] 34)).alloc (.cells #[.int .i64 x.no, .slice wa (strVals x.ws).length wc', .slice ca (natVals x.cs).length cc, .int .i64 0] 74)) := (HR.out.near.trans (near_alloc _ _ _)).trans (near_alloc _ _ _)
        exact Lib.hid ⟨varAt_new _ #[.int .i64 x.no, .slice wa (strVals x.ws).length wc', .slice ca (natVals x.cs).length cc, .int .i64 0] _ _ (by simp), HG.out _ (by have := HR.out.near.size; omega), fun w' h => (HX.out w' (hN.trans h)).1, fun w' h => (HX.out w' (hN.trans h)).2, HLX.out⟩
      have HN1 : Hid (Near G W ((wr.alloc (.cells #[.int .i64 x.no, .slice wa (strVals x.ws).length wc', .slice ca (natVals x.cs).length cc] 34)).alloc (.cells #[.int .i64 x.no, .slice wa (strVals x.ws).length wc', .slice ca (natVals x.cs).length cc, .int .i64 0] 74))) := Lib.hid ((HR.out.near.trans (near_alloc _ _ _)).trans (near_alloc _ _ _))
      have HI1 := Lib.hid (HST.out _ _ _ (HST.out _ _ _ HR.out.inv (near_alloc _ _ (.cells #[.int .i64 x.no, .slice wa (strVals x.ws).length wc', .slice ca (natVals x.cs).length cc] 34))) (near_alloc _ _ (.cells #[.int .i64 x.no, .slice wa (strVals x.ws).length wc', .slice ca (natVals x.cs).length cc, .int .i64 0] 74)))
      have HV1 := Lib.hid ((HR.out.var.alloc (.cells #[.int .i64 x.no, .slice wa (strVals x.ws).length wc', .slice ca (natVals x.cs).length cc] 34)).alloc (.cells #[.int .i64 x.no, .slice wa (strVals x.ws).length wc', .slice ca (natVals x.cs).length cc, .int .i64 0] 74))
      rw [strVals_length] at d1
      rw [natVals_length] at d2
      rw [strVals_length, natVals_length] at HRD HN1 HI1 HV1
      have k0 : (0 : Int) ≤ (k : Int) := by omega
      have k1 : (k : Int) < (L.length : Int) := by omega
      have hdk : decide (k < L.length) = true := decide_eq_true hlt
      go_wp2_with fail
      refine (HCL.out _ (wr.heap.size + 1) _ _ HN1.out HV1.out (by have := HR.out.near.size; omega) HRD.out HI1.out ⟨wr, HR.out.inv, Nat.lt_succ_self _, by simp, (near_alloc _ _ _).trans (near_alloc _ _ _)⟩).mono ?_
      obtain ⟨r, hr⟩ : ∃ r, wr.heap.size + 1 = r := ⟨_, rfl⟩
      have hrH : ¬ r = H := by have := HH.out; omega
      have HRH : Hid (W.heap.size ≠ r) := Lib.hid (by have := HH.out; omega)
      rw [hr]
      rintro e w2 ⟨(⟨q, rfl, hrd, hn, hq, hnx⟩ | ⟨q, rfl, hrd, hn, hq, hfin⟩ | ⟨c, l, kk, rfl, hn, hfin⟩), hvar⟩
      · have HQ := Lib.hid hq
        have hvar' := hvar
        rw [HH.out] at hvar'
        have HREL : Hid (∀ m, EachRel G W Inv (k + 1) (w2.drewN m)) := Lib.hid (fun m => ⟨(HN1.out.trans hn).trans (near_drewN _ _ _), hnx _ (near_drewN _ _ _) (hvar.drewN m), hvar.drewN m⟩)
        have HRD2 := Lib.hid hrd
        clear hq hnx hrd hn hvar
        go_wp2_with fail
        refine (more_any G w2 r _ _ x q HRD2.out false (Lib.hid (decide_eq_false (by have := HQ.out; omega)))).mono ?_
        rintro e w3 ⟨rfl, m3, rfl⟩
        go_wp2_with fail
        go_roundw
        case rel => exact ⟨k + 1, by go_num, by omega, HREL.out m3⟩
        case measure => simp [intOf]; omega
      · have HQ := Lib.hid hq
        have HRD2 := Lib.hid hrd
        have HFIN := Lib.hid hfin
        have HN2 := Lib.hid (HN1.out.trans hn)
        have HVAR := Lib.hid hvar
        have hq20 : q < 20 := by have := HLX.out.2; omega
        clear hq hfin hrd hn hvar
        go_wp2_with fail
        refine (more_any G w2 r _ _ x q HRD2.out true (Lib.hid (decide_eq_true HQ.out))).mono ?_
        rintro e w3 ⟨rfl, m3, rfl⟩
        have HRD3 := Lib.hid (HRD2.out.drewN m3)
        have HRD4 := Lib.hid (HRD3.out.step (q + 1))
        have c3 := HRD3.out.var.get 3 rfl
        have z3 := HRD3.out.var.free 3
        rw [show (((q + 1 : Nat)) : Int) = (q : Int) + 1 from by omega] at HRD4
        obtain ⟨w4, hw4⟩ : ∃ w4, (w2.drewN m3).setCell ⟨r, 3, none⟩ (.int .i64 ((q : Int) + 1)) = w4 := ⟨_, rfl⟩
        have HN4 : Hid (Near (fun b => b = r ∨ b = W.heap.size) w2 w4) := Lib.hid (by rw [← hw4]; exact (near_drewN _ _ _).trans (near_setCell _ _ _ (.inl rfl)))
        have hv4 : VarAt w4 W.heap.size [.int .i64 0, .int .i64 0, .int .i64 0] := by rw [← hw4]; exact (HVAR.out.drewN m3).setO (by simpa using HRH.out.symm) _
        have HG4 : Hid (Near G W w4) := Lib.hid (by rw [← hw4]; exact (HN2.out.trans (near_drewN _ _ _)).trans (near_setCell _ _ _ HRD2.out.hG))
        rw [hw4] at HRD4
        have HW4 := Lib.hid hw4
        rw [HH.out] at hv4
        have HV4 := Lib.hid hv4
        clear hw4 hv4
        go_wp2_with fail
        rw [HW4.out]
        have HCOL : Hid (colAt x (q + 1) = x.cs.getD q 0) := Lib.hid (by unfold colAt; rw [if_pos (by have := HLX.out.1; have := HQ.out; omega)]; rfl)
        refine (fail_any G w4 r _ _ x (q + 1) HRD4.out 1 _ HCOL).mono ?_
        rintro e w5 ⟨rfl, m5, rfl⟩
        go_wp2_with fail
        refine leaves_cons (f := 34) (args := #[.pointer (some ⟨H, 0, none⟩)]) (by simp) (by simp [go_sem]) ?_
        refine (each1_panicking H 1 x.no (x.cs.getD q 0 : Nat) [] _ ⟨_, _, _, HV4.out.drewN m5⟩).mono ?_
        rintro e u' w9 ⟨rfl, rfl, hv9, hn9⟩
        have g0 := hv9.get 0 rfl
        have g1 := hv9.get 1 rfl
        have g2 := hv9.get 2 rfl
        simp [Leaves, settle, results, Try.results18, go_sem, g0, g1, g2]
        refine .inr ⟨1, x.no, (x.cs.getD q 0 : Nat), rfl, HFIN.out _ (((HN4.out.trans (near_drewN _ _ m5)).trans (hn9.mono (fun b _ hb => .inr (by rw [HH.out]; exact hb))))), ((HG4.out.trans (near_drewN _ _ m5)).trans (hn9.mono (fun b _ hb => HG.out b (by rw [HH.out]; exact Nat.le_of_eq hb.symm))))⟩
      · have HN2 := Lib.hid (HN1.out.trans hn)
        have HFIN := Lib.hid hfin
        rw [HH.out] at hvar
        clear hn hfin
        go_wp2_with fail
        refine leaves_cons (f := 34) (args := #[.pointer (some ⟨H, 0, none⟩)]) (by simp) (by simp [go_sem]) ?_
        refine (each1_panicking H c l kk [] _ ⟨_, _, _, hvar⟩).mono ?_
        rintro e u' w9 ⟨rfl, rfl, hv9, hn9⟩
        have g0 := hv9.get 0 rfl
        have g1 := hv9.get 1 rfl
        have g2 := hv9.get 2 rfl
        simp [Leaves, settle, results, Try.results18, go_sem, g0, g1, g2]
        refine .inr ⟨c, l, kk, rfl, HFIN.out _ (hn9.mono (fun b _ hb => .inr (by rw [HH.out]; exact hb))), (HN2.out.trans (hn9.mono (fun b _ hb => HG.out b (by rw [HH.out]; exact Nat.le_of_eq hb.symm))))⟩
    · obtain rfl : k = L.length := by omega
      have hdk : decide (L.length < L.length) = false := decide_eq_false (by omega)
      have v := HR.out.var
      rw [HH.out] at v
      have f0 := v.get 0 rfl
      have f1 := v.get 1 rfl
      have f2 := v.get 2 rfl
      have z := v.free
      clear hlt
      have HE : Hid (∀ F : Nat → Prop, F H → Near F wr (((wr.setCell ⟨H, 0, none⟩ (.int .i64 0)).setCell ⟨H, 1, none⟩ (.int .i64 0)).setCell ⟨H, 2, none⟩ (.int .i64 0))) := Lib.hid (fun F hF => ((near_setCell _ _ _ hF).trans (near_setCell _ _ _ hF)).trans (near_setCell _ _ _ hF))
      go_wp2_with fail
      refine leaves_cons (f := 34) (args := #[.pointer (some ⟨H, 0, none⟩)]) (by simp) (by simp [go_sem]) ?_
      refine (each1_idle H _).mono ?_
      rintro e u' w9 ⟨rfl, rfl, rfl⟩
      simp [Leaves, settle, results, Try.results18, go_sem, f0, f1, f2]
      refine .inl ⟨rfl, HST.out _ _ _ HR.out.inv (HE.out _ ?_), HR.out.near.trans (HE.out _ ?_)⟩
      · exact HH.out.symm
      · exact HG.out H (by have := HH.out; omega)
end Go.Proofs.Ytfhicmjfifpjkaa
