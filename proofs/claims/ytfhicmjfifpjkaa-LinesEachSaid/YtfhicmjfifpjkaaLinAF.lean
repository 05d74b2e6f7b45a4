/- The law's asked, and the closure of LinesEach. -/
import Derived.Test.YtfhicmjfifpjkaaLinAB
namespace Go.Proofs.Ytfhicmjfifpjkaa
open Go.RowKit
set_option linter.unusedVariables false
theorem near_grow_new {F : Nat → Prop} {w w1 w2 : World} {og : Option Nat} (hN : Near F w w1) (hg : w1.grownBy w2 og) (hn : ∀ b, og = some b → w.heap.size ≤ b) : Near F w w2 :=
  ⟨hg.os.trans hN.os, hg.tape.trans hN.tape, hg.output.trans hN.output, Nat.le_trans hN.size hg.size, fun b hb hf => (hg.block b (Nat.lt_of_lt_of_le hb hN.size) (fun e => by have := hn b e.symm; omega)).trans (hN.block b hb hf)⟩
structure AskRel (G : Nat → Prop) (r : Nat) (wv cv : Value) (x : LineD) (w wr : World) (q k : Nat) (out : List (List UInt8)) (v : Value) : Prop where
  rd : RdAt G wr r wv cv x k
  near : Near (fun b => b = r) w wr
  own : wr.ownsRow w.heap.size 9 1 v out.length (strVals out)
  len : out.length ≤ q
  kle : k ≤ x.ws.length
def AskPost (G : Nat → Prop) (r : Nat) (wv cv : Value) (x : LineD) (w : World) : RunR → Ending → World → Prop
  | .done k out, e, w' => ∃ v, e = .returned v ∧ RdAt G w' r wv cv x k ∧ Near (fun b => b = r) w w' ∧ ValRow w' v (strVals out) ∧ k ≤ x.ws.length ∧ out.length ≤ 30
  | .stop c col _ _, e, w' => e = .panicked [{ v := stopV c x.no col, recovered := false }] ∧ Near (fun b => b = r) w w'
theorem AskRel.next {G : Nat → Prop} {r : Nat} {wv cv : Value} {x : LineD} {w wr w1 w2 : World} {q k k' : Nat} {out m : List (List UInt8)} {v v' : Value} (h : AskRel G r wv cv x w wr q k out v) (hG : ∀ b, w.heap.size ≤ b → G b) (hr : r < w.heap.size)
    (hN : Near (fun b => b = r) wr w1) (hrd : RdAt G w1 r wv cv x k') (ha : Appd w1 w2 w.heap.size 9 v v' out.length (strVals out) (strVals m)) (hm : m.length ≤ 1) (hk' : k' ≤ x.ws.length) : AskRel G r wv cv x w w2 (q + 1) k' (out ++ m) v' := by
  have hob := own_ge h.own
  have hN2 : Near (fun b => v.ownBlock = some b) w1 w2 := near_of_grown ha.grow (fun b e => e)
  have hlen := ha.own
  rw [strVals_length] at hlen
  refine ⟨hrd.near (hN2.mono (fun b _ e => hG b (hob b e))) (hrd.var.near hN2 (fun e => by have := hob _ e; omega)), near_grow_new (h.near.trans hN) ha.grow hob, ?_, ?_, hk'⟩
  · rw [strVals_app, List.length_append]; exact hlen
  · have := h.len; rw [List.length_append]; omega
theorem ask_stop {G : Nat → Prop} {r : Nat} {wv cv : Value} {x : LineD} {w w' : World} {res : RunR} {c : Int} {col k : Nat} {out : List (List UInt8)} (hres : res = .stop c col k out) (hn : Near (fun b => b = r) w w') : AskPost G r wv cv x w res (.panicked [{ v := stopV c x.no col, recovered := false }]) w' := by
  subst hres; exact ⟨rfl, hn⟩
set_option maxRecDepth 100000 in
set_option maxHeartbeats 1600000 in
theorem asked_any (G : Nat → Prop) (x : LineD) (hx : Short x) (L : List OpD) (hL : L.length ≤ 30) (res : RunR) (HRES : Hid (runL x L 0 [] = res)) (w : World) (r : Nat) (wv cv : Value) (oa : Option Addr) (oc : Nat)
    (hG : ∀ b, w.heap.size ≤ b → G b) (hops : FixOf 3 OpC (fun b => b = r) w (.slice oa L.length oc) L) (hrd : RdAt G w r wv cv x 0) :
    Calls Try.prog 28 #[.pointer (some ⟨r, 0, none⟩), .slice oa L.length oc] w (AskPost G r wv cv x w res) := by
  obtain ⟨i0, hi0, hz0, hz1, hz2⟩ := info_parts' infoS
  have HI0 := Lib.hid hi0
  have HZ0 := Lib.hid hz0
  have HZ1 := Lib.hid hz1
  have HZ2 := Lib.hid hz2
  have HG := Lib.hid hG
  have HX := Lib.hid hx
  have HOPS := Lib.hid hops
  have HR0 : Hid (AskRel G r wv cv x w w 0 0 [] (.slice none 0 0)) := Lib.hid ⟨hrd, Near.refl _ _, ⟨by simp [strVals], .inl ⟨rfl, rfl⟩⟩, by simp, by simp⟩
  have hr := hrd.var.lt
  clear hi0 hz0 hz1 hz2 hG hx hops hrd
  go_enter Try.func28, Try.ntmps28
  go_wp2_with fail
  go_loopw [5, 6] (fun v i wr => ∃ (q k : Nat) (out : List (List UInt8)), i = .int .i64 q ∧ q ≤ L.length ∧ AskRel G r wv cv x w wr q k out v ∧ runL x (L.drop q) k out = res) (fun _ i _ => L.length - (intOf i).toNat)
  case atStart => exact ⟨0, 0, [], rfl, Nat.zero_le _, HR0.out, HRES.out⟩
  case round =>
    obtain ⟨q, k, out, rfl, hq, hR, hrun⟩ := hrel
    have HR := Lib.hid hR
    have HRUN := Lib.hid hrun
    clear hR hrun HR0
    have q0 : (0 : Int) ≤ (q : Int) := by omega
    by_cases hlt : q < L.length
    · have q1 : (q : Int) < (L.length : Int) := by omega
      have hdq : decide (q < L.length) = true := decide_eq_true hlt
      obtain ⟨bo, oo, hoa, hbw, cs, hcs⟩ := fix_at HOPS.out q hlt
      obtain ⟨⟨_, hc⟩, hor⟩ := hcs wr HR.out.near
      unfold OpC at hor
      subst hor
      have c0 : wr.cell? ⟨bo, oo + q * 3, none⟩ = some (.int .i64 (L[q]).kind) := hc 0 (by omega)
      have c1 : wr.cell? ⟨bo, oo + q * 3 + 1, none⟩ = some (.int .i64 (L[q]).n) := hc 1 (by omega)
      have c2 : wr.cell? ⟨bo, oo + q * 3 + 2, none⟩ = some (.string ⟨(L[q]).w.toArray⟩) := hc 2 (by omega)
      have HST := Lib.hid (runL_at x L q k out hlt)
      obtain ⟨o, ho⟩ : ∃ o, L[q] = o := ⟨_, rfl⟩
      rw [ho] at c0 c1 c2 HST
      clear hcs ho hc
      subst hoa
      have HW := Lib.hid (HX.out k)
      obtain ⟨st, hst⟩ : ∃ st, stepL x k o = st := ⟨_, rfl⟩
      have HS := Lib.hid hst
      clear hst
      cases st with
      | go k' m =>
        have HRUN2 : Hid (runL x (L.drop (q + 1)) k' (out ++ m) = res ∧ m.length ≤ 1) := Lib.hid ⟨(run_go HST.out HS.out).symm.trans HRUN.out, (step_len.1 k' m HS.out).1⟩
        have hol := HR.out.len
        have hm1 := HRUN2.out.2
        go_wp2_with fail
        refine (one_go G wr r wv cv x k HR.out.rd HW.out o k' m HS).mono ?_
        rintro e w1 ⟨src, rfl, hrd1, hn1, hsrc⟩
        have hz1 : w.heap.size ≤ w1.heap.size := Nat.le_trans HR.out.near.size hn1.size
        have ho1 : w1.ownsRow w.heap.size 9 1 u5 out.length (strVals out) := ownsRow_near HR.out.own hn1 (fun b e e' => by have := own_ge HR.out.own b e; omega)
        have HRD1 := Lib.hid hrd1
        have HN1 := Lib.hid hn1
        have HSRC := Lib.hid hsrc
        have HO1 := Lib.hid ho1
        clear hrd1 hn1 hsrc ho1
        go_wp2_with (at_builtin; refine wpList_app _ rfl _ _ 22 rfl w.heap.size 9 i0 (.string ByteArray.empty) 16 Try.underlying22 HI0.out HZ0.out HZ1.out HZ2.out rfl u5 out.length (strVals out) rfl HO1.out src (strVals m) rfl HSRC.out (strVals_one _) (by rw [strVals_length]; unfold maxLen; omega) (by rw [strVals_length]; omega) hz1 ?_)
        intro v' w2 hap
        have HNR := Lib.hid (HR.out.next HG.out hr HN1.out HRD1.out hap hm1 ((step_len.1 k' m HS.out).2 HR.out.kle))
        clear hap
        go_wp2_with fail
        go_roundw
        case rel => exact ⟨q + 1, k', out ++ m, by go_num, by omega, HNR.out, HRUN2.out.1⟩
        case measure => simp [intOf]; omega
      | stop c col k' =>
        have HRES2 : Hid (res = .stop c col k' out) := Lib.hid (HRUN.out.symm.trans (run_stop HST.out HS.out))
        go_wp2_with fail
        refine (one_stop G wr r wv cv x k HR.out.rd HW.out o c col k' HS).mono ?_
        rintro e w1 ⟨rfl, hn1⟩
        go_wp2_with fail
        exact ⟨rfl, ask_stop HRES2.out (HR.out.near.trans hn1)⟩
    · have hdq : decide (q < L.length) = false := decide_eq_false hlt
      obtain rfl : q = L.length := by omega
      have HRES2 : Hid (res = .done k out) := Lib.hid (HRUN.out.symm.trans (runL_end x L k out))
      have HLT := Lib.hid hlt
      clear hlt
      go_wp2_with fail
      go_ret
      rw [HRES2.out]
      exact ⟨_, rfl, HR.out.rd, HR.out.near, valRow_own HR.out.own, HR.out.kle, Nat.le_trans HR.out.len hL⟩
theorem line_any (G : Nat → Prop) (w : World) (r : Nat) (wv cv : Value) (x : LineD) (k : Nat) (h : RdAt G w r wv cv x k) :
    Calls Try.prog 27 #[.pointer (some ⟨r, 0, none⟩)] w fun e w' => e = .returned (.int .i64 x.no) ∧ w = w' := by
  have c0 := h.var.get 0 rfl
  clear h
  go_enter Try.func27, Try.ntmps27
  go_wp2_with fail
  go_ret
  exact ⟨rfl, rfl⟩
end Go.Proofs.Ytfhicmjfifpjkaa
