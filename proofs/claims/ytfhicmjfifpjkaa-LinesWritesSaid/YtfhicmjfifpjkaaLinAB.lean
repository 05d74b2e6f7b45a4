/- The closure of LinesTells. -/
import Derived.Test.YtfhicmjfifpjkaaLinAA
import Derived.Deep.RegionLaw
namespace Go.Proofs.Ytfhicmjfifpjkaa
open Go.RowKit
set_option linter.unusedVariables false
theorem one_go (G : Nat → Prop) (w : World) (r : Nat) (wv cv : Value) (x : LineD) (k : Nat) (h : RdAt G w r wv cv x k) (hw : (wd x k).length ≤ 80) (o : OpD) (k' : Nat) (m : List (List UInt8)) (HS : Hid (stepL x k o = .go k' m)) :
    Calls Try.prog 25 #[.pointer (some ⟨r, 0, none⟩), .agg #[.int .i64 o.kind, .int .i64 o.n, .string ⟨o.w.toArray⟩]] w fun e w' => ∃ src, e = .returned src ∧ RdAt G w' r wv cv x k' ∧ Near (fun b => b = r) w w' ∧ ValRow w' src (strVals m) := by
  refine (one_any G w r wv cv x k h hw o).mono fun e w' hp => ?_
  rw [HS.out] at hp
  obtain ⟨h1, h2, h3⟩ := hp
  rcases h3 with ⟨rfl, rfl⟩ | ⟨s, g, rfl, _, hg, rfl, hv⟩
  · exact ⟨_, rfl, h1, h2, .inl ⟨_, _, rfl, rfl⟩⟩
  · refine ⟨_, rfl, h1, h2, .inr ⟨g, 0, 1, rfl, by simp [strVals], by unfold maxLen; decide, hg, fun i hi => ?_⟩⟩
    have hi0 : i = 0 := by simp [strVals] at hi; exact hi
    subst hi0
    exact hv.cell 0 (by simp)
theorem one_stop (G : Nat → Prop) (w : World) (r : Nat) (wv cv : Value) (x : LineD) (k : Nat) (h : RdAt G w r wv cv x k) (hw : (wd x k).length ≤ 80) (o : OpD) (c : Int) (col k' : Nat) (HS : Hid (stepL x k o = .stop c col k')) :
    Calls Try.prog 25 #[.pointer (some ⟨r, 0, none⟩), .agg #[.int .i64 o.kind, .int .i64 o.n, .string ⟨o.w.toArray⟩]] w fun e w' => e = .panicked [{ v := stopV c x.no col, recovered := false }] ∧ Near (fun b => b = r) w w' := by
  refine (one_any G w r wv cv x k h hw o).mono fun e w' hp => ?_
  rw [HS.out] at hp
  exact hp
theorem run_go {x : LineD} {L L' : List OpD} {k k' : Nat} {out m : List (List UInt8)} {o : OpD} (h : runL x L k out = match stepL x k o with
      | .go k' m => runL x L' k' (out ++ m)
      | .stop c col k' => .stop c col k' out) (hs : stepL x k o = .go k' m) : runL x L k out = runL x L' k' (out ++ m) := by rw [h, hs]
theorem run_stop {x : LineD} {L L' : List OpD} {k k' : Nat} {out : List (List UInt8)} {o : OpD} {c : Int} {col : Nat} (h : runL x L k out = match stepL x k o with
      | .go k' m => runL x L' k' (out ++ m)
      | .stop c col k' => .stop c col k' out) (hs : stepL x k o = .stop c col k') : runL x L k out = .stop c col k' out := by rw [h, hs]
theorem RdAt.drew {G : Nat → Prop} {w : World} {r : Nat} {wv cv : Value} {x : LineD} {k : Nat} (h : RdAt G w r wv cv x k) : RdAt G w.drew r wv cv x k := h.near (near_drew _ _) (h.var.drew)
theorem tell_stop {G : Nat → Prop} {B Hg r : Nat} {wv cv : Value} {x : LineD} {w wr : World} {q k k' : Nat} {out : List (List UInt8)} {v : Value} {c : Int} {col : Nat} {res : RunR} {w1 : World} (h : TellRel G B Hg r wv cv x w wr q k out v) (hgB : Hg < B) (hrB : B < r) (hres : res = .stop c col k' out) (hn0 : Near (fun b => b = r) wr w1) :
    CloPost G B w r wv cv x (fun w2 => VarAt w2 B [.int .i64 0, .int .i64 0, .int .i64 0] → GotAt B Hg res.out w2) (fun _ _ _ w2 => GotAt B Hg res.out w2) (.panicked [{ v := stopV c x.no col, recovered := false }]) w1 ∧ VarAt w1 B [.int .i64 0, .int .i64 0, .int .i64 0] := by
  obtain ⟨_, _, n1, b1, _⟩ := h.called (by omega) (by omega) hn0
  refine ⟨.inr (.inr ⟨_, _, _, rfl, n1, fun w2 h2 => ?_⟩), b1⟩
  rw [hres]
  exact h.gotAt hgB hrB ((hn0.mono (fun _ _ e => .inl e)).trans h2)
set_option maxRecDepth 100000 in
set_option maxHeartbeats 3200000 in
theorem tell_clo (G : Nat → Prop) (B Hg Ho : Nat) (hG : ∀ b, B ≤ b → G b) (hGg : G Hg) (hGo : ¬ G Ho) (hgB : Hg < B) (hoB : Ho < B)
    (x : LineD) (hx : Short x) (L : List OpD) (hL : L.length ≤ 30) (res : RunR) (HRES : Hid (runL x L 0 [] = res))
    (w : World) (r : Nat) (wv cv : Value) (oa : Option Addr) (oc : Nat) (hops : FixOf 3 OpC G w (.slice oa L.length oc) L) (hvo : VarAt w Ho [.slice oa L.length oc]) (hr : B < r)
    (hvB : VarAt w B [.int .i64 0, .int .i64 0, .int .i64 0]) (hrd : RdAt G w r wv cv x 0) (hg : VarAt w Hg [.slice none 0 0]) :
    Calls Try.prog 24 #[.pointer (some ⟨r, 0, none⟩), .pointer (some ⟨Ho, 0, none⟩), .pointer (some ⟨Hg, 0, none⟩)] w fun e w' =>
      CloPost G B w r wv cv x (fun w2 => VarAt w2 B [.int .i64 0, .int .i64 0, .int .i64 0] → GotAt B Hg res.out w2) (fun _ _ _ w2 => GotAt B Hg res.out w2) e w' ∧ VarAt w' B [.int .i64 0, .int .i64 0, .int .i64 0] := by
  obtain ⟨i0, hi0, hz0, hz1, hz2⟩ := info_parts' infoS
  have HG := Lib.hid hG
  have HGO := Lib.hid hGo
  have HX := Lib.hid hx
  have HGg := Lib.hid hGg
  have HOPS := Lib.hid hops
  have HVO := Lib.hid hvo
  have HR0 : Hid (TellRel G B Hg r wv cv x w w 0 0 [] (.slice none 0 0)) := Lib.hid ⟨hrd, hg, ⟨by simp [strVals], .inl ⟨rfl, rfl⟩⟩, Near.refl _ _, hvB, by simp [Value.ownBlock], by simp, by simp⟩
  have hmx := hops.row.len
  unfold maxLen at hmx
  clear hG hGo hGg hops hvo hvB hrd hg hx
  go_enter Try.func24, Try.ntmps24
  go_wp2_with fail
  go_loopw [4] (fun i wr => ∃ (q k : Nat) (out : List (List UInt8)) (v : Value), i = .int .i64 q ∧ q ≤ L.length ∧ TellRel G B Hg r wv cv x w wr q k out v ∧ runL x (L.drop q) k out = res) (fun i _ => L.length - (intOf i).toNat)
  case atStart => exact ⟨0, 0, [], _, rfl, Nat.zero_le _, HR0.out, HRES.out⟩
  case round =>
    obtain ⟨q, k, out, v, rfl, hq, hR, hrun⟩ := hrel
    have HR := Lib.hid hR
    have HRUN := Lib.hid hrun
    clear hR hrun HR0
    have co := (HVO.out.near HR.out.near HGO.out).get 0 rfl
    have cg := HR.out.got.get 0 rfl
    have q0 : (0 : Int) ≤ (q : Int) := by omega
    by_cases hlt : q < L.length
    · have q1 : (q : Int) < (L.length : Int) := by omega
      have hdq : decide (q < L.length) = true := decide_eq_true hlt
      obtain ⟨bo, oo, hoa, hbw, cs, hcs⟩ := fix_at HOPS.out q hlt
      have HC1 : Hid (∀ w', Near G w w' → w'.cell? ⟨bo, oo + q * 3, none⟩ = some (.int .i64 (L[q]).kind) ∧ w'.cell? ⟨bo, oo + q * 3 + 1, none⟩ = some (.int .i64 (L[q]).n) ∧ w'.cell? ⟨bo, oo + q * 3 + 2, none⟩ = some (.string ⟨(L[q]).w.toArray⟩)) := Lib.hid (fun w' hN => by
        obtain ⟨⟨_, hc⟩, ho⟩ := hcs w' hN
        unfold OpC at ho
        subst ho
        exact ⟨hc 0 (by omega), hc 1 (by omega), hc 2 (by omega)⟩)
      have HST := Lib.hid (runL_at x L q k out hlt)
      obtain ⟨o, ho⟩ : ∃ o, L[q] = o := ⟨_, rfl⟩
      rw [ho] at HC1 HST
      clear hcs ho
      subst hoa
      obtain ⟨c0, c1, c2⟩ := HC1.out wr HR.out.near
      have HW := Lib.hid (HX.out k)
      have HRD := Lib.hid HR.out.rd.drew
      obtain ⟨st, hst⟩ : ∃ st, stepL x k o = st := ⟨_, rfl⟩
      have HS := Lib.hid hst
      clear hst
      cases st with
      | go k' m =>
        have HRUN2 : Hid (runL x (L.drop (q + 1)) k' (out ++ m) = res ∧ m.length ≤ 1) := Lib.hid ⟨(run_go HST.out HS.out).symm.trans HRUN.out, (step_len.1 k' m HS.out).1⟩
        have hol := HR.out.len
        go_wp2_with fail
        go_region_law (first
          | (go_simp; go_at_call 25; refine (one_go G _ r wv cv x k HRD.out HW.out o k' m HS).mono ?_; rintro e w1 ⟨src, rfl, hrd1, hn1, hsrc⟩; have hn0 : Near (fun b => b = r) wr w1 := (near_drew _ _).trans hn1; obtain ⟨g1, o1, n1, b1, r1⟩ := HR.out.called (by omega) (by omega) hn0; have cg1 := g1.get 0 rfl; have zg1 := g1.free 0; have co1 := (HVO.out.near n1 HGO.out).get 0 rfl)
          | (refine step_app _ (by rfl) _ _ _ (by rfl) (B + 1) 9 i0 _ 16 Try.underlying22 hi0 hz0 hz1 hz2 (by rfl) v out.length (strVals out) (by rfl) o1 src (strVals m) (by rfl) hsrc (strVals_one m) (by have := HRUN2.out.2; rw [strVals_length]; unfold maxLen; omega) (by have := HRUN2.out.2; rw [strVals_length]; omega) (by omega) ?_; intro v' w2 hap; obtain ⟨sa, sl, sc, rfl⟩ := hap.shape; have g2 := g1.near (near_of_grown hap.grow (F := fun b => v.ownBlock = some b) (fun b e => e)) (fun e => by have := own_ge o1 _ e; omega); have cg2 := g2.get 0 rfl; have zg2 := g2.free 0))
        all_goals
          have HNX := Lib.hid (HR.out.next HG.out HGg.out hgB hr hn0 hrd1 hap HRUN2.out.2 ((step_len.1 k' m HS.out).2 HR.out.kle))
          clear hap hsrc hrd1 hn1 o1 g1 n1 b1
          go_wp2_with fail
          go_roundw
          case rel => exact ⟨q + 1, k', out ++ m, _, by go_num, by omega, HNX.out, HRUN2.out.1⟩
          case measure => simp [intOf]; omega
      | stop c col k' =>
        have HRES2 : Hid (res = .stop c col k' out) := Lib.hid (HRUN.out.symm.trans (run_stop HST.out HS.out))
        go_wp2_with fail
        go_region_with (go_at_call 25; refine (one_stop G _ r wv cv x k HRD.out HW.out o c col k' HS).mono ?_; rintro e w1 ⟨rfl, hn1⟩; have hn0 : Near (fun b => b = r) wr w1 := (near_drew _ _).trans hn1; refine panic_aside (P := Try.prog) w1 (by go_wp2_with fail; exact ⟨rfl, tell_stop HR.out hgB hr HRES2.out hn0⟩) ?_)
        all_goals trivial
    · obtain rfl : q = L.length := by omega
      have hdq : decide (L.length < L.length) = false := decide_eq_false hlt
      have HRES2 : Hid (res = .done k out) := Lib.hid (HRUN.out.symm.trans (runL_end x L k out))
      have HN := Lib.hid hlt
      clear hlt
      go_wp2_with fail
      go_end0
      refine ⟨?_, HR.out.vB⟩
      rcases Nat.lt_or_ge k x.ws.length with hk | hk
      · exact .inr (.inl ⟨k, rfl, HR.out.rd, HR.out.near, hk, fun w2 h2 => by rw [HRES2.out]; exact HR.out.gotAt hgB hr h2⟩)
      · refine .inl ⟨k, rfl, HR.out.rd, HR.out.near, ?_, fun w2 h2 _ => by rw [HRES2.out]; exact HR.out.gotAt hgB hr (h2.mono (fun _ _ e => .inl e))⟩
        have := HR.out.kle
        omega
end Go.Proofs.Ytfhicmjfifpjkaa
