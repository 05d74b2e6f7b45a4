/- What a script comes to, by the law's play. -/
import Derived.Test.YtfhicmjfifpjkaaLinAB
import Derived.Test.YtfhicmjfifpjkaaLinO
import Derived.Deep.RegionLaw
import Derived.Deep.RegionHeld3
import Derived.Deep.QuietTactic
import Derived.BigQuiet
namespace Go.Proofs.Ytfhicmjfifpjkaa
open Go.RowKit
set_option linter.unusedVariables false
def endF (x : LineD) : RunR → Int × Int × Int
  | .done k _ => if k < x.ws.length then (1, x.no, (colAt x (k + 1) : Nat)) else (0, 0, 0)
  | .stop c col _ _ => (c, x.no, (col : Nat))
def PlayPost (w : World) (x : LineD) (res : RunR) (e : Ending) (w' : World) : Prop :=
  ∃ v, e = .returned (.tuple #[v, .int .i64 res.at_, .agg #[.int .i64 (endF x res).1, .int .i64 (endF x res).2.1, .int .i64 (endF x res).2.2]]) ∧ ValRow w' v (strVals res.out) ∧ Below w.heap.size w w'
structure PlayRel (x : LineD) (wv cv : Value) (L : List OpD) (w wr : World) (q k : Nat) (out : List (List UInt8)) (v : Value) : Prop where
  be : Below w.heap.size w wr
  vl : VarAt wr w.heap.size [.int .i64 x.no, wv, cv]
  vf : VarAt wr (w.heap.size + 1) [.int .i64 0, .int .i64 0, .int .i64 0]
  own : wr.ownsRow (w.heap.size + 2) 9 1 v out.length (strVals out)
  len : out.length ≤ q
  kle : k ≤ x.ws.length
theorem opC_lasts : Lasts OpC := fun _ _ _ _ _ h => h
theorem fresh_row (w : World) (u : Value) (T : TypeId) (g : Nat) (hg : g = w.heap.size) : ValRow (w.alloc (.cells #[u] T)) (.slice (some ⟨g, 0, none⟩) 1 1) [u] := by
  subst hg
  refine .inr ⟨w.heap.size, 0, 1, rfl, by simp, by unfold maxLen; decide, by simp, fun i hi => ?_⟩
  have : i = 0 := by simpa using hi
  subst this
  exact (varAt_new w #[u] T _ rfl).cell 0 (by simp)
theorem PlayRel.ownAt {x : LineD} {wv cv : Value} {L : List OpD} {w wr W : World} {q k : Nat} {out : List (List UInt8)} {v : Value} (h : PlayRel x wv cv L w wr q k out v) (hN : Near (fun b => b = w.heap.size + 1) wr W) : W.ownsRow (w.heap.size + 2) 9 1 v out.length (strVals out) :=
  ownsRow_near h.own hN (fun b e e' => by have := own_ge h.own b e; omega)
theorem PlayRel.base {x : LineD} {wv cv : Value} {L : List OpD} {w wr W : World} {q k : Nat} {out : List (List UInt8)} {v : Value} (h : PlayRel x wv cv L w wr q k out v) (hN : Near (fun b => b = w.heap.size + 1) wr W) : w.heap.size + 2 ≤ W.heap.size := by
  have := h.vf.lt
  have := hN.size
  omega
theorem PlayRel.next {x : LineD} {wv cv : Value} {L : List OpD} {w wr w1 w2 : World} {q k k' : Nat} {out m : List (List UInt8)} {v v' : Value} (h : PlayRel x wv cv L w wr q k out v) (hb : Near (fun _ => False) wr w1) (ha : Appd w1 w2 (w.heap.size + 2) 9 v v' out.length (strVals out) (strVals m)) (hm : m.length ≤ 1) (hk' : k' ≤ x.ws.length) :
    PlayRel x wv cv L w w2 (q + 1) k' (out ++ m) v' := by
  have hs := h.vf.lt
  have hz := h.be.size
  have hz1 := hb.size
  have h2 : Below (w.heap.size + 2) w1 w2 := below_of_grown ha.grow (by omega) (fun g e => own_ge h.own g e)
  have hlen := ha.own
  rw [strVals_length] at hlen
  refine ⟨(h.be.trans (hb.below (by omega) (fun _ e => e.elim))).trans (h2.mono (by omega)), (h.vl.near hb id).below h2 (by omega), (h.vf.near hb id).below h2 (by omega), ?_, ?_, hk'⟩
  · rw [strVals_app, List.length_append]; exact hlen
  · have := h.len; rw [List.length_append]; omega
theorem PlayRel.same {x : LineD} {wv cv : Value} {L : List OpD} {w wr w1 : World} {q k : Nat} {out : List (List UInt8)} {v : Value} (h : PlayRel x wv cv L w wr q k out v) (hb : Below wr.heap.size wr w1) : PlayRel x wv cv L w w1 (q + 1) k out v :=
  ⟨h.be.trans (hb.mono h.be.size), h.vl.after hb, h.vf.after hb, ownsRow_below h.own hb, by have := h.len; omega, h.kle⟩
theorem PlayRel.out {x : LineD} {wv cv : Value} {L : List OpD} {w wr W : World} {q k : Nat} {out : List (List UInt8)} {v : Value} (h : PlayRel x wv cv L w wr q k out v) (hN : Near (fun b => b = w.heap.size + 1) wr W) : ValRow W v (strVals out) ∧ Below w.heap.size w W :=
  ⟨valRow_own (h.ownAt hN), h.be.trans (hN.below h.be.size (fun b e => by omega))⟩
theorem PlayRel.stop {x : LineD} {wv cv : Value} {L : List OpD} {w wr W : World} {q k k' : Nat} {out : List (List UInt8)} {v : Value} {res : RunR} {c col ka : Int} {cl : Nat} (h : PlayRel x wv cv L w wr q k out v) (hres : res = .stop c cl k' out) (hc : col = (cl : Int)) (hka : ka = (k' : Int)) (hN : Near (fun b => b = w.heap.size + 1) wr W) :
    PlayPost w x res (.returned (.tuple #[v, .int .i64 ka, .agg #[.int .i64 c, .int .i64 x.no, .int .i64 col]])) W := by
  subst hres; subst hc; subst hka
  exact ⟨v, rfl, h.out hN⟩
theorem PlayRel.fin1 {x : LineD} {wv cv : Value} {L : List OpD} {w wr W : World} {q k : Nat} {out : List (List UInt8)} {v : Value} {res : RunR} {col : Nat} (h : PlayRel x wv cv L w wr q k out v) (hres : res = .done k out) (hk : k < x.ws.length) (hc : colAt x (k + 1) = col) (hN : Near (fun b => b = w.heap.size + 1) wr W) :
    PlayPost w x res (.returned (.tuple #[v, .int .i64 (k : Int), .agg #[.int .i64 1, .int .i64 x.no, .int .i64 (col : Int)]])) W := by
  subst hres; subst hc
  exact ⟨v, by simp only [endF, if_pos hk]; rfl, h.out hN⟩
theorem PlayRel.fin0 {x : LineD} {wv cv : Value} {L : List OpD} {w wr W : World} {q k : Nat} {out : List (List UInt8)} {v : Value} {res : RunR} (h : PlayRel x wv cv L w wr q k out v) (hres : res = .done k out) (hk : ¬ k < x.ws.length) (hN : Near (fun b => b = w.heap.size + 1) wr W) :
    PlayPost w x res (.returned (.tuple #[v, .int .i64 (k : Int), .agg #[.int .i64 0, .int .i64 0, .int .i64 0]])) W := by
  subst hres
  exact ⟨v, by simp only [endF, if_neg hk]; rfl, h.out hN⟩
theorem rnumber_yes (l : List UInt8) (w : World) (hl : l.length ≤ 9223372036854775807) (n : Nat) (hv : Hid (numL l = some n)) :
    Calls Try.prog 22 #[.string ⟨l.toArray⟩] w fun e w' => e = .returned (.tuple #[.int .i64 n, .bool true]) ∧ w = w' := rnumber_any l w hl (some n) hv
theorem rnumber_no (l : List UInt8) (w : World) (hl : l.length ≤ 9223372036854775807) (hv : Hid (numL l = none)) :
    Calls Try.prog 22 #[.string ⟨l.toArray⟩] w fun e w' => e = .returned (.tuple #[.int .i64 0, .bool false]) ∧ w = w' := rnumber_any l w hl none hv
theorem stepL_1 (x : LineD) (k : Nat) (n : Int) (t : List UInt8) : stepL x k ⟨1, n, t⟩ = if k < x.ws.length then .go (k + 1) [wd x k] else .stop 1 0 k := rfl
theorem stepL_2 (x : LineD) (k : Nat) (n : Int) (t : List UInt8) : stepL x k ⟨2, n, t⟩ = if k < x.ws.length ∧ wd x k = t then .go (k + 1) [[121, 101, 115]] else .go k [[110, 111]] := rfl
theorem stepL_3 (x : LineD) (k : Nat) (n : Int) (t : List UInt8) : stepL x k ⟨3, n, t⟩ = if k < x.ws.length then numStep x k n (numL (wd x k)) else .stop 1 0 k := rfl
theorem stepL_4 (x : LineD) (k : Nat) (n : Int) (t : List UInt8) : stepL x k ⟨4, n, t⟩ = .stop n (colAt x k) k := rfl
theorem stepL_5 (x : LineD) (k : Nat) (n : Int) (t : List UInt8) : stepL x k ⟨5, n, t⟩ = if k < x.ws.length then .go k [[109, 111, 114, 101]] else .go k [[101, 110, 100]] := rfl
theorem stepL_6 (x : LineD) (k : Nat) (n : Int) (t : List UInt8) : stepL x k ⟨6, n, t⟩ = if k < x.ws.length then (if wd x k = t then .go (k + 1) [wd x k] else .stop 1 (colAt x (k + 1)) (k + 1)) else .stop 1 0 k := rfl
theorem stepL_0 {x : LineD} {k : Nat} {K n : Int} {t : List UInt8} (h1 : ¬ K = 1) (h2 : ¬ K = 2) (h3 : ¬ K = 3) (h4 : ¬ K = 4) (h5 : ¬ K = 5) (h6 : ¬ K = 6) : stepL x k ⟨K, n, t⟩ = .go k [] := by
  unfold stepL; simp only [h1, h2, h3, h4, h5, h6, if_false]
theorem play_b1 {out : List (List UInt8)} {q : Nat} {L : List OpD} {s : List UInt8} (h : out.length ≤ q) (hL : L.length ≤ 30) (hq : q ≤ L.length) : out.length + (strVals [s]).length ≤ maxLen := by rw [strVals_length]; unfold maxLen; simp; omega
theorem play_b2 {out : List (List UInt8)} {q : Nat} {L : List OpD} {s : List UInt8} (h : out.length ≤ q) (hL : L.length ≤ 30) (hq : q ≤ L.length) : (out.length + (strVals [s]).length) * 16 ≤ 140737488355328 := by rw [strVals_length]; simp; omega
set_option maxRecDepth 100000 in
set_option maxHeartbeats 3200000 in
theorem play_any (x : LineD) (hx : Short x) (hlen : x.ws.length = x.cs.length) (h20 : x.ws.length ≤ 20) (L : List OpD) (hL : L.length ≤ 30) (res : RunR) (HRES : Hid (runL x L 0 [] = res)) (wv cv : Value) (oa : Option Addr) (oc : Nat) (w : World)
    (hw : ValRow w wv (strVals x.ws)) (hc : ValRow w cv (natVals x.cs)) (ho : RowOf 3 OpC w (.slice oa L.length oc) L) :
    Calls Try.prog 23 #[.agg #[.int .i64 x.no, wv, cv], .slice oa L.length oc] w (PlayPost w x res) := by
  obtain ⟨i0, hi0, hz0, hz1, hz2⟩ := info_parts' infoS
  obtain ⟨wa, wc, rfl⟩ := hw.shape
  obtain ⟨ca, cc, rfl⟩ := hc.shape
  have HI0 := Lib.hid hi0
  have HZ0 := Lib.hid hz0
  have HZ1 := Lib.hid hz1
  have HZ2 := Lib.hid hz2
  have HX := Lib.hid hx
  have HLEN := Lib.hid hlen
  have HW := Lib.hid hw
  have HC := Lib.hid hc
  have HO := Lib.hid ho
  rw [strVals_length, natVals_length] at *
  clear hi0 hz0 hz1 hz2 hx hlen hw hc ho
  go_enter Try.func23, Try.ntmps23
  go_wp2_with fail
  go_loopw [7, 8, 9] (fun v a i wr => ∃ (q k : Nat) (out : List (List UInt8)), i = .int .i64 q ∧ a = .int .i64 k ∧ q ≤ L.length ∧ PlayRel x (.slice wa x.ws.length wc) (.slice ca x.cs.length cc) L w wr q k out v ∧ runL x (L.drop q) k out = res) (fun _ _ i _ => L.length - (intOf i).toNat)
  case atStart =>
    refine ⟨0, 0, [], rfl, rfl, Nat.zero_le _, ⟨((Below.refl _ _).alloc (Nat.le_refl _) _).alloc (by simp) _, ((varAt_new w #[.int .i64 x.no, .slice wa x.ws.length wc, .slice ca x.cs.length cc] 34 _ rfl).alloc _), (varAt_new _ #[.int .i64 0, .int .i64 0, .int .i64 0] _ _ (by simp)), ⟨by simp [strVals], .inl ⟨rfl, rfl⟩⟩, by simp, by simp⟩, HRES.out⟩
  case round =>
    obtain ⟨q, k, out, rfl, rfl, hq, hR, hrun⟩ := hrel
    have HR := Lib.hid hR
    have HRUN := Lib.hid hrun
    clear hR hrun
    have q0 : (0 : Int) ≤ (q : Int) := by omega
    have k0 : (0 : Int) ≤ (k : Int) := by omega
    have hs1 : w.heap.size + 1 < wr.heap.size := HR.out.vf.lt
    have hs0 : w.heap.size < wr.heap.size := by omega
    have l0 := HR.out.vl.get 0 rfl
    have l1 := HR.out.vl.get 1 rfl
    have l2 := HR.out.vl.get 2 rfl
    have f0 := HR.out.vf.get 0 rfl
    have f1 := HR.out.vf.get 1 rfl
    have f2 := HR.out.vf.get 2 rfl
    have zf := HR.out.vf.free
    have HE : Hid (w.heap.size + 1 < wr.heap.size) := Lib.hid hs1
    by_cases hlt : q < L.length
    · have q1 : (q : Int) < (L.length : Int) := by omega
      have hdq : decide (q < L.length) = true := decide_eq_true hlt
      have HST := Lib.hid (runL_at x L q k out hlt)
      obtain ⟨bo, oo, hoa, hbw, cs, hcs, hor⟩ := (HO.out.below opC_lasts HR.out.be).at_ q hlt
      unfold OpC at hor
      subst hor
      have c0 : wr.cell? ⟨bo, oo + q * 3, none⟩ = some (.int .i64 (L[q]).kind) := hcs.2 0 (by omega)
      have c1 : wr.cell? ⟨bo, oo + q * 3 + 1, none⟩ = some (.int .i64 (L[q]).n) := hcs.2 1 (by omega)
      have c2 : wr.cell? ⟨bo, oo + q * 3 + 2, none⟩ = some (.string ⟨(L[q]).w.toArray⟩) := hcs.2 2 (by omega)
      obtain ⟨⟨K, n, t⟩, ho⟩ : ∃ o, L[q] = o := ⟨_, rfl⟩
      rw [ho] at c0 c1 c2 HST
      simp only at c0 c1 c2
      clear hcs ho
      subst hoa
      have HBA : Hid (Below wr.heap.size wr (wr.alloc (.cells #[.int .i64 K, .int .i64 n, .string ⟨t.toArray⟩] 58))) := Lib.hid ((Below.refl _ _).alloc (Nat.le_refl _) _)
      by_cases hK4 : K = 4
      · subst hK4
        by_cases h4 : k = 0
        · have HK0 := Lib.hid h4
          have hd4 : decide ((0 : Int) < (k : Int)) = false := decide_eq_false (by omega)
          have hd4' : decide (0 < k) = false := decide_eq_false (by omega)
          have HNX : Hid (res = .stop n 0 k out) := Lib.hid (HRUN.out.symm.trans (run_stop (L' := L.drop (q + 1)) (o := ⟨4, n, t⟩) HST.out (by rw [stepL_4 x k n t, show colAt x k = 0 from by unfold colAt; rw [if_neg (by omega)]])))
          by_cases hk : k < x.ws.length
          case' pos => have hdk : decide (k < x.ws.length) = true := decide_eq_true hk
          case' neg => have hdk : decide (k < x.ws.length) = false := decide_eq_false hk
          all_goals
            go_wp2_with fail
            go_region
            go_wp2_with fail
            refine bodyPost_ret (v := .tuple #[u7, .int .i64 (k : Int), .agg #[.int .i64 n, .int .i64 x.no, .int .i64 0]]) (by simp [results, Try.results23, go_sem, f0, f1, f2, HE.out]) rfl (HR.out.stop HNX.out (by first | rfl | omega) (by first | rfl | omega) (by repeat (first | exact Near.refl _ _ | refine Near.trans ?_ (near_drew _ _) | refine Near.trans ?_ (near_drewN _ _ _) | refine Near.trans ?_ (near_alloc _ _ _) | refine Near.trans ?_ (near_setCell _ _ _ rfl))))
        · have h4' : 0 < k := by omega
          obtain ⟨j, rfl⟩ : ∃ j, k = j + 1 := ⟨k - 1, by omega⟩
          have hkl := HR.out.kle
          obtain ⟨bc, oc2, hca, hbc2, hcc⟩ := valRow_cells (HC.out.below HR.out.be) j (by rw [natVals_length]; have := HLEN.out; omega)
          subst hca
          have cc0 := hcc j (by rw [natVals_length]; have := HLEN.out; omega)
          rw [natVals_get _ _ (by have := HLEN.out; omega)] at cc0
          have j0 : (0 : Int) ≤ (j : Int) := by omega
          have j2 : (j : Int) < (x.cs.length : Int) := by have := HLEN.out; omega
          have hjw : IntKind.i64.wrap ((j : Int) + 1 - 1) = (j : Int) := by rw [IntWalk.i64_in _ (by omega)]; omega
          obtain ⟨col, hcol⟩ : ∃ col, x.cs.getD j 0 = col := ⟨_, rfl⟩
          rw [hcol] at cc0
          have HNX : Hid (res = .stop n col (j + 1) out) := Lib.hid (HRUN.out.symm.trans (run_stop (L' := L.drop (q + 1)) (o := ⟨4, n, t⟩) HST.out (by rw [stepL_4 x (j + 1) n t, show colAt x (j + 1) = col from by rw [← hcol]; unfold colAt; rw [if_pos (by have := HLEN.out; omega)]; rfl])))
          clear hcc hcol h4
          have hd4 : decide ((0 : Int) < (j : Int) + 1) = true := decide_eq_true (by omega)
          by_cases hk : j + 1 < x.ws.length
          case' pos => have hdk : decide (j + 1 < x.ws.length) = true := decide_eq_true hk
          case' pos => have hdk2 : decide ((j : Int) + 1 < (x.ws.length : Int)) = true := decide_eq_true (by omega)
          case' neg => have hdk : decide (j + 1 < x.ws.length) = false := decide_eq_false hk
          case' neg => have hdk2 : decide ((j : Int) + 1 < (x.ws.length : Int)) = false := decide_eq_false (by omega)
          all_goals
            go_wp2_with fail
            go_region
            go_wp2_with fail
            refine bodyPost_ret (v := .tuple #[u7, .int .i64 ((j : Int) + 1), .agg #[.int .i64 n, .int .i64 x.no, .int .i64 col]]) (by simp [results, Try.results23, go_sem, f0, f1, f2, HE.out]) rfl (HR.out.stop HNX.out (by first | rfl | omega) (by first | rfl | omega) (by repeat (first | exact Near.refl _ _ | refine Near.trans ?_ (near_drew _ _) | refine Near.trans ?_ (near_drewN _ _ _) | refine Near.trans ?_ (near_alloc _ _ _) | refine Near.trans ?_ (near_setCell _ _ _ rfl))))
      by_cases hk : k < x.ws.length
      · have hdk : decide (k < x.ws.length) = true := decide_eq_true hk
        have k1 : (k : Int) < (x.ws.length : Int) := by omega
        have hkw : IntKind.i64.wrap ((k : Int) + 1 - 1) = (k : Int) := by rw [IntWalk.i64_in _ (by omega)]; omega
        have hkw2 : IntKind.i64.wrap (k : Int) = (k : Int) := by rw [IntWalk.i64_in _ (by omega)]
        obtain ⟨bw, ow, hwa, hbw2, hcw⟩ := valRow_cells (HW.out.below HR.out.be) k (by rw [strVals_length]; exact hk)
        subst hwa
        have cw := hcw k (by rw [strVals_length]; exact hk)
        rw [strVals_get _ _ hk] at cw
        have HS := Lib.hid (HX.out k)
        clear hcw
        obtain ⟨s, hs⟩ : ∃ s, x.ws.getD k [] = s := ⟨_, rfl⟩
        have HSE : Hid (wd x k = s) := Lib.hid hs
        rw [hs] at cw
        have hs80 : s.length ≤ 80 := by rw [← hs]; exact HS.out
        clear hs
        have k2 : (k : Int) < (x.cs.length : Int) := by have := HLEN.out; omega
        obtain ⟨bc, oc2, hca, hbc2, hcc⟩ := valRow_cells HC.out k (by rw [natVals_length]; have := HLEN.out; omega)
        subst hca
        have cc0 := (HR.out.be.cell (p := ⟨bc, oc2 + k, none⟩) hbc2).trans (hcc k (by rw [natVals_length]; have := HLEN.out; omega))
        have hbn : bc ≠ w.heap.size + 1 := by omega
        have hbn2 : ¬ w.heap.size + 1 = bc := by omega
        rw [natVals_get _ _ (by have := HLEN.out; omega)] at cc0
        obtain ⟨col, hcol⟩ : ∃ col, x.cs.getD k 0 = col := ⟨_, rfl⟩
        have HCOL : Hid (colAt x (k + 1) = col) := Lib.hid (by rw [← hcol]; unfold colAt; rw [if_pos (by have := HLEN.out; omega)]; rfl)
        rw [hcol] at cc0
        clear hcc hcol
        obtain ⟨v, hv⟩ : ∃ v, numL s = v := ⟨_, rfl⟩
        have HV := Lib.hid hv
        clear hv
        by_cases hK1 : K = 1
        · subst hK1
          have HNX : Hid (runL x (L.drop (q + 1)) (k + 1) (out ++ [s]) = res) := Lib.hid ((run_go HST.out (by rw [stepL_1, if_pos hk, HSE.out])).symm.trans HRUN.out)
          go_wp2_with fail
          refine (rnumber_any s _ (by omega) v HV).mono ?_
          rintro e w1 ⟨rfl, rfl⟩
          go_wp2_with (at_builtin; refine wpList_app _ rfl _ _ 22 rfl (w.heap.size + 2) 9 i0 (.string ByteArray.empty) 16 Try.underlying22 HI0.out HZ0.out HZ1.out HZ2.out rfl u7 out.length (strVals out) rfl (HR.out.ownAt (by repeat (first | exact Near.refl _ _ | refine Near.trans ?_ (near_drew _ _) | refine Near.trans ?_ (near_drewN _ _ _) | refine Near.trans ?_ (near_alloc _ _ _) | refine Near.trans ?_ (near_setCell _ _ _ rfl)))) (.slice (some ⟨wr.heap.size + 1, 0, none⟩) 1 1) (strVals [s]) rfl (fresh_row _ _ _ _ (by simp)) (strVals_one _) (play_b1 HR.out.len hL hq) (play_b2 HR.out.len hL hq) (HR.out.base (by repeat (first | exact Near.refl _ _ | refine Near.trans ?_ (near_drew _ _) | refine Near.trans ?_ (near_drewN _ _ _) | refine Near.trans ?_ (near_alloc _ _ _) | refine Near.trans ?_ (near_setCell _ _ _ rfl)))) ?_)
          intro v' w2 hap
          have HNR := Lib.hid (HR.out.next (by repeat (first | exact Near.refl _ _ | refine Near.trans ?_ (near_drew _ _) | refine Near.trans ?_ (near_drewN _ _ _) | refine Near.trans ?_ (near_alloc _ _ _) | refine Near.trans ?_ (near_setCell _ _ _ rfl))) hap (by simp) (k' := k + 1) (by first | omega | exact HR.out.kle))
          clear hap
          go_wp2_with fail
          go_roundw
          case rel => exact ⟨q + 1, k + 1, out ++ [s], by go_num, by go_num, by omega, HNR.out, HNX.out⟩
          case measure => simp [intOf]; omega
        by_cases hK2 : K = 2
        · subst hK2
          by_cases ht : s = t
          · have HTT := Lib.hid ht
            have hst : (s == t) = true := is_eq ht
            have HNX : Hid (runL x (L.drop (q + 1)) (k + 1) (out ++ [[121, 101, 115]]) = res) := Lib.hid ((run_go HST.out (by rw [stepL_2, if_pos ⟨hk, HSE.out.trans ht⟩])).symm.trans HRUN.out)
            clear ht
            go_wp2_with fail
            go_quiet (fail)
            go_wp2_with (at_builtin; refine wpList_app _ rfl _ _ 22 rfl (w.heap.size + 2) 9 i0 (.string ByteArray.empty) 16 Try.underlying22 HI0.out HZ0.out HZ1.out HZ2.out rfl u7 out.length (strVals out) rfl (HR.out.ownAt (by repeat (first | exact Near.refl _ _ | refine Near.trans ?_ (near_drew _ _) | refine Near.trans ?_ (near_drewN _ _ _) | refine Near.trans ?_ (near_alloc _ _ _) | refine Near.trans ?_ (near_setCell _ _ _ rfl)))) (.slice (some ⟨wr.heap.size + 1, 0, none⟩) 1 1) (strVals [[121, 101, 115]]) rfl (fresh_row _ _ _ _ (by simp)) (strVals_one _) (play_b1 HR.out.len hL hq) (play_b2 HR.out.len hL hq) (HR.out.base (by repeat (first | exact Near.refl _ _ | refine Near.trans ?_ (near_drew _ _) | refine Near.trans ?_ (near_drewN _ _ _) | refine Near.trans ?_ (near_alloc _ _ _) | refine Near.trans ?_ (near_setCell _ _ _ rfl)))) ?_)
            intro v' w2 hap
            have HNR := Lib.hid (HR.out.next (by repeat (first | exact Near.refl _ _ | refine Near.trans ?_ (near_drew _ _) | refine Near.trans ?_ (near_drewN _ _ _) | refine Near.trans ?_ (near_alloc _ _ _) | refine Near.trans ?_ (near_setCell _ _ _ rfl))) hap (by simp) (k' := k + 1) (by first | omega | exact HR.out.kle))
            clear hap
            go_wp2_with fail
            go_roundw
            case rel => exact ⟨q + 1, k + 1, out ++ [[121, 101, 115]], by go_num, by go_num, by omega, HNR.out, HNX.out⟩
            case measure => simp [intOf]; omega
          · have HTT := Lib.hid ht
            have hst : (s == t) = false := is_ne ht
            have HNX : Hid (runL x (L.drop (q + 1)) k (out ++ [[110, 111]]) = res) := Lib.hid ((run_go HST.out (by rw [stepL_2, if_neg (fun h => ht (HSE.out.symm.trans h.2))])).symm.trans HRUN.out)
            clear ht
            go_wp2_with fail
            go_quiet (fail)
            go_wp2_with (at_builtin; refine wpList_app _ rfl _ _ 22 rfl (w.heap.size + 2) 9 i0 (.string ByteArray.empty) 16 Try.underlying22 HI0.out HZ0.out HZ1.out HZ2.out rfl u7 out.length (strVals out) rfl (HR.out.ownAt (by repeat (first | exact Near.refl _ _ | refine Near.trans ?_ (near_drew _ _) | refine Near.trans ?_ (near_drewN _ _ _) | refine Near.trans ?_ (near_alloc _ _ _) | refine Near.trans ?_ (near_setCell _ _ _ rfl)))) (.slice (some ⟨wr.heap.size + 1, 0, none⟩) 1 1) (strVals [[110, 111]]) rfl (fresh_row _ _ _ _ (by simp)) (strVals_one _) (play_b1 HR.out.len hL hq) (play_b2 HR.out.len hL hq) (HR.out.base (by repeat (first | exact Near.refl _ _ | refine Near.trans ?_ (near_drew _ _) | refine Near.trans ?_ (near_drewN _ _ _) | refine Near.trans ?_ (near_alloc _ _ _) | refine Near.trans ?_ (near_setCell _ _ _ rfl)))) ?_)
            intro v' w2 hap
            have HNR := Lib.hid (HR.out.next (by repeat (first | exact Near.refl _ _ | refine Near.trans ?_ (near_drew _ _) | refine Near.trans ?_ (near_drewN _ _ _) | refine Near.trans ?_ (near_alloc _ _ _) | refine Near.trans ?_ (near_setCell _ _ _ rfl))) hap (by simp) (k' := k) (by first | omega | exact HR.out.kle))
            clear hap
            go_wp2_with fail
            go_roundw
            case rel => exact ⟨q + 1, k, out ++ [[110, 111]], by go_num, rfl, by omega, HNR.out, HNX.out⟩
            case measure => simp [intOf]; omega
        by_cases hK3 : K = 3
        · subst hK3
          cases v with
          | none =>
            have HNX : Hid (res = .stop 1 col (k + 1) out) := Lib.hid (HRUN.out.symm.trans (run_stop HST.out (by rw [stepL_3, if_pos hk, HSE.out, HV.out]; show StepR.stop 1 (colAt x (k + 1)) (k + 1) = _; rw [HCOL.out])))
            go_wp2_with fail
            refine (rnumber_no s _ (by omega) HV).mono ?_
            rintro e w1 ⟨rfl, rfl⟩
            go_wp2_with fail
            go_region_held3 (fun w' => w'.cell? ⟨w.heap.size, 0, none⟩ = some (.int .i64 x.no) ∧ w'.cell? ⟨w.heap.size, 2, none⟩ = some (.slice (some ⟨bc, oc2, none⟩) x.cs.length cc) ∧ w'.cell? ⟨bc, oc2 + k, none⟩ = some (.int .i64 col)) (go_keep) (fail)
            go_wp2_with fail
            refine bodyPost_ret (v := .tuple #[u7, .int .i64 ((k : Int) + 1), .agg #[.int .i64 1, .int .i64 x.no, .int .i64 col]]) (by simp [results, Try.results23, go_sem, f0, f1, f2, HE.out]) rfl (HR.out.stop HNX.out (by first | rfl | omega) (by first | rfl | omega) (by repeat (first | exact Near.refl _ _ | refine Near.trans ?_ (near_drew _ _) | refine Near.trans ?_ (near_drewN _ _ _) | refine Near.trans ?_ (near_alloc _ _ _) | refine Near.trans ?_ (near_setCell _ _ _ rfl))))
          | some m =>
            by_cases hbig : n < (m : Int)
            · have HBIG := Lib.hid hbig
              have HNX : Hid (res = .stop 8 col (k + 1) out) := Lib.hid (HRUN.out.symm.trans (run_stop HST.out (by rw [stepL_3, if_pos hk, HSE.out, HV.out]; show (if n < (m : Int) then StepR.stop 8 (colAt x (k + 1)) (k + 1) else _) = _; rw [if_pos hbig, HCOL.out])))
              have hdb : decide (n < (m : Int)) = true := decide_eq_true hbig
              go_wp2_with fail
              refine (rnumber_yes s _ (by omega) m HV).mono ?_
              rintro e w1 ⟨rfl, rfl⟩
              go_wp2_with fail
              go_region_held3 (fun w' => w'.cell? ⟨w.heap.size, 0, none⟩ = some (.int .i64 x.no) ∧ w'.cell? ⟨w.heap.size, 2, none⟩ = some (.slice (some ⟨bc, oc2, none⟩) x.cs.length cc) ∧ w'.cell? ⟨bc, oc2 + k, none⟩ = some (.int .i64 col)) (go_keep) (fail)
              go_wp2_with fail
              refine bodyPost_ret (v := .tuple #[u7, .int .i64 ((k : Int) + 1), .agg #[.int .i64 8, .int .i64 x.no, .int .i64 col]]) (by simp [results, Try.results23, go_sem, f0, f1, f2, HE.out]) rfl (HR.out.stop HNX.out (by first | rfl | omega) (by first | rfl | omega) (by repeat (first | exact Near.refl _ _ | refine Near.trans ?_ (near_drew _ _) | refine Near.trans ?_ (near_drewN _ _ _) | refine Near.trans ?_ (near_alloc _ _ _) | refine Near.trans ?_ (near_setCell _ _ _ rfl))))
            · have HBIG := Lib.hid hbig
              have HNX : Hid (runL x (L.drop (q + 1)) (k + 1) (out ++ [s]) = res) := Lib.hid ((run_go HST.out (by rw [stepL_3, if_pos hk, HSE.out, HV.out]; show (if n < (m : Int) then StepR.stop 8 (colAt x (k + 1)) (k + 1) else .go (k + 1) [wd x k]) = _; rw [if_neg hbig, HSE.out])).symm.trans HRUN.out)
              have hdb : decide (n < (m : Int)) = false := decide_eq_false hbig
              go_wp2_with fail
              refine (rnumber_yes s _ (by omega) m HV).mono ?_
              rintro e w1 ⟨rfl, rfl⟩
              go_wp2_with (at_builtin; refine wpList_app _ rfl _ _ 22 rfl (w.heap.size + 2) 9 i0 (.string ByteArray.empty) 16 Try.underlying22 HI0.out HZ0.out HZ1.out HZ2.out rfl u7 out.length (strVals out) rfl (HR.out.ownAt (by repeat (first | exact Near.refl _ _ | refine Near.trans ?_ (near_drew _ _) | refine Near.trans ?_ (near_drewN _ _ _) | refine Near.trans ?_ (near_alloc _ _ _) | refine Near.trans ?_ (near_setCell _ _ _ rfl)))) (.slice (some ⟨wr.heap.size + 1, 0, none⟩) 1 1) (strVals [s]) rfl (fresh_row _ _ _ _ (by simp)) (strVals_one _) (play_b1 HR.out.len hL hq) (play_b2 HR.out.len hL hq) (HR.out.base (by repeat (first | exact Near.refl _ _ | refine Near.trans ?_ (near_drew _ _) | refine Near.trans ?_ (near_drewN _ _ _) | refine Near.trans ?_ (near_alloc _ _ _) | refine Near.trans ?_ (near_setCell _ _ _ rfl)))) ?_)
              intro v' w2 hap
              have HNR := Lib.hid (HR.out.next (by repeat (first | exact Near.refl _ _ | refine Near.trans ?_ (near_drew _ _) | refine Near.trans ?_ (near_drewN _ _ _) | refine Near.trans ?_ (near_alloc _ _ _) | refine Near.trans ?_ (near_setCell _ _ _ rfl))) hap (by simp) (k' := k + 1) (by first | omega | exact HR.out.kle))
              clear hap
              go_wp2_with fail
              go_roundw
              case rel => exact ⟨q + 1, k + 1, out ++ [s], by go_num, by go_num, by omega, HNR.out, HNX.out⟩
              case measure => simp [intOf]; omega
        by_cases hK5 : K = 5
        · subst hK5
          have HNX : Hid (runL x (L.drop (q + 1)) (k) (out ++ [[109, 111, 114, 101]]) = res) := Lib.hid ((run_go HST.out (by rw [stepL_5, if_pos hk])).symm.trans HRUN.out)
          go_wp2_with (at_builtin; refine wpList_app _ rfl _ _ 22 rfl (w.heap.size + 2) 9 i0 (.string ByteArray.empty) 16 Try.underlying22 HI0.out HZ0.out HZ1.out HZ2.out rfl u7 out.length (strVals out) rfl (HR.out.ownAt (by repeat (first | exact Near.refl _ _ | refine Near.trans ?_ (near_drew _ _) | refine Near.trans ?_ (near_drewN _ _ _) | refine Near.trans ?_ (near_alloc _ _ _) | refine Near.trans ?_ (near_setCell _ _ _ rfl)))) (.slice (some ⟨wr.heap.size + 1, 0, none⟩) 1 1) (strVals [[109, 111, 114, 101]]) rfl (fresh_row _ _ _ _ (by simp)) (strVals_one _) (play_b1 HR.out.len hL hq) (play_b2 HR.out.len hL hq) (HR.out.base (by repeat (first | exact Near.refl _ _ | refine Near.trans ?_ (near_drew _ _) | refine Near.trans ?_ (near_drewN _ _ _) | refine Near.trans ?_ (near_alloc _ _ _) | refine Near.trans ?_ (near_setCell _ _ _ rfl)))) ?_)
          intro v' w2 hap
          have HNR := Lib.hid (HR.out.next (by repeat (first | exact Near.refl _ _ | refine Near.trans ?_ (near_drew _ _) | refine Near.trans ?_ (near_drewN _ _ _) | refine Near.trans ?_ (near_alloc _ _ _) | refine Near.trans ?_ (near_setCell _ _ _ rfl))) hap (by simp) (k' := k) (by first | omega | exact HR.out.kle))
          clear hap
          go_wp2_with fail
          go_roundw
          case rel => exact ⟨q + 1, k, out ++ [[109, 111, 114, 101]], by go_num, rfl, by omega, HNR.out, HNX.out⟩
          case measure => simp [intOf]; omega
        by_cases hK6 : K = 6
        · subst hK6
          by_cases ht : s = t
          · have HTT := Lib.hid ht
            have hst : (s == t) = true := is_eq ht
            have hst2 : (s != t) = false := by rw [bne, hst]; rfl
            have HNX : Hid (runL x (L.drop (q + 1)) (k + 1) (out ++ [s]) = res) := Lib.hid ((run_go HST.out (by rw [stepL_6, if_pos hk, HSE.out, if_pos ht])).symm.trans HRUN.out)
            clear ht
            go_wp2_with fail
            refine (rnumber_any s _ (by omega) v HV).mono ?_
            rintro e w1 ⟨rfl, rfl⟩
            go_wp2_with (at_builtin; refine wpList_app _ rfl _ _ 22 rfl (w.heap.size + 2) 9 i0 (.string ByteArray.empty) 16 Try.underlying22 HI0.out HZ0.out HZ1.out HZ2.out rfl u7 out.length (strVals out) rfl (HR.out.ownAt (by repeat (first | exact Near.refl _ _ | refine Near.trans ?_ (near_drew _ _) | refine Near.trans ?_ (near_drewN _ _ _) | refine Near.trans ?_ (near_alloc _ _ _) | refine Near.trans ?_ (near_setCell _ _ _ rfl)))) (.slice (some ⟨wr.heap.size + 1, 0, none⟩) 1 1) (strVals [s]) rfl (fresh_row _ _ _ _ (by simp)) (strVals_one _) (play_b1 HR.out.len hL hq) (play_b2 HR.out.len hL hq) (HR.out.base (by repeat (first | exact Near.refl _ _ | refine Near.trans ?_ (near_drew _ _) | refine Near.trans ?_ (near_drewN _ _ _) | refine Near.trans ?_ (near_alloc _ _ _) | refine Near.trans ?_ (near_setCell _ _ _ rfl)))) ?_)
            intro v' w2 hap
            have HNR := Lib.hid (HR.out.next (by repeat (first | exact Near.refl _ _ | refine Near.trans ?_ (near_drew _ _) | refine Near.trans ?_ (near_drewN _ _ _) | refine Near.trans ?_ (near_alloc _ _ _) | refine Near.trans ?_ (near_setCell _ _ _ rfl))) hap (by simp) (k' := k + 1) (by first | omega | exact HR.out.kle))
            clear hap
            go_wp2_with fail
            go_roundw
            case rel => exact ⟨q + 1, k + 1, out ++ [s], by go_num, by go_num, by omega, HNR.out, HNX.out⟩
            case measure => simp [intOf]; omega
          · have HTT := Lib.hid ht
            have hst : (s == t) = false := is_ne ht
            have hst2 : (s != t) = true := by rw [bne, hst]; rfl
            have HNX : Hid (res = .stop 1 col (k + 1) out) := Lib.hid (HRUN.out.symm.trans (run_stop HST.out (by rw [stepL_6, if_pos hk, HSE.out, if_neg ht, HCOL.out])))
            clear ht
            go_wp2_with fail
            refine (rnumber_any s _ (by omega) v HV).mono ?_
            rintro e w1 ⟨rfl, rfl⟩
            go_wp2_with fail
            go_region_held3 (fun w' => w'.cell? ⟨w.heap.size, 0, none⟩ = some (.int .i64 x.no) ∧ w'.cell? ⟨w.heap.size, 2, none⟩ = some (.slice (some ⟨bc, oc2, none⟩) x.cs.length cc) ∧ w'.cell? ⟨bc, oc2 + k, none⟩ = some (.int .i64 col)) (go_keep) (fail)
            go_wp2_with fail
            refine bodyPost_ret (v := .tuple #[u7, .int .i64 ((k : Int) + 1), .agg #[.int .i64 1, .int .i64 x.no, .int .i64 col]]) (by simp [results, Try.results23, go_sem, f0, f1, f2, HE.out]) rfl (HR.out.stop HNX.out (by first | rfl | omega) (by first | rfl | omega) (by repeat (first | exact Near.refl _ _ | refine Near.trans ?_ (near_drew _ _) | refine Near.trans ?_ (near_drewN _ _ _) | refine Near.trans ?_ (near_alloc _ _ _) | refine Near.trans ?_ (near_setCell _ _ _ rfl))))
        · have HK6 := Lib.hid hK6
          have HNX : Hid (runL x (L.drop (q + 1)) k (out ++ []) = res) := Lib.hid ((run_go HST.out (by rw [stepL_0 hK1 hK2 hK3 hK4 hK5 hK6])).symm.trans HRUN.out)
          have b1 : (K == 1) = false := by simpa using hK1
          have b2 : (K == 2) = false := by simpa using hK2
          have b3 : (K == 3) = false := by simpa using hK3
          have b4 : (K == 4) = false := by simpa using hK4
          have b5 : (K == 5) = false := by simpa using hK5
          have b6 : (K == 6) = false := by simpa using hK6
          have HNR := Lib.hid (HR.out.same HBA.out)
          clear hK1 hK2 hK3 hK4 hK5 hK6
          go_wp2_with fail
          go_roundw
          case rel => exact ⟨q + 1, k, out, by go_num, rfl, by omega, HNR.out, by have := HNX.out; rwa [List.append_nil] at this⟩
          case measure => simp [intOf]; omega
      · have hdk : decide (k < x.ws.length) = false := decide_eq_false hk
        by_cases hK1 : K = 1
        · subst hK1
          have HNX : Hid (res = .stop 1 0 k out) := Lib.hid (HRUN.out.symm.trans (run_stop HST.out (by rw [stepL_1, if_neg hk])))
          go_wp2_with fail
          go_region
          go_wp2_with fail
          refine bodyPost_ret (v := .tuple #[u7, .int .i64 (k : Int), .agg #[.int .i64 1, .int .i64 x.no, .int .i64 0]]) (by simp [results, Try.results23, go_sem, f0, f1, f2, HE.out]) rfl (HR.out.stop HNX.out (by first | rfl | omega) (by first | rfl | omega) (by repeat (first | exact Near.refl _ _ | refine Near.trans ?_ (near_drew _ _) | refine Near.trans ?_ (near_drewN _ _ _) | refine Near.trans ?_ (near_alloc _ _ _) | refine Near.trans ?_ (near_setCell _ _ _ rfl))))
        by_cases hK2 : K = 2
        · subst hK2
          have HNX : Hid (runL x (L.drop (q + 1)) k (out ++ [[110, 111]]) = res) := Lib.hid ((run_go HST.out (by rw [stepL_2, if_neg (fun h => hk h.1)])).symm.trans HRUN.out)
          go_wp2_with fail
          go_quiet (fail)
          go_wp2_with (at_builtin; refine wpList_app _ rfl _ _ 22 rfl (w.heap.size + 2) 9 i0 (.string ByteArray.empty) 16 Try.underlying22 HI0.out HZ0.out HZ1.out HZ2.out rfl u7 out.length (strVals out) rfl (HR.out.ownAt (by repeat (first | exact Near.refl _ _ | refine Near.trans ?_ (near_drew _ _) | refine Near.trans ?_ (near_drewN _ _ _) | refine Near.trans ?_ (near_alloc _ _ _) | refine Near.trans ?_ (near_setCell _ _ _ rfl)))) (.slice (some ⟨wr.heap.size + 1, 0, none⟩) 1 1) (strVals [[110, 111]]) rfl (fresh_row _ _ _ _ (by simp)) (strVals_one _) (play_b1 HR.out.len hL hq) (play_b2 HR.out.len hL hq) (HR.out.base (by repeat (first | exact Near.refl _ _ | refine Near.trans ?_ (near_drew _ _) | refine Near.trans ?_ (near_drewN _ _ _) | refine Near.trans ?_ (near_alloc _ _ _) | refine Near.trans ?_ (near_setCell _ _ _ rfl)))) ?_)
          intro v' w2 hap
          have HNR := Lib.hid (HR.out.next (by repeat (first | exact Near.refl _ _ | refine Near.trans ?_ (near_drew _ _) | refine Near.trans ?_ (near_drewN _ _ _) | refine Near.trans ?_ (near_alloc _ _ _) | refine Near.trans ?_ (near_setCell _ _ _ rfl))) hap (by simp) (k' := k) (by first | omega | exact HR.out.kle))
          clear hap
          go_wp2_with fail
          go_roundw
          case rel => exact ⟨q + 1, k, out ++ [[110, 111]], by go_num, rfl, by omega, HNR.out, HNX.out⟩
          case measure => simp [intOf]; omega
        by_cases hK3 : K = 3
        · subst hK3
          have HNX : Hid (res = .stop 1 0 k out) := Lib.hid (HRUN.out.symm.trans (run_stop HST.out (by rw [stepL_3, if_neg hk])))
          go_wp2_with fail
          go_region
          go_wp2_with fail
          refine bodyPost_ret (v := .tuple #[u7, .int .i64 (k : Int), .agg #[.int .i64 1, .int .i64 x.no, .int .i64 0]]) (by simp [results, Try.results23, go_sem, f0, f1, f2, HE.out]) rfl (HR.out.stop HNX.out (by first | rfl | omega) (by first | rfl | omega) (by repeat (first | exact Near.refl _ _ | refine Near.trans ?_ (near_drew _ _) | refine Near.trans ?_ (near_drewN _ _ _) | refine Near.trans ?_ (near_alloc _ _ _) | refine Near.trans ?_ (near_setCell _ _ _ rfl))))
        by_cases hK5 : K = 5
        · subst hK5
          have HNX : Hid (runL x (L.drop (q + 1)) (k) (out ++ [[101, 110, 100]]) = res) := Lib.hid ((run_go HST.out (by rw [stepL_5, if_neg hk])).symm.trans HRUN.out)
          go_wp2_with (at_builtin; refine wpList_app _ rfl _ _ 22 rfl (w.heap.size + 2) 9 i0 (.string ByteArray.empty) 16 Try.underlying22 HI0.out HZ0.out HZ1.out HZ2.out rfl u7 out.length (strVals out) rfl (HR.out.ownAt (by repeat (first | exact Near.refl _ _ | refine Near.trans ?_ (near_drew _ _) | refine Near.trans ?_ (near_drewN _ _ _) | refine Near.trans ?_ (near_alloc _ _ _) | refine Near.trans ?_ (near_setCell _ _ _ rfl)))) (.slice (some ⟨wr.heap.size + 1, 0, none⟩) 1 1) (strVals [[101, 110, 100]]) rfl (fresh_row _ _ _ _ (by simp)) (strVals_one _) (play_b1 HR.out.len hL hq) (play_b2 HR.out.len hL hq) (HR.out.base (by repeat (first | exact Near.refl _ _ | refine Near.trans ?_ (near_drew _ _) | refine Near.trans ?_ (near_drewN _ _ _) | refine Near.trans ?_ (near_alloc _ _ _) | refine Near.trans ?_ (near_setCell _ _ _ rfl)))) ?_)
          intro v' w2 hap
          have HNR := Lib.hid (HR.out.next (by repeat (first | exact Near.refl _ _ | refine Near.trans ?_ (near_drew _ _) | refine Near.trans ?_ (near_drewN _ _ _) | refine Near.trans ?_ (near_alloc _ _ _) | refine Near.trans ?_ (near_setCell _ _ _ rfl))) hap (by simp) (k' := k) (by first | omega | exact HR.out.kle))
          clear hap
          go_wp2_with fail
          go_roundw
          case rel => exact ⟨q + 1, k, out ++ [[101, 110, 100]], by go_num, rfl, by omega, HNR.out, HNX.out⟩
          case measure => simp [intOf]; omega
        by_cases hK6 : K = 6
        · subst hK6
          have HNX : Hid (res = .stop 1 0 k out) := Lib.hid (HRUN.out.symm.trans (run_stop HST.out (by rw [stepL_6, if_neg hk])))
          go_wp2_with fail
          go_region
          go_wp2_with fail
          refine bodyPost_ret (v := .tuple #[u7, .int .i64 (k : Int), .agg #[.int .i64 1, .int .i64 x.no, .int .i64 0]]) (by simp [results, Try.results23, go_sem, f0, f1, f2, HE.out]) rfl (HR.out.stop HNX.out (by first | rfl | omega) (by first | rfl | omega) (by repeat (first | exact Near.refl _ _ | refine Near.trans ?_ (near_drew _ _) | refine Near.trans ?_ (near_drewN _ _ _) | refine Near.trans ?_ (near_alloc _ _ _) | refine Near.trans ?_ (near_setCell _ _ _ rfl))))
        · have HK6 := Lib.hid hK6
          have HNX : Hid (runL x (L.drop (q + 1)) k (out ++ []) = res) := Lib.hid ((run_go HST.out (by rw [stepL_0 hK1 hK2 hK3 hK4 hK5 hK6])).symm.trans HRUN.out)
          have b1 : (K == 1) = false := by simpa using hK1
          have b2 : (K == 2) = false := by simpa using hK2
          have b3 : (K == 3) = false := by simpa using hK3
          have b4 : (K == 4) = false := by simpa using hK4
          have b5 : (K == 5) = false := by simpa using hK5
          have b6 : (K == 6) = false := by simpa using hK6
          have HNR := Lib.hid (HR.out.same HBA.out)
          clear hK1 hK2 hK3 hK4 hK5 hK6
          go_wp2_with fail
          go_roundw
          case rel => exact ⟨q + 1, k, out, by go_num, rfl, by omega, HNR.out, by have := HNX.out; rwa [List.append_nil] at this⟩
          case measure => simp [intOf]; omega
    · have hdq : decide (q < L.length) = false := decide_eq_false hlt
      obtain rfl : q = L.length := by omega
      by_cases hk : k < x.ws.length
      · have hdk : decide (k < x.ws.length) = true := decide_eq_true hk
        have k1 : (k : Int) < (x.ws.length : Int) := by omega
        have k2 : (k : Int) < (x.cs.length : Int) := by have := HLEN.out; omega
        obtain ⟨bc, oc2, hca, hbc2, hcc⟩ := valRow_cells HC.out k (by rw [natVals_length]; have := HLEN.out; omega)
        subst hca
        have cc0 := (HR.out.be.cell (p := ⟨bc, oc2 + k, none⟩) hbc2).trans (hcc k (by rw [natVals_length]; have := HLEN.out; omega))
        have hbn : bc ≠ w.heap.size + 1 := by omega
        have hbn2 : ¬ w.heap.size + 1 = bc := by omega
        rw [natVals_get _ _ (by have := HLEN.out; omega)] at cc0
        obtain ⟨col, hcol⟩ : ∃ col, x.cs.getD k 0 = col := ⟨_, rfl⟩
        have HCOL : Hid (colAt x (k + 1) = col) := Lib.hid (by rw [← hcol]; unfold colAt; rw [if_pos (by have := HLEN.out; omega)]; rfl)
        rw [hcol] at cc0
        clear hcc hcol
        have HNX : Hid (res = .done k out) := Lib.hid (HRUN.out.symm.trans (runL_end x L k out))
        have HLT := Lib.hid hlt
        clear hlt
        go_wp2_with fail
        go_region_held3 (fun w' => w'.cell? ⟨w.heap.size, 0, none⟩ = some (.int .i64 x.no) ∧ w'.cell? ⟨w.heap.size, 2, none⟩ = some (.slice (some ⟨bc, oc2, none⟩) x.cs.length cc) ∧ w'.cell? ⟨bc, oc2 + k, none⟩ = some (.int .i64 col)) (go_keep) (fail)
        go_wp2_with fail
        refine bodyPost_ret (v := .tuple #[u7, .int .i64 (k : Int), .agg #[.int .i64 1, .int .i64 x.no, .int .i64 col]]) (by simp [results, Try.results23, go_sem, f0, f1, f2]) rfl (HR.out.fin1 HNX.out hk HCOL.out (by repeat (first | exact Near.refl _ _ | refine Near.trans ?_ (near_drew _ _) | refine Near.trans ?_ (near_drewN _ _ _) | refine Near.trans ?_ (near_alloc _ _ _) | refine Near.trans ?_ (near_setCell _ _ _ rfl))))
      · have hdk : decide (k < x.ws.length) = false := decide_eq_false hk
        have HNX : Hid (res = .done k out) := Lib.hid (HRUN.out.symm.trans (runL_end x L k out))
        have HLT := Lib.hid hlt
        clear hlt
        go_wp2_with fail
        refine bodyPost_ret (v := .tuple #[u7, .int .i64 (k : Int), .agg #[.int .i64 0, .int .i64 0, .int .i64 0]]) (by simp [results, Try.results23, go_sem, f0, f1, f2]) rfl (HR.out.fin0 HNX.out hk (by repeat (first | exact Near.refl _ _ | refine Near.trans ?_ (near_drew _ _) | refine Near.trans ?_ (near_drewN _ _ _) | refine Near.trans ?_ (near_alloc _ _ _) | refine Near.trans ?_ (near_setCell _ _ _ rfl))))
end Go.Proofs.Ytfhicmjfifpjkaa
