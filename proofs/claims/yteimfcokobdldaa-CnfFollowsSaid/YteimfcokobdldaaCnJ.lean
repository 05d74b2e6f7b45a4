/- The walk of Spread. -/
import Derived.Test.YteimfcokobdldaaCnI
import Derived.Deep.LoopGhost
namespace Go.Proofs.Yteimfcokobdldaa
open Go.RowKit
set_option linter.unusedVariables false
def SpreadPost (w : World) (n : Nat) (res : Option (List Int)) (e : Ending) (w' : World) : Prop :=
  (res = none ∧ e = .returned (.tuple #[.slice none 0 0, .bool true]) ∧ Below w.heap.size w w') ∨
  ∃ V v, res = some V ∧ e = .returned (.tuple #[v, .bool false]) ∧ ValRow w' v (intVals (outTo V n)) ∧ Below w.heap.size w w'
structure SpAt (w : World) (b n : Nat) (va : Option Addr) (vc : Nat) (LL : List (List Int)) (V : List Int) (wr : World) : Prop where
  be : Below w.heap.size w wr
  vals : ValsAt wr b V
  len : V.length = n + 1
  hb : w.heap.size < b
  f : VarAt wr w.heap.size [.int .i64 n, .slice va LL.length vc]
theorem VarAt.nearF {w w' : World} {b : Nat} {vs : List Value} {F : Nat → Prop} (h : VarAt w b vs) (hN : Near F w w') (hb : ¬ F b) : VarAt w' b vs := by
  have e := hN.block b h.lt hb
  exact ⟨Nat.lt_of_lt_of_le h.lt hN.size, fun i hi => by rw [World.cell?_of_block (w := w) (a := ⟨b, i, none⟩) e]; exact h.cell i hi, fun i => by rw [World.frozen?_of_block (w := w) (a := ⟨b, i, none⟩) e]; exact h.free i⟩
theorem SpAt.set {w : World} {b n : Nat} {va : Option Addr} {vc : Nat} {LL : List (List Int)} {V : List Int} {wr w' : World} (h : SpAt w b n va vc LL V wr) (x : Int) (hv : ValsAt w' b (setV V x)) (hN : Near (fun k => k = b) wr w') : SpAt w b n va vc LL (setV V x) w' :=
  ⟨h.be.trans (hN.below h.be.size (fun k e => by have := h.hb; omega)), hv, by rw [setV_length]; exact h.len, h.hb, h.f.nearF hN (by have := h.hb; omega)⟩
theorem checkClause_yes (a : Option Addr) (cap : Nat) (c : List Int) (n : Int) (w : World) (h : ValRow w (.slice a c.length cap) (intVals c)) (hn : n ≤ 9223372036854775807) (hv : Hid (okC (max n 0) c = true)) :
    Calls Try.prog 14 #[.slice a c.length cap, .int .i64 n] w fun e w' => e = .returned (.int .i64 0) ∧ w = w' := checkClause_any a cap c n w h hn true hv
theorem okC_mem {n : Int} {c : List Int} (h : okC n c = true) {x : Int} (hx : x ∈ c) : x ≠ 0 ∧ -n ≤ x ∧ x ≤ n := by
  have := List.all_eq_true.1 h x hx
  simp only [fitB, Bool.and_eq_true, Bool.not_eq_true', beq_eq_false_iff_ne, decide_eq_true_eq] at this
  exact ⟨this.1.1, this.1.2, this.2⟩
theorem chkF_ok {n : Int} {LL : List (List Int)} (h : chkF n LL = 0) : 0 ≤ n ∧ n ≤ 400 ∧ LL.length ≤ 8000 ∧ ∀ c ∈ LL, okC n c = true := by
  unfold chkF at h
  split at h
  · omega
  · split at h
    · omega
    · split at h
      · rename_i h1 h2 h3
        exact ⟨by omega, by omega, by omega, fun c hc => List.all_eq_true.1 h3 c hc⟩
      · omega
theorem litsV_end (lits V : List Int) : litsV (lits.drop lits.length) V = some V := by rw [List.drop_length]; rfl
theorem passV_end (LL : List (List Int)) (V : List Int) (ag : Bool) : passV (LL.drop LL.length) V ag = some (V, ag) := by rw [List.drop_length]; rfl
theorem spread_none {n : Nat} {LL : List (List Int)} {lits : List Int} {res : Option (List Int)} (h : spreadV n LL lits = res) (hl : litsV lits (List.replicate (n + 1) 0) = none) : res = none := by
  unfold spreadV at h; rw [hl] at h; exact h.symm
theorem spread_some {n : Nat} {LL : List (List Int)} {lits V : List Int} {res : Option (List Int)} (h : spreadV n LL lits = res) (hl : litsV lits (List.replicate (n + 1) 0) = some V) : loopV LL (n + 3) V = res := by
  unfold spreadV at h; rw [hl] at h; exact h
theorem loop_at {LL : List (List Int)} {g : Nat} {V : List Int} {res : Option (List Int)} (h : loopV LL (g + 1) V = res) : (passV LL V false = none → res = none) ∧ (∀ V', passV LL V false = some (V', false) → res = some V') ∧ (∀ V', passV LL V false = some (V', true) → loopV LL g V' = res) := by
  unfold loopV at h
  refine ⟨fun h1 => ?_, fun V' h1 => ?_, fun V' h1 => ?_⟩
  · rw [h1] at h; exact h.symm
  · rw [h1] at h; exact h.symm
  · rw [h1] at h; exact h
theorem fresh_row (w : World) (u : Value) (T : TypeId) (g : Nat) (hg : g = w.heap.size) : ValRow (w.alloc (.cells #[u] T)) (.slice (some ⟨g, 0, none⟩) 1 1) [u] := by
  subst hg
  refine .inr ⟨w.heap.size, 0, 1, rfl, by simp, by unfold maxLen; decide, by simp, fun i hi => ?_⟩
  have : i = 0 := by simpa using hi
  subst this
  exact (varAt_new w #[u] T _ rfl).cell 0 (by simp)
theorem infoI : (Try.prog.info? 3).map (fun i => (i.zero, i.size, i.bytes)) = some (some (.int .i64 0), 1, 8) := by kernel_rfl
theorem outTo_len (V : List Int) : ∀ m, (outTo V m).length ≤ m := by
  intro m
  induction m with
  | zero => simp [outTo]
  | succ m ih =>
    unfold outTo
    rw [List.length_append]
    split
    · simp; omega
    · simp; omega
/-- the last loop: what is told so far -/
structure SpOut (w : World) (b n : Nat) (va : Option Addr) (vc : Nat) (LL : List (List Int)) (V : List Int) (m : Nat) (v : Value) (wr : World) : Prop where
  sp : SpAt w b n va vc LL V wr
  own : wr.ownsRow (b + 1) 3 1 v (outTo V m).length (intVals (outTo V m))
theorem SpOut.next {w : World} {b n : Nat} {va : Option Addr} {vc : Nat} {LL : List (List Int)} {V : List Int} {m : Nat} {v v' : Value} {wr w1 w2 : World} {y : Int} (h : SpOut w b n va vc LL V m v wr) (hb : Below wr.heap.size wr w1)
    (ha : Appd w1 w2 (b + 1) 3 v v' (outTo V m).length (intVals (outTo V m)) (intVals [y])) (hy : outTo V (m + 1) = outTo V m ++ [y]) : SpOut w b n va vc LL V (m + 1) v' w2 := by
  have hge := fun g e => (row_block (ownsRow_below h.own hb) (g := g) e).1
  have hN : Near (fun k => v.ownBlock = some k) w1 w2 := near_of_grown ha.grow (fun k e => e)
  have hlt := h.sp.vals.var.lt
  have hfl := h.sp.f.lt
  have h1 := h.sp.hb
  have hz := hb.size
  have hz0 := h.sp.be.size
  refine ⟨⟨(h.sp.be.trans (hb.mono hz0)).trans ((below_of_grown ha.grow (B := b + 1) (by omega) (fun g e => hge g e)).mono (by omega)), ⟨(h.sp.vals.var.after hb).nearF hN (fun e => by have := hge _ e; omega), h.sp.vals.small⟩, h.sp.len, h.sp.hb, (h.sp.f.after hb).nearF hN (fun e => by have := hge _ e; omega)⟩, ?_⟩
  have := ha.own
  rw [intVals_length] at this
  rw [hy, intVals_app, List.length_append]
  exact this
set_option maxRecDepth 100000 in
set_option maxHeartbeats 3200000 in
theorem spread_any (n : Nat) (va : Option Addr) (vc : Nat) (LL : List (List Int)) (a : Option Addr) (cap : Nat) (lits : List Int) (w : World) (hL : RowOf 1 IntsC w (.slice va LL.length vc) LL) (h : ValRow w (.slice a lits.length cap) (intVals lits)) (hF : Hid (chkF n LL = 0)) (hlit : Hid (okC n lits = true)) (res : Option (List Int)) (hres : Hid (spreadV n LL lits = res)) :
    Calls Try.prog 30 #[.agg #[.int .i64 n, .slice va LL.length vc], .slice a lits.length cap] w (SpreadPost w n res) := by
  have hok := chkF_ok hF.out
  have hn4 : n ≤ 400 := by omega
  have HOK := Lib.hid hok.2.2.2
  have hl8 := hok.2.2.1
  have hll := h.len
  rw [intVals_length] at hll
  unfold maxLen at hll
  have hmk := mk_vals n hn4
  have hm0 : Hid (okC (max (n : Int) 0) lits = true) := Lib.hid (by rw [show max (n : Int) 0 = (n : Int) from by omega]; exact hlit.out)
  have hb0 : Below w.heap.size w (w.alloc (.cells #[.int .i64 n, .slice va LL.length vc] 26)) := (Below.refl _ _).alloc (Nat.le_refl _) _
  have HB0 := Lib.hid hb0
  have HL := Lib.hid hL
  have H := Lib.hid h
  clear hok hL h hb0
  go_enter Try.func30, Try.ntmps30
  go_wp2_with fail
  refine (check_any va vc LL n _ (HL.out.below intsC_lasts HB0.out) (by omega) 0 hF).mono ?_
  rintro e w1 ⟨rfl, hb1⟩
  have HB1 := Lib.hid (HB0.out.trans (hb1.mono HB0.out.size))
  have hf1 := (varAt_new w #[.int .i64 n, .slice va LL.length vc] 26 _ rfl).after hb1
  have f0 := hf1.get 0 rfl
  have HF1 := Lib.hid hf1
  clear hb1 hf1
  go_wp2_with fail
  refine (checkClause_yes a cap lits n _ (H.out.below HB1.out) (by omega) hm0).mono ?_
  rintro e w2 ⟨rfl, rfl⟩
  go_wp2_with fail
  obtain ⟨b, hb⟩ : ∃ b, w1.heap.size = b := ⟨_, rfl⟩
  have HS0 : Hid (SpAt w b n va vc LL (List.replicate (n + 1) 0) (w1.alloc (.cells (i8Vals (List.replicate (n + 1) 0)).toArray 63))) := Lib.hid (by
    rw [← hb]
    exact ⟨HB1.out.alloc HB1.out.size _, newVals w1 n, by simp, HF1.out.lt, HF1.out.alloc _⟩)
  rw [hb]
  clear hb f0 hmk
  obtain ⟨rl, hrl⟩ : ∃ rl, litsV lits (List.replicate (n + 1) 0) = rl := ⟨_, rfl⟩
  have HRL := Lib.hid hrl
  clear hrl
  go_loopw [32] (fun i wr => ∃ (k : Nat) (V : List Int), i = .int .i64 k ∧ k ≤ lits.length ∧ SpAt w b n va vc LL V wr ∧ litsV (lits.drop k) V = rl) (fun i _ => lits.length - (intOf i).toNat)
  case atStart => exact ⟨0, _, rfl, Nat.zero_le _, HS0.out, HRL.out⟩
  case round =>
    obtain ⟨k, V, rfl, hk, hS, hlv⟩ := hrel
    have HS := Lib.hid hS
    have HLV := Lib.hid hlv
    clear hS hlv HS0
    have k0 : (0 : Int) ≤ (k : Int) := by omega
    by_cases hlt : k < lits.length
    · have k1 : (k : Int) < (lits.length : Int) := by omega
      have hdk : decide (k < lits.length) = true := decide_eq_true hlt
      obtain ⟨b2, off, rfl, _, hcx⟩ := int_at (H.out.below HS.out.be) k hlt
      have e : lits.getD k 0 = lits[k] := by simp [hlt]
      have HMEM := List.getElem_mem hlt
      have HAT := Lib.hid (litsV_at lits V k hlt)
      rw [HLV.out] at HAT
      rw [← e] at HMEM
      have HOX := Lib.hid (okC_mem hlit.out HMEM)
      clear e HMEM
      obtain ⟨x, hxx⟩ : ∃ x, lits.getD k 0 = x := ⟨_, rfl⟩
      rw [hxx] at hcx HAT HOX
      clear hxx
      have HX0 := Lib.hid HOX.out.1
      have hxn : x.natAbs < n + 1 := by have := HOX.out; omega
      have hxr1 : -1000000 ≤ x := by omega
      have hxr2 : x ≤ 1000000 := by omega
      have hsm := ofV_small HS.out.vals x
      obtain ⟨v, hv⟩ : ∃ v, ofV V x = v := ⟨_, rfl⟩
      rw [hv] at hsm HAT
      have HOV := Lib.hid hv
      clear hv
      by_cases hneg : v < 0
      · have hd : decide (v < 0) = true := decide_eq_true hneg
        have HR : Hid (res = none) := Lib.hid (spread_none hres.out (by rw [HRL.out, HAT.out, if_pos hneg]))
        go_wp2_with fail
        refine (of_any b (n + 1) V x _ HS.out.vals HS.out.len HX0.out hxn (by omega) v HOV).mono ?_
        rintro e w3 ⟨rfl, rfl⟩
        go_wp2_with fail
        go_ret2
        exact .inl ⟨HR.out, rfl, HS.out.be⟩
      · have hd : decide (v < 0) = false := decide_eq_false hneg
        have HNX : Hid (litsV (lits.drop (k + 1)) (setV V x) = rl) := Lib.hid (by have := HAT.out; rw [if_neg hneg] at this; exact this.symm)
        go_wp2_with fail
        refine (of_any b (n + 1) V x _ HS.out.vals HS.out.len HX0.out hxn (by omega) v HOV).mono ?_
        rintro e w3 ⟨rfl, rfl⟩
        go_wp2_with fail
        refine (set_any b (n + 1) V x _ HS.out.vals HS.out.len HX0.out hxn (by omega)).mono ?_
        rintro e w4 ⟨rfl, hv4, hn4'⟩
        have HS4 := Lib.hid (HS.out.set x hv4 hn4')
        clear hv4 hn4'
        go_wp2_with fail
        go_roundw
        case rel => exact ⟨k + 1, setV V x, by go_num, by omega, HS4.out, HNX.out⟩
        case measure => simp [intOf]; omega
    · have hdk : decide (k < lits.length) = false := decide_eq_false hlt
      have HLP : Hid (loopV LL (n + 3) V = res) := Lib.hid (spread_some hres.out (by rw [HRL.out, ← HLV.out, show k = lits.length from by omega, litsV_end]))
      have HLT := Lib.hid hlt
      clear hlt
      obtain ⟨wo, hwo⟩ : ∃ wo : World, wr = wo := ⟨_, rfl⟩
      subst hwo
      go_wp2_with fail
      go_loopg [9] (n + 3) (fun gk ag wz => ∃ (V : List Int) (g : Bool), ag = .bool g ∧ SpAt w b n va vc LL V wz ∧ (g = true → loopV LL gk V = res ∧ zeros V < gk) ∧ (g = false → res = some V))
      case atStart => exact ⟨V, true, rfl, HS.out, fun _ => ⟨HLP.out, by have := zeros_le V; have := HS.out.len; omega⟩, fun h => by cases h⟩
      case round =>
        rename_i wz
        obtain ⟨V1, g, rfl, hS1, hT, hFl⟩ := hrel
        have HS1 := Lib.hid hS1
        have HT := Lib.hid hT
        have HFL := Lib.hid hFl
        clear hS1 hT hFl
        cases g with
        | true =>
          obtain ⟨h1, h2⟩ := HT.out rfl
          obtain ⟨q, hq⟩ : ∃ q, gk = q + 1 := ⟨gk - 1, by omega⟩
          have HLOOP := Lib.hid (loop_at (LL := LL) (g := q) (V := V1) (res := res) (by rw [← hq]; exact h1))
          have HQ := Lib.hid hq
          have hz1 : zeros V1 ≤ q := by omega
          have c1 := HS1.out.f.get 1 rfl
          obtain ⟨P, hP⟩ : ∃ P, passV LL V1 false = P := ⟨_, rfl⟩
          rw [hP] at HLOOP
          have HP := Lib.hid hP
          clear h1 h2 hq hP
          go_wp2_with fail
          go_loopw [9, 48] (fun ag i wy => ∃ (j : Nat) (V2 : List Int) (g2 : Bool), i = .int .i64 j ∧ ag = .bool g2 ∧ j ≤ LL.length ∧ SpAt w b n va vc LL V2 wy ∧ passV (LL.drop j) V2 g2 = P ∧ zeros V2 ≤ zeros V1 ∧ (g2 = true → zeros V2 < zeros V1)) (fun _ i _ => LL.length - (intOf i).toNat)
          case atStart => exact ⟨0, V1, false, rfl, rfl, Nat.zero_le _, HS1.out, HP.out, Nat.le_refl _, fun h => by cases h⟩
          case round =>
            rename_i wy
            obtain ⟨j, V2, g2, rfl, rfl, hj, hS2, hpv, hz2, hz3⟩ := hrel
            have HS2 := Lib.hid hS2
            have HPV := Lib.hid hpv
            have HZ3 := Lib.hid hz3
            clear hS2 hpv hz3 c1
            have j0 : (0 : Int) ≤ (j : Int) := by omega
            by_cases hjt : j < LL.length
            · have j1 : (j : Int) < (LL.length : Int) := by omega
              have hdj : decide (j < LL.length) = true := decide_eq_true hjt
              obtain ⟨b3, off3, ra, rc, rfl, _, hcc, hrw, _⟩ := ints_row (HL.out.below intsC_lasts HS2.out.be) j hjt
              have e : LL.getD j [] = LL[j] := by simp [hjt]
              have HMEM := List.getElem_mem hjt
              have HAT := Lib.hid (passV_at LL V2 g2 j hjt)
              rw [HPV.out] at HAT
              rw [← e] at HMEM
              have HOC := Lib.hid (HOK.out _ HMEM)
              clear e HMEM
              obtain ⟨c, hce⟩ : ∃ c, LL.getD j [] = c := ⟨_, rfl⟩
              rw [hce] at hcc hrw HAT HOC
              have HRW := Lib.hid hrw
              have HLC : Hid (∀ x ∈ c, x ≠ 0 ∧ x.natAbs < n + 1) := Lib.hid (fun x hx => by have := okC_mem HOC.out hx; omega)
              have HOP := Lib.hid (unitL_open V2 c 0 (fun h => absurd rfl h))
              clear hrw hce
              obtain ⟨⟨x, ok⟩, hr⟩ : ∃ r, unitL V2 c 0 = r := ⟨_, rfl⟩
              rw [hr] at HAT HOP
              have HU := Lib.hid hr
              clear hr
              cases ok with
              | false =>
                have HR : Hid (res = none) := Lib.hid (HLOOP.out.1 (by have := HAT.out; rwa [if_pos rfl] at this))
                go_wp2_with fail
                refine (unit_any b (n + 1) V2 ra rc c _ HS2.out.vals HS2.out.len (by omega) HRW.out HLC.out _ HU).mono ?_
                rintro e w3 ⟨rfl, rfl⟩
                go_wp2_with fail
                go_ret2
                exact .inl ⟨HR.out, rfl, HS2.out.be⟩
              | true =>
                by_cases hx0 : x = 0
                · have d1 := inf hx0
                  have HNX : Hid (passV (LL.drop (j + 1)) V2 g2 = P) := Lib.hid (by have := HAT.out; rw [if_neg (by simp), if_pos hx0] at this; exact this.symm)
                  clear hx0
                  go_wp2_with fail
                  refine (unit_any b (n + 1) V2 ra rc c _ HS2.out.vals HS2.out.len (by omega) HRW.out HLC.out _ HU).mono ?_
                  rintro e w3 ⟨rfl, rfl⟩
                  go_wp2_with fail
                  go_roundw
                  case rel => exact ⟨j + 1, V2, g2, by go_num, rfl, by omega, HS2.out, HNX.out, hz2, HZ3.out⟩
                  case measure => simp [intOf]; omega
                · have d1 := ine hx0
                  have HNX : Hid (passV (LL.drop (j + 1)) (setV V2 x) true = P) := Lib.hid (by have := HAT.out; rw [if_neg (by simp), if_neg hx0] at this; exact this.symm)
                  obtain ⟨ho1, ho2⟩ := HOP.out hx0
                  have hxc : x ∈ c := ho2.resolve_left hx0
                  have hxn : x.natAbs < n + 1 := (HLC.out x hxc).2
                  have hzz := zeros_setV V2 x (by rw [HS2.out.len]; exact hxn) ho1
                  have HX0 := Lib.hid hx0
                  clear ho1 ho2 hxc hx0
                  go_wp2_with fail
                  refine (unit_any b (n + 1) V2 ra rc c _ HS2.out.vals HS2.out.len (by omega) HRW.out HLC.out _ HU).mono ?_
                  rintro e w3 ⟨rfl, rfl⟩
                  go_wp2_with fail
                  refine (set_any b (n + 1) V2 x _ HS2.out.vals HS2.out.len HX0.out hxn (by omega)).mono ?_
                  rintro e w4 ⟨rfl, hv4, hn4'⟩
                  have HS4 := Lib.hid (HS2.out.set x hv4 hn4')
                  clear hv4 hn4'
                  go_wp2_with fail
                  go_roundw
                  case rel => exact ⟨j + 1, setV V2 x, true, by go_num, rfl, by omega, HS4.out, HNX.out, by omega, fun _ => by omega⟩
                  case measure => simp [intOf]; omega
            · have hdj : decide (j < LL.length) = false := decide_eq_false hjt
              have HPE : Hid (P = some (V2, g2)) := Lib.hid (by rw [← HPV.out, show j = LL.length from by omega, passV_end])
              have HJT := Lib.hid hjt
              clear hjt
              go_wp2_with fail
              go_roundg q
              case measure => have := HQ.out; omega
              case rel => exact ⟨V2, g2, rfl, HS2.out, fun hg => ⟨HLOOP.out.2.2 V2 (by rw [HPE.out, hg]), by have := HZ3.out hg; omega⟩, fun hg => HLOOP.out.2.1 V2 (by rw [HPE.out, hg])⟩
        | false =>
          have HR : Hid (res = some V1) := Lib.hid (HFL.out rfl)
          have HO0 : Hid (SpOut w b n va vc LL V1 0 (.slice none 0 0) wr) := Lib.hid ⟨HS1.out, by simp [outTo, intVals], .inl ⟨rfl, by simp [outTo]⟩⟩
          obtain ⟨i0, hi0, hz0, hz1, hz2⟩ := info_parts' infoI
          have HI0 := Lib.hid hi0
          have HZ0 := Lib.hid hz0
          have HZ1 := Lib.hid hz1
          have HZ2 := Lib.hid hz2
          clear hi0 hz0 hz1 hz2
          go_wp2_with fail
          go_loopw [14, 15] (fun vo i wy => ∃ m : Nat, i = .int .i64 ((m : Int) + 1) ∧ m ≤ n ∧ SpOut w b n va vc LL V1 m vo wy) (fun _ i _ => n + 1 - (intOf i).toNat)
          case atStart => exact ⟨0, rfl, Nat.zero_le _, HO0.out⟩
          case round =>
            rename_i wy
            obtain ⟨m, rfl, hm, hO⟩ := hrel
            have HO := Lib.hid hO
            have f0 := hO.sp.f.get 0 rfl
            clear hO HO0
            have m0 : (0 : Int) ≤ (m : Int) := by omega
            by_cases hmt : m < n
            · have m1 : (m : Int) + 1 < ((n + 1 : Nat) : Int) := by omega
              have m2 : (m : Int) + 1 ≤ (n : Int) := by omega
              have hdm : decide ((m : Int) + 1 ≤ (n : Int)) = true := decide_eq_true m2
              obtain ⟨cv, hs1, hs2⟩ := HO.out.sp.vals.at_ (m + 1) (by rw [HO.out.sp.len]; omega)
              obtain ⟨u, hu⟩ : ∃ u, V1.getD (m + 1) 0 = u := ⟨_, rfl⟩
              rw [hu] at cv hs1 hs2
              have HU := Lib.hid hu
              clear hu
              have hu3 : u = -1 ∨ u = 0 ∨ u = 1 := by omega
              clear hs1 hs2
              have hol := outTo_len V1 m
              have hbz : b + 1 ≤ wr.heap.size := HO.out.sp.vals.var.lt
              rcases hu3 with rfl | rfl | rfl
              · have HY : Hid (outTo V1 (m + 1) = outTo V1 m ++ [-((m : Int) + 1)]) := Lib.hid (by
                  show outTo V1 m ++ _ = _
                  rw [HU.out, if_neg (by omega), show (((m + 1 : Nat)) : Int) * -1 = -((m : Int) + 1) from by omega])
                go_wp2_with (at_builtin; refine wpList_app _ rfl _ _ 31 rfl (b + 1) 3 i0 (.int .i64 0) 8 Try.underlying31 HI0.out HZ0.out HZ1.out HZ2.out rfl u14 (outTo V1 m).length (intVals (outTo V1 m)) rfl (HO.out.own.alloc _) (.slice (some ⟨wr.heap.size, 0, none⟩) 1 1) (intVals [-((m : Int) + 1)]) rfl (fresh_row _ _ _ _ rfl) (intVals_one _) (by rw [intVals_length]; unfold maxLen; simp; omega) (by rw [intVals_length]; simp; omega) (by simp; omega) ?_)
                intro v' w2 hap
                have HNX := Lib.hid (HO.out.next ((Below.refl _ _).alloc (Nat.le_refl _) _) hap HY.out)
                clear hap
                go_wp2_with fail
                go_roundw
                case rel => exact ⟨m + 1, by go_num, by omega, HNX.out⟩
                case measure => simp [intOf]; omega
              · have HY : Hid (outTo V1 (m + 1) = outTo V1 m) := Lib.hid (by
                  show outTo V1 m ++ _ = _
                  rw [HU.out, if_pos rfl, List.append_nil])
                go_wp2_with fail
                go_roundw
                case rel => exact ⟨m + 1, by go_num, by omega, HO.out.sp, by rw [HY.out]; exact HO.out.own⟩
                case measure => simp [intOf]; omega
              · have HY : Hid (outTo V1 (m + 1) = outTo V1 m ++ [(m : Int) + 1]) := Lib.hid (by
                  show outTo V1 m ++ _ = _
                  rw [HU.out, if_neg (by omega), show (((m + 1 : Nat)) : Int) * 1 = (m : Int) + 1 from by omega])
                go_wp2_with (at_builtin; refine wpList_app _ rfl _ _ 31 rfl (b + 1) 3 i0 (.int .i64 0) 8 Try.underlying31 HI0.out HZ0.out HZ1.out HZ2.out rfl u14 (outTo V1 m).length (intVals (outTo V1 m)) rfl (HO.out.own.alloc _) (.slice (some ⟨wr.heap.size, 0, none⟩) 1 1) (intVals [(m : Int) + 1]) rfl (fresh_row _ _ _ _ rfl) (intVals_one _) (by rw [intVals_length]; unfold maxLen; simp; omega) (by rw [intVals_length]; simp; omega) (by simp; omega) ?_)
                intro v' w2 hap
                have HNX := Lib.hid (HO.out.next ((Below.refl _ _).alloc (Nat.le_refl _) _) hap HY.out)
                clear hap
                go_wp2_with fail
                go_roundw
                case rel => exact ⟨m + 1, by go_num, by omega, HNX.out⟩
                case measure => simp [intOf]; omega
            · have hdm : decide ((m : Int) + 1 ≤ (n : Int)) = false := decide_eq_false (by omega)
              have HMN : Hid (m = n) := Lib.hid (by omega)
              have HMT := Lib.hid hmt
              clear hmt
              go_wp2_with fail
              go_ret2
              exact .inr ⟨V1, _, HR.out, rfl, by rw [← HMN.out]; exact valRow_own HO.out.own, HO.out.sp.be⟩
end Go.Proofs.Yteimfcokobdldaa
