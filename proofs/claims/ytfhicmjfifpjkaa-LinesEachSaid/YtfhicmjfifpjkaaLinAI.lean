/- The walk of LinesEach. -/
import Derived.Test.YtfhicmjfifpjkaaLinAH
namespace Go.Proofs.Ytfhicmjfifpjkaa
open Go.RowKit
set_option linter.unusedVariables false
/-- at the head of the law's loop: so many lines are done, or one was stopped -/
structure ELoop (L : List OpD) (X : List LineD) (RES : EachRes) (Wb wr : World) (k : Nat) (out : List (List UInt8)) (last : Int) (f : Int × Int × Int) (v : Value) : Prop where
  be : Below Wb.heap.size Wb wr
  vg : VarAt wr Wb.heap.size [.int .i64 f.1, .int .i64 f.2.1, .int .i64 f.2.2]
  own : wr.ownsRow (Wb.heap.size + 1) 9 1 v out.length (strVals out)
  len : out.length ≤ 30 * k
  st : (f = (0, 0, 0) ∧ eachL L (X.drop k) out last = RES) ∨ (f.2.1 ≠ 0 ∧ RES = (out, last, f))
/-- behind the call of play: the world, the fault's variable, what is told -/
structure EQ (x : LineD) (rr : RunR) (wr wq : World) (Hh : Nat) (wt : Value) : Prop where
  be : Below wr.heap.size wr wq
  hh : wr.heap.size ≤ Hh
  vh : VarAt wq Hh [.int .i64 (endF x rr).1, .int .i64 (endF x rr).2.1, .int .i64 (endF x rr).2.2]
  wt : ValRow wq wt (strVals rr.out)
theorem eq_alloc {x : LineD} {rr : RunR} {wr wP : World} {wt : Value} {T : TypeId} (h : Below wr.heap.size wr wP) (hw : ValRow wP wt (strVals rr.out)) :
    EQ x rr wr (wP.alloc (.cells #[.int .i64 (endF x rr).1, .int .i64 (endF x rr).2.1, .int .i64 (endF x rr).2.2] T)) wP.heap.size wt :=
  ⟨h.alloc h.size _, h.size, varAt_new wP #[.int .i64 (endF x rr).1, .int .i64 (endF x rr).2.1, .int .i64 (endF x rr).2.2] T _ rfl, hw.below ((Below.refl _ _).alloc (Nat.le_refl _) _)⟩
theorem eq_set {x : LineD} {rr : RunR} {wr wP : World} {wt : Value} {a b c : Int} (h : Below wr.heap.size wr wP) (hw : ValRow wP wt (strVals rr.out)) (hv : VarAt wP wr.heap.size [.int .i64 a, .int .i64 b, .int .i64 c]) :
    EQ x rr wr (((wP.setCell ⟨wr.heap.size, 0, none⟩ (.int .i64 (endF x rr).1)).setCell ⟨wr.heap.size, 1, none⟩ (.int .i64 (endF x rr).2.1)).setCell ⟨wr.heap.size, 2, none⟩ (.int .i64 (endF x rr).2.2)) wr.heap.size wt :=
  ⟨((h.setCell (Nat.le_refl _) _).setCell (Nat.le_refl _) _).setCell (Nat.le_refl _) _, Nat.le_refl _, ((hv.set 0 (by simp) (.int .i64 (endF x rr).1)).set 1 (by simp) (.int .i64 (endF x rr).2.1)).set 2 (by simp) (.int .i64 (endF x rr).2.2), valRow_set3 hw (hv.get 0 rfl) (hv.get 1 rfl) (hv.get 2 rfl)⟩
theorem run_len (x : LineD) : ∀ (L : List OpD) (k : Nat) (out : List (List UInt8)), (runL x L k out).out.length ≤ out.length + L.length := by
  intro L
  induction L with
  | nil => intro k out; exact Nat.le_refl _
  | cons o t ih =>
    intro k out
    unfold runL
    cases hs : stepL x k o with
    | go k' m =>
      have h1 := (step_len.1 k' m hs).1
      have h2 := ih k' (out ++ m)
      rw [List.length_append] at h2
      simp only [List.length_cons]
      omega
    | stop c col k' =>
      show out.length ≤ _
      omega
theorem ELoop.after {L : List OpD} {X : List LineD} {RES : EachRes} {Wb wr wq w3 : World} {k Hh : Nat} {out : List (List UInt8)} {last : Int} {f : Int × Int × Int} {v v' wt : Value} {x : LineD} {rr : RunR} (h : ELoop L X RES Wb wr k out last f v) (hq : EQ x rr wr wq Hh wt)
    (ha : Appd wq w3 (Wb.heap.size + 1) 9 v v' out.length (strVals out) (strVals rr.out)) :
    Below Wb.heap.size Wb w3 ∧ VarAt w3 Hh [.int .i64 (endF x rr).1, .int .i64 (endF x rr).2.1, .int .i64 (endF x rr).2.2] ∧ VarAt w3 Wb.heap.size [.int .i64 f.1, .int .i64 f.2.1, .int .i64 f.2.2] := by
  have hN : Near (fun b => v.ownBlock = some b) wq w3 := near_of_grown ha.grow (fun b e => e)
  have hw := h.vg.lt
  have hb := h.be.size
  have hlt : ∀ b, v.ownBlock = some b → b < wr.heap.size := fun b e => (row_block h.own e).2
  have hge := own_ge h.own
  refine ⟨(h.be.trans (hq.be.mono hb)).trans (below_of_grown ha.grow (by have := hq.be.size; omega) (fun g e => by have := hge g e; omega)), hq.vh.near hN (fun e => by have := hlt _ e; have := hq.hh; omega), (h.vg.after hq.be).near hN (fun e => by have := hge _ e; omega)⟩
theorem ELoop.next {L : List OpD} {X : List LineD} {RES : EachRes} {Wb wr wq w3 : World} {k Hh : Nat} {out : List (List UInt8)} {last : Int} {v v' wt : Value} {x : LineD} {rr : RunR} (h : ELoop L X RES Wb wr k out last (0, 0, 0) v) (hq : EQ x rr wr wq Hh wt)
    (ha : Appd wq w3 (Wb.heap.size + 1) 9 v v' out.length (strVals out) (strVals rr.out)) (hl : rr.out.length ≤ 30) (hno : 1 ≤ x.no) (hel : eachL L (X.drop k) out last = RES)
    (hat : eachL L (X.drop k) out last = if (endF x rr).2.1 = 0 then eachL L (X.drop (k + 1)) (out ++ rr.out) x.no else (out ++ rr.out, (x.no : Int), endF x rr)) :
    ELoop L X RES Wb (((w3.setCell ⟨Wb.heap.size, 0, none⟩ (.int .i64 (endF x rr).1)).setCell ⟨Wb.heap.size, 1, none⟩ (.int .i64 (endF x rr).2.1)).setCell ⟨Wb.heap.size, 2, none⟩ (.int .i64 (endF x rr).2.2)) (k + 1) (out ++ rr.out) x.no (endF x rr) v' := by
  obtain ⟨b3, vh3, vg3⟩ := h.after hq ha
  have hlen := ha.own
  rw [strVals_length] at hlen
  have hge := own_ge hlen
  refine ⟨((b3.setCell (Nat.le_refl _) _).setCell (Nat.le_refl _) _).setCell (Nat.le_refl _) _, ((vg3.set 0 (by simp) (.int .i64 (endF x rr).1)).set 1 (by simp) (.int .i64 (endF x rr).2.1)).set 2 (by simp) (.int .i64 (endF x rr).2.2), ?_, by have := h.len; rw [List.length_append]; omega, ?_⟩
  · rw [strVals_app, List.length_append]
    exact row_set (row_set (row_set hlen (fun e => by have := hge _ e; simp at this; omega) _) (fun e => by have := hge _ e; simp at this; omega) _) (fun e => by have := hge _ e; simp at this; omega) _
  · rw [hel] at hat
    by_cases h0 : (endF x rr).2.1 = 0
    · rw [if_pos h0] at hat
      exact .inl ⟨(endF_zero hno h0).1, hat.symm⟩
    · rw [if_neg h0] at hat
      exact .inr ⟨h0, hat⟩
set_option maxRecDepth 1000000 in
set_option maxHeartbeats 3200000 in
theorem linesEach_list (l : List UInt8) (oa : Option Addr) (oc : Nat) (L : List OpD) (w : World) (hl : l.length ≤ 9223372036854775807) (ho : RowOf 3 OpC w (.slice oa L.length oc) L) :
    Calls Try.prog 7 #[.string ⟨l.toArray⟩, .slice oa L.length oc] w fun e w' => e = .returned (.bool true) ∧ Below w.heap.size w w' := by
  have hmf : ∀ (fn : Fn) (first cap : Array Value) (w : World), (Instr.makeFunc fn first cap).run Try.prog w = .ok (.func fn first cap) w := fun _ _ _ _ => rfl
  have hmx := ho.len
  unfold maxLen at hmx
  have HO := Lib.hid ho
  clear ho
  go_enter Try.func7, Try.ntmps7
  go_wp2_with fail
  refine (lread_any _).mono ?_
  rintro e w1 ⟨rfl, hb1⟩
  have HV3 := Lib.hid ((varAt_new w #[.slice oa L.length oc] 53 _ rfl).after hb1)
  have HB1 := Lib.hid (((Below.refl w.heap.size w).alloc (Nat.le_refl _) (.cells #[.slice oa L.length oc] 53)).trans (hb1.mono (by simp)))
  have hs1 : w.heap.size < w1.heap.size := by have := hb1.size; simp at this; omega
  have co := HV3.out.get 0 rfl
  clear hb1
  by_cases hlen : 2000 < l.length ∨ 30 < L.length
  · by_cases h5 : 2000 < l.length
    case' pos =>
      have hd : decide ((2000 : Int) < (l.length : Int)) = true := decide_eq_true (by omega)
      have hd' : decide (2000 < l.length) = true := decide_eq_true h5
    case' neg =>
      have hd : decide ((2000 : Int) < (l.length : Int)) = false := decide_eq_false (by omega)
      have hd' : decide (2000 < l.length) = false := decide_eq_false h5
      have hd2 : decide ((30 : Int) < (L.length : Int)) = true := decide_eq_true (by omega)
      have hd2' : decide (30 < L.length) = true := decide_eq_true (by omega)
    all_goals
      clear hlen
      go_wp2_with fail
      refine (lread_any _).mono ?_
      rintro e w3 ⟨rfl, hb3⟩
      go_wp2_with fail
      go_ret
      exact ⟨rfl, HB1.out.trans (hb3.mono HB1.out.size)⟩
  · have hd : decide ((2000 : Int) < (l.length : Int)) = false := decide_eq_false (by omega)
    have hd' : decide (2000 < l.length) = false := decide_eq_false (by omega)
    have hd2 : decide ((30 : Int) < (L.length : Int)) = false := decide_eq_false (by omega)
    have hd2' : decide (30 < L.length) = false := decide_eq_false (by omega)
    have hL30 : L.length ≤ 30 := by omega
    clear hlen
    obtain ⟨res, hres⟩ : ∃ res, readTop l = res := ⟨_, rfl⟩
    have HRES := Lib.hid hres
    clear hres
    go_wp2_with fail
    refine (top_read l _ _ HRES (by omega)).mono ?_
    cases res with
    | bad c ln col =>
      rintro e w2 ⟨rfl, hb2⟩
      have hc : ((c : Int) == 0) = false := by have := top_bad HRES.out; rw [beq_eq_false_iff_ne]; omega
      have hb2' := HB1.out.trans (hb2.mono HB1.out.size)
      have hc2 : (c == 0) = false := by have := top_bad HRES.out; rw [beq_eq_false_iff_ne]; omega
      go_wp2_with fail
      go_ret
      exact ⟨rfl, hb2'.alloc (by have := hb2'.size; omega) _⟩
    | ok X =>
      rintro e w2 ⟨v, rfl, hrow, hb2⟩
      obtain ⟨xa, xc, rfl⟩ := FixOf.shape hrow
      have HROW := Lib.hid hrow
      have HV3b := Lib.hid (HV3.out.after hb2)
      have hs2 := hb2.size
      have HB2 := Lib.hid (HB1.out.trans (hb2.mono HB1.out.size))
      have hxm := hrow.row.len
      unfold maxLen at hxm
      clear hrow hb2 co
      have HGD := Lib.hid (top_good HRES.out)
      have hX8 : X.length ≤ 800 := top_count HRES.out
      obtain ⟨RES, hRR⟩ : ∃ RES, eachL L X [] 0 = RES := ⟨_, rfl⟩
      have HRR := Lib.hid hRR
      clear hRR
      obtain ⟨i0, hi0, hz0, hz1, hz2⟩ := info_parts' infoS
      have HI0 := Lib.hid hi0
      have HZ0 := Lib.hid hz0
      have HZ1 := Lib.hid hz1
      have HZ2 := Lib.hid hz2
      clear hi0 hz0 hz1 hz2
      go_wp2_with fail
      obtain ⟨Wb, hWb⟩ : ∃ Wb, w2.alloc (.cells #[.int .i64 0, .int .i64 0, .int .i64 0] 30) = Wb := ⟨_, rfl⟩
      have hsz : w2.heap.size + 1 = Wb.heap.size := by rw [← hWb]; simp
      have hWb' : Below w2.heap.size w2 Wb := by rw [← hWb]; exact (Below.refl _ _).alloc (Nat.le_refl _) _
      have HWB := Lib.hid hWb'
      have HBD := Lib.hid (HB2.out.trans (hWb'.mono HB2.out.size))
      have HV3d := Lib.hid (HV3b.out.after hWb')
      have hHo : w.heap.size < Wb.heap.size := by have := HV3b.out.lt; omega
      have hFS : w2.heap.size < Wb.heap.size := by omega
      have HVF : Hid (VarAt Wb w2.heap.size [.int .i64 0, .int .i64 0, .int .i64 0]) := Lib.hid (by rw [← hWb]; exact varAt_new w2 #[.int .i64 0, .int .i64 0, .int .i64 0] _ _ rfl)
      rw [hWb, hsz]
      have H0 : Hid (ELoop L X RES Wb (Wb.alloc (.cells #[.int .i64 0, .int .i64 0, .int .i64 0] 39)) 0 [] 0 (0, 0, 0) (.slice none 0 0)) := Lib.hid ⟨(Below.refl _ _).alloc (Nat.le_refl _) _, varAt_new Wb #[.int .i64 0, .int .i64 0, .int .i64 0] _ _ rfl, ⟨by simp [strVals], .inl ⟨rfl, rfl⟩⟩, by simp, .inl ⟨rfl, HRR.out⟩⟩
      clear hWb hWb' hsz hd hd' hd2 hd2' hs1 hs2
      go_loopw [7, 8, 10] (fun want seen i wr => ∃ (k : Nat) (out : List (List UInt8)) (last : Int) (f : Int × Int × Int), i = .int .i64 k ∧ seen = .int .i64 last ∧ k ≤ X.length ∧ ELoop L X RES Wb wr k out last f want) (fun _ _ i _ => X.length - (intOf i).toNat)
      case atStart => exact ⟨0, [], 0, (0, 0, 0), rfl, rfl, Nat.zero_le _, H0.out⟩
      case round =>
        obtain ⟨k, out, last, ⟨fc, fl, fk⟩, rfl, rfl, hk, hR⟩ := hrel
        have HR := Lib.hid hR
        clear hR H0
        have k0 : (0 : Int) ≤ (k : Int) := by omega
        have g0 := HR.out.vg.get 0 rfl
        have g1 := HR.out.vg.get 1 rfl
        have g2 := HR.out.vg.get 2 rfl
        have hgw := HR.out.vg.lt
        simp only at g0 g1 g2
        by_cases hlt : k < X.length
        · have k1 : (k : Int) < (X.length : Int) := by omega
          have hdk : decide (k < X.length) = true := decide_eq_true hlt
          rcases HR.out.st with ⟨hf0, hel⟩ | ⟨hfl, hres⟩
          · simp only [Prod.mk.injEq] at hf0
            obtain ⟨rfl, rfl, rfl⟩ := hf0
            have HEL := Lib.hid hel
            clear hel
            obtain ⟨bx, ox, hxa, hbx, cs, hcs⟩ := fix_at HROW.out k hlt
            have HGX := Lib.hid (HGD.out X[k] (List.getElem_mem _))
            have HAT : Hid (∀ rr, runL X[k] L 0 [] = rr → eachL L (X.drop k) out last = if (endF X[k] rr).2.1 = 0 then eachL L (X.drop (k + 1)) (out ++ rr.out) (X[k]).no else (out ++ rr.out, ((X[k]).no : Int), endF X[k] rr)) := Lib.hid (fun rr hr => eachL_at L X k out last hlt rr hr)
            obtain ⟨x, hx⟩ : ∃ x, X[k] = x := ⟨_, rfl⟩
            rw [hx] at HGX HAT hcs
            clear hx
            subst hxa
            obtain ⟨wv, cv, hcse, _, _⟩ := (hcs w2 (Near.refl _ _)).2
            subst hcse
            have HWD : Hid (∀ w', Below Wb.heap.size Wb w' → w'.cell? ⟨bx, ox + k * 3, none⟩ = some (.int .i64 x.no) ∧ w'.cell? ⟨bx, ox + k * 3 + 1, none⟩ = some wv ∧ w'.cell? ⟨bx, ox + k * 3 + 2, none⟩ = some cv ∧ ValRow w' wv (strVals x.ws) ∧ ValRow w' cv (natVals x.cs)) := Lib.hid (fun w' hb => by
              obtain ⟨⟨_, hc⟩, wv', cv', he, h1, h2⟩ := hcs w' (near_of_below _ (HWB.out.trans (hb.mono HWB.out.size)))
              simp only [List.cons.injEq, and_true, true_and] at he
              obtain ⟨rfl, rfl⟩ := he
              exact ⟨hc 0 (by omega), hc 1 (by omega), hc 2 (by omega), h1, h2⟩)
            obtain ⟨wa, wc, hwv⟩ := (HWD.out Wb (Below.refl _ _)).2.2.2.1.shape
            obtain ⟨ca, cc, hcv⟩ := (HWD.out Wb (Below.refl _ _)).2.2.2.2.shape
            subst hwv
            subst hcv
            rw [strVals_length, natVals_length] at HWD
            clear hcs
            obtain ⟨rr, hrr⟩ : ∃ rr, runL x L 0 [] = rr := ⟨_, rfl⟩
            have HRR2 := Lib.hid hrr
            have HAT2 := Lib.hid (HAT.out rr hrr)
            clear hrr HAT
            have SK : Hid (∀ w', Below Wb.heap.size Wb w' → w'.cell? ⟨bx, ox + k * 3, none⟩ = some (.int .i64 x.no) ∧ w'.cell? ⟨bx, ox + k * 3 + 1, none⟩ = some (.slice wa x.ws.length wc) ∧ w'.cell? ⟨bx, ox + k * 3 + 2, none⟩ = some (.slice ca x.cs.length cc) ∧ w'.cell? ⟨w.heap.size, 0, none⟩ = some (.slice oa L.length oc)) := Lib.hid (fun w' h => by
              obtain ⟨e0, e1, e2, _, _⟩ := HWD.out w' h
              exact ⟨e0, e1, e2, (HV3d.out.after h).get 0 rfl⟩)
            have RK : Hid (∀ w', Below Wb.heap.size Wb w' → ValRow w' (.slice wa x.ws.length wc) (strVals x.ws) ∧ ValRow w' (.slice ca x.cs.length cc) (natVals x.cs) ∧ RowOf 3 OpC w' (.slice oa L.length oc) L) := Lib.hid (fun w' h => by
              obtain ⟨_, _, _, r1, r2⟩ := HWD.out w' h
              exact ⟨r1, r2, HO.out.below opC_lasts ((HBD.out.trans (h.mono HBD.out.size)))⟩)
            go_wp2_with fail
            have HB0 : Below Wb.heap.size Wb wr.drew := HR.out.be.drew
            have hwz : Wb.heap.size ≤ wr.heap.size := HR.out.be.size
            have HB0a : Below Wb.heap.size Wb (wr.alloc (.cells #[.int .i64 0, .int .i64 0, .int .i64 0] 39)).drew := (HR.out.be.alloc hwz _).drew
            go_region_held3 (fun w' => w'.cell? ⟨bx, ox + k * 3, none⟩ = some (.int .i64 x.no) ∧ w'.cell? ⟨bx, ox + k * 3 + 1, none⟩ = some (.slice wa x.ws.length wc) ∧ w'.cell? ⟨bx, ox + k * 3 + 2, none⟩ = some (.slice ca x.cs.length cc) ∧ w'.cell? ⟨w.heap.size, 0, none⟩ = some (.slice oa L.length oc)) ((refine SK.out _ ?_; repeat (first | assumption | refine Below.alloc ?_ (by first | exact Nat.le_refl _ | omega) _ | refine Below.setCell ?_ (by first | exact Nat.le_refl _ | (simp; omega) | omega) _))) ((go_at_call 23; (with_reducible refine (play_any x HGX.out.shortK HGX.out.len HGX.out.le20 L hL30 rr HRR2 _ _ oa oc _ (RK.out _ (by first | exact HB0 | exact HB0a)).1 (RK.out _ (by first | exact HB0 | exact HB0a)).2.1 (RK.out _ (by first | exact HB0 | exact HB0a)).2.2).mono ?_); rintro e wP ⟨wt, rfl, hwant, hbP⟩; have HBP : Below Wb.heap.size Wb wP := (by first | exact HB0.trans (hbP.mono HB0.size) | exact HB0a.trans (hbP.mono HB0a.size)); have hzP : Wb.heap.size ≤ wP.heap.size := HBP.size; have HRP : Below wr.heap.size wr wP := (by first | exact ((Below.refl wr.heap.size wr).drew).trans hbP | exact (((Below.refl wr.heap.size wr).alloc (Nat.le_refl _) _).drew).trans (hbP.mono (by simp))); (try (have vz := (varAt_new wr #[.int .i64 0, .int .i64 0, .int .i64 0] 39 _ rfl).drew.after hbP; have z0 := vz.get 0 rfl; have z1 := vz.get 1 rfl; have z2 := vz.get 2 rfl; have zz := vz.free))))
            all_goals
              first
                | (have HQ0 := eq_alloc (x := x) (T := 39) HRP hwant; obtain ⟨wq, hwq⟩ : ∃ wq, wP.alloc (.cells #[.int .i64 (endF x rr).1, .int .i64 (endF x rr).2.1, .int .i64 (endF x rr).2.2] 39) = wq := ⟨_, rfl⟩; obtain ⟨Hh, hHh⟩ : ∃ Hh, wP.heap.size = Hh := ⟨_, rfl⟩; rw [hwq, hHh] at HQ0 ⊢)
                | (have HQ0 := eq_set (x := x) HRP hwant vz; obtain ⟨wq, hwq⟩ : ∃ wq, (((wP.setCell ⟨wr.heap.size, 0, none⟩ (.int .i64 (endF x rr).1)).setCell ⟨wr.heap.size, 1, none⟩ (.int .i64 (endF x rr).2.1)).setCell ⟨wr.heap.size, 2, none⟩ (.int .i64 (endF x rr).2.2)) = wq := ⟨_, rfl⟩; obtain ⟨Hh, hHh⟩ : ∃ Hh, wr.heap.size = Hh := ⟨_, rfl⟩; rw [hwq, hHh] at HQ0 ⊢)
              have HQ := Lib.hid HQ0
              have how : wq.ownsRow (Wb.heap.size + 1) 9 1 u7 out.length (strVals out) := ownsRow_below HR.out.own HQ.out.be
              have HOW := Lib.hid how
              have hbase : Wb.heap.size + 1 ≤ wq.heap.size := by have := HQ.out.be.size; omega
              have hrl : rr.out.length ≤ 30 := by have := run_len x L 0 []; rw [HRR2.out] at this; simp at this; omega
              have hol := HR.out.len
              clear HQ0 hwq hHh how hwant hbP HRP
              go_wp2_with (at_builtin; refine wpList_app _ rfl _ _ 22 rfl (Wb.heap.size + 1) 9 i0 (.string ByteArray.empty) 16 Try.underlying22 HI0.out HZ0.out HZ1.out HZ2.out rfl u7 out.length (strVals out) rfl HOW.out wt (strVals rr.out) rfl HQ.out.wt (strVals_one _) (by rw [strVals_length]; unfold maxLen; omega) (by rw [strVals_length]; omega) hbase ?_)
              intro v' w3 hap
              obtain ⟨b3, vh3, vg3⟩ := HR.out.after HQ.out hap
              have HNX := Lib.hid (HR.out.next HQ.out hap hrl HGX.out.no HEL.out HAT2.out)
              obtain ⟨e0, _, _, _⟩ := SK.out w3 b3
              have a0 := vh3.get 0 rfl
              have a1 := vh3.get 1 rfl
              have a2 := vh3.get 2 rfl
              have y0 := vg3.get 0 rfl
              have y1 := vg3.get 1 rfl
              have y2 := vg3.get 2 rfl
              have zg := vg3.free
              have hHw : ¬ Hh = Wb.heap.size := by have := HQ.out.hh; omega
              clear hap b3 vh3 vg3
              go_wp2_with fail
              go_roundw
              case rel => exact ⟨k + 1, out ++ rr.out, x.no, endF x rr, by go_num, rfl, by omega, HNX.out⟩
              case measure => simp [intOf]; omega
          · have HRS : Hid (RES = (out, last, fc, fl, fk)) := Lib.hid hres
            have hfl1 : (fl == 0) = false := by rw [beq_eq_false_iff_ne]; exact hfl
            clear hres
            go_wp2_with fail
            refine (each_run w2 wr _ wr.heap.size (wr.heap.size + 1) w.heap.size rfl rfl X HGD.out hX8 L hL30 RES HRR oa oc (HV3d.out.after HR.out.be) (HO.out.below opC_lasts (HBD.out.trans (HR.out.be.mono HBD.out.size))) _ HROW.out (HWB.out.trans (HR.out.be.mono HWB.out.size))).mono ?_
            intro e w5 hp
            rw [HRS.out] at hp
            obtain ⟨rfl, hvl, hgot, hb5⟩ := hp
            simp only at hvl hgot
            have HBW := Lib.hid (HBD.out.trans ((HR.out.be.trans (hb5.mono HR.out.be.size)).mono HBD.out.size))
            have hw5 : ValRow w5 u7 (strVals out) := (valRow_own HR.out.own).below hb5
            have HW5 := Lib.hid hw5
            obtain ⟨ua, uc, rfl⟩ := hw5.shape
            have hvg := HR.out.vg.after hb5
            simp only at hvg
            have hz5 : wr.heap.size + 1 < w5.heap.size := hvl.lt
            have hz6 : Wb.heap.size < w5.heap.size := hvg.lt
            have he5 := varAt_new w5 #[.int .i64 fc, .int .i64 fl, .int .i64 fk] 30 _ rfl
            have HVL := Lib.hid hvl
            have HVG := Lib.hid hvg
            have HE5 := Lib.hid he5
            clear hb5 hvl hvg he5 hw5 g0 g1 g2
            rcases hgot with ⟨hz, gv, hvgot, hgr⟩ | hnz
            · simp only [Prod.mk.injEq] at hz
              exact absurd hz.2.1 hfl
            · go_wp2_with fail
              obtain ⟨We, hWe⟩ : ∃ We, w5.alloc (.cells #[.int .i64 fc, .int .i64 fl, .int .i64 fk] 30) = We := ⟨_, rfl⟩
              have HE6 := Lib.hid HE5.out
              have hwe : Below w5.heap.size w5 We := by rw [← hWe]; exact (Below.refl _ _).alloc (Nat.le_refl _) _
              have HWE := Lib.hid hwe
              rw [hWe] at HE6 ⊢
              clear hWe hwe
              have HB0 : Below We.heap.size We We.drew := (Below.refl _ _).drew
              have SK : Hid (∀ w', Below We.heap.size We w' → w'.cell? ⟨w5.heap.size, 0, none⟩ = some (.int .i64 fc) ∧ w'.cell? ⟨w5.heap.size, 1, none⟩ = some (.int .i64 fl) ∧ w'.cell? ⟨w5.heap.size, 2, none⟩ = some (.int .i64 fk) ∧ w'.cell? ⟨Wb.heap.size, 0, none⟩ = some (.int .i64 fc) ∧ w'.cell? ⟨Wb.heap.size, 1, none⟩ = some (.int .i64 fl) ∧ w'.cell? ⟨Wb.heap.size, 2, none⟩ = some (.int .i64 fk) ∧ w'.cell? ⟨wr.heap.size + 1, 0, none⟩ = some (.int .i64 last)) := Lib.hid (fun w' h => ⟨(HE6.out.after h).get 0 rfl, (HE6.out.after h).get 1 rfl, (HE6.out.after h).get 2 rfl, ((HVG.out.after HWE.out).after h).get 0 rfl, ((HVG.out.after HWE.out).after h).get 1 rfl, ((HVG.out.after HWE.out).after h).get 2 rfl, ((HVL.out.after HWE.out).after h).get 0 rfl⟩)
              go_region_held3 (fun w' => w'.cell? ⟨w5.heap.size, 0, none⟩ = some (.int .i64 fc) ∧ w'.cell? ⟨w5.heap.size, 1, none⟩ = some (.int .i64 fl) ∧ w'.cell? ⟨w5.heap.size, 2, none⟩ = some (.int .i64 fk) ∧ w'.cell? ⟨Wb.heap.size, 0, none⟩ = some (.int .i64 fc) ∧ w'.cell? ⟨Wb.heap.size, 1, none⟩ = some (.int .i64 fl) ∧ w'.cell? ⟨Wb.heap.size, 2, none⟩ = some (.int .i64 fk) ∧ w'.cell? ⟨wr.heap.size + 1, 0, none⟩ = some (.int .i64 last)) (first | exact SK.out _ HBF | exact SK.out _ HB0) ((go_at_call 16; (with_reducible refine (fault_any fc fl fk _).mono ?_); rintro e wF ⟨rfl, hbF⟩; have HBF : Below We.heap.size We wF := HB0.trans hbF))
              all_goals
                have HWF := Lib.hid (HBW.out.trans ((HWE.out.trans (HBF.mono HWE.out.size)).mono HBW.out.size))
                obtain ⟨_, _, _, y0, y1, y2, _⟩ := SK.out wF HBF
                have hfl0 : (fl == 0) = false := by rw [beq_eq_false_iff_ne]; exact hnz
                go_wp2_with fail
                go_ret
                exact ⟨rfl, HWF.out⟩
        · have HRS : Hid (RES = (out, last, fc, fl, fk)) := Lib.hid (by
            rcases HR.out.st with ⟨hf0, hel⟩ | ⟨_, hres⟩
            · have : k = X.length := by omega
              rw [this, eachL_end] at hel
              rw [← hel, hf0]
            · exact hres)
          have hdk : decide (k < X.length) = false := decide_eq_false hlt
          go_wp2_with fail
          refine (each_run w2 wr _ wr.heap.size (wr.heap.size + 1) w.heap.size rfl rfl X HGD.out hX8 L hL30 RES HRR oa oc (HV3d.out.after HR.out.be) (HO.out.below opC_lasts (HBD.out.trans (HR.out.be.mono HBD.out.size))) _ HROW.out (HWB.out.trans (HR.out.be.mono HWB.out.size))).mono ?_
          intro e w5 hp
          rw [HRS.out] at hp
          obtain ⟨rfl, hvl, hgot, hb5⟩ := hp
          simp only at hvl hgot
          have HBW := Lib.hid (HBD.out.trans ((HR.out.be.trans (hb5.mono HR.out.be.size)).mono HBD.out.size))
          have hw5 : ValRow w5 u7 (strVals out) := (valRow_own HR.out.own).below hb5
          have HW5 := Lib.hid hw5
          obtain ⟨ua, uc, rfl⟩ := hw5.shape
          have hvg := HR.out.vg.after hb5
          simp only at hvg
          have hz5 : wr.heap.size + 1 < w5.heap.size := hvl.lt
          have hz6 : Wb.heap.size < w5.heap.size := hvg.lt
          have he5 := varAt_new w5 #[.int .i64 fc, .int .i64 fl, .int .i64 fk] 30 _ rfl
          have HVL := Lib.hid hvl
          have HVG := Lib.hid hvg
          have HE5 := Lib.hid he5
          clear hb5 hvl hvg he5 hw5 g0 g1 g2
          rcases hgot with ⟨hz, gv, hvgot, hgr⟩ | hnz
          · simp only [Prod.mk.injEq] at hz
            obtain ⟨rfl, rfl, rfl⟩ := hz
            have HVGOT := Lib.hid hvgot
            have HGR := Lib.hid hgr
            obtain ⟨ga, gc, rfl⟩ := hgr.shape
            clear hvgot hgr
            go_wp2_with fail
            obtain ⟨We, hWe⟩ : ∃ We, w5.alloc (.cells #[.int .i64 0, .int .i64 0, .int .i64 0] 30) = We := ⟨_, rfl⟩
            have HE6 := Lib.hid HE5.out
            have hwe : Below w5.heap.size w5 We := by rw [← hWe]; exact (Below.refl _ _).alloc (Nat.le_refl _) _
            have HWE := Lib.hid hwe
            rw [hWe] at HE6 ⊢
            clear hWe hwe
            have HB0 : Below We.heap.size We We.drew := (Below.refl _ _).drew
            have SK : Hid (∀ w', Below We.heap.size We w' → w'.cell? ⟨w5.heap.size, 0, none⟩ = some (.int .i64 0) ∧ w'.cell? ⟨w5.heap.size, 1, none⟩ = some (.int .i64 0) ∧ w'.cell? ⟨w5.heap.size, 2, none⟩ = some (.int .i64 0) ∧ w'.cell? ⟨Wb.heap.size, 0, none⟩ = some (.int .i64 0) ∧ w'.cell? ⟨Wb.heap.size, 1, none⟩ = some (.int .i64 0) ∧ w'.cell? ⟨Wb.heap.size, 2, none⟩ = some (.int .i64 0) ∧ w'.cell? ⟨wr.heap.size + 1, 0, none⟩ = some (.int .i64 last)) := Lib.hid (fun w' h => ⟨(HE6.out.after h).get 0 rfl, (HE6.out.after h).get 1 rfl, (HE6.out.after h).get 2 rfl, ((HVG.out.after HWE.out).after h).get 0 rfl, ((HVG.out.after HWE.out).after h).get 1 rfl, ((HVG.out.after HWE.out).after h).get 2 rfl, ((HVL.out.after HWE.out).after h).get 0 rfl⟩)
            go_region_held3 (fun w' => w'.cell? ⟨w5.heap.size, 0, none⟩ = some (.int .i64 0) ∧ w'.cell? ⟨w5.heap.size, 1, none⟩ = some (.int .i64 0) ∧ w'.cell? ⟨w5.heap.size, 2, none⟩ = some (.int .i64 0) ∧ w'.cell? ⟨Wb.heap.size, 0, none⟩ = some (.int .i64 0) ∧ w'.cell? ⟨Wb.heap.size, 1, none⟩ = some (.int .i64 0) ∧ w'.cell? ⟨Wb.heap.size, 2, none⟩ = some (.int .i64 0) ∧ w'.cell? ⟨wr.heap.size + 1, 0, none⟩ = some (.int .i64 last)) (first | exact SK.out _ HBF | exact SK.out _ HB0) ((go_at_call 16; (with_reducible refine (fault_any 0 0 0 _).mono ?_); rintro e wF ⟨rfl, hbF⟩; have HBF : Below We.heap.size We wF := HB0.trans hbF))
            all_goals
              have HWF := Lib.hid (HBW.out.trans ((HWE.out.trans (HBF.mono HWE.out.size)).mono HBW.out.size))
              obtain ⟨_, _, _, y0, y1, y2, _⟩ := SK.out wF HBF
              have cgot := ((HVGOT.out.after HWE.out).after HBF).get 0 rfl
              have hgr2 := (HGR.out.below HWE.out).below HBF
              have hw2' := (HW5.out.below HWE.out).below HBF
              have HGR2 := Lib.hid hgr2
              have HW2 := Lib.hid hw2'
              clear hgr2 hw2'
              go_wp2_with fail
              refine (texts_same _ _ out wF HGR2.out HW2.out).mono ?_
              rintro e w6 ⟨rfl, m6, rfl⟩
              go_wp2_with fail
              go_ret
              exact ⟨rfl, below_drewN HWF.out m6⟩
          · go_wp2_with fail
            obtain ⟨We, hWe⟩ : ∃ We, w5.alloc (.cells #[.int .i64 fc, .int .i64 fl, .int .i64 fk] 30) = We := ⟨_, rfl⟩
            have HE6 := Lib.hid HE5.out
            have hwe : Below w5.heap.size w5 We := by rw [← hWe]; exact (Below.refl _ _).alloc (Nat.le_refl _) _
            have HWE := Lib.hid hwe
            rw [hWe] at HE6 ⊢
            clear hWe hwe
            have HB0 : Below We.heap.size We We.drew := (Below.refl _ _).drew
            have SK : Hid (∀ w', Below We.heap.size We w' → w'.cell? ⟨w5.heap.size, 0, none⟩ = some (.int .i64 fc) ∧ w'.cell? ⟨w5.heap.size, 1, none⟩ = some (.int .i64 fl) ∧ w'.cell? ⟨w5.heap.size, 2, none⟩ = some (.int .i64 fk) ∧ w'.cell? ⟨Wb.heap.size, 0, none⟩ = some (.int .i64 fc) ∧ w'.cell? ⟨Wb.heap.size, 1, none⟩ = some (.int .i64 fl) ∧ w'.cell? ⟨Wb.heap.size, 2, none⟩ = some (.int .i64 fk) ∧ w'.cell? ⟨wr.heap.size + 1, 0, none⟩ = some (.int .i64 last)) := Lib.hid (fun w' h => ⟨(HE6.out.after h).get 0 rfl, (HE6.out.after h).get 1 rfl, (HE6.out.after h).get 2 rfl, ((HVG.out.after HWE.out).after h).get 0 rfl, ((HVG.out.after HWE.out).after h).get 1 rfl, ((HVG.out.after HWE.out).after h).get 2 rfl, ((HVL.out.after HWE.out).after h).get 0 rfl⟩)
            go_region_held3 (fun w' => w'.cell? ⟨w5.heap.size, 0, none⟩ = some (.int .i64 fc) ∧ w'.cell? ⟨w5.heap.size, 1, none⟩ = some (.int .i64 fl) ∧ w'.cell? ⟨w5.heap.size, 2, none⟩ = some (.int .i64 fk) ∧ w'.cell? ⟨Wb.heap.size, 0, none⟩ = some (.int .i64 fc) ∧ w'.cell? ⟨Wb.heap.size, 1, none⟩ = some (.int .i64 fl) ∧ w'.cell? ⟨Wb.heap.size, 2, none⟩ = some (.int .i64 fk) ∧ w'.cell? ⟨wr.heap.size + 1, 0, none⟩ = some (.int .i64 last)) (first | exact SK.out _ HBF | exact SK.out _ HB0) ((go_at_call 16; (with_reducible refine (fault_any fc fl fk _).mono ?_); rintro e wF ⟨rfl, hbF⟩; have HBF : Below We.heap.size We wF := HB0.trans hbF))
            all_goals
              have HWF := Lib.hid (HBW.out.trans ((HWE.out.trans (HBF.mono HWE.out.size)).mono HBW.out.size))
              obtain ⟨_, _, _, y0, y1, y2, _⟩ := SK.out wF HBF
              have hfl0 : (fl == 0) = false := by rw [beq_eq_false_iff_ne]; exact hnz
              go_wp2_with fail
              go_ret
              exact ⟨rfl, HWF.out⟩
theorem linesEach_walk (a0 : ByteArray) (w0 : a0.size ≤ maxLen) (a1 : Option Addr) (len1 cap1 : Nat) (z1 : List OpD) (w : World) (w1 : RowOf 3 OpC w (.slice a1 len1 cap1) z1) :
    Calls Try.prog 7 #[.string a0, .slice a1 len1 cap1] w fun e w' => e = .returned (.bool true) ∧ Below w.heap.size w w' := by
  have hl : a0.data.toList.length = a0.size := by rw [Array.length_toList]; rfl
  unfold maxLen at w0
  obtain ⟨a', cap', he⟩ := w1.shape
  simp only [Value.slice.injEq] at he
  obtain ⟨_, hlen, _⟩ := he
  subst hlen
  exact linesEach_list a0.data.toList a1 cap1 z1 w (by omega) w1
end Go.Proofs.Ytfhicmjfifpjkaa
