/- The walk of LinesTells. -/
import Derived.Test.YtfhicmjfifpjkaaLinAC
import Derived.Test.YtfhicmjfifpjkaaLinU
import Derived.Test.YtfhicmjfifpjkaaLinAD
import Derived.Conc.MuLone
namespace Go.Proofs.Ytfhicmjfifpjkaa
open Go.RowKit
set_option linter.unusedVariables false
theorem ent_tell (args : Array Value) (w : World) : (callFunc 24 args).run Try.prog w = .ok (.enter 24 args) w :=
  Go.MuLone.run_callFunc_enter Try.func24 (by kernel_rfl) rfl args w
theorem opC_fix {F : Nat → Prop} {w : World} {v : Value} {L : List OpD} (h : RowOf 3 OpC w v L) (hF : ∀ b, b < w.heap.size → ¬ F b) : FixOf 3 OpC F w v L := by
  rcases h with h | ⟨b, off, cap, h1, h2, h3, h4, h5⟩
  · exact .inl h
  · refine .inr ⟨b, off, cap, L.map fun x => [.int .i64 x.kind, .int .i64 x.n, .string ⟨x.w.toArray⟩], h1, h2, h3, h4, by simp, fun i hi hi' w' hN => ?_⟩
    obtain ⟨cs, hc, hr⟩ := h5 i hi'
    unfold OpC at hr
    subst hr
    have hb := hN.block b h4 (hF b h4)
    refine ⟨⟨by simp, fun j hj => ?_⟩, by unfold OpC; simp⟩
    rw [World.cell?_of_block (w := w) (a := ⟨b, off + i * 3 + j, none⟩) hb, hc.2 j hj]
    simp
theorem valRow_setInt {w : World} {a : Addr} {k : IntKind} {n : Int} {u v : Value} {l : List (List UInt8)} (h : ValRow w v (strVals l)) (ha : w.cell? a = some (.int k n)) : ValRow (w.setCell a u) v (strVals l) := by
  rcases h with h | ⟨b, off, cap, h1, h2, h3, h4, h5⟩
  · exact .inl h
  · refine .inr ⟨b, off, cap, h1, h2, h3, by rw [heap_setCell_size]; exact h4, fun i hi => ?_⟩
    have h6 := h5 i hi
    rw [cell_ne]
    · exact h6
    · intro e
      rw [← e, ha, strVals_get _ _ (by rw [strVals_length] at hi; exact hi)] at h6
      cases h6
theorem valRow_set3 {w : World} {B : Nat} {n0 n1 n2 : Int} {u0 u1 u2 v : Value} {l : List (List UInt8)} (h : ValRow w v (strVals l)) (z0 : w.cell? ⟨B, 0, none⟩ = some (.int .i64 n0)) (z1 : w.cell? ⟨B, 1, none⟩ = some (.int .i64 n1)) (z2 : w.cell? ⟨B, 2, none⟩ = some (.int .i64 n2)) :
    ValRow (((w.setCell ⟨B, 0, none⟩ u0).setCell ⟨B, 1, none⟩ u1).setCell ⟨B, 2, none⟩ u2) v (strVals l) := by
  have e1 : (w.setCell ⟨B, 0, none⟩ u0).cell? ⟨B, 1, none⟩ = some (.int .i64 n1) := by rw [cell_ne (addr_ne' (by decide))]; exact z1
  have e2 : ((w.setCell ⟨B, 0, none⟩ u0).setCell ⟨B, 1, none⟩ u1).cell? ⟨B, 2, none⟩ = some (.int .i64 n2) := by rw [cell_ne (addr_ne' (by decide)), cell_ne (addr_ne' (by decide))]; exact z2
  exact valRow_setInt (valRow_setInt (valRow_setInt h z0) e1) e2
theorem below_on {B : Nat} {a wq w5 : World} (h : Below B a wq) (h5 : Below wq.heap.size wq w5) (hB : B ≤ a.heap.size) : Below B a w5 := h.trans (h5.mono (Nat.le_trans hB h.size))
theorem fix_cap {α : Type} {n : Nat} {R : World → List Value → α → Prop} {F : Nat → Prop} {w : World} {a : Option Addr} {len cap : Nat} {x : α} {t : List α} (h : FixOf n R F w (.slice a len cap) (x :: t)) : 1 ≤ cap ∧ cap ≤ maxLen := by
  rcases h with ⟨_, _, _, h, _⟩ | ⟨b', off', cap', css, h1, h2, h3, h4, h5, h6⟩
  · cases h
  · simp only [Value.slice.injEq] at h1
    obtain ⟨_, _, rfl⟩ := h1
    exact ⟨by simp at h2; omega, h3⟩
theorem tells_each (w2 wq : World) (F2 : Nat → Prop) (Hg Ho : Nat) (hHg : Hg = wq.heap.size) (x : LineD) (hgd : GoodLine x) (L : List OpD) (hL : L.length ≤ 30) (rr : RunR) (HRR : Hid (runL x L 0 [] = rr)) (oa : Option Addr) (oc : Nat)
    (hvo : VarAt wq Ho [.slice oa L.length oc]) (hops : RowOf 3 OpC wq (.slice oa L.length oc) L) (bx ox xc : Nat) (hrow : FixOf 3 LineC F2 w2 (.slice (some ⟨bx, ox, none⟩) 1 xc) [x]) (hb : Below w2.heap.size w2 wq) :
    Calls Try.prog 18 #[.slice (some ⟨bx, ox, none⟩) 1 xc, .func (.func 24) #[] #[.pointer (some ⟨Ho, 0, none⟩), .pointer (some ⟨Hg, 0, none⟩)]] (wq.alloc (.cells #[.slice none 0 0] 22)) fun e w' =>
      ∃ a b c gv, e = .returned (.agg #[.int .i64 a, .int .i64 b, .int .i64 c]) ∧ VarAt w' Hg [gv] ∧ ValRow w' gv (strVals rr.out) ∧ Below wq.heap.size wq w' := by
  subst hHg
  have hsz : (wq.alloc (.cells #[.slice none 0 0] 22)).heap.size = wq.heap.size + 1 := by simp
  have hol := hvo.lt
  have hfin : ∀ (e : Ending) (w' : World) (a b c : Int), e = .returned (.agg #[.int .i64 a, .int .i64 b, .int .i64 c]) → GotAt (wq.heap.size + 1) wq.heap.size rr.out w' → Near (fun b => b = wq.heap.size ∨ wq.heap.size + 1 ≤ b) (wq.alloc (.cells #[.slice none 0 0] 22)) w' →
      ∃ a b c gv, e = .returned (.agg #[.int .i64 a, .int .i64 b, .int .i64 c]) ∧ VarAt w' wq.heap.size [gv] ∧ ValRow w' gv (strVals rr.out) ∧ Below wq.heap.size wq w' := by
    intro e w' a b c he hg hN
    obtain ⟨gv, h1, h2⟩ := hg
    exact ⟨a, b, c, gv, he, h1, valRow_own h2, ((Below.refl _ _).alloc (Nat.le_refl _) _).trans (hN.below (by omega) (fun b hb => by omega))⟩
  refine (each_any (fun b => b = wq.heap.size ∨ wq.heap.size + 1 ≤ b) _ _ [x] 24 #[.pointer (some ⟨Ho, 0, none⟩), .pointer (some ⟨wq.heap.size, 0, none⟩)] (fun b hb' => .inr (by rw [hsz] at hb'; exact hb')) (hrow.near (near_of_below _ (hb.alloc hb.size _)) (fun b hb1 hb2 => by have := hb.size; omega)) (fun y hy => by rw [List.mem_singleton] at hy; subst hy; exact ⟨hgd.len, hgd.le20⟩) ent_tell
      (fun k w' => if k = 0 then VarAt w' wq.heap.size [.slice none 0 0] else GotAt (wq.heap.size + 1) wq.heap.size rr.out w') (fun _ _ _ w' => GotAt (wq.heap.size + 1) wq.heap.size rr.out w') ?_ ?_ ?_).mono ?_
  · intro k wa wb hi hN
    rw [hsz] at hN
    by_cases hk : k = 0
    · rw [if_pos hk] at hi ⊢
      exact hi.near hN (by omega)
    · rw [if_neg hk] at hi ⊢
      exact hi.near hN (fun b e => e) (by omega)
  · rw [if_pos rfl]; exact varAt_new wq #[.slice none 0 0] _ _ rfl
  · intro k hk wk r wv cv hN hvB hr hrd hi _
    have hk0 : k = 0 := by simp at hk; omega
    subst hk0
    rw [if_pos rfl] at hi
    rw [hsz] at hvB hr ⊢
    exact tell_clo (fun b => b = wq.heap.size ∨ wq.heap.size + 1 ≤ b) (wq.heap.size + 1) wq.heap.size Ho (fun b hb' => .inr hb') (.inl rfl) (by omega) (by omega) (by omega) x hgd.shortK L hL rr HRR wk r wv cv oa oc
      ((opC_fix (F := fun b => b = wq.heap.size ∨ wq.heap.size + 1 ≤ b) hops (fun b hb' => by omega)).near ((near_alloc _ _ _).trans hN) (fun _ _ e => e)) ((hvo.alloc _).near hN (by omega)) hr hvB hrd hi
  · intro e w' hp
    rcases hp with ⟨rfl, hdone, hN⟩ | ⟨c, ln, kk, rfl, hf, hN⟩
    · exact hfin _ _ _ _ _ rfl (by simpa using hdone) hN
    · exact hfin _ _ _ _ _ rfl hf hN
set_option maxRecDepth 1000000 in
set_option maxHeartbeats 3200000 in
theorem linesTells_list (l : List UInt8) (oa : Option Addr) (oc : Nat) (L : List OpD) (w : World) (hl : l.length ≤ 9223372036854775807) (ho : RowOf 3 OpC w (.slice oa L.length oc) L) :
    Calls Try.prog 6 #[.string ⟨l.toArray⟩, .slice oa L.length oc] w fun e w' => e = .returned (.bool true) ∧ Below w.heap.size w w' := by
  have hmf : ∀ (fn : Fn) (first cap : Array Value) (w : World), (Instr.makeFunc fn first cap).run Try.prog w = .ok (.func fn first cap) w := fun _ _ _ _ => rfl
  have hmx := ho.len
  unfold maxLen at hmx
  have HO := Lib.hid ho
  clear ho
  go_enter Try.func6, Try.ntmps6
  go_wp2_with fail
  refine (lread_any _).mono ?_
  rintro e w1 ⟨rfl, hb1⟩
  have HV3 := Lib.hid ((varAt_new w #[.slice oa L.length oc] 53 _ rfl).after hb1)
  have HB1 := Lib.hid (((Below.refl w.heap.size w).alloc (Nat.le_refl _) (.cells #[.slice oa L.length oc] 53)).trans (hb1.mono (by simp)))
  have hs1 : w.heap.size < w1.heap.size := by have := hb1.size; simp at this; omega
  have co := HV3.out.get 0 rfl
  clear hb1
  by_cases hlen : 500 < l.length ∨ 30 < L.length
  · by_cases h5 : 500 < l.length
    case' pos =>
      have hd : decide ((500 : Int) < (l.length : Int)) = true := decide_eq_true (by omega)
      have hd' : decide (500 < l.length) = true := decide_eq_true h5
    case' neg =>
      have hd : decide ((500 : Int) < (l.length : Int)) = false := decide_eq_false (by omega)
      have hd' : decide (500 < l.length) = false := decide_eq_false h5
      have hd2 : decide ((30 : Int) < (L.length : Int)) = true := decide_eq_true (by omega)
      have hd2' : decide (30 < L.length) = true := decide_eq_true (by omega)
    all_goals
      clear hlen
      go_wp2_with fail
      refine (lread_any _).mono ?_
      rintro e w3 ⟨rfl, hb3⟩
      go_wp2_with fail
      go_ret
      exact ⟨rfl, HB1.out.trans (hb3.mono HB1.out.size)⟩
  · have hd : decide ((500 : Int) < (l.length : Int)) = false := decide_eq_false (by omega)
    have hd' : decide (500 < l.length) = false := decide_eq_false (by omega)
    have hd2 : decide ((30 : Int) < (L.length : Int)) = false := decide_eq_false (by omega)
    have hd2' : decide (30 < L.length) = false := decide_eq_false (by omega)
    have hL30 : L.length ≤ 30 := by omega
    clear hlen
    obtain ⟨res, hres⟩ : ∃ res, readTop l = res := ⟨_, rfl⟩
    have HRES := Lib.hid hres
    clear hres
    go_wp2_with fail
    refine (top_read l _ _ HRES (by omega)).mono ?_
    cases res with
    | bad c ln col =>
      rintro e w2 ⟨rfl, hb2⟩
      have hc : ((c : Int) == 0) = false := by have := top_bad HRES.out; rw [beq_eq_false_iff_ne]; omega
      have hb2' := HB1.out.trans (hb2.mono HB1.out.size)
      have hc2 : (c == 0) = false := by have := top_bad HRES.out; rw [beq_eq_false_iff_ne]; omega
      go_wp2_with fail
      go_ret
      exact ⟨rfl, hb2'.alloc (by have := hb2'.size; omega) _⟩
    | ok X =>
      rintro e w2 ⟨v, rfl, hrow, hb2⟩
      obtain ⟨xa, xc, rfl⟩ := FixOf.shape hrow
      have HROW := Lib.hid hrow
      have HV3b := Lib.hid (HV3.out.after hb2)
      have hs2 := hb2.size
      have HB2 := Lib.hid (HB1.out.trans (hb2.mono HB1.out.size))
      have hxm := hrow.row.len
      unfold maxLen at hxm
      clear hrow hb2 co
      cases X with
      | nil =>
        go_wp2_with fail
        go_ret
        exact ⟨rfl, HB2.out.alloc HB2.out.size _⟩
      | cons x X =>
        have HGD := Lib.hid (top_good HRES.out x (by simp))
        obtain ⟨bx, ox, hxa, hbx, cs, hcs⟩ := fix_at HROW.out 0 (by simp)
        subst hxa
        have co2 := HV3b.out.get 0 rfl
        have hxc : 1 ≤ xc := (fix_cap HROW.out).1
        have hxcm := (fix_cap HROW.out).2
        unfold maxLen at hxcm
        have hxci : (1 : Int) ≤ (xc : Int) := by omega
        obtain ⟨wv, cv, hcse, _, _⟩ := (hcs w2 (Near.refl _ _)).2
        subst hcse
        have HWD : Hid (∀ w', Below w2.heap.size w2 w' → w'.cell? ⟨bx, ox, none⟩ = some (.int .i64 x.no) ∧ w'.cell? ⟨bx, ox + 1, none⟩ = some wv ∧ w'.cell? ⟨bx, ox + 2, none⟩ = some cv ∧ ValRow w' wv (strVals x.ws) ∧ ValRow w' cv (natVals x.cs)) := Lib.hid (fun w' hb => by
          obtain ⟨⟨_, hc⟩, wv', cv', he, h1, h2⟩ := hcs w' (near_of_below _ hb)
          simp only [List.cons.injEq, and_true, true_and] at he
          obtain ⟨rfl, rfl⟩ := he
          have e0 := hc 0 (by omega)
          have e1 := hc 1 (by omega)
          have e2 := hc 2 (by omega)
          simp only [Nat.zero_mul, Nat.add_zero] at e0 e1 e2
          exact ⟨e0, e1, e2, h1, h2⟩)
        obtain ⟨wa, wc, hwv⟩ := (HWD.out w2 (Below.refl _ _)).2.2.2.1.shape
        obtain ⟨ca, cc, hcv⟩ := (HWD.out w2 (Below.refl _ _)).2.2.2.2.shape
        subst hwv
        subst hcv
        rw [strVals_length, natVals_length] at HWD
        clear hcs
        obtain ⟨rr, hrr⟩ : ∃ rr, runL x L 0 [] = rr := ⟨_, rfl⟩
        have HRR := Lib.hid hrr
        clear hrr
        go_wp2_with fail
        obtain ⟨Wd, hWd⟩ : ∃ Wd, w2.alloc (.cells #[.int .i64 0, .int .i64 0, .int .i64 0] 30) = Wd := ⟨_, rfl⟩
        have hWb : Below w2.heap.size w2 Wd := by rw [← hWd]; exact (Below.refl _ _).alloc (Nat.le_refl _) _
        have hWz : w2.heap.size < Wd.heap.size := by rw [← hWd]; simp
        have HWB := Lib.hid hWb
        have HBD := Lib.hid (HB2.out.trans (hWb.mono HB2.out.size))
        rw [hWd]
        clear hWd hWb co2
        have HV3d := Lib.hid (HV3b.out.after HWB.out)
        have SK : Hid (∀ w', Below Wd.heap.size Wd w' → w'.cell? ⟨bx, ox, none⟩ = some (.int .i64 x.no) ∧ w'.cell? ⟨bx, ox + 1, none⟩ = some (.slice wa x.ws.length wc) ∧ w'.cell? ⟨bx, ox + 2, none⟩ = some (.slice ca x.cs.length cc) ∧ w'.cell? ⟨w.heap.size, 0, none⟩ = some (.slice oa L.length oc)) := Lib.hid (fun w' h => by
          obtain ⟨e0, e1, e2, _, _⟩ := HWD.out w' (HWB.out.trans (h.mono HWB.out.size))
          exact ⟨e0, e1, e2, (HV3d.out.after h).get 0 rfl⟩)
        have RK : Hid (∀ w', Below Wd.heap.size Wd w' → ValRow w' (.slice wa x.ws.length wc) (strVals x.ws) ∧ ValRow w' (.slice ca x.cs.length cc) (natVals x.cs) ∧ RowOf 3 OpC w' (.slice oa L.length oc) L) := Lib.hid (fun w' h => by
          obtain ⟨_, _, _, r1, r2⟩ := HWD.out w' (HWB.out.trans (h.mono HWB.out.size))
          exact ⟨r1, r2, HO.out.below opC_lasts ((HBD.out.trans (h.mono HBD.out.size)))⟩)
        have HB0 : Below Wd.heap.size Wd Wd.drew := Below.drew (Below.refl _ _)
        have HB0a : Below Wd.heap.size Wd (Wd.alloc (.cells #[.int .i64 0, .int .i64 0, .int .i64 0] 39)).drew := ((Below.refl _ _).alloc (Nat.le_refl _) _).drew
        go_region_held3 (fun w' => w'.cell? ⟨bx, ox, none⟩ = some (.int .i64 x.no) ∧ w'.cell? ⟨bx, ox + 1, none⟩ = some (.slice wa x.ws.length wc) ∧ w'.cell? ⟨bx, ox + 2, none⟩ = some (.slice ca x.cs.length cc) ∧ w'.cell? ⟨w.heap.size, 0, none⟩ = some (.slice oa L.length oc)) ((refine SK.out _ ?_; repeat (first | assumption | refine Below.alloc ?_ (by first | exact Nat.le_refl _ | omega) _ | refine Below.setCell ?_ (by first | exact Nat.le_refl _ | (simp; omega) | omega) _))) ((go_at_call 23; (with_reducible refine (play_any x HGD.out.shortK HGD.out.len HGD.out.le20 L hL30 rr HRR _ _ oa oc _ (RK.out _ (by first | exact HB0 | exact HB0a)).1 (RK.out _ (by first | exact HB0 | exact HB0a)).2.1 (RK.out _ (by first | exact HB0 | exact HB0a)).2.2).mono ?_); rintro e wP ⟨wt, rfl, hwant, hbP⟩; have HBP : Below Wd.heap.size Wd wP := (by first | exact HB0.trans hbP | exact HB0a.trans (hbP.mono HB0a.size)); have hzP : Wd.heap.size ≤ wP.heap.size := HBP.size; have hzP2 : w.heap.size < wP.heap.size := Nat.lt_of_lt_of_le HV3d.out.lt hzP; (try (have vz := (varAt_new Wd #[.int .i64 0, .int .i64 0, .int .i64 0] 39 _ rfl).drew.after hbP; have z0 := vz.get 0 rfl; have z1 := vz.get 1 rfl; have z2 := vz.get 2 rfl; have zz := vz.free))))
        all_goals
          have HWT := Lib.hid hwant
          have HBQ := Lib.hid HBP
          clear hwant hbP HBP
          go_wp2_with fail
          refine (tells_each w2 _ _ _ w.heap.size (by simp) x HGD.out L hL30 rr HRR oa oc (HV3d.out.after (by repeat (first | exact HBQ.out | refine Below.alloc ?_ (by first | exact Nat.le_refl _ | omega) _ | refine Below.setCell ?_ (by first | exact Nat.le_refl _ | omega) _))) (RK.out _ (by repeat (first | exact HBQ.out | refine Below.alloc ?_ (by first | exact Nat.le_refl _ | omega) _ | refine Below.setCell ?_ (by first | exact Nat.le_refl _ | omega) _))).2.2 bx ox xc (FixOf.one HROW.out) (HWB.out.trans (Below.mono (by repeat (first | exact HBQ.out | refine Below.alloc ?_ (by first | exact Nat.le_refl _ | omega) _ | refine Below.setCell ?_ (by first | exact Nat.le_refl _ | omega) _)) HWB.out.size))).mono ?_
          rintro e w5 ⟨ea, eb, ec, gv, rfl, hvg, hgr, hb5⟩
          have H5 := Lib.hid (below_on (B := Wd.heap.size) (a := Wd) (by repeat (first | exact HBQ.out | refine Below.alloc ?_ (by first | exact Nat.le_refl _ | omega) _ | refine Below.setCell ?_ (by first | exact Nat.le_refl _ | omega) _)) hb5 (Nat.le_refl _))
          have HW5 := Lib.hid (ValRow.below (l := strVals rr.out) (v := wt) (by first | exact HWT.out.below ((Below.refl _ _).alloc (Nat.le_refl _) _) | exact valRow_set3 HWT.out z0 z1 z2) hb5)
          have HGR := Lib.hid hgr
          have cg := hvg.get 0 rfl
          obtain ⟨ga, gc, rfl⟩ := hgr.shape
          have HD : Hid (decide (rr.at_ ≤ x.ws.length) = true) := Lib.hid (decide_eq_true (by rw [← HRR.out]; exact run_at x L 0 [] (Nat.zero_le _)))
          clear hvg hgr hb5
          go_wp2_with fail
          refine (texts_same _ _ rr.out w5 HGR.out HW5.out).mono ?_
          rintro e w6 ⟨rfl, m6, rfl⟩
          have H6 : Below Wd.heap.size Wd (w5.drewN m6) := below_drewN H5.out m6
          obtain ⟨w7, hw7⟩ : ∃ w7, w5.drewN m6 = w7 := ⟨_, rfl⟩
          rw [hw7] at H6 ⊢
          obtain ⟨d0, d1, d2, d3⟩ := SK.out w7 H6
          have hda : decide (rr.at_ ≤ x.ws.length) = true := HD.out
          have HB7 := Lib.hid (HBD.out.trans (H6.mono HBD.out.size))
          clear hw7 H6
          go_wp2_with fail
          go_ret
          exact ⟨ret_bool (by simp), HB7.out⟩
theorem linesTells_walk (a0 : ByteArray) (w0 : a0.size ≤ maxLen) (a1 : Option Addr) (len1 cap1 : Nat) (z1 : List OpD) (w : World) (w1 : RowOf 3 OpC w (.slice a1 len1 cap1) z1) :
    Calls Try.prog 6 #[.string a0, .slice a1 len1 cap1] w fun e w' => e = .returned (.bool true) ∧ Below w.heap.size w w' := by
  have hl : a0.data.toList.length = a0.size := by rw [Array.length_toList]; rfl
  unfold maxLen at w0
  obtain ⟨a', cap', he⟩ := w1.shape
  simp only [Value.slice.injEq] at he
  obtain ⟨_, hlen, _⟩ := he
  subst hlen
  exact linesTells_list a0.data.toList a1 cap1 z1 w (by omega) w1
end Go.Proofs.Ytfhicmjfifpjkaa
