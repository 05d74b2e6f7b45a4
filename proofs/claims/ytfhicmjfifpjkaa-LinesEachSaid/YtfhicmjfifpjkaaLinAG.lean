/- The closure of LinesEach. -/
import Derived.Test.YtfhicmjfifpjkaaLinAF
import Derived.Test.YtfhicmjfifpjkaaLinAD
namespace Go.Proofs.Ytfhicmjfifpjkaa
open Go.RowKit
set_option linter.unusedVariables false
/-- what is so at a line's begin -/
structure EachAt (G : Nat → Prop) (B Hg Hl Ho r : Nat) (wv cv : Value) (x : LineD) (oa : Option Addr) (oc : Nat) (L : List OpD) (out : List (List UInt8)) (v : Value) (last : Int) (w : World) : Prop where
  rd : RdAt G w r wv cv x 0
  got : VarAt w Hg [v]
  own : w.ownsRow (B + 1) 9 1 v out.length (strVals out)
  ne : v.ownBlock ≠ some r
  vl : VarAt w Hl [.int .i64 last]
  vo : VarAt w Ho [.slice oa L.length oc]
  vB : VarAt w B [.int .i64 0, .int .i64 0, .int .i64 0]
  ops : FixOf 3 OpC G w (.slice oa L.length oc) L
structure Places (G : Nat → Prop) (B Hg Hl Ho : Nat) : Prop where
  big : ∀ b, B ≤ b → G b
  g : G Hg
  l : G Hl
  o : ¬ G Ho
  gB : Hg < B
  lB : Hl < B
  oB : Ho < B
  gl : Hg ≠ Hl
def EachEnd (G : Nat → Prop) (B Hg Hl r : Nat) (wv cv : Value) (x : LineD) (out : List (List UInt8)) (w : World) : RunR → Ending → World → Prop
  | .done k o, e, w' => e = .returned (.tuple #[]) ∧ RdAt G w' r wv cv x k ∧ Near G w w' ∧ k ≤ x.ws.length ∧ o.length ≤ 30 ∧ VarAt w' B [.int .i64 0, .int .i64 0, .int .i64 0] ∧ ∀ w2, Near (fun b => b = r ∨ b = B) w' w2 → GotAt B Hg (out ++ o) w2 ∧ VarAt w2 Hl [.int .i64 x.no]
  | .stop c col _ _, e, w' => e = .panicked [{ v := stopV c x.no col, recovered := false }] ∧ Near G w w' ∧ VarAt w' B [.int .i64 0, .int .i64 0, .int .i64 0] ∧ ∀ w2, Near (fun b => b = r ∨ b = B) w' w2 → VarAt w2 Hl [.int .i64 x.no]
theorem EachAt.lined {G : Nat → Prop} {B Hg Hl Ho r : Nat} {wv cv : Value} {x : LineD} {oa : Option Addr} {oc : Nat} {L : List OpD} {out : List (List UInt8)} {v : Value} {last : Int} {w : World} (h : EachAt G B Hg Hl Ho r wv cv x oa oc L out v last w) (hp : Places G B Hg Hl Ho) (hr : B < r) :
    EachAt G B Hg Hl Ho r wv cv x oa oc L out v x.no (w.setCell ⟨Hl, 0, none⟩ (.int .i64 x.no)) := by
  have h1 := hp.lB
  have hob := own_ge h.own
  have hN : Near (fun b => b = Hl) w (w.setCell ⟨Hl, 0, none⟩ (.int .i64 x.no)) := near_setCell _ _ _ rfl
  have hNG : Near G w (w.setCell ⟨Hl, 0, none⟩ (.int .i64 x.no)) := near_setCell _ _ _ hp.l
  exact ⟨h.rd.near hNG (h.rd.var.near hN (by omega)), h.got.near hN hp.gl, ownsRow_near h.own hN (fun b e e' => by have := hob b e; omega), h.ne, h.vl.set 0 (by simp) _,
    h.vo.near hNG hp.o, h.vB.near hN (by omega), h.ops.near hNG (fun _ _ e => e)⟩
theorem each_stop {G : Nat → Prop} {B Hg Hl Ho r : Nat} {wv cv : Value} {x : LineD} {oa : Option Addr} {oc : Nat} {L : List OpD} {out o : List (List UInt8)} {v : Value} {w0 w w1 : World} {res : RunR} {c : Int} {col k : Nat} (h : EachAt G B Hg Hl Ho r wv cv x oa oc L out v x.no w) (hp : Places G B Hg Hl Ho) (hr : B < r) (hres : res = .stop c col k o)
    (h0 : Near G w0 w) (hN : Near (fun b => b = r) w w1) : EachEnd G B Hg Hl r wv cv x out w0 res (.panicked [{ v := stopV c x.no col, recovered := false }]) w1 := by
  subst hres
  have hl := hp.lB
  refine ⟨rfl, h0.trans (hN.mono (fun b _ e => by rw [e]; exact h.rd.hG)), h.vB.near hN (by omega), fun w2 h2 => ?_⟩
  exact (h.vl.near hN (by omega)).near h2 (by omega)
set_option maxRecDepth 100000 in
set_option maxHeartbeats 3200000 in
theorem each_clo (G : Nat → Prop) (B Hg Hl Ho : Nat) (hp : Places G B Hg Hl Ho) (x : LineD) (hx : Short x) (L : List OpD) (hL : L.length ≤ 30) (res : RunR) (HRES : Hid (runL x L 0 [] = res))
    (w : World) (r : Nat) (wv cv : Value) (oa : Option Addr) (oc : Nat) (hr : B < r) (out : List (List UInt8)) (hout : out.length ≤ 24000) (v : Value) (last : Int) (h : EachAt G B Hg Hl Ho r wv cv x oa oc L out v last w) :
    Calls Try.prog 26 #[.pointer (some ⟨r, 0, none⟩), .pointer (some ⟨Hl, 0, none⟩), .pointer (some ⟨Hg, 0, none⟩), .pointer (some ⟨Ho, 0, none⟩)] w (EachEnd G B Hg Hl r wv cv x out w res) := by
  obtain ⟨i0, hi0, hz0, hz1, hz2⟩ := info_parts' infoS
  have HX := Lib.hid hx
  have HP := Lib.hid hp
  have H := Lib.hid h
  have H1 := Lib.hid (h.lined hp hr)
  have cl := h.vl.get 0 rfl
  have zl := h.vl.free 0
  have hgB := hp.gB
  have hoB := hp.oB
  have hlB := hp.lB
  have hgl := Lib.hid hp.gl
  have HN0 : Hid (Near G w (w.setCell ⟨Hl, 0, none⟩ (.int .i64 x.no))) := Lib.hid (near_setCell _ _ _ hp.l)
  clear hx hp h
  go_enter Try.func26, Try.ntmps26
  go_wp2_with fail
  refine (line_any G w r wv cv x 0 H.out.rd).mono ?_
  rintro e w1 ⟨rfl, rfl⟩
  go_wp2_with fail
  obtain ⟨wr, hwr⟩ : ∃ wr, w.setCell ⟨Hl, 0, none⟩ (.int .i64 x.no) = wr := ⟨_, rfl⟩
  rw [hwr] at H1 HN0 ⊢
  clear hwr cl zl
  have cg := H1.out.got.get 0 rfl
  have co := H1.out.vo.get 0 rfl
  have HRD : Hid (RdAt G wr.drew r wv cv x 0) := Lib.hid H1.out.rd.drew
  have HOPS : Hid (FixOf 3 OpC (fun b => b = r) wr.drew (.slice oa L.length oc) L) := Lib.hid (H1.out.ops.near (near_drew _ _) (fun b _ e => by rw [e]; exact H1.out.rd.hG))
  have HGW : Hid (∀ b, wr.drew.heap.size ≤ b → G b) := Lib.hid (fun b hb => HP.out.big b (by have := H1.out.vB.lt; have e : wr.drew.heap.size = wr.heap.size := rfl; omega))
  have hrw := H1.out.rd.var.lt
  cases res with
  | done k o =>
    go_region_law (first
      | (go_simp; go_at_call 28; refine (asked_any G x HX.out L hL _ HRES _ r wv cv oa oc HGW.out HOPS.out HRD.out).mono ?_; rintro e w1 ⟨src, rfl, hrd1, hn1, hsrc, hkl, hol⟩; have hn0 : Near (fun b => b = r) wr w1 := (near_drew _ _).trans hn1; have g1 := H1.out.got.near hn0 (by omega); have o1 : w1.ownsRow (B + 1) 9 1 v out.length (strVals out) := ownsRow_near H1.out.own hn0 (fun b e e' => H1.out.ne (by rw [e, e'])); have cg1 := g1.get 0 rfl; have zg1 := g1.free 0; have hzz : B + 1 ≤ w1.heap.size := (by have := hn0.size; omega))
      | (refine step_app _ (by rfl) _ _ _ (by rfl) (B + 1) 9 i0 _ 16 Try.underlying22 hi0 hz0 hz1 hz2 (by rfl) v out.length (strVals out) (by rfl) o1 src (strVals o) (by rfl) hsrc (strVals_one o) (by rw [strVals_length]; unfold maxLen; omega) (by rw [strVals_length]; omega) hzz ?_; intro v' w2 hap; obtain ⟨sa, sl, sc, rfl⟩ := hap.shape; have g2 := g1.near (near_of_grown hap.grow (F := fun b => v.ownBlock = some b) (fun b e => e)) (fun e => by have := own_ge o1 _ e; omega); have cg2 := g2.get 0 rfl; have zg2 := g2.free 0))
    all_goals
      have HAP := Lib.hid hap
      have HSRC := Lib.hid hsrc
      have HRD1 := Lib.hid hrd1
      have HN1 := Lib.hid hn0
      have HO1 := Lib.hid o1
      have HG2 := Lib.hid g2
      have HK := Lib.hid hkl
      clear hap hsrc hrd1 hn1 hn0 o1 g1 hkl g2
      go_wp2_with fail
      go_end0
      have hob := own_ge HO1.out
      have hN2 : Near (fun b => v.ownBlock = some b) w1 w2 := near_of_grown HAP.out.grow (fun b e => e)
      have hN2G : Near G w1 w2 := hN2.mono (fun b _ e => HP.out.big b (by have := hob b e; omega))
      have hlen := HAP.out.own
      rw [strVals_length] at hlen
      have hv'b := own_ge hlen
      have hne' : ∀ b, (Value.slice sa sl sc).ownBlock = some b → b ≠ r := by
        intro b e
        rcases HAP.out.at_ with h1 | h1
        · rw [h1] at e; intro e'; exact H1.out.ne (by rw [e, e'])
        · rw [h1] at e; injection e with e; have := HN1.out.size; omega
      have hg3 := HG2.out.set 0 (by simp) (Value.slice sa sl sc)
      have hset : ∀ F : Nat → Prop, F Hg → Near F w2 (w2.setCell ⟨Hg, 0, none⟩ (Value.slice sa sl sc)) := fun F hF => near_setCell _ _ _ hF
      have hrd3 : RdAt G (w2.setCell ⟨Hg, 0, none⟩ (Value.slice sa sl sc)) r wv cv x k := HRD1.out.near (hN2G.trans (hset G HP.out.g)) ((HRD1.out.var.near hN2 (by exact H1.out.ne)).setO (by simp; omega) _)
      have hl3 : VarAt (w2.setCell ⟨Hg, 0, none⟩ (Value.slice sa sl sc)) Hl [.int .i64 x.no] := (((H1.out.vl.near HN1.out (by omega)).near hN2 (fun e => by have := hob _ e; omega))).setO (by simp; exact hgl.out) _
      have hB3 : VarAt (w2.setCell ⟨Hg, 0, none⟩ (Value.slice sa sl sc)) B [.int .i64 0, .int .i64 0, .int .i64 0] := (((H1.out.vB.near HN1.out (by omega)).near hN2 (fun e => by have := hob _ e; omega))).setO (by simp; omega) _
      have ho3 : (w2.setCell ⟨Hg, 0, none⟩ (Value.slice sa sl sc)).ownsRow (B + 1) 9 1 (Value.slice sa sl sc) (out ++ o).length (strVals (out ++ o)) := by
        rw [strVals_app, List.length_append]
        exact row_set hlen (fun e => by have := hv'b _ e; simp at this; omega) _
      refine ⟨rfl, hrd3, ((HN0.out.trans (HN1.out.mono (fun b _ e => by rw [e]; exact H1.out.rd.hG))).trans hN2G).trans (hset G HP.out.g), HK.out, hol, hB3, fun w3 h3 => ⟨⟨_, hg3.near h3 (by omega), ownsRow_near ho3 h3 (fun b e e' => ?_)⟩, hl3.near h3 (by omega)⟩⟩
      rcases e' with e' | e'
      · exact hne' b e e'
      · have := hv'b b e; omega
  | stop c col k o =>
    go_region_with (go_at_call 28; refine (asked_any G x HX.out L hL _ HRES _ r wv cv oa oc HGW.out HOPS.out HRD.out).mono ?_; rintro e w1 ⟨rfl, hn1⟩; have hn0 : Near (fun b => b = r) wr w1 := (near_drew _ _).trans hn1; refine panic_aside (P := Try.prog) w1 (by go_wp2_with fail; exact ⟨rfl, each_stop H1.out HP.out hr rfl HN0.out hn0⟩) ?_)
    all_goals trivial
end Go.Proofs.Ytfhicmjfifpjkaa
