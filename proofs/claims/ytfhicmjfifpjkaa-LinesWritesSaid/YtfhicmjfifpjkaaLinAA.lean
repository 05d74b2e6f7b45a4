/- What a script of questions comes to (plain); ops in memory; the closure of LinesTells. -/
import Derived.Test.YtfhicmjfifpjkaaLinZ
import Derived.Test.YtfhicmjfifpjkaaLinU
import Derived.Test.YtfhicmjfifpjkaaApp
namespace Go.Proofs.Ytfhicmjfifpjkaa
open Go.RowKit Go.ChangeShapes Go.WideShapes Go.Deep
set_option linter.unusedVariables false
instance : Inhabited OpD := ⟨⟨0, 0, []⟩⟩
def OpC (_ : World) (cs : List Value) (x : OpD) : Prop := cs = [.int .i64 x.kind, .int .i64 x.n, .string ⟨x.w.toArray⟩]
theorem opC_open {H : Type} {enc : TypeId × Value → H} {w : World} {base : Nat} {spare : Nat → Bool} {held : Bool} (m : Nat) (cs : List Value) (y : DataW H × List MemPlace)
    (h : DataW.trod enc Try.prog w base spare held m 58 cs = some y) : ∃ x : OpD, OpC w cs x := by
  obtain ⟨xs, n, _, _, hl, hxl, hf⟩ := DataW.trod_struct Try.underlying58 h
  have hc : Try.prog.cellsOf 58 = 3 := by kernel_rfl
  rw [hc] at hl
  match cs, hl with
  | [c0, c1, c2], hl =>
    obtain ⟨y0, h0⟩ := field_one (by kernel_rfl) rfl (by simp) hxl (hf 0 _ rfl)
    obtain ⟨y1, h1⟩ := field_one (by kernel_rfl) rfl (by simp) hxl (hf 1 _ rfl)
    obtain ⟨y2, h2⟩ := field_one (by kernel_rfl) rfl (by simp) hxl (hf 2 _ rfl)
    obtain ⟨a, e0, _, _⟩ := DataW.trod_int Try.underlying3 h0
    obtain ⟨b, e1, _, _⟩ := DataW.trod_int Try.underlying3 h1
    obtain ⟨c, e2, _, _⟩ := DataW.trod_string Try.underlying9 h2
    simp at e0 e1 e2
    exact ⟨⟨a, b, c.data.toList⟩, by unfold OpC; rw [e0, e1, e2]⟩
/-- what a script comes to: it is at its end, or it was stopped -/
inductive RunR where
  | done (k : Nat) (out : List (List UInt8))
  | stop (c : Int) (col k : Nat) (out : List (List UInt8))
def runL (x : LineD) : List OpD → Nat → List (List UInt8) → RunR
  | [], k, out => .done k out
  | o :: t, k, out => match stepL x k o with
    | .go k' m => runL x t k' (out ++ m)
    | .stop c col k' => .stop c col k' out
def RunR.out : RunR → List (List UInt8)
  | .done _ o => o
  | .stop _ _ _ o => o
def RunR.at_ : RunR → Nat
  | .done k _ => k
  | .stop _ _ k _ => k
theorem runL_at (x : LineD) (L : List OpD) (q k : Nat) (out : List (List UInt8)) (h : q < L.length) :
    runL x (L.drop q) k out = match stepL x k L[q] with
      | .go k' m => runL x (L.drop (q + 1)) k' (out ++ m)
      | .stop c col k' => .stop c col k' out := by
  rw [List.drop_eq_getElem_cons h]; rfl
theorem runL_end (x : LineD) (L : List OpD) (k : Nat) (out : List (List UInt8)) : runL x (L.drop L.length) k out = .done k out := by
  rw [List.drop_length]; rfl
theorem step_len {x : LineD} {k : Nat} {o : OpD} : (∀ k' m, stepL x k o = .go k' m → m.length ≤ 1 ∧ (k ≤ x.ws.length → k' ≤ x.ws.length)) ∧ (∀ c col k', stepL x k o = .stop c col k' → k ≤ x.ws.length → k' ≤ x.ws.length) := by
  unfold stepL numStep
  constructor
  · intro k' m h
    repeat' split at h
    all_goals first | (injection h with h1 h2; subst h1; subst h2; exact ⟨by simp, fun hk => by omega⟩) | cases h
  · intro c col k' h hk
    repeat' split at h
    all_goals first | (injection h with h1 h2 h3; subst h3; omega) | cases h
theorem run_at (x : LineD) : ∀ (L : List OpD) (k : Nat) (out : List (List UInt8)), k ≤ x.ws.length → (runL x L k out).at_ ≤ x.ws.length := by
  intro L
  induction L with
  | nil => intro k out h; exact h
  | cons o t ih =>
    intro k out h
    unfold runL
    cases hs : stepL x k o with
    | go k' m => exact ih k' _ ((step_len.1 k' m hs).2 h)
    | stop c col k' => exact step_len.2 c col k' hs h
theorem VarAt.near {w w' : World} {b : Nat} {vs : List Value} {F : Nat → Prop} (h : VarAt w b vs) (hN : Near F w w') (hb : ¬ F b) : VarAt w' b vs := by
  have e := hN.block b h.lt hb
  exact ⟨Nat.lt_of_lt_of_le h.lt hN.size, fun i hi => by rw [World.cell?_of_block (w := w) (a := ⟨b, i, none⟩) e]; exact h.cell i hi, fun i => by rw [World.frozen?_of_block (w := w) (a := ⟨b, i, none⟩) e]; exact h.free i⟩
/-- the words of a line are short -/
def Short (x : LineD) : Prop := ∀ k, (wd x k).length ≤ 80
theorem fix_at {α : Type} {n : Nat} {R : World → List Value → α → Prop} {F : Nat → Prop} {w : World} {a : Option Addr} {len cap : Nat} {l : List α} (h : FixOf n R F w (.slice a len cap) l) (i : Nat) (hi : i < l.length) :
    ∃ b off, a = some ⟨b, off, none⟩ ∧ b < w.heap.size ∧ ∃ cs, ∀ w', Near F w w' → Cells w' b (off + i * n) n cs ∧ R w' cs l[i] := by
  rcases h with ⟨_, _, _, rfl, _⟩ | ⟨b, off, cap', css, h1, _, _, h4, h5, h6⟩
  · simp at hi
  · simp only [Value.slice.injEq] at h1
    exact ⟨b, off, h1.1, h4, css[i]'(by omega), fun w' hN => h6 i (by omega) hi w' hN⟩
structure TellRel (G : Nat → Prop) (B Hg r : Nat) (wv cv : Value) (x : LineD) (w wr : World) (q k : Nat) (out : List (List UInt8)) (v : Value) : Prop where
  rd : RdAt G wr r wv cv x k
  got : VarAt wr Hg [v]
  own : wr.ownsRow (B + 1) 9 1 v out.length (strVals out)
  near : Near G w wr
  vB : VarAt wr B [.int .i64 0, .int .i64 0, .int .i64 0]
  ne : v.ownBlock ≠ some r
  len : out.length ≤ q
  kle : k ≤ x.ws.length
/-- got, as it is told -/
def GotAt (B Hg : Nat) (out : List (List UInt8)) (w : World) : Prop := ∃ v, VarAt w Hg [v] ∧ w.ownsRow (B + 1) 9 1 v out.length (strVals out)
theorem own_ge {w : World} {base : Nat} {e : TypeId} {v : Value} {n : Nat} {xs : List Value} (h : w.ownsRow base e 1 v n xs) : ∀ b, v.ownBlock = some b → base ≤ b := fun b hb => (row_block h hb).1
theorem infoS : (Try.prog.info? 9).map (fun i => (i.zero, i.size, i.bytes)) = some (some (.string ByteArray.empty), 1, 16) := by kernel_rfl
theorem TellRel.called {G : Nat → Prop} {B Hg r : Nat} {wv cv : Value} {x : LineD} {w wr : World} {q k : Nat} {out : List (List UInt8)} {v : Value} (h : TellRel G B Hg r wv cv x w wr q k out v) (hgr : Hg ≠ r) (hBr : B ≠ r) {w1 : World} (hN : Near (fun b => b = r) wr w1) :
    VarAt w1 Hg [v] ∧ w1.ownsRow (B + 1) 9 1 v out.length (strVals out) ∧ Near G w w1 ∧ VarAt w1 B [.int .i64 0, .int .i64 0, .int .i64 0] ∧ r < w1.heap.size :=
  ⟨h.got.near hN hgr, ownsRow_near h.own hN (fun b e => fun e' => h.ne (by rw [e, e'])), h.near.trans (hN.mono (fun b _ e => by rw [e]; exact h.rd.hG)), h.vB.near hN hBr, Nat.lt_of_lt_of_le h.rd.var.lt hN.size⟩
theorem TellRel.next {G : Nat → Prop} {B Hg r : Nat} {wv cv : Value} {x : LineD} {w wr : World} {q k k' : Nat} {out m : List (List UInt8)} {v v' : Value} (h : TellRel G B Hg r wv cv x w wr q k out v) (hG : ∀ b, B ≤ b → G b) (hGg : G Hg) (hgB : Hg < B) (hrB : B < r) {w1 w2 : World}
    (hN : Near (fun b => b = r) wr w1) (hrd : RdAt G w1 r wv cv x k') (ha : Appd w1 w2 (B + 1) 9 v v' out.length (strVals out) (strVals m)) (hm : m.length ≤ 1) (hk' : k' ≤ x.ws.length) :
    TellRel G B Hg r wv cv x w (w2.setCell ⟨Hg, 0, none⟩ v') (q + 1) k' (out ++ m) v' := by
  obtain ⟨g1, o1, n1, b1, r1⟩ := h.called (by omega) (by omega) hN
  have hob := own_ge o1
  have hN2 : Near (fun b => v.ownBlock = some b) w1 w2 := near_of_grown ha.grow (fun b e => e)
  have hNG : Near G w1 w2 := hN2.mono (fun b _ e => hG b (by have := hob b e; omega))
  have hrn : ¬ v.ownBlock = some r := h.ne
  have hv'b : ∀ b, v'.ownBlock = some b → B + 1 ≤ b := fun b hb => own_ge ha.own b hb
  have hlen := ha.own
  rw [strVals_length] at hlen
  refine ⟨?_, ?_, ?_, (n1.trans hNG).trans (near_setCell _ _ _ hGg), ?_, ?_, ?_, hk'⟩
  · exact hrd.near (hNG.trans (near_setCell _ _ _ hGg)) ((hrd.var.near hN2 hrn).setO (by simp; omega) _)
  · exact ((g1.near hN2 (fun e => by have := hob _ e; omega)).set 0 (by simp) v')
  · rw [strVals_app, List.length_append]
    exact row_set hlen (fun e => by have := hv'b _ e; simp at this; omega) _
  · exact (b1.near hN2 (fun e => by have := hob _ e; omega)).setO (by simp; omega) _
  · intro e
    rcases ha.at_ with h1 | h1
    · rw [h1] at e; exact hrn e
    · rw [h1] at e; injection e with e; omega
  · have := h.len; rw [List.length_append]; omega
theorem TellRel.gotAt {G : Nat → Prop} {B Hg r : Nat} {wv cv : Value} {x : LineD} {w wr : World} {q k : Nat} {out : List (List UInt8)} {v : Value} (h : TellRel G B Hg r wv cv x w wr q k out v) (hgB : Hg < B) (hrB : B < r) {w2 : World} (hN : Near (fun b => b = r ∨ b = B) wr w2) : GotAt B Hg out w2 :=
  ⟨v, h.got.near hN (by omega), ownsRow_near h.own hN (fun b e => by have := own_ge h.own b e; exact fun hh => hh.elim (fun e' => h.ne (by rw [e, e'])) (fun e' => by omega))⟩
theorem GotAt.near {B Hg : Nat} {out : List (List UInt8)} {w w' : World} (h : GotAt B Hg out w) {F : Nat → Prop} (hN : Near F w w') (hF : ∀ b, F b → b = B) (hg : Hg < B) : GotAt B Hg out w' := by
  obtain ⟨v, h1, h2⟩ := h
  exact ⟨v, h1.near hN (fun e => by have := hF _ e; omega), ownsRow_near h2 hN (fun b e e' => by have := own_ge h2 b e; have := hF _ e'; omega)⟩
end Go.Proofs.Ytfhicmjfifpjkaa
