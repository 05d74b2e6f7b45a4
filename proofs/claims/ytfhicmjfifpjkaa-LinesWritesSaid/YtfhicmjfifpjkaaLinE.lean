/- Lines in memory; the contract of lines.read. -/
import Derived.Test.YtfhicmjfifpjkaaLinC
namespace Go.Proofs.Ytfhicmjfifpjkaa
open Go.RowKit
set_option linter.unusedVariables false
def LineC (w : World) (cs : List Value) (l : LineD) : Prop := ∃ wv cv, cs = [.int .i64 l.no, wv, cv] ∧ ValRow w wv (strVals l.ws) ∧ ValRow w cv (natVals l.cs)
theorem lineC_lasts : Lasts LineC := by
  rintro w w' cs x hb ⟨wv, cv, h1, h2, h3⟩
  exact ⟨wv, cv, h1, h2.below hb, h3.below hb⟩
theorem line_robust {w2 w4 : World} {B no : Nat} {T1 T2 : TypeId} {wv cv : Value} {ws : List (List UInt8)} {cs : List Nat} (h1 : w2.ownsRow B T1 1 wv ws.length (strVals ws)) (h2 : w2.ownsRow B T2 1 cv cs.length (natVals cs)) (hb : Below w2.heap.size w2 w4)
    {F : Nat → Prop} (hF : ∀ g, F g → g < B) : Robust LineC w4 F [.int .i64 no, wv, cv] ⟨no, ws, cs⟩ := by
  have key : ∀ {T : TypeId} {v : Value} {n : Nat} {xs : List Value} {w' : World}, w2.ownsRow B T 1 v n xs → Near F w4 w' → ValRow w' v xs := by
    intro T v n xs w' h hg
    exact valRow_own (ownsRow_near (ownsRow_below h hb) hg (fun b e hf => by have := hF b hf; have := (row_block h e).1; omega))
  exact fun w' hg => ⟨wv, cv, rfl, key h1 hg, key h2 hg⟩
structure ReadRel (w : World) (T : TypeId) (out : Value) (L : List LineD) (wr : World) : Prop where
  v5 : VarAt wr w.heap.size [.int .i64 0, .int .i64 0, .int .i64 0]
  own : OwnOf 3 LineC (fun b => b < w.heap.size + 1) wr (w.heap.size + 1) T out L
  be : Below w.heap.size w wr
theorem ReadRel.after {w : World} {T : TypeId} {out : Value} {L : List LineD} {wr wa : World} (h : ReadRel w T out L wr) (hb : Below wr.heap.size wr wa) : ReadRel w T out L wa :=
  ⟨h.v5.after hb, h.own.below hb, h.be.trans (hb.mono h.be.size)⟩
theorem ReadRel.shape {w : World} {T : TypeId} {out : Value} {L : List LineD} {wr : World} (h : ReadRel w T out L wr) : ∃ a cap, out = .slice a L.length cap := by
  obtain ⟨css, hr⟩ := h.own.owns
  exact own_shape hr
theorem ReadRel.far {w : World} {T : TypeId} {out : Value} {L : List LineD} {wr : World} (h : ReadRel w T out L wr) : ∀ g, out.ownBlock = some g → w.heap.size + 1 ≤ g ∧ g < wr.heap.size := by
  obtain ⟨css, hr⟩ := h.own.owns
  exact fun g hg => row_block hr hg
/-- behind an append of a line -/
theorem ReadRel.snoc {w : World} {T : TypeId} {out : Value} {L : List LineD} {w4 w5 : World} (h : ReadRel w T out L w4) {x : LineD} {wv cv : Value} (hnew : Robust LineC w4 (fun b => b < w.heap.size + 1 ∨ out.ownBlock = some b) [.int .i64 x.no, wv, cv] x) {css : List (List Value)}
    (hcl : css.length = L.length) (hcn : ∀ c ∈ css, c.length = 3) (hel : ∀ (i : Nat) (h : i < css.length) (h' : i < L.length), Robust LineC w4 (fun b => b < w.heap.size + 1 ∨ out.ownBlock = some b) css[i] L[i]) {g cap : Nat}
    (hown : w5.ownsRow (w.heap.size + 1) T 3 (.slice (some ⟨g, 0, none⟩) (L.length + 1) cap) (L.length + 1) (css.flatten ++ [.int .i64 x.no, wv, cv])) (hgrow : w4.grownBy w5 out.ownBlock) (hat : out.ownBlock = some g ∨ g = w4.heap.size) :
    ReadRel w T (.slice (some ⟨g, 0, none⟩) (L.length + 1) cap) (L ++ [x]) w5 := by
  refine ⟨h.v5.grown hgrow (fun e => by have := h.far _ e; omega), OwnOf.snoc hcl hcn hel rfl hnew hown hgrow hat, ?_⟩
  exact h.be.trans (below_of_grown hgrow (by have := h.be.size; omega) (fun b e => by have := h.far b e; omega))
/-- lines that hang on no block below one -/
def NewRow (B : Nat) (w : World) (v : Value) (L : List LineD) : Prop := FixOf 3 LineC (fun b => b < B) w v L
theorem NewRow.here {B : Nat} {w : World} {v : Value} {L : List LineD} (h : NewRow B w v L) : RowOf 3 LineC w v L := h.row
theorem NewRow.near {B B' : Nat} {w w' : World} {v : Value} {L : List LineD} (h : NewRow B w v L) (hB : B' ≤ B) (hN : Near (fun b => b < B) w w') : NewRow B' w' v L := FixOf.near h hN (fun b _ hb => Nat.lt_of_lt_of_le hb hB)
def ReadPost (w : World) : RRes → Ending → World → Prop
  | .bad c ln col, e, w' => e = .returned (.tuple #[.slice none 0 0, .agg #[.int .i64 c, .int .i64 ln, .int .i64 col]]) ∧ Below w.heap.size w w'
  | .ok L, e, w' => ∃ v, e = .returned (.tuple #[v, .agg #[.int .i64 0, .int .i64 0, .int .i64 0]]) ∧ NewRow w.heap.size w' v L ∧ Below w.heap.size w w'
theorem read_bad {w : World} {res : RRes} {c ln col : Nat} (hr : res = .bad c ln col) {e : Ending} {w' : World} (he : e = .returned (.tuple #[.slice none 0 0, .agg #[.int .i64 c, .int .i64 ln, .int .i64 col]])) (hb : Below w.heap.size w w') : ReadPost w res e w' := by
  subst hr; exact ⟨he, hb⟩
theorem read_ok {w : World} {res : RRes} {L : List LineD} {v : Value} (hr : res = .ok L) {e : Ending} {w' : World} (he : e = .returned (.tuple #[v, .agg #[.int .i64 0, .int .i64 0, .int .i64 0]])) (h : NewRow w.heap.size w' v L) (hb : Below w.heap.size w w') : ReadPost w res e w' := by
  subst hr; exact ⟨v, he, h, hb⟩
theorem info_line : (Try.prog.info? 34).map (fun i => (i.zero, i.size, i.bytes)) = some (some (.agg #[.int .i64 0, .slice none 0 0, .slice none 0 0]), 3, 56) := by kernel_rfl
theorem info_rline : (Try.prog.info? 68).map (fun i => (i.zero, i.size, i.bytes)) = some (some (.agg #[.int .i64 0, .slice none 0 0, .slice none 0 0]), 3, 56) := by kernel_rfl
theorem scan_code (t : List UInt8) (n : Nat) : ∀ (k : Nat) (ws : List (List UInt8)) (cs : List Nat), t.length - k ≤ n → ∀ c col, scan t k ws cs = .bad c col → (c = 1 ∨ c = 2) := by
  induction n with
  | zero =>
    intro k ws cs hn c col h
    rw [scan_end t k ws cs (by omega)] at h
    cases h
  | succ n ih =>
    intro k ws cs hn c col h
    by_cases hk : k < t.length
    · cases hb : blankC (by8 t k)
      · by_cases hlong : ws.length = 20 ∨ 80 < upTo blankC t k - k
        · rw [scan_long t k ws cs hk hb hlong] at h
          injection h with h1 h2; exact .inr h1.symm
        · by_cases hx : upTo badC (t.take (upTo blankC t k)) k < upTo blankC t k
          · rw [scan_bad t k ws cs hk hb hlong hx] at h
            injection h with h1 h2; exact .inl h1.symm
          · rw [scan_word t k ws cs hk hb hlong hx] at h
            have := blank_end t k hk hb
            exact ih _ _ _ (by omega) c col h
      · rw [scan_blank t k ws cs hk hb] at h
        exact ih _ _ _ (by omega) c col h
    · rw [scan_end t k ws cs hk] at h
      cases h
theorem split_code {l : List UInt8} {c col : Nat} (h : splitL l = .bad c col) : c = 1 ∨ c = 2 := scan_code _ _ 0 [] [] (Nat.le_refl _) c col h
def strLen : Value → Nat
  | .string s => s.size
  | _ => 0
theorem list_ne {r : List UInt8} (h : r ≠ []) : r.isEmpty = false ∧ 0 < r.length := by
  cases r with
  | nil => exact absurd rfl h
  | cons => exact ⟨rfl, by simp⟩
set_option maxRecDepth 1000000 in
set_option maxHeartbeats 3200000 in
theorem read_list (l : List UInt8) (most : Nat) (w : World) (res : RRes) (HRES : Hid (readL most l 1 [] = res)) (hl : l.length ≤ 1099511627776) (hm : most ≤ 4611686018427387904) :
    Calls Try.prog 32 #[.string ⟨l.toArray⟩, .int .i64 most] w (ReadPost w res) := by
  go_enter Try.func32, Try.ntmps32
  go_wp2_with fail
  obtain ⟨H, HH⟩ : ∃ H, Hid (w.heap.size = H) := ⟨_, rfl⟩
  have HST : Hid (ReadRel w 34 (.slice none 0 0) [] (w.alloc (.cells #[.int .i64 0, .int .i64 0, .int .i64 0] 30))) :=
    Lib.hid ⟨varAt_new w #[.int .i64 0, .int .i64 0, .int .i64 0] _ _ rfl, ownOf_nil _ _ _ _ _ _, (Below.refl _ _).alloc (Nat.le_refl _) _⟩
  rw [HH.out]
  go_loopw [6, 7, 8] (fun out no rest wr => ∃ (L : List LineD) (n : Nat) (r : List UInt8), no = .int .i64 n ∧ rest = .string ⟨r.toArray⟩ ∧ readL most r n L = res ∧ ReadRel w 34 out L wr ∧ 1 ≤ n ∧ n + r.length ≤ l.length + 1 ∧ L.length + 1 ≤ n) (fun _ _ rest _ => strLen rest)
  case atStart => exact ⟨[], 1, l, rfl, rfl, HRES.out, HST.out, by omega, by omega, by simp⟩
  case round =>
    obtain ⟨L, n, r, rfl, rfl, hrd, hR, hn1, hn2, hn3⟩ := hrel
    obtain ⟨oa, oc, rfl⟩ := hR.shape
    have HRD := Lib.hid hrd
    have HR := Lib.hid hR
    clear hrd hR HST
    have f3 := HR.out.v5.get 0 rfl
    have f4 := HR.out.v5.get 1 rfl
    have f5 := HR.out.v5.get 2 rfl
    have z1 := HR.out.v5.free
    have hlt5 := HR.out.v5.lt
    have hH : w.heap.size ≤ H := by have := HH.out; omega
    rw [HH.out] at f3 f4 f5 z1 hlt5
    by_cases hr : r = []
    · subst hr
      have HX := Lib.hid (readL_nil most n L)
      have hF : H < w.heap.size + 1 := by have := HH.out; omega
      go_wp2_with fail
      refine bodyPost_ret (v := .tuple #[.slice oa L.length oc, .agg #[.int .i64 0, .int .i64 0, .int .i64 0]]) (by simp [results, Try.results32, go_sem, f3, f4, f5]) rfl (read_ok (by rw [← HRD.out, HX.out]) rfl ?_ ?_)
      · refine (OwnOf.fix (HR.out.own.near (((near_setCell _ _ _ ?_).trans (near_setCell _ _ _ ?_)).trans (near_setCell _ _ _ ?_)) (fun b e hf => ?_)) (fun b e hf => ?_)).near (Near.refl _ _) (fun b _ hb => Nat.lt_succ_of_lt hb)
        · exact hF
        · exact hF
        · exact hF
        · have := HR.out.far b e; omega
        · have := HR.out.far b e; omega
      · exact ((HR.out.be.setCell hH _).setCell hH _).setCell hH _
    · obtain ⟨he, hpos⟩ := list_ne hr
      by_cases hmo : most < n
      · have HX := Lib.hid (readL_most most r n L hr hmo)
        have hdm : decide (most < n) = true := decide_eq_true hmo
        clear hr
        go_wp2_with fail
        refine bodyPost_ret (v := .tuple #[.slice none 0 0, .agg #[.int .i64 2, .int .i64 n, .int .i64 0]]) (by simp [results, Try.results32, go_sem, f3, f4, f5]) rfl (read_bad (by rw [← HRD.out, HX.out]) rfl ?_)
        exact ((HR.out.be.setCell hH _).setCell hH _).setCell hH _
      · have hdm : decide (most < n) = false := decide_eq_false hmo
        have HNE := Lib.hid hr
        have HMO := Lib.hid hmo
        obtain ⟨a, ha⟩ : ∃ a, r.take (upTo at10 r 0) = a := ⟨_, rfl⟩
        obtain ⟨b, hb⟩ : ∃ b, r.drop (upTo at10 r 0 + 1) = b := ⟨_, rfl⟩
        have HA : Hid (r.take (upTo (isB 10) r 0) = a) := by rw [isB10]; exact ha
        have HB : Hid (r.drop (upTo (isB 10) r 0 + 1) = b) := by rw [isB10]; exact hb
        have hal : a.length ≤ r.length := by rw [← ha, List.length_take]; omega
        have hbl : b.length + 1 ≤ r.length := by rw [← hb, List.length_drop]; omega
        clear ha hb hr hmo
        go_wp2_with fail
        refine (cut_any r 10 a b _ (by omega) HA HB).mono ?_
        rintro e w1 ⟨⟨rr, rfl⟩, m, rfl⟩
        obtain ⟨r2, hr2⟩ : ∃ r2, splitL a = r2 := ⟨_, rfl⟩
        cases r2 with
        | bad c col =>
          have hc := split_code hr2
          have HX := Lib.hid (readL_bad most r n L HNE.out HMO.out (c := c) (col := col) (by rw [show r.take (upTo at10 r 0) = a from HA.out]; exact hr2))
          have HR2 := Lib.hid hr2
          clear hr2
          go_wp2_with fail
          refine (split_list n a _ _ HR2 (by omega)).mono ?_
          rintro e w2 ⟨rfl, hb2⟩
          have v5 := (HR.out.v5.drewN m).after hb2
          have q3 := v5.get 0 rfl
          have q4 := v5.get 1 rfl
          have q5 := v5.get 2 rfl
          have y1 := v5.free
          have hlt6 := v5.lt
          rw [HH.out] at q3 q4 q5 y1 hlt6
          have HBE := Lib.hid ((below_drewN HR.out.be m).trans (hb2.mono HR.out.be.size))
          have h5a : H < w2.heap.size + 1 := by omega
          have h5b : ¬ H = w2.heap.size + 1 := by omega
          have h5c : ¬ H = w2.heap.size := by omega
          clear f3 f4 f5 z1 hlt5 v5
          go_wp2_with fail
          go_region
          go_wp2_with fail
          refine bodyPost_ret (v := .tuple #[.slice none 0 0, .agg #[.int .i64 c, .int .i64 n, .int .i64 col]]) (by simp [results, Try.results32, go_sem, q3, q4, q5, h5a, hlt6]) rfl (read_bad (by rw [← HRD.out, HX.out]) rfl ?_)
          exact Below.drew (((((HBE.out.setCell hH _).setCell hH _).setCell hH _).alloc (by have := HBE.out.size; simpa [World.setCell] using this) _).alloc (by have := HBE.out.size; simp [World.setCell]; omega) _)
        | ok ws cs =>
          have HX := Lib.hid (readL_ok most r n L HNE.out HMO.out (ws := ws) (cs := cs) (by rw [show r.take (upTo at10 r 0) = a from HA.out]; exact hr2))
          rw [show r.drop (upTo at10 r 0 + 1) = b from HB.out] at HX
          have HLN := Lib.hid (split_len hr2)
          have HR2 := Lib.hid hr2
          clear hr2
          go_wp2_with fail
          refine (split_list n a _ _ HR2 (by omega)).mono ?_
          rintro e w2 ⟨wv, cv, rfl, hw2, hc2, hb2⟩
          obtain ⟨wa, wc, rfl⟩ := own_shape hw2
          obtain ⟨ca, cc, rfl⟩ := own_shape hc2
          have HRR := Lib.hid ((HR.out.after (wa := wr.drewN m) (below_drewN (Below.refl _ _) m)).after hb2)
          have HW2 := Lib.hid hw2
          have HC2 := Lib.hid hc2
          clear f3 f4 f5 z1 hlt5 hw2 hc2
          by_cases hws : ws.length = 0
          · have hd0 : decide (0 < ws.length) = false := decide_eq_false (by omega)
            rw [if_pos hws] at HX
            have HWS := Lib.hid hws
            clear hws
            go_wp2_with fail
            go_roundw
            case rel => exact ⟨L, n + 1, b, by go_num, rfl, by rw [← HRD.out, HX.out], (HRR.out.after ((Below.refl _ _).alloc (Nat.le_refl _) _)).after ((Below.refl _ _).alloc (Nat.le_refl _) _), by omega, by omega, by omega⟩
            case measure => simp [strLen, ByteArray.size]; omega
          · have hd0 : decide (0 < ws.length) = true := decide_eq_true (by omega)
            rw [if_neg hws] at HX
            clear hws
            obtain ⟨i0, hi, h1, h2, h3⟩ := info_parts' info_line
            have HI := Lib.hid hi
            have HI1 := Lib.hid h1
            have HI2 := Lib.hid h2
            have HI3 := Lib.hid h3
            clear hi h1 h2 h3
            have HR4 := Lib.hid (((HRR.out.after ((Below.refl _ _).alloc (Nat.le_refl _) (.cells #[.int .i64 n, .slice wa ws.length wc, .slice ca cs.length cc] 34))).after ((Below.refl _ _).alloc (Nat.le_refl _) (.cells #[.int .i64 0, .int .i64 0, .int .i64 0] 30))).after ((Below.refl _ _).alloc (Nat.le_refl _) (.cells #[.int .i64 n, .slice wa ws.length wc, .slice ca cs.length cc] 34)))
            have HB4 : Hid (Below w2.heap.size w2 (((w2.alloc (.cells #[.int .i64 n, .slice wa ws.length wc, .slice ca cs.length cc] 34)).alloc (.cells #[.int .i64 0, .int .i64 0, .int .i64 0] 30)).alloc (.cells #[.int .i64 n, .slice wa ws.length wc, .slice ca cs.length cc] 34))) := Lib.hid ((((Below.refl _ _).alloc (Nat.le_refl _) _).alloc (by simp) _).alloc (by simp; omega) _)
            have HNW : Hid (Robust LineC (((w2.alloc (.cells #[.int .i64 n, .slice wa ws.length wc, .slice ca cs.length cc] 34)).alloc (.cells #[.int .i64 0, .int .i64 0, .int .i64 0] 30)).alloc (.cells #[.int .i64 n, .slice wa ws.length wc, .slice ca cs.length cc] 34)) (fun b => b < w.heap.size + 1 ∨ (Value.slice oa L.length oc).ownBlock = some b) [.int .i64 n, .slice wa ws.length wc, .slice ca cs.length cc] ⟨n, ws, cs⟩) := Lib.hid (line_robust HW2.out HC2.out HB4.out (fun g hg => by
              have h0 : (wr.drewN m).heap.size = wr.heap.size := rfl
              rcases hg with hg | hg
              · have := HR.out.v5.lt; omega
              · have := HR.out.far g hg; omega))
            obtain ⟨css, hcl, hcn, hrow, hel⟩ := HR4.out.own
            have HCL := Lib.hid hcl
            have HCN := Lib.hid hcn
            have HROW := Lib.hid hrow
            have HEL := Lib.hid hel
            clear hcl hcn hrow hel
            go_wp2_with (at_builtin; refine wpList_append_lies _ rfl _ _ 27 rfl (w.heap.size + 1) 34 i0 (.agg #[.int .i64 0, .slice none 0 0, .slice none 0 0]) 3 56 Try.underlying27 HI.out HI1.out HI2.out HI3.out rfl (by decide) (.slice oa L.length oc) L.length css.flatten rfl HROW.out ⟨w2.heap.size + 1 + 1, 0, none⟩ 1 1 [.int .i64 n, .slice wa ws.length wc, .slice ca cs.length cc] rfl rfl ?_ ?_ ?_ ?_ ?_ ?_ (w2.heap.size + 3) ?_ ?_)
            · refine World.news_of_block (cs := #[.int .i64 n, .slice wa ws.length wc, .slice ca cs.length cc]) (t := 34) (fr := (0, 0)) ?_
              show (((w2.heap.push _).push _).push _)[_]? = _
              simp only [Array.getElem?_push, Array.size_push]
              rw [if_pos trivial]
            · intro u hu
              simp only [List.mem_cons, List.not_mem_nil, or_false] at hu
              rcases hu with rfl | rfl | rfl <;> rfl
            · omega
            · unfold maxLen; omega
            · omega
            · have := HRR.out.v5.lt; simp; omega
            · simp
            intro g cap w5 hown hgrow hat hlt
            have HNEW := Lib.hid (HR4.out.snoc (x := ⟨n, ws, cs⟩) HNW.out HCL.out HCN.out HEL.out hown hgrow (by rcases hat with h | h; exact .inl h; exact .inr (by rw [h]; simp)))
            clear hown hgrow hat hlt
            go_wp2_with fail
            go_roundw
            case rel => exact ⟨L ++ [⟨n, ws, cs⟩], n + 1, b, by go_num, rfl, by rw [← HRD.out, HX.out], HNEW.out, by omega, by omega, by simp; omega⟩
            case measure => simp [strLen, ByteArray.size]; omega
end Go.Proofs.Ytfhicmjfifpjkaa
