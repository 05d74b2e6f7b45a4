/- What scripts over all lines come to (plain); Each with the closure of LinesEach. -/
import Derived.Test.YtfhicmjfifpjkaaLinAE
import Derived.Test.YtfhicmjfifpjkaaLinAG
namespace Go.Proofs.Ytfhicmjfifpjkaa
open Go.RowKit
set_option linter.unusedVariables false
def eachL (L : List OpD) : List LineD → List (List UInt8) → Int → List (List UInt8) × Int × Int × Int × Int
  | [], out, last => (out, last, 0, 0, 0)
  | x :: X, out, last => if (endF x (runL x L 0 [])).2.1 = 0 then eachL L X (out ++ (runL x L 0 []).out) x.no else (out ++ (runL x L 0 []).out, x.no, endF x (runL x L 0 []))
theorem eachL_at (L : List OpD) (X : List LineD) (k : Nat) (out : List (List UInt8)) (last : Int) (h : k < X.length) (rr : RunR) (hr : runL X[k] L 0 [] = rr) :
    eachL L (X.drop k) out last = if (endF X[k] rr).2.1 = 0 then eachL L (X.drop (k + 1)) (out ++ rr.out) (X[k]).no else (out ++ rr.out, ((X[k]).no : Int), endF X[k] rr) := by
  rw [List.drop_eq_getElem_cons h, ← hr]; rfl
theorem eachL_end (L : List OpD) (X : List LineD) (out : List (List UInt8)) (last : Int) : eachL L (X.drop X.length) out last = (out, last, 0, 0, 0) := by
  rw [List.drop_length]; rfl
theorem endF_zero {x : LineD} {rr : RunR} (hn : 1 ≤ x.no) (h : (endF x rr).2.1 = 0) : endF x rr = (0, 0, 0) ∧ ∃ k o, rr = .done k o ∧ ¬ k < x.ws.length := by
  cases rr with
  | done k o =>
    by_cases hk : k < x.ws.length
    · have e : endF x (.done k o) = ((1 : Int), (x.no : Int), ((colAt x (k + 1) : Nat) : Int)) := if_pos hk
      rw [e] at h
      simp only at h
      omega
    · exact ⟨if_neg hk, k, o, rfl, hk⟩
  | stop c col k o =>
    simp only [endF] at h
    omega
theorem ent_each (args : Array Value) (w : World) : (callFunc 26 args).run Try.prog w = .ok (.enter 26 args) w :=
  Go.MuLone.run_callFunc_enter Try.func26 (by kernel_rfl) rfl args w
abbrev EachRes := List (List UInt8) × Int × Int × Int × Int
def EInv (L : List OpD) (X : List LineD) (B Hg Hl : Nat) (RES : EachRes) (k : Nat) (w : World) : Prop := ∃ out last, eachL L (X.drop k) out last = RES ∧ GotAt B Hg out w ∧ VarAt w Hl [.int .i64 last] ∧ out.length ≤ 30 * k
def EFin (Hl : Nat) (RES : EachRes) (c l k : Int) (w : World) : Prop := RES.2.2 = (c, l, k) ∧ l ≠ 0 ∧ VarAt w Hl [.int .i64 RES.2.1]
def EPost (wq : World) (Hg Hl : Nat) (RES : EachRes) (e : Ending) (w' : World) : Prop :=
  e = .returned (.agg #[.int .i64 RES.2.2.1, .int .i64 RES.2.2.2.1, .int .i64 RES.2.2.2.2]) ∧ VarAt w' Hl [.int .i64 RES.2.1] ∧ (RES.2.2 = (0, 0, 0) ∧ (∃ gv, VarAt w' Hg [gv] ∧ ValRow w' gv (strVals RES.1)) ∨ RES.2.2.2.1 ≠ 0) ∧ Below wq.heap.size wq w'
set_option maxHeartbeats 800000 in
theorem each_run (w2 wq : World) (F2 : Nat → Prop) (Hg Hl Ho : Nat) (hHg : Hg = wq.heap.size) (hHl : Hl = wq.heap.size + 1) (X : List LineD) (hgd : ∀ x ∈ X, GoodLine x) (hX : X.length ≤ 800) (L : List OpD) (hL : L.length ≤ 30) (RES : EachRes) (HRES : Hid (eachL L X [] 0 = RES)) (oa : Option Addr) (oc : Nat)
    (hvo : VarAt wq Ho [.slice oa L.length oc]) (hops : RowOf 3 OpC wq (.slice oa L.length oc) L) (v : Value) (hrow : FixOf 3 LineC F2 w2 v X) (hb : Below w2.heap.size w2 wq) :
    Calls Try.prog 18 #[v, .func (.func 26) #[] #[.pointer (some ⟨Hl, 0, none⟩), .pointer (some ⟨Hg, 0, none⟩), .pointer (some ⟨Ho, 0, none⟩)]] ((wq.alloc (.cells #[.slice none 0 0] 22)).alloc (.cells #[.int .i64 0] 3)) (EPost wq Hg Hl RES) := by
  subst hHg
  subst hHl
  have hsz : ((wq.alloc (.cells #[.slice none 0 0] 22)).alloc (.cells #[.int .i64 0] 3)).heap.size = wq.heap.size + 2 := by simp
  have hol := hvo.lt
  have hA : Near (fun b => b = wq.heap.size ∨ b = wq.heap.size + 1 ∨ wq.heap.size + 2 ≤ b) wq ((wq.alloc (.cells #[.slice none 0 0] 22)).alloc (.cells #[.int .i64 0] 3)) := (near_alloc _ _ _).trans (near_alloc _ _ _)
  have hbel : ∀ w', Near (fun b => b = wq.heap.size ∨ b = wq.heap.size + 1 ∨ wq.heap.size + 2 ≤ b) ((wq.alloc (.cells #[.slice none 0 0] 22)).alloc (.cells #[.int .i64 0] 3)) w' → Below wq.heap.size wq w' := fun w' hN => (hA.trans hN).below (Nat.le_refl _) (fun b hb => by omega)
  have hP : Places (fun b => b = wq.heap.size ∨ b = wq.heap.size + 1 ∨ wq.heap.size + 2 ≤ b) (wq.heap.size + 2) wq.heap.size (wq.heap.size + 1) Ho := ⟨fun b hb' => .inr (.inr hb'), .inl rfl, .inr (.inl rfl), by omega, by omega, by omega, by omega, by omega⟩
  refine (each_any (fun b => b = wq.heap.size ∨ b = wq.heap.size + 1 ∨ wq.heap.size + 2 ≤ b) _ _ X 26 #[.pointer (some ⟨wq.heap.size + 1, 0, none⟩), .pointer (some ⟨wq.heap.size, 0, none⟩), .pointer (some ⟨Ho, 0, none⟩)] (fun b hb' => .inr (.inr (by rw [hsz] at hb'; exact hb'))) (hrow.near (near_of_below _ ((hb.alloc hb.size _).alloc (by have := hb.size; simp; omega) _)) (fun b hb1 hb2 => by have := hb.size; omega)) (fun y hy => ⟨(hgd y hy).len, (hgd y hy).le20⟩) ent_each
      (EInv L X (wq.heap.size + 2) wq.heap.size (wq.heap.size + 1) RES) (EFin (wq.heap.size + 1) RES) ?_ ?_ ?_).mono ?_
  · intro k wa wb hi hN
    rw [hsz] at hN
    obtain ⟨out, last, h1, h2, h3, h4⟩ := hi
    exact ⟨out, last, h1, h2.near hN (fun b e => e) (by omega), h3.near hN (by omega), h4⟩
  · refine ⟨[], 0, HRES.out, ⟨.slice none 0 0, (varAt_new wq #[.slice none 0 0] _ _ rfl).alloc _, ⟨by simp [strVals], .inl ⟨rfl, rfl⟩⟩⟩, varAt_new _ #[.int .i64 0] _ _ (by simp), by simp⟩
  · intro k hk wk r wv cv hN hvB hr hrd hi hpre
    rw [hsz] at hvB hr ⊢
    obtain ⟨w0, ⟨out, last, h1, ⟨gv, g1, g2⟩, h3, h4⟩, hw0, hrw, hN0⟩ := hpre
    have hgx := hgd X[k] (List.getElem_mem _)
    obtain ⟨rr, hrr⟩ : ∃ rr, runL X[k] L 0 [] = rr := ⟨_, rfl⟩
    have hel := eachL_at L X k out last hk rr hrr
    rw [h1] at hel
    refine (each_clo _ (wq.heap.size + 2) wq.heap.size (wq.heap.size + 1) Ho hP X[k] hgx.shortK L hL rr (Lib.hid hrr) wk r wv cv oa oc hr out (by omega) gv last
      ⟨hrd, g1.near hN0 id, ownsRow_near g2 hN0 (fun _ _ h => h), fun e => by have := (row_block g2 e).2; omega, h3.near hN0 id, (hvo.near (hA.trans hN) (by omega)), hvB, (opC_fix (F := fun b => b = wq.heap.size ∨ b = wq.heap.size + 1 ∨ wq.heap.size + 2 ≤ b) hops (fun b hb' => by omega)).near (hA.trans hN) (fun _ _ e => e)⟩).mono ?_
    intro e w' hp
    cases rr with
    | done kk o =>
      obtain ⟨he, hrd', hN', hkl, hol', hvB', hnx⟩ := hp
      refine ⟨?_, hvB'⟩
      by_cases hlt : kk < (X[k]).ws.length
      · have ef : endF X[k] (.done kk o) = ((1 : Int), ((X[k]).no : Int), ((colAt X[k] (kk + 1) : Nat) : Int)) := if_pos hlt
        have hno := hgx.no
        rw [ef] at hel
        simp only at hel
        rw [if_neg (by omega)] at hel
        refine .inr (.inl ⟨kk, he, hrd', hN', hlt, fun w3 h3' => ⟨?_, by omega, ?_⟩⟩)
        · rw [hel]
          have : colAt X[k] (kk + 1) = (X[k]).cs.getD kk 0 := by unfold colAt; rw [if_pos (by have := hgx.len; omega)]; rfl
          rw [← this]
        · rw [hel]; exact (hnx w3 h3').2
      · have ef : endF X[k] (.done kk o) = (0, 0, 0) := if_neg hlt
        rw [ef, if_pos rfl] at hel
        refine .inl ⟨kk, he, hrd', hN', by omega, fun w3 h3' _ => ?_⟩
        obtain ⟨q1, q2⟩ := hnx w3 (h3'.mono (fun _ _ e => .inl e))
        exact ⟨out ++ o, (X[k]).no, hel.symm, q1, q2, by rw [List.length_append]; omega⟩
    | stop c col kk o =>
      obtain ⟨he, hN', hvB', hnx⟩ := hp
      have hno := hgx.no
      have ef : endF X[k] (.stop c col kk o) = (c, ((X[k]).no : Int), ((col : Nat) : Int)) := rfl
      rw [ef] at hel
      simp only at hel
      rw [if_neg (by omega)] at hel
      refine ⟨.inr (.inr ⟨c, (X[k]).no, (col : Nat), he, hN', fun w3 h3' => ⟨by rw [hel], by omega, by rw [hel]; exact hnx w3 h3'⟩⟩), hvB'⟩
  · intro e w' hp
    rcases hp with ⟨rfl, ⟨out, last, h1, ⟨gv, g1, g2⟩, h3, h4⟩, hN⟩ | ⟨c, ln, kk, rfl, ⟨h1, h2, h3⟩, hN⟩
    · rw [eachL_end] at h1
      subst h1
      exact ⟨rfl, h3, .inl ⟨rfl, gv, g1, valRow_own g2⟩, hbel _ hN⟩
    · obtain ⟨r1, r2, r3⟩ := RES
      simp only at h1
      subst h1
      exact ⟨rfl, h3, .inr h2, hbel _ hN⟩
end Go.Proofs.Ytfhicmjfifpjkaa
