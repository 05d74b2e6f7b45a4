/- Lines that are written, and read again: plain. -/
import Derived.Test.YtfhicmjfifpjkaaLinR
import Derived.Test.YtfhicmjfifpjkaaLinAD
namespace Go.Proofs.Ytfhicmjfifpjkaa
open Go.RowKit
set_option linter.unusedVariables false
def lineW : List (List UInt8) → List UInt8
  | [] => []
  | w :: t => w ++ t.flatMap fun x => 32 :: x
theorem lineW_snoc {ws : List (List UInt8)} (h : ws ≠ []) (x : List UInt8) : lineW (ws ++ [x]) = lineW ws ++ 32 :: x := by
  cases ws with
  | nil => exact absurd rfl h
  | cons w t => simp [lineW]
def writeL (LL : List (List (List UInt8))) : List UInt8 := LL.flatMap fun ws => lineW ws ++ [10]
theorem writeL_snoc (LL : List (List (List UInt8))) (ws : List (List UInt8)) : writeL (LL ++ [ws]) = writeL LL ++ (lineW ws ++ [10]) := by simp [writeL]
def lenW (ws : List (List UInt8)) : Nat := (ws.map fun w => w.length + 1).sum
def lenL (LL : List (List (List UInt8))) : Nat := (LL.map lenW).sum
theorem lenW_snoc (ws : List (List UInt8)) (x : List UInt8) : lenW (ws ++ [x]) = lenW ws + (x.length + 1) := by simp [lenW]
theorem lenL_snoc (LL : List (List (List UInt8))) (ws : List (List UInt8)) : lenL (LL ++ [ws]) = lenL LL + lenW ws := by simp [lenL]
theorem flat_len (t : List (List UInt8)) : (t.flatMap fun x => 32 :: x).length = lenW t := by
  induction t with
  | nil => rfl
  | cons x t ih => rw [List.flatMap_cons, List.length_append, ih]; simp [lenW]
theorem lineW_len {ws : List (List UInt8)} (h : ws ≠ []) : (lineW ws).length + 1 = lenW ws := by
  cases ws with
  | nil => exact absurd rfl h
  | cons w t =>
    show (w ++ t.flatMap fun x => 32 :: x).length + 1 = _
    rw [List.length_append, flat_len]
    simp [lenW]; omega
theorem lineW_le (ws : List (List UInt8)) : (lineW ws).length ≤ lenW ws := by
  cases ws with
  | nil => simp [lineW, lenW]
  | cons w t => have := lineW_len (ws := w :: t) (by simp); omega
theorem lenW_le {ws : List (List UInt8)} {m : Nat} (h : ∀ w ∈ ws, w.length ≤ m) : lenW ws ≤ (m + 1) * ws.length := by
  induction ws with
  | nil => simp [lenW]
  | cons w t ih =>
    have h1 := h w (by simp)
    have h2 := ih (fun x hx => h x (by simp [hx]))
    have e : lenW (w :: t) = w.length + 1 + lenW t := by simp [lenW]
    rw [e, List.length_cons, Nat.mul_succ]; omega
theorem writeL_le (LL : List (List (List UInt8))) : (writeL LL).length ≤ lenL LL + LL.length := by
  induction LL with
  | nil => simp [writeL, lenL]
  | cons ws t ih =>
    have e : writeL (ws :: t) = (lineW ws ++ [10]) ++ writeL t := by simp [writeL]
    have e2 : lenL (ws :: t) = lenW ws + lenL t := by simp [lenL]
    have := lineW_le ws
    rw [e, e2]; simp only [List.length_append, List.length_cons, List.length_nil]; omega
theorem lineW_app (a b : List (List UInt8)) : (lineW a).length ≤ (lineW (a ++ b)).length := by
  cases a with
  | nil => simp [lineW]
  | cons w t => simp [lineW]
theorem lineW_take_le (ws : List (List UInt8)) (q : Nat) : (lineW (ws.take q)).length ≤ (lineW ws).length := by
  have := lineW_app (ws.take q) (ws.drop q)
  rwa [List.take_append_drop] at this
theorem writeL_part (LL : List (List (List UInt8))) (k q : Nat) (h : k < LL.length) : (writeL (LL.take k)).length + (lineW ((LL.getD k []).take q)).length + 1 ≤ (writeL LL).length := by
  have e : LL = LL.take k ++ (LL.getD k [] :: LL.drop (k + 1)) := by
    have e2 : LL.getD k [] = LL[k] := by simp [h]
    rw [e2, ← List.drop_eq_getElem_cons h, List.take_append_drop]
  have h2 : writeL LL = writeL (LL.take k) ++ ((lineW (LL.getD k []) ++ [10]) ++ writeL (LL.drop (k + 1))) := by
    have := congrArg writeL e
    rw [this]; simp [writeL]
  have h3 := lineW_take_le (LL.getD k []) q
  rw [h2]; simp only [List.length_append, List.length_cons, List.length_nil]; omega
/-- may a line be written so that it is read again? -/
def mayW (ws : List (List UInt8)) : Bool := decide (0 < ws.length) && decide (ws.length ≤ 20) && ws.all wordL
def mayL (LL : List (List (List UInt8))) : Bool := LL.all mayW
theorem mayL_snoc (LL : List (List (List UInt8))) (ws : List (List UInt8)) : mayL (LL ++ [ws]) = (mayL LL && mayW ws) := by simp [mayL]
theorem mayW_yes {ws : List (List UInt8)} (h : mayW ws = true) : ws ≠ [] ∧ ws.length ≤ 20 ∧ ∀ w ∈ ws, wordL w = true := by
  simp only [mayW, Bool.and_eq_true, decide_eq_true_eq, List.all_eq_true] at h
  exact ⟨by intro e; subst e; simp at h, h.1.2, h.2⟩
theorem writeL_may {LL : List (List (List UInt8))} (h : mayL LL = true) : (writeL LL).length = lenL LL := by
  induction LL with
  | nil => rfl
  | cons ws t ih =>
    have e : writeL (ws :: t) = (lineW ws ++ [10]) ++ writeL t := by simp [writeL]
    have e2 : lenL (ws :: t) = lenW ws + lenL t := by simp [lenL]
    simp only [mayL, List.all_cons, Bool.and_eq_true] at h
    have := lineW_len (mayW_yes h.1).1
    have h3 := ih h.2
    rw [e, e2, List.length_append, List.length_append, List.length_singleton]; omega
theorem lineW_segs (w : List UInt8) (t : List (List UInt8)) : lineW (w :: t) = segs (([], w) :: t.map fun x => ([32], x)) := by
  have : ∀ t : List (List UInt8), (t.flatMap fun x => 32 :: x) = segs (t.map fun x => ([32], x)) := by
    intro t
    induction t with
    | nil => rfl
    | cons x t ih => rw [List.flatMap_cons, ih]; simp [segs]
  show w ++ t.flatMap (fun x => 32 :: x) = _
  rw [this]; simp [segs]
theorem lineW_mem {ws : List (List UInt8)} (h : mayW ws = true) {c : UInt8} (hc : c ∈ lineW ws) : c ≠ 10 ∧ c ≠ 35 := by
  obtain ⟨hne, _, hw⟩ := mayW_yes h
  cases ws with
  | nil => exact absurd rfl hne
  | cons w t =>
    simp only [lineW, List.mem_append, List.mem_flatMap, List.mem_cons] at hc
    rcases hc with hc | ⟨x, hx, hc⟩
    · exact word_mem (hw w (by simp)) hc
    · rcases hc with rfl | hc
      · decide
      · exact word_mem (hw x (by simp [hx])) hc
theorem line_split {ws : List (List UInt8)} (h : mayW ws = true) : ∃ cs, splitL (lineW ws) = .ok ws cs := by
  obtain ⟨hne, h20, hw⟩ := mayW_yes h
  have hb : bare (lineW ws) = lineW ws := bare_all _ (fun c hc => (lineW_mem h hc).2)
  cases ws with
  | nil => exact absurd rfl hne
  | cons w t =>
    obtain ⟨cs, hsc⟩ := scan_segs (lineW (w :: t)) (([], w) :: t.map fun x => ([32], x)) 0 [] [] [] (by rw [lineW_segs]; simp) (by simp) (by
      intro p hp
      simp only [List.mem_cons, List.mem_map] at hp
      rcases hp with rfl | ⟨x, hx, rfl⟩
      · exact ⟨by simp, hw w (by simp)⟩
      · exact ⟨fun c hc => by rw [List.mem_singleton] at hc; rw [hc]; decide, hw x (by simp [hx])⟩) (by
      intro p hp
      simp only [List.drop_succ_cons, List.drop_zero, List.mem_map] at hp
      obtain ⟨x, _, rfl⟩ := hp
      simp) (by simp) (by simpa using h20)
    refine ⟨cs, ?_⟩
    unfold splitL
    rw [hb, hsc]
    simp [Function.comp_def]
theorem write_read (LL : List (List (List UInt8))) : ∀ (no : Nat) (out : List LineD), mayL LL = true → no + LL.length ≤ 801 → ∃ Y : List LineD, readL 800 (writeL LL) no out = .ok (out ++ Y) ∧ Y.map (·.ws) = LL ∧ ∀ i (h : i < Y.length), (Y[i]).no = no + i := by
  induction LL with
  | nil => intro no out _ _; exact ⟨[], by rw [show writeL [] = [] from rfl, readL_nil, List.append_nil], rfl, fun i h => by simp at h⟩
  | cons ws t ih =>
    intro no out h hno
    simp only [mayL, List.all_cons, Bool.and_eq_true] at h
    obtain ⟨cs, hsp⟩ := line_split h.1
    have hne := (mayW_yes h.1).1
    have e : writeL (ws :: t) = lineW ws ++ 10 :: writeL t := by simp [writeL]
    rw [e, readL_nl 800 (lineW ws) (writeL t) no out (fun c hc => (lineW_mem h.1 hc).1) (by simp at hno; omega) hsp, if_neg (by simpa using hne)]
    obtain ⟨Y, h1, h2, h3⟩ := ih (no + 1) (out ++ [⟨no, ws, cs⟩]) h.2 (by simp at hno; omega)
    refine ⟨⟨no, ws, cs⟩ :: Y, by rw [h1]; simp, by simp [h2], fun i hi => ?_⟩
    cases i with
    | zero => rfl
    | succ i =>
      have := h3 i (by simpa using hi)
      simp only [List.getElem_cons_succ]
      omega
theorem write_top {LL : List (List (List UInt8))} (h : mayL LL = true) (hl : lenL LL ≤ 20000) (hn : LL.length ≤ 100) : ∃ Y : List LineD, readTop (writeL LL) = .ok Y ∧ Y.map (·.ws) = LL ∧ ∀ i (h : i < Y.length), (Y[i]).no = 1 + i := by
  obtain ⟨Y, h1, h2, h3⟩ := write_read LL 1 [] h (by omega)
  refine ⟨Y, ?_, h2, h3⟩
  unfold readTop
  rw [if_neg (by rw [writeL_may h]; omega), h1]
  simp
end Go.Proofs.Ytfhicmjfifpjkaa
