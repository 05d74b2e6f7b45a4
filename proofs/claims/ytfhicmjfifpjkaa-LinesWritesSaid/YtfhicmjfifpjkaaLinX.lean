/- A reader's Is; digits; the reference's Digits. -/
import Derived.Test.YtfhicmjfifpjkaaLinS
import Derived.Laws.IdiomStrings
namespace Go.Proofs.Ytfhicmjfifpjkaa
open Go.RowKit
set_option linter.unusedVariables false
theorem is_none (G : Nat → Prop) (w : World) (r : Nat) (wv cv : Value) (x : LineD) (k : Nat) (h : RdAt G w r wv cv x k) (hk : ¬ k < x.ws.length) (s : List UInt8) :
    Calls Try.prog 37 #[.pointer (some ⟨r, 0, none⟩), .string ⟨s.toArray⟩] w fun e w' => e = .returned (.bool false) ∧ ∃ m, w' = w.drewN m := by
  have HR := Lib.hid h
  clear h
  go_enter Try.func37, Try.ntmps37
  go_wp2_with fail
  go_quiet ((go_at_call 35; exact Calls.quiet_of (more_any G _ r wv cv x k (HR.out.drewN _) false (Lib.hid (decide_eq_false hk)))))
  go_wp2_with fail
  go_ret
  exact ⟨rfl, _, rfl⟩
def IsPost (G : Nat → Prop) (w : World) (r : Nat) (wv cv : Value) (x : LineD) (k : Nat) : Bool → Ending → World → Prop
  | false, e, w' => e = .returned (.bool false) ∧ ∃ m, w' = w.drewN m
  | true, e, w' => e = .returned (.bool true) ∧ Moved G w r wv cv x (k + 1) w'
set_option maxHeartbeats 1600000 in
theorem is_some (G : Nat → Prop) (w : World) (r : Nat) (wv cv : Value) (x : LineD) (k : Nat) (h : RdAt G w r wv cv x k) (hk : k < x.ws.length) (t : List UInt8) (ht : Hid (x.ws.getD k [] = t)) (s : List UInt8) (v : Bool) (hv : Hid ((t == s) = v)) :
    Calls Try.prog 37 #[.pointer (some ⟨r, 0, none⟩), .string ⟨s.toArray⟩] w (IsPost G w r wv cv x k v) := by
  have HR := Lib.hid h
  have hl := h.len.2
  obtain ⟨wa, wcp, hsh⟩ := h.ws.shape
  have c1 := h.var.get 1 rfl
  have c3 := h.var.get 3 rfl
  rw [hsh, strVals_length] at c1
  obtain ⟨b, off, ha, hbw, hcell⟩ := valRow_cells (show ValRow _ (.slice wa _ wcp) _ from hsh ▸ h.ws) k (by rw [strVals_length]; exact hk)
  subst ha
  have hc := hcell k (by rw [strVals_length]; exact hk)
  rw [strVals_get _ _ hk, ht.out] at hc
  have k0 : (0 : Int) ≤ (k : Int) := by omega
  have k1 : (k : Int) < (x.ws.length : Int) := by omega
  clear h hcell hsh
  cases v with
  | false =>
    have hne : (t == s) = false := hv.out
    go_enter Try.func37, Try.ntmps37
    go_wp2_with fail
    go_quiet ((go_at_call 35; exact Calls.quiet_of (more_any G _ r wv cv x k (HR.out.drewN _) true (Lib.hid (decide_eq_true hk)))))
    go_wp2_with fail
    go_ret
    exact ⟨rfl, _, rfl⟩
  | true =>
    have hne : (t == s) = true := hv.out
    go_enter Try.func37, Try.ntmps37
    go_wp2_with fail
    go_quiet ((go_at_call 35; exact Calls.quiet_of (more_any G _ r wv cv x k (HR.out.drewN _) true (Lib.hid (decide_eq_true hk)))))
    have HR1 := Lib.hid (HR.out.drewN nq)
    have e3 := HR1.out.var.get 3 rfl
    have z3 := HR1.out.var.free 3
    have HR2 := Lib.hid (HR1.out.step (k + 1))
    rw [show (((k + 1 : Nat)) : Int) = (k : Int) + 1 from by omega] at HR2
    clear c1 c3 hc
    go_wp2_with fail
    go_ret
    exact ⟨rfl, HR2.out, nq, by rw [show (((k + 1 : Nat)) : Int) = (k : Int) + 1 from by omega]; rfl⟩
/-- the digits of a number -/
def digL (n : Nat) : List UInt8 := if h : n < 10 then [UInt8.ofNat (48 + n)] else digL (n / 10) ++ [UInt8.ofNat (48 + n % 10)]
termination_by n
decreasing_by omega
theorem digL_small (n : Nat) (h : n < 10) : digL n = [UInt8.ofNat (48 + n)] := by rw [digL, dif_pos h]
theorem digL_big (n : Nat) (h : ¬ n < 10) : digL n = digL (n / 10) ++ [UInt8.ofNat (48 + n % 10)] := by rw [digL, dif_neg h]
theorem numV_snoc (l : List UInt8) (c : UInt8) : numV (l ++ [c]) = 10 * numV l + (c.toNat - 48) := by
  unfold numV; rw [List.foldl_append]; rfl
theorem ofNat_dig (c : UInt8) (h : digC c.toNat = true) : UInt8.ofNat (48 + (c.toNat - 48)) = c := by
  have := digC_yes h
  rw [show 48 + (c.toNat - 48) = c.toNat from by omega]
  exact UInt8.ofNat_toNat
/-- digits without a leading zero are those of their number -/
theorem digL_numV (n : Nat) : ∀ l : List UInt8, l.length = n + 1 → (∀ c ∈ l, digC c.toNat = true) → (1 < l.length → by8 l 0 ≠ 48) → digL (numV l) = l ∧ (by8 l 0 ≠ 48 → 0 < numV l) := by
  induction n with
  | zero =>
    intro l hl hd h0
    match l, hl with
    | [c], _ =>
      have hc := hd c (by simp)
      have hy := digC_yes hc
      have e : numV [c] = c.toNat - 48 := by simp [numV]
      rw [e, digL_small _ (by omega), ofNat_dig c hc]
      exact ⟨rfl, fun h => by simp [by8] at h; omega⟩
  | succ n ih =>
    intro l hl hd h0
    have hne : l ≠ [] := by intro e; subst e; simp at hl
    obtain ⟨t, c, rfl⟩ : ∃ t c, l = t ++ [c] := ⟨l.dropLast, l.getLast hne, (List.dropLast_concat_getLast hne).symm⟩
    have htl : t.length = n + 1 := by simpa using hl
    have hb : by8 (t ++ [c]) 0 = by8 t 0 := by rw [by8_mem (t ++ [c]) 0 (by simp), by8_mem t 0 (by omega), List.getElem_append_left (by omega)]
    have h00 : by8 t 0 ≠ 48 := by rw [← hb]; exact h0 (by simp; omega)
    obtain ⟨h1, h2⟩ := ih t htl (fun d hd' => hd d (by simp [hd'])) (fun _ => h00)
    have hpos := h2 h00
    have hc := hd c (by simp)
    have hy := digC_yes hc
    rw [numV_snoc, digL_big _ (by omega), show (10 * numV t + (c.toNat - 48)) / 10 = numV t from by omega, show (10 * numV t + (c.toNat - 48)) % 10 = c.toNat - 48 from by omega, h1, ofNat_dig c hc]
    exact ⟨rfl, fun _ => by omega⟩
theorem digL_of {l : List UInt8} {n : Nat} (h : numL l = some n) : digL n = l := by
  unfold numL at h
  by_cases hx : numFront l = true ∧ l.all (fun c => digC c.toNat) = true
  · rw [if_pos hx] at h
    injection h with h
    subst h
    rcases front_cases l with ⟨hf, _⟩ | ⟨hf, h1, h2, h3⟩
    · rw [hf] at hx; exact absurd hx.1 (by simp)
    · refine (digL_numV (l.length - 1) l (by omega) (fun c hc => List.all_eq_true.1 hx.2 c hc) (fun hlt => ?_)).1
      rcases h3 with h3 | h3
      · omega
      · exact h3.2
  · rw [if_neg hx] at h; cases h
theorem digL_len (k : Nat) : ∀ n, n < 10 ^ (k + 1) → (digL n).length ≤ k + 1 := by
  induction k with
  | zero => intro n h; rw [digL_small n (by simpa using h)]; simp
  | succ k ih =>
    intro n h
    by_cases hs : n < 10
    · rw [digL_small n hs]; simp
    · rw [digL_big n hs, List.length_append]
      have := ih (n / 10) (by rw [Nat.pow_succ] at h; omega)
      simp; omega
theorem cat_S (a b : List UInt8) : (ByteArray.mk a.toArray) ++ (ByteArray.mk b.toArray) = ⟨(a ++ b).toArray⟩ := by
  apply ByteArray.ext
  simp
set_option maxRecDepth 100000 in
set_option maxHeartbeats 800000 in
theorem digits_any (n : Nat) (w : World) (hn : n ≤ 1000000000) (s : List UInt8) (hs : Hid (digL n = s)) :
    Calls Try.prog 38 #[.int .i64 n] w fun e w' => e = .returned (.string ⟨s.toArray⟩) ∧ Below w.heap.size w w' := by
  go_enter Try.func38, Try.ntmps38
  go_wp2_with fail
  go_loopw [0, 3] (fun i t wr => ∃ (q : Nat) (X : List UInt8), i = .int .i64 q ∧ t = .string ⟨X.toArray⟩ ∧ digL q ++ X = s ∧ q ≤ 1000000000 ∧ X.length + (digL q).length ≤ 20 ∧ Below w.heap.size w wr) (fun i _ _ => (intOf i).toNat)
  case atStart => exact ⟨n, [], rfl, rfl, by rw [hs.out]; simp, hn, by have := digL_len 9 n (by omega); simp; omega, Below.refl _ _⟩
  case round =>
    obtain ⟨q, X, rfl, rfl, hX, hq, hXl, hbe⟩ := hrel
    have HX := Lib.hid hX
    have HBE := Lib.hid hbe
    clear hX hbe
    obtain ⟨c, hc⟩ : ∃ c, UInt8.ofNat (48 + q % 10) = c := ⟨_, rfl⟩
    have hcn : (c.toNat : Int) = 48 + (q : Int) % 10 := by rw [← hc, UInt8.toNat_ofNat']; omega
    have hcv : (convert 80 9 (.slice (some ⟨wr.heap.size, 0, none⟩) 1 1)).run Try.prog (wr.alloc (.cells #[.int .u8 (48 + (q : Int) % 10)] 5)) = .ok (.string ⟨[c].toArray⟩) (wr.alloc (.cells #[.int .u8 (48 + (q : Int) % 10)] 5)) :=
      run_convert_bytes_back _ 80 9 5 ⟨wr.heap.size, 0, none⟩ 1 [c] Try.underlying80 Try.underlying5 Try.underlying9 (fun j hj => by
        have hj0 : j = 0 := by simp at hj; omega
        subst hj0
        simp [Addr.add, go_sem, hcn])
    have HC := Lib.hid hc
    clear hc hcn
    by_cases h10 : q < 10
    · have HD : Hid (s = c :: X) := Lib.hid (by rw [← HX.out, digL_small q h10, ← HC.out, Nat.mod_eq_of_lt h10]; rfl)
      have hq0 : decide ((q : Int) / 10 ≤ 0) = true := decide_eq_true (by omega)
      go_wp2_with fail
      go_ret
      refine ⟨?_, HBE.out.alloc HBE.out.size _⟩
      rw [HD.out]
      show Ending.returned (.string ((ByteArray.mk [c].toArray) ++ (ByteArray.mk X.toArray))) = _
      rw [cat_S]; rfl
    · have HD : Hid (digL (q / 10) ++ (c :: X) = s ∧ (c :: X).length + (digL (q / 10)).length ≤ 20) := Lib.hid (by
        have hb := digL_big q h10
        rw [HC.out] at hb
        refine ⟨by rw [← HX.out, hb]; simp, ?_⟩
        rw [hb, List.length_append] at hXl
        simp at hXl ⊢; omega)
      have hq0 : decide ((q : Int) / 10 ≤ 0) = false := decide_eq_false (by omega)
      go_wp2_with fail
      go_roundw
      case rel => exact ⟨q / 10, c :: X, by go_num, by rw [show (ByteArray.mk #[c]) ++ (ByteArray.mk X.toArray) = ⟨([c] ++ X).toArray⟩ from cat_S [c] X]; rfl, HD.out.1, by omega, HD.out.2, HBE.out.alloc HBE.out.size _⟩
      case measure => simp [intOf]; omega
end Go.Proofs.Ytfhicmjfifpjkaa
