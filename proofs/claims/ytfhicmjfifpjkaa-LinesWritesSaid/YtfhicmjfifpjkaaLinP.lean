/- Plain facts on lines and words as lists of bytes: no program in sight. -/
import Derived.WalkKit
import Derived.PlainAid
namespace Go.Proofs.Ytfhicmjfifpjkaa
open Go.RowKit
set_option linter.unusedVariables false
/-- the byte at a place; 0 behind the end -/
def by8 (l : List UInt8) (i : Nat) : Nat := (l.getD i 0).toNat
theorem by8_le (l : List UInt8) (i : Nat) : by8 l i ≤ 255 := by have := (l.getD i 0).toNat_lt; unfold by8; omega
theorem get_by8 (l : List UInt8) : ∀ (n : Nat) (h : n < (ByteArray.mk l.toArray).size), ((ByteArray.mk l.toArray)[n]'h).toNat = by8 l n := fun n h => by
  have h' : n < l.length := by simpa [ByteArray.size] using h
  unfold by8
  rw [ByteArray.getElem_eq_getElem_data]
  simp [List.getD, h']
theorem by8_mem (l : List UInt8) (i : Nat) (h : i < l.length) : by8 l i = (l[i]).toNat := by unfold by8; simp [List.getD, h]
theorem by8_take (l : List UInt8) (n i : Nat) (h : i < n) : by8 (l.take n) i = by8 l i := by unfold by8; simp [List.getD, h]
theorem by8_drop (l : List UInt8) (n i : Nat) : by8 (l.drop n) i = by8 l (n + i) := by unfold by8; simp [List.getD]
theorem ext_list (l : List UInt8) (a b : Nat) : (ByteArray.mk l.toArray).extract a b = ⟨((l.take b).drop a).toArray⟩ := by
  apply ByteArray.ext
  rw [ByteArray.data_extract]
  apply Array.toList_inj.1
  rw [Array.toList_extract, List.extract_eq_take_drop, List.drop_take]
theorem ext_all (l : List UInt8) (a : Nat) : (ByteArray.mk l.toArray).extract a l.length = ⟨(l.drop a).toArray⟩ := by
  rw [ext_list, List.take_length]
/-- the first place from one on that has a byte of a kind; the end, if there is none -/
def upTo (p : Nat → Bool) (l : List UInt8) (k : Nat) : Nat := k + ((l.drop k).takeWhile fun c => !p c.toNat).length
theorem upTo_ge (p : Nat → Bool) (l : List UInt8) (k : Nat) : k ≤ upTo p l k := Nat.le_add_right _ _
theorem upTo_le (p : Nat → Bool) (l : List UInt8) (k : Nat) (h : k ≤ l.length) : upTo p l k ≤ l.length := by
  have := List.Sublist.length_le (List.takeWhile_sublist (fun c : UInt8 => !p c.toNat) (l := l.drop k))
  rw [List.length_drop] at this
  unfold upTo; omega
theorem upTo_hit (p : Nat → Bool) (l : List UInt8) (k : Nat) (h : k < l.length) (hp : p (by8 l k) = true) : upTo p l k = k := by
  unfold upTo
  rw [List.drop_eq_getElem_cons h, List.takeWhile_cons, ← by8_mem l k h, hp]
  rfl
theorem upTo_miss (p : Nat → Bool) (l : List UInt8) (k : Nat) (h : k < l.length) (hp : p (by8 l k) = false) : upTo p l k = upTo p l (k + 1) := by
  unfold upTo
  rw [List.drop_eq_getElem_cons h, List.takeWhile_cons, ← by8_mem l k h, hp]
  simp only [Bool.not_false, if_true, List.length_cons]
  omega
theorem upTo_end (p : Nat → Bool) (l : List UInt8) (k : Nat) (h : l.length ≤ k) : upTo p l k = k := by
  unfold upTo
  rw [List.drop_eq_nil_of_le h]; rfl
theorem upTo_unique (p : Nat → Bool) (l : List UInt8) (n : Nat) : ∀ (k e : Nat), e - k = n → k ≤ e → e ≤ l.length → (∀ i, k ≤ i → i < e → p (by8 l i) = false) → (e < l.length → p (by8 l e) = true) → upTo p l k = e := by
  induction n with
  | zero =>
    intro k e h0 h1 h2 h3 h4
    obtain rfl : k = e := by omega
    by_cases hl : k < l.length
    · exact upTo_hit p l k hl (h4 hl)
    · exact upTo_end p l k (by omega)
  | succ n ih =>
    intro k e h0 h1 h2 h3 h4
    rw [upTo_miss p l k (by omega) (h3 k (Nat.le_refl _) (by omega))]
    exact ih (k + 1) e (by omega) (by omega) h2 (fun i hi => h3 i (by omega)) h4
theorem upTo_before (p : Nat → Bool) (l : List UInt8) (n : Nat) : ∀ (k i : Nat), i - k = n → k ≤ i → i < upTo p l k → p (by8 l i) = false := by
  induction n with
  | zero =>
    intro k i h0 h1 h2
    obtain rfl : k = i := by omega
    by_cases hl : k < l.length
    · cases hp : p (by8 l k)
      · rfl
      · rw [upTo_hit p l k hl hp] at h2; omega
    · rw [upTo_end p l k (by omega)] at h2; omega
  | succ n ih =>
    intro k i h0 h1 h2
    by_cases hl : k < l.length
    · cases hp : p (by8 l k)
      · rw [upTo_miss p l k hl hp] at h2; exact ih (k + 1) i (by omega) (by omega) h2
      · rw [upTo_hit p l k hl hp] at h2; omega
    · rw [upTo_end p l k (by omega)] at h2; omega
theorem upTo_at (p : Nat → Bool) (l : List UInt8) (n : Nat) : ∀ k, upTo p l k - k = n → upTo p l k < l.length → p (by8 l (upTo p l k)) = true := by
  induction n with
  | zero =>
    intro k h0 h2
    have h1 := upTo_ge p l k
    have e : upTo p l k = k := by omega
    cases hp : p (by8 l k)
    · have := upTo_miss p l k (by omega) hp
      have := upTo_ge p l (k + 1)
      omega
    · rw [e]; exact hp
  | succ n ih =>
    intro k h0 h2
    have h1 := upTo_ge p l k
    cases hp : p (by8 l k)
    · have e := upTo_miss p l k (by omega) hp
      rw [e]
      exact ih (k + 1) (by omega) (by omega)
    · have := upTo_hit p l k (by omega) hp
      omega
def blankC (c : Nat) : Bool := c == 32 || c == 9
def badC (c : Nat) : Bool := decide (c < 33) || decide (126 < c)
theorem blank_end (t : List UInt8) (k : Nat) (h : k < t.length) (hb : blankC (by8 t k) = false) : k < upTo blankC t k := by
  rw [upTo_miss _ _ _ h hb]
  have := upTo_ge blankC t (k + 1)
  omega
inductive SRes where
  | bad (code col : Nat)
  | ok (ws : List (List UInt8)) (cs : List Nat)
/-- the words of a line (without its remark), from a place on -/
def scan (t : List UInt8) (k : Nat) (ws : List (List UInt8)) (cs : List Nat) : SRes :=
  if h : k < t.length then
    if hb : blankC (by8 t k) = true then scan t (k + 1) ws cs
    else
      if ws.length = 20 ∨ 80 < upTo blankC t k - k then .bad 2 (k + 1)
      else
        if upTo badC (t.take (upTo blankC t k)) k < upTo blankC t k then .bad 1 (upTo badC (t.take (upTo blankC t k)) k + 1)
        else scan t (upTo blankC t k) (ws ++ [(t.take (upTo blankC t k)).drop k]) (cs ++ [k + 1])
  else .ok ws cs
termination_by t.length - k
decreasing_by
  · omega
  · have := blank_end t k h (by simpa using hb); omega
theorem scan_end (t : List UInt8) (k : Nat) (ws : List (List UInt8)) (cs : List Nat) (h : ¬ k < t.length) : scan t k ws cs = .ok ws cs := by
  rw [scan, dif_neg h]
theorem scan_blank (t : List UInt8) (k : Nat) (ws : List (List UInt8)) (cs : List Nat) (h : k < t.length) (hb : blankC (by8 t k) = true) : scan t k ws cs = scan t (k + 1) ws cs := by
  rw [scan, dif_pos h, dif_pos hb]
theorem scan_long (t : List UInt8) (k : Nat) (ws : List (List UInt8)) (cs : List Nat) (h : k < t.length) (hb : blankC (by8 t k) = false) (hl : ws.length = 20 ∨ 80 < upTo blankC t k - k) : scan t k ws cs = .bad 2 (k + 1) := by
  rw [scan, dif_pos h, dif_neg (by simp [hb]), if_pos hl]
theorem scan_bad (t : List UInt8) (k : Nat) (ws : List (List UInt8)) (cs : List Nat) (h : k < t.length) (hb : blankC (by8 t k) = false) (hl : ¬ (ws.length = 20 ∨ 80 < upTo blankC t k - k)) (hx : upTo badC (t.take (upTo blankC t k)) k < upTo blankC t k) :
    scan t k ws cs = .bad 1 (upTo badC (t.take (upTo blankC t k)) k + 1) := by
  rw [scan, dif_pos h, dif_neg (by simp [hb]), if_neg hl, if_pos hx]
theorem scan_word (t : List UInt8) (k : Nat) (ws : List (List UInt8)) (cs : List Nat) (h : k < t.length) (hb : blankC (by8 t k) = false) (hl : ¬ (ws.length = 20 ∨ 80 < upTo blankC t k - k)) (hx : ¬ upTo badC (t.take (upTo blankC t k)) k < upTo blankC t k) :
    scan t k ws cs = scan t (upTo blankC t k) (ws ++ [(t.take (upTo blankC t k)).drop k]) (cs ++ [k + 1]) := by
  rw [scan, dif_pos h, dif_neg (by simp [hb]), if_neg hl, if_neg hx]
def at10 (c : Nat) : Bool := c == 10
def at35 (c : Nat) : Bool := c == 35
/-- a line without its remark -/
def bare (l : List UInt8) : List UInt8 := l.take (upTo at35 l 0)
def splitL (l : List UInt8) : SRes := scan (bare l) 0 [] []
structure LineD where
  no : Nat
  ws : List (List UInt8)
  cs : List Nat
inductive RRes where
  | bad (code line col : Nat)
  | ok (ls : List LineD)
def readL (most : Nat) (rest : List UInt8) (no : Nat) (out : List LineD) : RRes :=
  if h : rest = [] then .ok out
  else if most < no then .bad 2 no 0
  else match splitL (rest.take (upTo at10 rest 0)) with
    | .bad c col => .bad c no col
    | .ok ws cs => readL most (rest.drop (upTo at10 rest 0 + 1)) (no + 1) (if ws.length = 0 then out else out ++ [⟨no, ws, cs⟩])
termination_by rest.length
decreasing_by
  have : 0 < rest.length := List.length_pos_iff.2 h
  rw [List.length_drop]; omega
theorem readL_nil (most no : Nat) (out : List LineD) : readL most [] no out = .ok out := by rw [readL, dif_pos rfl]
theorem readL_most (most : Nat) (rest : List UInt8) (no : Nat) (out : List LineD) (h : rest ≠ []) (hm : most < no) : readL most rest no out = .bad 2 no 0 := by
  rw [readL, dif_neg h, if_pos hm]
theorem readL_bad (most : Nat) (rest : List UInt8) (no : Nat) (out : List LineD) (h : rest ≠ []) (hm : ¬ most < no) {c col : Nat} (hs : splitL (rest.take (upTo at10 rest 0)) = .bad c col) : readL most rest no out = .bad c no col := by
  rw [readL, dif_neg h, if_neg hm, hs]
theorem readL_ok (most : Nat) (rest : List UInt8) (no : Nat) (out : List LineD) (h : rest ≠ []) (hm : ¬ most < no) {ws : List (List UInt8)} {cs : List Nat} (hs : splitL (rest.take (upTo at10 rest 0)) = .ok ws cs) :
    readL most rest no out = readL most (rest.drop (upTo at10 rest 0 + 1)) (no + 1) (if ws.length = 0 then out else out ++ [⟨no, ws, cs⟩]) := by
  rw [readL, dif_neg h, if_neg hm, hs]
/-- what a scan comes to has as many places as words, and no more than twenty -/
theorem scan_len (t : List UInt8) (n : Nat) : ∀ (k : Nat) (ws : List (List UInt8)) (cs : List Nat), t.length - k ≤ n → ws.length = cs.length → ws.length ≤ 20 → ∀ ws' cs', scan t k ws cs = .ok ws' cs' → ws'.length = cs'.length ∧ ws'.length ≤ 20 := by
  induction n with
  | zero =>
    intro k ws cs hn hl h20 ws' cs' h
    rw [scan_end t k ws cs (by omega)] at h
    injection h with h1 h2
    subst h1; subst h2; exact ⟨hl, h20⟩
  | succ n ih =>
    intro k ws cs hn hl h20 ws' cs' h
    by_cases hk : k < t.length
    · cases hb : blankC (by8 t k)
      · by_cases hlong : ws.length = 20 ∨ 80 < upTo blankC t k - k
        · rw [scan_long t k ws cs hk hb hlong] at h; cases h
        · by_cases hx : upTo badC (t.take (upTo blankC t k)) k < upTo blankC t k
          · rw [scan_bad t k ws cs hk hb hlong hx] at h; cases h
          · rw [scan_word t k ws cs hk hb hlong hx] at h
            have := blank_end t k hk hb
            exact ih _ _ _ (by omega) (by simp [hl]) (by simp; omega) ws' cs' h
      · rw [scan_blank t k ws cs hk hb] at h
        exact ih _ _ _ (by omega) hl h20 ws' cs' h
    · rw [scan_end t k ws cs hk] at h
      injection h with h1 h2
      subst h1; subst h2; exact ⟨hl, h20⟩
theorem split_len {l : List UInt8} {ws : List (List UInt8)} {cs : List Nat} (h : splitL l = .ok ws cs) : ws.length = cs.length ∧ ws.length ≤ 20 :=
  scan_len _ _ 0 [] [] (Nat.le_refl _) rfl (by simp) ws cs h
end Go.Proofs.Ytfhicmjfifpjkaa
