/- Plain facts on hexadecimal digits and texts: no program in sight. -/
import Derived.WalkKit
import Derived.PlainAid
namespace Go.Proofs.Ytflcbbohnkgokaa
open Go.RowKit
open Go.PlainAid (bt)

theorem snoc_ind {α : Type} {P : List α → Prop} (h0 : P []) (hs : ∀ l c, P l → P (l ++ [c])) (l : List α) : P l := by
  have h : ∀ r : List α, P r.reverse := by
    intro r
    induction r with
    | nil => exact h0
    | cons c r ih => rw [List.reverse_cons]; exact hs _ c ih
  have := h l.reverse
  rwa [List.reverse_reverse] at this
/-- a digit's worth; 16: it is none -/
def dv (c : Nat) : Nat := if 48 ≤ c ∧ c ≤ 57 then c - 48 else if 97 ≤ c ∧ c ≤ 102 then c - 87 else 16
/-- the worth of digits -/
def hexVal (l : List UInt8) : Nat := l.foldl (fun n c => n * 16 + dv c.toNat) 0
/-- are they digits? -/
def hexAll (l : List UInt8) : Bool := l.all fun c => dv c.toNat < 16
/-- sixteen digits? -/
def hexOk (s : ByteArray) : Bool := s.size == 16 && hexAll s.data.toList
def hexNum (s : ByteArray) : Nat := if hexOk s then hexVal s.data.toList else 0
def hexDig (d : Nat) : UInt8 := if d < 10 then UInt8.ofNat (48 + d) else UInt8.ofNat (87 + d)
/-- the digits of a number, the k first of sixteen -/
def hexTo (n k : Nat) : List UInt8 := (List.range k).map fun i => hexDig (n / 16 ^ (15 - i) % 16)
def hexOf (n : Nat) : List UInt8 := hexTo n 16

theorem take_snoc (s : ByteArray) (k : Nat) (h : k < s.size) : s.data.toList.take (k + 1) = s.data.toList.take k ++ [s[k]] := by
  rw [List.take_succ_eq_append_getElem (by simpa using h)]; rfl
theorem bt_get (s : ByteArray) (k : Nat) (h : k < s.size) : bt s k = (s[k].toNat : Int) := by unfold bt; rw [dif_pos h]
theorem hexVal_snoc (l : List UInt8) (c : UInt8) : hexVal (l ++ [c]) = hexVal l * 16 + dv c.toNat := by simp [hexVal]
theorem hexAll_snoc (l : List UInt8) (c : UInt8) : hexAll (l ++ [c]) = (hexAll l && decide (dv c.toNat < 16)) := by simp [hexAll]
theorem hexTo_succ (n k : Nat) : hexTo n (k + 1) = hexTo n k ++ [hexDig (n / 16 ^ (15 - k) % 16)] := by simp [hexTo, List.range_succ]
theorem hexVal_lt (l : List UInt8) (h : hexAll l = true) : hexVal l < 16 ^ l.length := by
  revert h
  refine snoc_ind (P := fun l => hexAll l = true → hexVal l < 16 ^ l.length) (by simp [hexVal]) ?_ l
  intro l c ih h
  rw [hexAll_snoc] at h
  simp at h
  have := ih h.1
  rw [hexVal_snoc]
  simp only [List.length_append, List.length_singleton, Nat.pow_succ]
  omega
theorem hexAll_take (s : ByteArray) (k : Nat) (h : hexAll s.data.toList = true) : hexAll (s.data.toList.take k) = true := by
  simp only [hexAll, List.all_eq_true] at h ⊢
  exact fun c hc => h c (List.mem_of_mem_take hc)
theorem hexOk_false (s : ByteArray) (k : Nat) (h : k < s.size) (hd : ¬ dv s[k].toNat < 16) : hexOk s = false := by
  have : hexAll s.data.toList = false := by
    rw [Bool.eq_false_iff]
    intro ha
    have := (List.all_eq_true.1 ha) s[k] (by simp [ByteArray.getElem_eq_getElem_data])
    simp at this
    omega
  simp [hexOk, this]
theorem dv_le (c : Nat) : dv c ≤ 16 := by unfold dv; split <;> (try split) <;> omega
theorem dv_hexDig (d : Nat) (h : d < 16) : dv (hexDig d).toNat = d := by
  unfold hexDig
  split
  · rw [UInt8.toNat_ofNat_of_lt' (by simp [UInt8.size]; omega)]; unfold dv; rw [if_pos (by omega)]; omega
  · rw [UInt8.toNat_ofNat_of_lt' (by simp [UInt8.size]; omega)]; unfold dv; rw [if_neg (by omega), if_pos (by omega)]; omega
theorem hexAll_hexTo (n k : Nat) : hexAll (hexTo n k) = true := by
  induction k with
  | zero => rfl
  | succ k ih => rw [hexTo_succ, hexAll_snoc, ih, dv_hexDig _ (Nat.mod_lt _ (by decide))]; simp [Nat.mod_lt]
theorem hexVal_hexTo (n k : Nat) (h : n < 16 ^ 16) (hk : k ≤ 16) : hexVal (hexTo n k) = n / 16 ^ (16 - k) := by
  induction k with
  | zero => simp [hexVal, hexTo]; omega
  | succ k ih =>
    rw [hexTo_succ, hexVal_snoc, ih (by omega), dv_hexDig _ (Nat.mod_lt _ (by decide))]
    have e : 16 - k = (15 - k) + 1 := by omega
    have e2 : 16 - (k + 1) = 15 - k := by omega
    rw [e, e2, Nat.pow_succ, ← Nat.div_div_eq_div_mul]
    omega
theorem hexTo_length (n k : Nat) : (hexTo n k).length = k := by simp [hexTo]
theorem hexOk_hexOf (n : Nat) : hexOk ⟨(hexOf n).toArray⟩ = true := by
  have := hexTo_length n 16
  simp [hexOk, hexOf, hexAll_hexTo, ByteArray.size, this]
theorem hexNum_hexOf (n : Nat) (h : n < 16 ^ 16) : hexNum ⟨(hexOf n).toArray⟩ = n := by
  unfold hexNum
  rw [if_pos (hexOk_hexOf n)]
  have := hexVal_hexTo n 16 h (by omega)
  simpa [hexOf] using this
theorem hexDig_dv (c : UInt8) (h : dv c.toNat < 16) : hexDig (dv c.toNat) = c := by
  have hc := c.toNat_lt
  unfold dv at h ⊢
  apply UInt8.toNat_inj.1
  split at h
  · rename_i h1; rw [if_pos h1]; unfold hexDig; rw [if_pos (by omega), UInt8.toNat_ofNat_of_lt' (by simp [UInt8.size]; omega)]; omega
  · rename_i h1
    split at h
    · rename_i h2; rw [if_neg h1, if_pos h2]; unfold hexDig; rw [if_neg (by omega), UInt8.toNat_ofNat_of_lt' (by simp [UInt8.size]; omega)]; omega
    · omega
/-- the digits of what digits are worth are those digits: at one place -/
theorem hexVal_append (l r : List UInt8) : hexVal (l ++ r) = hexVal l * 16 ^ r.length + hexVal r := by
  refine snoc_ind (P := fun r => hexVal (l ++ r) = hexVal l * 16 ^ r.length + hexVal r) (by simp [hexVal]) ?_ r
  intro r c ih
  rw [← List.append_assoc, hexVal_snoc, hexVal_snoc, ih]
  simp only [List.length_append, List.length_singleton, Nat.pow_succ, Nat.add_mul]
  rw [Nat.mul_assoc]; omega
theorem hex_at (l : List UInt8) (ha : hexAll l = true) (k : Nat) (h : k < l.length) : hexVal l / 16 ^ (l.length - 1 - k) % 16 = dv (l[k]).toNat := by
  have hl : l = l.take (k + 1) ++ l.drop (k + 1) := (List.take_append_drop _ _).symm
  have hr : hexAll (l.drop (k + 1)) = true := by
    simp only [hexAll, List.all_eq_true] at ha ⊢
    exact fun c hc => ha c (List.mem_of_mem_drop hc)
  have hlt := hexVal_lt _ hr
  have e1 : (l.drop (k + 1)).length = l.length - 1 - k := by simp; omega
  have e2 : hexVal l = hexVal (l.take (k + 1)) * 16 ^ (l.length - 1 - k) + hexVal (l.drop (k + 1)) := by
    conv => lhs; rw [hl]
    rw [hexVal_append, e1]
  rw [e1] at hlt
  rw [e2, Nat.add_comm, Nat.add_mul_div_right _ _ (Nat.pow_pos (by decide)), Nat.div_eq_of_lt hlt, Nat.zero_add]
  rw [List.take_succ_eq_append_getElem h, hexVal_snoc]
  have hd : dv (l[k]).toNat < 16 := by have := (List.all_eq_true.1 ha) l[k] (List.getElem_mem _); simpa using this
  omega
theorem hexOf_hexNum (s : ByteArray) (h : hexOk s = true) : hexOf (hexNum s) = s.data.toList := by
  unfold hexNum
  rw [if_pos h]
  simp [hexOk] at h
  obtain ⟨h1, h2⟩ := h
  have hl : s.data.toList.length = 16 := h1
  apply List.ext_getElem
  · rw [hl]; exact hexTo_length _ _
  · intro k hk1 hk2
    simp only [hexOf, hexTo, List.getElem_map, List.getElem_range]
    have := hex_at _ h2 k hk2
    rw [hl] at this
    rw [show 15 - k = 16 - 1 - k from by omega, this]
    refine hexDig_dv _ ?_
    have := (List.all_eq_true.1 h2) s.data.toList[k] (List.getElem_mem _); simpa using this
theorem hexVal_take_lt (s : ByteArray) (k : Nat) (hk : k ≤ 15) (ha : hexAll (s.data.toList.take k) = true) : hexVal (s.data.toList.take k) < 1152921504606846976 := by
  have h1 := hexVal_lt _ ha
  have h2 : (s.data.toList.take k).length ≤ 15 := Nat.le_trans (List.length_take_le _ _) hk
  have h3 : 16 ^ (s.data.toList.take k).length ≤ 16 ^ 15 := Nat.pow_le_pow_right (by decide) h2
  have h4 : (16 : Nat) ^ 15 = 1152921504606846976 := by decide
  omega
/-- one digit more -/
theorem hex_step (s : ByteArray) (k : Nat) (hk : k < s.size) (ha : hexAll (s.data.toList.take k) = true) (h : dv (bt s k).toNat < 16) :
    hexAll (s.data.toList.take (k + 1)) = true ∧ hexVal (s.data.toList.take (k + 1)) = hexVal (s.data.toList.take k) * 16 + dv (bt s k).toNat := by
  rw [bt_get s k hk, Int.toNat_natCast] at h ⊢
  rw [take_snoc s k hk, hexAll_snoc, hexVal_snoc, ha]
  simp [h]
theorem hex_stop (s : ByteArray) (k : Nat) (hk : k < s.size) (h : ¬ dv (bt s k).toNat < 16) : hexNum s = 0 ∧ hexOk s = false := by
  rw [bt_get s k hk, Int.toNat_natCast] at h
  have := hexOk_false s k hk h
  simp [hexNum, this]
theorem hex_done (s : ByteArray) (h16 : s.size = 16) (ha : hexAll (s.data.toList.take 16) = true) : hexNum s = hexVal (s.data.toList.take 16) ∧ hexOk s = true := by
  have hl : s.data.toList.length = 16 := h16
  rw [List.take_of_length_le (by omega)] at ha ⊢
  have : hexOk s = true := by simp [hexOk, h16, ha]
  simp [hexNum, this]
theorem dv_low (c : Int) (h1 : 48 ≤ c) (h2 : c ≤ 57) : dv c.toNat = (c - 48).toNat := by unfold dv; rw [if_pos (by omega)]; omega
theorem dv_mid (c : Int) (h1 : 97 ≤ c) (h2 : c ≤ 102) : dv c.toNat = (c - 87).toNat := by unfold dv; rw [if_neg (by omega), if_pos (by omega)]; omega
theorem dv_none (c : Int) (h1 : c < 48 ∨ 57 < c) (h2 : c < 97 ∨ 102 < c) : dv c.toNat = 16 := by unfold dv; rw [if_neg (by omega), if_neg (by omega)]
theorem or_digit (v d : Nat) (hv : v < 1152921504606846976) (hd : d < 16) : bits .or .u64 ((v : Int) * 16) (d : Int) = ((v * 16 + d : Nat) : Int) := by
  rw [u64_or _ _ (by omega) (by omega) (by omega) (by omega)]
  have e1 : ((v : Int) * 16).toNat = v * 16 := by omega
  rw [e1, Int.toNat_natCast]
  have e2 : v * 16 = v <<< 4 := by rw [Nat.shiftLeft_eq]
  rw [e2, Nat.shiftLeft_add_eq_or_of_lt (by omega)]
theorem hexDig_low (d : Nat) (h : d < 10) : 48 + UInt8.ofNat d = hexDig d := by unfold hexDig; rw [if_pos h, UInt8.ofNat_add]; rfl
theorem hexDig_high (d : Nat) (h : ¬ d < 10) : 87 + UInt8.ofNat d = hexDig d := by unfold hexDig; rw [if_neg h, UInt8.ofNat_add]; rfl
end Go.Proofs.Ytflcbbohnkgokaa
