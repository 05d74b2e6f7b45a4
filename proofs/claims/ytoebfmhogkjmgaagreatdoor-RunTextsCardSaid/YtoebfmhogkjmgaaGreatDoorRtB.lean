/- lines.Write. -/
import Derived.Test.YtoebfmhogkjmgaaGreatDoorRtA
import Derived.Test.YtoebfmhogkjmgaaGreatDoorOwn
import Derived.Test.YtoebfmhogkjmgaaGreatDoorVar
import Derived.Test.YtoebfmhogkjmgaaGreatDoorRtS
namespace Go.Proofs.YtoebfmhogkjmgaaGreatDoor
open Go.RowKit
set_option linter.unusedVariables false
theorem strVals_get (l : List (List UInt8)) (k : Nat) (h : k < l.length) : (strVals l)[k]? = some (.string ⟨(l.getD k []).toArray⟩) := by simp [strVals, h]
def lineW : List (List UInt8) → List UInt8
  | [] => []
  | w :: t => w ++ t.flatMap fun x => 32 :: x
def writeL (LL : List (List (List UInt8))) : List UInt8 := LL.flatMap fun ws => lineW ws ++ [10]
theorem writeL_snoc (LL : List (List (List UInt8))) (ws : List (List UInt8)) : writeL (LL ++ [ws]) = writeL LL ++ (lineW ws ++ [10]) := by simp [writeL]
theorem lineW_app (a b : List (List UInt8)) : (lineW a).length ≤ (lineW (a ++ b)).length := by
  cases a with
  | nil => simp [lineW]
  | cons w t => simp [lineW]
theorem lineW_take_le (ws : List (List UInt8)) (q : Nat) : (lineW (ws.take q)).length ≤ (lineW ws).length := by
  have := lineW_app (ws.take q) (ws.drop q)
  rwa [List.take_append_drop] at this
theorem writeL_part (LL : List (List (List UInt8))) (k q : Nat) (h : k < LL.length) : (writeL (LL.take k)).length + (lineW ((LL.getD k []).take q)).length + 1 ≤ (writeL LL).length := by
  have e : LL = LL.take k ++ (LL.getD k [] :: LL.drop (k + 1)) := by
    have e2 : LL.getD k [] = LL[k] := by simp [h]
    rw [e2, ← List.drop_eq_getElem_cons h, List.take_append_drop]
  have h2 : writeL LL = writeL (LL.take k) ++ ((lineW (LL.getD k []) ++ [10]) ++ writeL (LL.drop (k + 1))) := by
    have := congrArg writeL e
    rw [this]; simp [writeL]
  have h3 := lineW_take_le (LL.getD k []) q
  rw [h2]; simp only [List.length_append, List.length_cons, List.length_nil]; omega
/-- an element: a slice of strings -/
def StrsC (w : World) (cs : List Value) (x : List (List UInt8)) : Prop := ∃ v, cs = [v] ∧ ValRow w v (strVals x) ∧ ∀ l ∈ x, l.length ≤ maxLen
theorem strsC_lasts : Lasts StrsC := by
  rintro w w' cs x hb ⟨v, h1, h2, h3⟩
  exact ⟨v, h1, h2.below hb, h3⟩
theorem writeL_take (LL : List (List (List UInt8))) (k : Nat) (h : k < LL.length) : writeL (LL.take (k + 1)) = writeL (LL.take k) ++ (lineW (LL.getD k []) ++ [10]) := by
  rw [List.take_succ_eq_append_getElem h, writeL_snoc]
  simp [h]
/-- a row and a word of it -/
theorem row_at {w : World} {a : Option Addr} {cap : Nat} {LL : List (List (List UInt8))} (h : RowOf 1 StrsC w (.slice a LL.length cap) LL) (i : Nat) (hi : i < LL.length) :
    ∃ b off va vc, a = some ⟨b, off, none⟩ ∧ b < w.heap.size ∧ w.cell? ⟨b, off + i, none⟩ = some (.slice va (LL.getD i []).length vc) ∧ ValRow w (.slice va (LL.getD i []).length vc) (strVals (LL.getD i [])) ∧ (∀ l ∈ LL.getD i [], l.length ≤ maxLen) := by
  obtain ⟨b, off, ha, hb, cs, ⟨_, hc⟩, v, rfl, hr, hm⟩ := h.at_ i hi
  have e : LL.getD i [] = LL[i] := by simp [hi]
  rw [e]
  obtain ⟨va, vc, rfl⟩ := hr.shape
  rw [strVals_length] at hr hc
  refine ⟨b, off, va, vc, ha, hb, ?_, hr, hm⟩
  have := hc 0 (by omega)
  simpa using this
theorem join_lineW (ws : List (List UInt8)) : Lib.join ws [32] = lineW ws := by
  cases ws with
  | nil => rfl
  | cons w t =>
    rw [Lib.join_cons]
    show w ++ Lib.joinTail [32] t = w ++ t.flatMap fun x => 32 :: x
    congr 1
theorem join_any (v : Value) (ws : List (List UInt8)) (w : World) (h : ValRow w v (strVals ws)) (s : List UInt8) (hs : Hid (lineW ws = s)) (hl : s.length ≤ 140737488355328) (hn : ws.length ≤ 140737488355328) :
    Calls Tryz.prog 24 #[v, .string ⟨#[32]⟩] w fun e w' => e = .returned (.string ⟨s.toArray⟩) ∧ Below w.heap.size w w' := by
  have hm : (ws.map (fun l : List UInt8 => (⟨l.toArray⟩ : ByteArray))).map (·.data.toList) = ws := by simp [Function.comp_def]
  rcases h with ⟨a, cap, rfl, h0⟩ | ⟨b, off, cap, rfl, h1, h2, h3, h4⟩
  · have hz : ws = [] := by
      have := congrArg List.length h0
      rw [strVals_length] at this
      exact List.length_eq_zero_iff.1 (by simpa using this)
    subst hz
    refine (Tryz.strings_Join_none a cap _ w).mono ?_
    rintro e w' ⟨rfl, rfl⟩
    refine ⟨?_, Below.refl _ _⟩
    rw [← hs.out]; rfl
  · rw [strVals_length] at h1 h4 ⊢
    have hc := Tryz.strings_Join b off cap (ws.map (fun l : List UInt8 => (⟨l.toArray⟩ : ByteArray))) ⟨#[32]⟩ w (fun j x hx => by
      have hj : j < ws.length := by
        rcases Nat.lt_or_ge j ws.length with hl | hl
        · exact hl
        · rw [List.getElem?_eq_none (by simpa using hl)] at hx; cases hx
      rw [h4 j hj, strVals_get _ _ hj]
      rw [List.getElem?_map, List.getElem?_eq_getElem hj] at hx
      simp at hx
      subst hx
      simp [hj]) h3 (by rw [List.length_map]; exact hn) (by rw [List.length_map]; exact h1.2) (by rw [hm, show (ByteArray.mk #[32]).data.toList = [32] from rfl, join_lineW, hs.out]; exact hl)
    rw [hm, show (ByteArray.mk #[32]).data.toList = [32] from rfl, join_lineW, hs.out, List.length_map] at hc
    exact hc
theorem wstr_any (B b : Nat) (X s : List UInt8) (w : World) (h : Lib.IsBuilder 80 5 B b (Lib.byteCells X) w) (hlen : X.length + s.length ≤ 140737488355328) (hB : B ≤ w.heap.size) :
    Calls Tryz.prog 23 #[.pointer (some ⟨b, 0, none⟩), .string ⟨s.toArray⟩] w fun e w' => e = .returned (.tuple #[.int .i64 s.length, .nilIface]) ∧ Lib.IsBuilder 80 5 B b (Lib.byteCells (X ++ s)) w' ∧ Below B w w' := by
  refine (Any.Builder_WriteString Tryz.lays166j Tryz.Builder_Extra_156 B b (Lib.byteCells X) ⟨s.toArray⟩ w h (by rw [Lib.byteCells_length]; exact hlen) hB).mono ?_
  rintro e w' ⟨rfl, h1, h2⟩
  refine ⟨rfl, .inr ?_, h2⟩
  rw [Lib.byteCells_append]
  exact h1
theorem wbyte_any (B b : Nat) (X : List UInt8) (w : World) (h : Lib.IsBuilder 80 5 B b (Lib.byteCells X) w) (hlen : X.length + 1 ≤ 140737488355328) (hB : B ≤ w.heap.size) :
    Calls Tryz.prog 25 #[.pointer (some ⟨b, 0, none⟩), .int .u8 10] w fun e w' => e = .returned .nilIface ∧ Lib.IsBuilder 80 5 B b (Lib.byteCells (X ++ [10])) w' ∧ Below B w w' := by
  refine (Any.Builder_WriteByte Tryz.lays167j Tryz.Builder_Extra_156 B b (Lib.byteCells X) 10 w h (by rw [Lib.byteCells_length]; exact hlen) hB).mono ?_
  rintro e w' ⟨rfl, h1, h2⟩
  refine ⟨rfl, .inr ?_, h2⟩
  rw [Lib.byteCells_append]
  exact h1
theorem bstr_any (B b : Nat) (X : List UInt8) (w : World) (h : Lib.IsBuilder 80 5 B b (Lib.byteCells X) w) (hB : B ≤ w.heap.size) :
    Calls Tryz.prog 26 #[.pointer (some ⟨b, 0, none⟩)] w fun e w' => e = .returned (.string ⟨X.toArray⟩) ∧ Below B w w' :=
  Any.Builder_String_any Tryz.lays169j Tryz.Builder_Extra_156 B b X w h hB
theorem builder_below {T e : TypeId} {B b : Nat} {bs : List Value} {w w' : World} (h : Lib.IsBuilder T e B b bs w) (hb : Below w.heap.size w w') : Lib.IsBuilder T e B b bs w' := by
  have key : ∀ p, Lib.BuilderAt T e B b p bs w → Lib.BuilderAt T e B b p bs w' := by
    rintro p ⟨h1, v, h2, h3, h4⟩
    have hlt : b < w.heap.size := by
      rcases Nat.lt_or_ge b w.heap.size with hl | hl
      · exact hl
      · rw [Array.getElem?_eq_none hl] at h2; cases h2
    exact ⟨h1, v, by rw [hb.block b hlt]; exact h2, ownsRow_below h3 hb, h4⟩
  exact h.elim (fun x => .inl (key _ x)) (fun x => .inr (key _ x))
set_option maxHeartbeats 800000 in
theorem lwrite_any (a : Option Addr) (cap : Nat) (LL : List (List (List UInt8))) (w : World) (h : RowOf 1 StrsC w (.slice a LL.length cap) LL) (s : List UInt8) (hs : Hid (writeL LL = s)) (hbd : s.length ≤ 100000000) (hwl : ∀ ws ∈ LL, ws.length ≤ 1000) :
    Calls Tryz.prog 12 #[.slice a LL.length cap] w fun e w' => e = .returned (.string ⟨s.toArray⟩) ∧ Below w.heap.size w w' := by
  have hmx := h.len
  unfold maxLen at hmx
  have H := Lib.hid h
  have HWL := Lib.hid hwl
  have H0 : Hid (Lib.IsBuilder 80 5 w.heap.size w.heap.size (Lib.byteCells (writeL (LL.take 0))) (w.alloc (.cells #[.pointer none, .slice none 0 0] 80))) :=
    Lib.hid (.inl ⟨Nat.le_refl _, .slice none 0 0, heap_alloc_new _ _, ⟨by simp [writeL, Lib.byteCells], .inl ⟨rfl, by simp [writeL, Lib.byteCells]⟩⟩, by simp [Value.ownBlock]⟩)
  have HB0 : Hid (Below w.heap.size w (w.alloc (.cells #[.pointer none, .slice none 0 0] 80))) := Lib.hid ((Below.refl _ _).alloc (Nat.le_refl _) _)
  clear h hwl
  go_enter Tryz.func12, Tryz.ntmps12
  go_wp2_with fail
  go_loopw [8] (fun i wr => ∃ k : Nat, i = .int .i64 k ∧ k ≤ LL.length ∧ Lib.IsBuilder 80 5 w.heap.size w.heap.size (Lib.byteCells (writeL (LL.take k))) wr ∧ Below w.heap.size w wr) (fun i _ => LL.length - (intOf i).toNat)
  case atStart => exact ⟨0, rfl, Nat.zero_le _, H0.out, HB0.out⟩
  case round =>
    obtain ⟨k, rfl, hk, hbd2, hbe⟩ := hrel
    have HBD := Lib.hid hbd2
    have HBE := Lib.hid hbe
    have hzz := hbe.size
    clear hbd2 hbe H0 HB0
    have k0 : (0 : Int) ≤ (k : Int) := by omega
    by_cases hlt : k < LL.length
    · have k1 : (k : Int) < (LL.length : Int) := by omega
      have hdk : decide (k < LL.length) = true := decide_eq_true hlt
      obtain ⟨b, off, va, vc, rfl, hb, hc, hr, hm⟩ := row_at (H.out.below strsC_lasts HBE.out) k hlt
      have HT := Lib.hid (writeL_take LL k hlt)
      have HP : Hid ((writeL (LL.take k)).length + (lineW (LL.getD k [])).length + 1 ≤ 100000000) := Lib.hid (by
        have := writeL_part LL k (LL.getD k []).length hlt
        rw [List.take_length, hs.out] at this
        omega)
      have HL := HWL.out (LL.getD k []) (by have e : LL.getD k [] = LL[k] := by simp [hlt]
                                            rw [e]; exact List.getElem_mem _)
      obtain ⟨ws, hws⟩ : ∃ ws, LL.getD k [] = ws := ⟨_, rfl⟩
      rw [hws] at hc hr HT HP HL
      obtain ⟨X, hX⟩ : ∃ X, writeL (LL.take k) = X := ⟨_, rfl⟩
      rw [hX] at HP HBD HT
      obtain ⟨L, hLw⟩ : ∃ L, lineW ws = L := ⟨_, rfl⟩
      rw [hLw] at HP HT
      have HLW := Lib.hid hLw
      have HR := Lib.hid hr
      clear hr hm hws hX hLw
      go_wp2_with fail
      refine (join_any _ ws _ HR.out L HLW (by have := HP.out; omega) (by omega)).mono ?_
      rintro e w1 ⟨rfl, hb1⟩
      have hz1 : w.heap.size ≤ w1.heap.size := Nat.le_trans hzz hb1.size
      have HBD1 := Lib.hid (builder_below HBD.out hb1)
      have HBE1 := Lib.hid (HBE.out.trans (hb1.mono hzz))
      clear hb1
      go_wp2_with fail
      refine (wstr_any _ _ X L _ HBD1.out (by have := HP.out; omega) hz1).mono ?_
      rintro e w2 ⟨rfl, hbd2, hb2⟩
      have hz2 : w.heap.size ≤ w2.heap.size := Nat.le_trans hz1 hb2.size
      have HBD2 := Lib.hid hbd2
      have HBE2 := Lib.hid (HBE1.out.trans hb2)
      clear hb2 hbd2
      go_wp2_with fail
      refine (wbyte_any _ _ (X ++ L) _ HBD2.out (by have := HP.out; rw [List.length_append]; omega) hz2).mono ?_
      rintro e w3 ⟨rfl, hbd3, hb3⟩
      have HBD3 := Lib.hid hbd3
      have HBE3 := Lib.hid (HBE2.out.trans hb3)
      clear hb3 hbd3
      go_wp2_with fail
      go_roundw
      case rel => exact ⟨k + 1, by go_num, by omega, by rw [HT.out, ← List.append_assoc]; exact HBD3.out, HBE3.out⟩
      case measure => simp [intOf]; omega
    · have hdk : decide (k < LL.length) = false := decide_eq_false hlt
      have HK : Hid (writeL (LL.take k) = s) := Lib.hid (by rw [List.take_of_length_le (by omega), hs.out])
      rw [HK.out] at HBD
      have HLT := Lib.hid hlt
      clear hlt
      go_wp2_with fail
      refine (bstr_any _ _ s _ HBD.out hzz).mono ?_
      rintro e w4 ⟨rfl, hb4⟩
      go_wp2_with fail
      go_ret
      exact ⟨rfl, HBE.out.trans hb4⟩
end Go.Proofs.YtoebfmhogkjmgaaGreatDoor
