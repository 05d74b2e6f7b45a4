/- Plain; what must follow does. -/
import Derived.Test.YteimfcokobdldaaCnY
import Derived.Test.YteimfcokobdldaaCnK
namespace Go.Proofs.Yteimfcokobdldaa
open Go.RowKit
set_option linter.unusedVariables false
def negs (c : List Int) : List Int := c.map fun x => -x
theorem negs_len (c : List Int) : (negs c).length = c.length := by simp [negs]
theorem negs_snoc (c : List Int) (x : Int) : negs (c ++ [x]) = negs c ++ [-x] := by simp [negs]
theorem negs_okC {n : Int} {c : List Int} (h : okC n c = true) : okC n (negs c) = true := by
  unfold okC at h ⊢
  rw [List.all_eq_true] at h ⊢
  intro y hy
  obtain ⟨x, hx, rfl⟩ := List.mem_map.1 hy
  obtain ⟨h0, h1, h2⟩ := okC_mem (show okC n c = true from List.all_eq_true.2 h) hx
  simp only [fitB, Bool.and_eq_true, Bool.not_eq_true', beq_eq_false_iff_ne, decide_eq_true_eq]
  exact ⟨⟨by omega, by omega⟩, by omega⟩
set_option maxRecDepth 100000 in
set_option maxHeartbeats 1600000 in
theorem plain_any (n : Nat) (va : Option Addr) (vc : Nat) (LL : List (List Int)) (a : Option Addr) (cap : Nat) (c : List Int) (w : World) (hL : RowOf 1 IntsC w (.slice va LL.length vc) LL) (h : ValRow w (.slice a c.length cap) (intVals c))
    (hF : Hid (chkF n LL = 0)) (hlit : Hid (okC n c = true)) (hl : c.length ≤ 1000000) (u : Bool) (hu : Hid ((spreadV n LL (negs c)).isNone = u)) :
    Calls Try.prog 35 #[.agg #[.int .i64 n, .slice va LL.length vc], .slice a c.length cap] w fun e w' => e = .returned (.bool u) ∧ Below w.heap.size w w' := by
  have hok := chkF_ok hF.out
  have hn4 : n ≤ 400 := by omega
  clear hok
  obtain ⟨i0, hi0, hz0, hz1, hz2⟩ := info_parts' infoI
  have HI0 := Lib.hid hi0
  have HZ0 := Lib.hid hz0
  have HZ1 := Lib.hid hz1
  have HZ2 := Lib.hid hz2
  clear hi0 hz0 hz1 hz2
  have hb0 : Below w.heap.size w (w.alloc (.cells #[.int .i64 n, .slice va LL.length vc] 26)) := (Below.refl _ _).alloc (Nat.le_refl _) _
  have HV0 := Lib.hid (varAt_new w #[.int .i64 n, .slice va LL.length vc] 26 _ rfl)
  have HB0 := Lib.hid hb0
  have HL := Lib.hid hL
  have H := Lib.hid h
  have HO0 := Lib.hid (OwnV.none (w.heap.size + 1) 3 (w.alloc (.cells #[.int .i64 n, .slice va LL.length vc] 26)) (by simp))
  clear hL h hb0
  go_enter Try.func35, Try.ntmps35
  go_wp2_with fail
  obtain ⟨w0, hw0⟩ : ∃ w0, w.alloc (.cells #[.int .i64 n, .slice va LL.length vc] 26) = w0 := ⟨_, rfl⟩
  have hsz : w0.heap.size = w.heap.size + 1 := by rw [← hw0]; simp
  have HSZ := Lib.hid hsz
  rw [hw0] at HV0 HB0 HO0 ⊢
  clear hw0 hsz
  go_loopw [5, 12] (fun s i wr => ∃ k : Nat, i = .int .i64 k ∧ k ≤ c.length ∧ OwnV (w.heap.size + 1) 3 w0 wr s (intVals (negs (c.take k)))) (fun _ i _ => c.length - (intOf i).toNat)
  case atStart => exact ⟨0, rfl, Nat.zero_le _, HO0.out⟩
  case round =>
    obtain ⟨k, rfl, hk, hS⟩ := hrel
    have HS := Lib.hid hS
    have HBE : Hid (Below w.heap.size w wr) := Lib.hid (HB0.out.trans (hS.be.mono (by omega)))
    have HV : Hid (VarAt wr w.heap.size [.int .i64 n, .slice va LL.length vc]) := Lib.hid (HV0.out.below hS.be (by omega))
    clear hS
    have k0 : (0 : Int) ≤ (k : Int) := by omega
    obtain ⟨sa, sc, rfl⟩ := HS.out.row.shape
    by_cases hlt : k < c.length
    · have k1 : (k : Int) < (c.length : Int) := by omega
      have hdk : decide (k < c.length) = true := decide_eq_true hlt
      obtain ⟨b, off, rfl, _, hc⟩ := int_at (H.out.below HBE.out) k hlt
      have e : c.getD k 0 = c[k] := by simp [hlt]
      have HTK := Lib.hid (List.take_succ_eq_append_getElem hlt)
      have HM := Lib.hid (okC_mem hlit.out (List.getElem_mem hlt))
      rw [← e] at HTK HM
      clear e
      obtain ⟨x, hx⟩ : ∃ x, c.getD k 0 = x := ⟨_, rfl⟩
      rw [hx] at hc HTK HM
      clear hx
      have hx1 := HM.out.2.1
      have hx2 := HM.out.2.2
      have hln : (negs (c.take k)).length ≤ c.length := by rw [negs_len, List.length_take]; omega
      have HNX : Hid (negs (c.take (k + 1)) = negs (c.take k) ++ [-x]) := Lib.hid (by rw [HTK.out, negs_snoc])
      have hbz := HS.out.bsz
      go_wp2_with (at_builtin; refine wpList_app _ rfl _ _ 31 rfl (w.heap.size + 1) 3 i0 (.int .i64 0) 8 Try.underlying31 HI0.out HZ0.out HZ1.out HZ2.out rfl _ _ _ rfl (HS.out.own.alloc _) (.slice (some ⟨wr.heap.size, 0, none⟩) 1 1) (intVals [-x]) rfl (fresh_row _ _ _ _ rfl) (intVals_one _) (by rw [intVals_length, intVals_length]; unfold maxLen; simp; omega) (by rw [intVals_length, intVals_length]; simp; omega) (by simp; omega) ?_)
      intro v2 w2 ha2
      have HS2 : Hid (OwnV (w.heap.size + 1) 3 w0 w2 v2 (intVals (negs (c.take (k + 1))))) := Lib.hid (by
        rw [HNX.out, intVals_app]
        exact HS.out.app ((Below.refl _ _).alloc (Nat.le_refl _) _) ha2)
      obtain ⟨a2, n2, c2, rfl⟩ := ha2.shape
      clear ha2
      go_wp2_with fail
      go_roundw
      case rel => exact ⟨k + 1, by go_num, by omega, HS2.out⟩
      case measure => simp [intOf]; omega
    · have hdk : decide (k < c.length) = false := decide_eq_false hlt
      have hrow := HS.out.row
      have hke : c.take k = c := List.take_of_length_le (by omega)
      rw [hke, intVals_length] at hrow ⊢
      have HROW := Lib.hid hrow
      have c0 := HV.out.get 0 rfl
      have c1 := HV.out.get 1 rfl
      have HLT := Lib.hid hlt
      clear hlt hke HS
      obtain ⟨res, hres⟩ : ∃ r, spreadV n LL (negs c) = r := ⟨_, rfl⟩
      have HRES := Lib.hid hres
      have HU : Hid (res.isNone = u) := Lib.hid (by rw [← hres]; exact hu.out)
      clear hres
      go_wp2_with fail
      refine (spread_any n va vc LL sa sc (negs c) _ (HL.out.below intsC_lasts HBE.out) HROW.out hF (Lib.hid (negs_okC hlit.out)) res HRES).mono ?_
      rintro e w5 (⟨rfl, rfl, hb⟩ | ⟨V, v, rfl, rfl, _, hb⟩)
      · have HB5 := Lib.hid (HBE.out.trans (hb.mono HBE.out.size))
        clear hb
        go_wp2_with fail
        go_ret
        exact ⟨ret_bool (by rw [← HU.out]; rfl), HB5.out⟩
      · have HB5 := Lib.hid (HBE.out.trans (hb.mono HBE.out.size))
        clear hb
        go_wp2_with fail
        go_ret
        exact ⟨ret_bool (by rw [← HU.out]; rfl), HB5.out⟩
end Go.Proofs.Yteimfcokobdldaa
