/- The document's bag in memory, and the contracts of its methods. -/
import Derived.Test.YtfhbndfdlnbfpaaOrdX
namespace Go.Proofs.Ytfhbndfdlnbfpaa
open Go.RowKit
set_option linter.unusedVariables false
structure BagAt (w : World) (B S I : Nat) (sc inn : List Int) : Prop where
  c0 : w.cell? ⟨B, 0, none⟩ = some (.slice (some ⟨S, 0, none⟩) sc.length sc.length)
  c1 : w.cell? ⟨B, 1, none⟩ = some (.slice (some ⟨I, 0, none⟩) sc.length sc.length)
  rS : w.ownsRow 0 3 1 (.slice (some ⟨S, 0, none⟩) sc.length sc.length) sc.length (ints sc)
  rI : w.ownsRow 0 3 1 (.slice (some ⟨I, 0, none⟩) sc.length sc.length) sc.length (ints inn)
  len : inn.length = sc.length
  sz : sc.length ≤ 401
  BS : S ≠ B
  BI : I ≠ B
  SI : S ≠ I
theorem BagAt.drewN {w : World} {B S I : Nat} {sc inn : List Int} (h : BagAt w B S I sc inn) (q : Nat) : BagAt (w.drewN q) B S I sc inn := ⟨h.c0, h.c1, h.rS, h.rI, h.len, h.sz, h.BS, h.BI, h.SI⟩
theorem BagAt.lt {w : World} {B S I : Nat} {sc inn : List Int} (h : BagAt w B S I sc inn) : B < w.heap.size ∧ S < w.heap.size ∧ I < w.heap.size := ⟨lt_of_cell h.c0, (h.rS.lt _ rfl).2, (h.rI.lt _ rfl).2⟩
theorem BagAt.kept {L : List Nat} {w w' : World} {B S I : Nat} {sc inn : List Int} (h : BagAt w B S I sc inn) (hk : Kept L w w') (hB : B ∉ L) (hS : S ∉ L) (hI : I ∉ L) : BagAt w' B S I sc inn := by
  have hb := hk.block _ h.lt.1 hB
  refine ⟨?_, ?_, ?_, ?_, h.len, h.sz, h.BS, h.BI, h.SI⟩
  · rw [World.cell?_of_block (w := w) (a := ⟨B, 0, none⟩) hb]; exact h.c0
  · rw [World.cell?_of_block (w := w) (a := ⟨B, 1, none⟩) hb]; exact h.c1
  · exact row_of_block h.rS (fun g hg => by cases hg; exact hk.block _ h.lt.2.1 hS)
  · exact row_of_block h.rI (fun g hg => by cases hg; exact hk.block _ h.lt.2.2 hI)
theorem BagAt.score {w : World} {B S I : Nat} {sc inn : List Int} (h : BagAt w B S I sc inn) (v : Nat) (x : Int) : BagAt (w.setCell ⟨S, v, none⟩ (.int .i64 x)) B S I (sc.set v x) inn := by
  have hl : (sc.set v x).length = sc.length := List.length_set
  refine ⟨?_, ?_, ?_, ?_, by rw [hl]; exact h.len, by rw [hl]; exact h.sz, h.BS, h.BI, h.SI⟩
  · rw [cell_ne (addr_ne h.BS), hl]; exact h.c0
  · rw [cell_ne (addr_ne h.BS), hl]; exact h.c1
  · have r := (h.rS.stored v (.int .i64 x)).1
    rw [ints_set] at r
    rw [hl]; exact r
  · rw [hl]; exact row_ne (a := ⟨S, v, none⟩) h.rI (by simpa [Value.ownBlock] using h.SI.symm) _
theorem BagAt.inn {w : World} {B S I : Nat} {sc inn : List Int} (h : BagAt w B S I sc inn) (v : Nat) (x : Int) : BagAt (w.setCell ⟨I, v, none⟩ (.int .i64 x)) B S I sc (inn.set v x) := by
  have hl : (inn.set v x).length = inn.length := List.length_set
  refine ⟨?_, ?_, ?_, ?_, by rw [hl]; exact h.len, h.sz, h.BS, h.BI, h.SI⟩
  · rw [cell_ne (addr_ne h.BI)]; exact h.c0
  · rw [cell_ne (addr_ne h.BI)]; exact h.c1
  · exact row_ne (a := ⟨I, v, none⟩) h.rS (by simpa [Value.ownBlock] using h.SI) _
  · have r := (h.rI.stored v (.int .i64 x)).1
    rw [ints_set] at r
    exact r
theorem BagAt.getS {w : World} {B S I : Nat} {sc inn : List Int} (h : BagAt w B S I sc inn) {v : Nat} (hv : v < sc.length) : w.cell? ⟨S, v, none⟩ = some (.int .i64 (sc.getD v 0)) := by
  rw [h.rS.cellAt v (by omega), ints_get _ _ hv]
theorem BagAt.getI {w : World} {B S I : Nat} {sc inn : List Int} (h : BagAt w B S I sc inn) {v : Nat} (hv : v < sc.length) : w.cell? ⟨I, v, none⟩ = some (.int .i64 (inn.getD v 0)) := by
  rw [h.rI.cellAt v (by omega), ints_get _ _ (by rw [h.len]; exact hv)]
/-- 1: in; 0: out -/
def InOf (m : Nat) (inn : List Int) (ins : List Nat) : Prop := ∀ v, v < m → inn.getD v 0 = if v ∈ ins then 1 else 0
theorem InOf.bit {m : Nat} {inn : List Int} {ins : List Nat} (h : InOf m inn ins) {v : Nat} (hv : v < m) : inn.getD v 0 = 0 ∨ inn.getD v 0 = 1 := by
  rw [h v hv]; split
  · exact .inr rfl
  · exact .inl rfl
theorem bknown (w : World) (B S I : Nat) (sc inn : List Int) (h : BagAt w B S I sc inn) (v : Int) (r : Bool) (HR : Hid (knownB sc.length v = r)) :
    Calls Try.prog 20 #[.pointer (some ⟨B, 0, none⟩), .int .i64 v] w fun e w' => e = .returned (.bool r) ∧ w' = w := by
  have c0 := h.c0
  have hz := h.sz
  clear h
  generalize sc.length = m at *
  by_cases h1 : v < 1
  · obtain rfl : r = false := by rw [← HR.out]; unfold knownB; exact decide_eq_false (by omega)
    go_enter Try.func20, Try.ntmps20
    go_wp2_with fail
    go_ret
    exact ⟨rfl, rfl⟩
  · have h1' : 1 ≤ v := by omega
    have hr : r = decide (v < (m : Int)) := by rw [← HR.out]; unfold knownB; exact decide_eq_decide.2 (by omega)
    have HRR := Lib.hid hr
    clear hr HR
    go_enter Try.func20, Try.ntmps20
    go_wp2_with fail
    go_ret
    exact ⟨ret_bool HRR.out.symm, rfl⟩
/-- how many of 1 .. k-1 are in -/
def cnt (ins : List Nat) (k : Nat) : Nat := (ins.filter (fun v => decide (v < k))).length
theorem cnt_le (ins : List Nat) (k : Nat) : cnt ins k ≤ ins.length := List.length_filter_le _ _
theorem cnt_succ (ins : List Nat) (hn : ins.Nodup) (k : Nat) : cnt ins (k + 1) = cnt ins k + if k ∈ ins then 1 else 0 := by
  unfold cnt
  induction ins with
  | nil => simp
  | cons a t ih =>
    have hn' := List.nodup_cons.1 hn
    have ih := ih hn'.2
    by_cases ha : a = k
    · subst ha
      have : (List.filter (fun v => decide (v < a + 1)) t).length = (List.filter (fun v => decide (v < a)) t).length := by rw [ih, if_neg hn'.1]; rfl
      simp [this]
    · have e : decide (a < k + 1) = decide (a < k) := decide_eq_decide.2 (by omega)
      rw [List.filter_cons, List.filter_cons, e]
      by_cases hb : a < k
      · simp only [hb, decide_true, if_true, List.length_cons, ih, List.mem_cons]
        have e3 : (k = a ∨ k ∈ t) ↔ k ∈ t := ⟨fun h => h.resolve_left (by omega), .inr⟩
        simp only [e3]; omega
      · simp only [hb, decide_false, Bool.false_eq_true, if_false, ih, List.mem_cons]
        have e3 : (k = a ∨ k ∈ t) ↔ k ∈ t := ⟨fun h => h.resolve_left (by omega), .inr⟩
        simp only [e3]
theorem cnt_all (ins : List Nat) (k : Nat) (h : ∀ v ∈ ins, v < k) : cnt ins k = ins.length := by
  unfold cnt
  rw [List.filter_eq_self.2 (fun a ha => decide_eq_true (h a ha))]
theorem cnt_one (ins : List Nat) (h : ∀ v ∈ ins, 1 ≤ v) : cnt ins 1 = 0 := by
  unfold cnt
  rw [List.filter_eq_nil_iff.2 (fun a ha => by have := h a ha; simp; omega)]
  rfl
set_option maxHeartbeats 1000000 in
theorem blen (w : World) (B S I : Nat) (sc inn : List Int) (ins : List Nat) (h : BagAt w B S I sc inn) (hi : InOf sc.length inn ins) (hn : ins.Nodup) (hr : ∀ v ∈ ins, 1 ≤ v ∧ v < sc.length) :
    Calls Try.prog 28 #[.pointer (some ⟨B, 0, none⟩)] w fun e w' => e = .returned (.int .i64 ins.length) ∧ w' = w := by
  have HH := Lib.hid h
  have HI := Lib.hid hi
  have HN := Lib.hid hn
  have HR := Lib.hid hr
  have c1 := h.c1
  have hz := h.sz
  have hll : ins.length ≤ 401 := Nat.le_trans (nodup_len sc.length ins hn (fun v hv => (hr v hv).2)) hz
  clear h hi hn hr
  go_enter Try.func28, Try.ntmps28
  go_wp2_with fail
  go_loop [3, 4] (fun n v => ∃ k : Nat, v = .int .i64 k ∧ n = .int .i64 (cnt ins k) ∧ 1 ≤ k ∧ (k ≤ sc.length ∨ k = 1)) (fun _ v => sc.length - (intOf v).toNat)
  case atStart => exact ⟨1, rfl, by rw [cnt_one ins (fun v hv => (HR.out v hv).1)]; rfl, by omega, .inr rfl⟩
  case round =>
    obtain ⟨k, rfl, rfl, k0, k1⟩ := hrel
    have hcl := cnt_le ins k
    by_cases hlt : k < sc.length
    · have cv := HH.out.getI hlt
      have k2 : (0 : Int) ≤ (k : Int) := by omega
      have k3 : (k : Int) < (sc.length : Int) := by omega
      have hd : decide (k < sc.length) = true := decide_eq_true hlt
      rw [HI.out k hlt] at cv
      by_cases hki : k ∈ ins
      · rw [if_pos hki] at cv
        have HS : Hid (cnt ins (k + 1) = cnt ins k + 1) := Lib.hid (by rw [cnt_succ ins HN.out k, if_pos hki])
        clear hki
        go_wp2_with fail
        go_round
        case rel => exact ⟨k + 1, by go_num, by rw [HS.out]; go_num, by omega, .inl (by omega)⟩
        case measure => simp [intOf]; omega
      · rw [if_neg hki] at cv
        have HS : Hid (cnt ins (k + 1) = cnt ins k) := Lib.hid (by rw [cnt_succ ins HN.out k, if_neg hki]; rfl)
        clear hki
        go_wp2_with fail
        go_round
        case rel => exact ⟨k + 1, by go_num, by rw [HS.out], by omega, .inl (by omega)⟩
        case measure => simp [intOf]; omega
    · have HE : Hid (cnt ins k = ins.length) := Lib.hid (cnt_all ins k (fun v hv => by have := (HR.out v hv).2; omega))
      have hd : decide (k < sc.length) = false := decide_eq_false hlt
      go_wp2_with fail
      go_ret
      exact ⟨ret_int (by rw [HE.out]), rfl⟩
end Go.Proofs.Ytfhbndfdlnbfpaa
