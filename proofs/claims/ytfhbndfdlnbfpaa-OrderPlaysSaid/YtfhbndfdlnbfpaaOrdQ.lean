/- The contract of the walk of New, whole. -/
import Derived.Test.YtfhbndfdlnbfpaaOrdO
namespace Go.Proofs.Ytfhbndfdlnbfpaa
open Go.RowKit
set_option linter.unusedVariables false
theorem info_int' : ∃ i, Try.prog.info? 3 = some i ∧ i.zero = some (.int .i64 0) ∧ i.size = 1 ∧ i.bytes = 8 := by
  have := info_int
  cases hh : Try.prog.info? 3 with
  | none => rw [hh] at this; cases this
  | some i => rw [hh] at this; simp at this; exact ⟨i, rfl, this.1, this.2.1, this.2.2⟩
theorem made_ints (m : Nat) : (madeCells (Value.int .i64 0).cells m).toList = ints (List.replicate m 0) := by
  show (madeCells #[Value.int .i64 0] m).toList = _
  rw [toList_madeCells_one]
  simp [ints]
theorem mk_ints (n : Nat) (hn : n ≤ 400) (w : World) : (Instr.makeSlice 23 (.int .i64 ((n : Int) + 1)) (.int .i64 ((n : Int) + 1))).run Try.prog w =
    .ok (.slice (some ⟨w.heap.size, 0, none⟩) (n + 1) (n + 1)) (w.alloc (.cells (ints (List.replicate (n + 1) 0)).toArray 3)) := by
  obtain ⟨i, h1, h2, h3, h4⟩ := info_int'
  have := run_make (P := Try.prog) w 23 3 i _ Try.underlying23 h1 h2 .i64 .i64 ((n : Int) + 1) ((n : Int) + 1) (by omega) (by omega) (by rw [h4]; omega) (by omega)
  rw [this, h3]
  have e : ((n : Int) + 1).toNat = n + 1 := by omega
  rw [e, Nat.mul_one, ← made_ints]
def NewPost (w : World) (n : Nat) (e : Ending) (w' : World) : Prop :=
  ∃ H S P gv pl, e = .returned (.tuple #[.pointer (some ⟨H, 0, none⟩), .int .i64 0]) ∧ HeapAt w' H S P gv (List.replicate (n + 1) 0) (upto n) pl ∧ (w.heap.size ≤ H ∧ w.heap.size ≤ S ∧ w.heap.size ≤ P ∧ ∀ g, gv.ownBlock = some g → w.heap.size ≤ g) ∧
    Below w.heap.size w w'
theorem NewRel.done {w : World} {S P n : Nat} {wr : World} {gv : Value} (h : NewRel w S P (n + 1) n wr gv) (hn : n ≤ 400) (hSP : S ≠ P) (hS : w.heap.size ≤ S) (hS2 : S < w.heap.size + 2) (hP : w.heap.size ≤ P) (hP2 : P < w.heap.size + 2) :
    NewPost w n (.returned (.tuple #[.pointer (some ⟨w.heap.size + 2, 0, none⟩), .int .i64 0])) wr := by
  refine ⟨_, S, P, gv, plK (n + 1) n, rfl, ⟨?_, h.c1, ?_, h.fr, ?_, ?_, ?_, ?_, upto_nodup n, ?_, ?_, by omega, by omega, hSP, ?_, ?_, ?_⟩, ⟨by omega, hS, hP, fun g hg => by have := h.gt g hg; omega⟩, h.be⟩
  · rw [List.length_replicate]; exact h.c0
  · rw [List.length_replicate]; exact h.c2
  · rw [List.length_replicate]; exact h.rS
  · rw [upto_len]; exact ownsRow_base h.rG (Nat.zero_le _)
  · rw [List.length_replicate]; exact h.rP
  · rw [List.length_replicate]; exact placed_upto n
  · intro v hv; rw [List.length_replicate]; have := mem_upto.1 hv; omega
  · rw [List.length_replicate]; omega
  · intro e; have := h.gt _ e; omega
  · intro e; have := h.gt _ e; omega
  · intro e; have := h.gt _ e; omega
theorem new_range (n : Int) (w : World) (h : n < 0 ∨ 400 < n) : Calls Try.prog 12 #[.int .i64 n] w fun e w' => e = .returned (.tuple #[.pointer none, .int .i64 8]) ∧ w' = w := by
  rcases h with h | h
  · go_enter Try.func12, Try.ntmps12
    go_wp2_with fail
    go_ret2
    exact ⟨rfl, rfl⟩
  · have h' : ¬ n < 0 := by omega
    go_enter Try.func12, Try.ntmps12
    go_wp2_with fail
    go_ret2
    exact ⟨rfl, rfl⟩
def newW (w : World) (n S P : Nat) : World :=
  (((w.alloc (.cells (ints (List.replicate (n + 1) 0)).toArray 3)).alloc (.cells (ints (List.replicate (n + 1) 0)).toArray 3)).alloc
    (.cells #[.slice (some ⟨S, 0, none⟩) (n + 1) (n + 1), .slice none 0 0, .slice (some ⟨P, 0, none⟩) (n + 1) (n + 1)] 49)).drew
def NewAt (w : World) (n k : Nat) (wr : World) : Prop :=
  ∃ S P gv, NewRel w S P (n + 1) k wr gv ∧ S ≠ P ∧ (w.heap.size ≤ S ∧ S < w.heap.size + 2) ∧ (w.heap.size ≤ P ∧ P < w.heap.size + 2)
theorem newW_heap (w : World) (n S P : Nat) : (newW w n S P).heap = ((w.heap.push (.cells (ints (List.replicate (n + 1) 0)).toArray 3)).push (.cells (ints (List.replicate (n + 1) 0)).toArray 3)).push
    (.cells #[.slice (some ⟨S, 0, none⟩) (n + 1) (n + 1), .slice none 0 0, .slice (some ⟨P, 0, none⟩) (n + 1) (n + 1)] 49) := rfl
theorem newW_sz (w : World) (n S P : Nat) : (newW w n S P).heap.size = w.heap.size + 3 := by simp [newW]
theorem newW_row (w : World) (n S P b : Nat) (hb : b = w.heap.size ∨ b = w.heap.size + 1) (hn : n ≤ 400) : (newW w n S P).ownsRow 0 3 1 (.slice (some ⟨b, 0, none⟩) (n + 1) (n + 1)) (n + 1) (ints (List.replicate (n + 1) 0)) := by
  refine ⟨by simp [ints], .inr ⟨b, n + 1, (ints (List.replicate (n + 1) 0)).toArray, rfl, Nat.zero_le _, ?_, Nat.le_refl _, by unfold maxLen; omega, by simp [ints], by simp [ints]⟩⟩
  rcases hb with rfl | rfl
  · rw [newW_heap]; simp only [Array.getElem?_push, Array.size_push]; rw [if_neg (by omega), if_neg (by omega), if_pos trivial]
  · rw [newW_heap]; simp only [Array.getElem?_push, Array.size_push]; rw [if_neg (by omega), if_pos trivial]
theorem newW_cell (w : World) (n S P : Nat) : (newW w n S P).cell? ⟨w.heap.size + 2, 0, none⟩ = some (.slice (some ⟨S, 0, none⟩) (n + 1) (n + 1)) ∧ (newW w n S P).cell? ⟨w.heap.size + 2, 1, none⟩ = some (.slice none 0 0) ∧
    (newW w n S P).cell? ⟨w.heap.size + 2, 2, none⟩ = some (.slice (some ⟨P, 0, none⟩) (n + 1) (n + 1)) ∧ ∀ o, (newW w n S P).frozen? ⟨w.heap.size + 2, o, none⟩ = false := by
  have hb : (newW w n S P).heap[w.heap.size + 2]? = some (.cells #[.slice (some ⟨S, 0, none⟩) (n + 1) (n + 1), .slice none 0 0, .slice (some ⟨P, 0, none⟩) (n + 1) (n + 1)] 49) := by
    rw [newW_heap]; simp only [Array.getElem?_push, Array.size_push]; rw [if_pos trivial]
  refine ⟨?_, ?_, ?_, fun o => ?_⟩
  · simp [World.cell?, hb, go_sem]
  · simp [World.cell?, hb, go_sem]
  · simp [World.cell?, hb, go_sem]
  · simp [World.frozen?, hb, go_sem]
theorem new_start (w : World) (n S P : Nat) (hn : n ≤ 400) (h : (S = w.heap.size ∧ P = w.heap.size + 1) ∨ (S = w.heap.size + 1 ∧ P = w.heap.size)) : NewAt w n 0 ((newW w n S P).setCell ⟨P, 0, none⟩ (.int .i64 (-1))) := by
  obtain ⟨k0, k1, k2, k3⟩ := newW_cell w n S P
  have hne : S ≠ P := by omega
  refine ⟨S, P, .slice none 0 0, ⟨?_, ?_, ?_, ?_, ?_, ?_, ?_, ?_, ?_⟩, hne, by omega, by omega⟩
  · rw [cell_ne (addr_ne (by omega))]; exact k0
  · rw [cell_ne (addr_ne (by omega))]; exact k1
  · rw [cell_ne (addr_ne (by omega))]; exact k2
  · rw [World.frozen?_setCell]; exact k3 1
  · exact row_ne (newW_row w n S P S (by omega) hn) (by simpa [Value.ownBlock] using hne) _
  · exact ⟨by simp [nats, upto], .inl ⟨rfl, rfl⟩⟩
  · have r := ((newW_row w n S P P (by omega) hn).stored 0 (.int .i64 (-1))).1
    rw [ints_set, ← plK_zero] at r
    exact r
  · refine Below.setCell ?_ (by simp; omega) _
    exact Below.drew ((((Below.refl w.heap.size w).alloc (Nat.le_refl _) _).alloc (by simp) _).alloc (by simp; omega) _)
  · simp [World.setCell, newW_sz]
set_option maxRecDepth 1000000 in
set_option maxHeartbeats 3200000 in
theorem new_any (n : Nat) (w : World) (hn : n ≤ 400) : Calls Try.prog 12 #[.int .i64 n] w (NewPost w n) := by
  have hmk := mk_ints n hn
  have n0 : (0 : Int) ≤ (n : Int) := by omega
  have n1 : (n : Int) ≤ 400 := by omega
  have nd : decide ((n : Int) < 0) = false := by simp
  have nd2 : decide (400 < (n : Int)) = false := by simp; omega
  have HM := Lib.hid hn
  clear hn
  go_enter Try.func12, Try.ntmps12
  go_wp2_with fail
  go_region
  case' _ =>
    rw [show w.heap.size + 1 + 1 = w.heap.size + 2 from rfl]
    obtain ⟨wq, HQ⟩ : ∃ wq, Hid (newW w n w.heap.size (w.heap.size + 1) = wq) := ⟨_, rfl⟩
    have HST := Lib.hid (new_start w n w.heap.size (w.heap.size + 1) HM.out (.inl ⟨rfl, rfl⟩))
    have d2 := (newW_cell w n w.heap.size (w.heap.size + 1)).2.2.1
    have r := newW_row w n w.heap.size (w.heap.size + 1) (w.heap.size + 1) (.inr rfl) HM.out
    change Exit.then _ _ _ _ (newW w n w.heap.size (w.heap.size + 1))
  rotate_left
  case' _ =>
    rw [show w.heap.size + 1 + 1 = w.heap.size + 2 from rfl]
    obtain ⟨wq, HQ⟩ : ∃ wq, Hid (newW w n (w.heap.size + 1) w.heap.size = wq) := ⟨_, rfl⟩
    have HST := Lib.hid (new_start w n (w.heap.size + 1) w.heap.size HM.out (.inr ⟨rfl, rfl⟩))
    have d2 := (newW_cell w n (w.heap.size + 1) w.heap.size).2.2.1
    have r := newW_row w n (w.heap.size + 1) w.heap.size w.heap.size (.inl rfl) HM.out
    change Exit.then _ _ _ _ (newW w n (w.heap.size + 1) w.heap.size)
  rotate_left
  all_goals
    rw [HQ.out] at HST d2 r ⊢
    have d3 := r.cellAt 0 (by omega)
    rw [ints_get _ _ (by simp)] at d3
    have d4 := r.frozenAt 0
    clear r HQ
    go_wp2_with fail
    clear hmk d2 d3 d4
    go_loopw [5] (fun i wr => ∃ k : Nat, i = .int .i64 ((k : Int) + 1) ∧ k ≤ n ∧ NewAt w n k wr) (fun i _ => n + 1 - (intOf i).toNat)
    case atStart => exact ⟨0, rfl, Nat.zero_le _, HST.out⟩
    case round =>
      obtain ⟨k, rfl, hk, S, P, gv, hR, hSP, hS, hP⟩ := hrel
      by_cases hlt : k < n
      · have c1 := hR.c1
        have c2 := hR.c2
        have cv := hR.rP.cellAt (k + 1) (by omega)
        rw [ints_get _ _ (by rw [plK_len]; omega)] at cv
        have fv := hR.rP.frozenAt (k + 1)
        have hsz := hR.sz
        have k0 : (0 : Int) ≤ (k : Int) + 1 := by omega
        have k1 : (k : Int) + 1 < (n : Int) + 1 := by omega
        have kt : ((k : Int) + 1).toNat = k + 1 := by omega
        have kw : IntKind.i64.wrap ((k : Int) + 1 - 1) = (k : Int) := by rw [IntWalk.i64_in _ (by omega)]; omega
        have HR := Lib.hid hR
        obtain ⟨wp, HWP⟩ : ∃ wp, Hid (wr.setCell ⟨P, k + 1, none⟩ (.int .i64 k) = wp) := ⟨_, rfl⟩
        have e1 : wp.cell? ⟨w.heap.size + 2, 1, none⟩ = some gv := by rw [← HWP.out, cell_ne (addr_ne (by omega))]; exact c1
        have rg : wp.ownsRow (w.heap.size + 3) 3 1 gv k (nats (upto k)) := by
          rw [← HWP.out]
          exact row_ne (a := ⟨P, k + 1, none⟩) hR.rG (fun e => by have := hR.gt _ e; simp at this; omega) _
        have es : w.heap.size + 3 ≤ wp.heap.size := by rw [← HWP.out]; simpa [World.setCell] using hsz
        have HRG := Lib.hid rg
        obtain ⟨ii, hi, hi1, hi2, hi3⟩ := info_int'
        have HI := Lib.hid hi
        have HI1 := Lib.hid hi1
        have HI2 := Lib.hid hi2
        have HI3 := Lib.hid hi3
        clear hR rg hi hi1 hi2 hi3
        have hw := HWP.out
        go_wp2_with (at_builtin; refine wpList_append_own _ rfl _ _ 23 rfl (w.heap.size + 3) 3 ii (.int .i64 0) 1 8 Try.underlying23 HI.out HI1.out HI2.out HI3.out rfl (by decide) gv k _ rfl (HRG.out.alloc _) ⟨wp.heap.size, 0, none⟩ 1 1 [.int .i64 ((k : Int) + 1)] rfl rfl ?_ ?_ ?_ ?_ ?_ ?_)
        · exact cell_one_new _ _ _
        · intro u hu; rw [List.mem_singleton] at hu; subst hu; rfl
        · unfold maxLen; omega
        · omega
        · simp; omega
        intro v' w2 hown' hgrow _
        obtain ⟨g, cap, rfl⟩ : ∃ g cap, v' = .slice (some ⟨g, 0, none⟩) (k + 1) cap := by
          rcases hown'.2 with ⟨_, h0⟩ | ⟨g, cap, cur, h1, _⟩
          · omega
          · exact ⟨g, cap, h1⟩
        clear hw
        rw [← HWP.out] at hgrow
        obtain ⟨hN, g1, g2⟩ := HR.out.store hSP (by omega) hP.1 hP.2 (by omega) hgrow hown'
        have HNEW : Hid (NewAt w n (k + 1) (w2.setCell ⟨w.heap.size + 2, 1, none⟩ (.slice (some ⟨g, 0, none⟩) (k + 1) cap))) := ⟨S, P, _, hN, hSP, hS, hP⟩
        clear hN hown' hgrow c1 c2 cv fv e1
        go_wp2_with fail
        go_roundw
        case rel => exact ⟨k + 1, by go_num, by omega, HNEW.out⟩
        case measure => simp [intOf]; omega
      · obtain rfl : k = n := by omega
        have HD := Lib.hid (hR.done HM.out hSP hS.1 hS.2 hP.1 hP.2)
        clear hR
        go_wp2_with fail
        go_ret2
        exact HD.out
end Go.Proofs.Ytfhbndfdlnbfpaa
