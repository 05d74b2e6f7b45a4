/- The row's first numbers by the document, and the walk of the law OrderLubys. -/
import Derived.Test.YtfhbndfdlnbfpaaOrdU
import Derived.Laws.AppendOwnNone
namespace Go.Proofs.Ytfhbndfdlnbfpaa
open Go.RowKit
set_option linter.unusedVariables false
def rowL : Nat → List Nat
  | 0 => []
  | j + 1 => rowL j ++ rowL j ++ [2 ^ j]
theorem rowL_len (j : Nat) : (rowL j).length + 1 = 2 ^ j := by
  induction j with
  | zero => rfl
  | succ j ih => simp only [rowL, List.length_append, List.length_singleton, Nat.pow_succ]; omega
theorem rowL_luby (j : Nat) : ∀ i, i < (rowL j).length → LubyIs (i + 1) ((rowL j).getD i 0) := by
  induction j with
  | zero => intro i hi; simp [rowL] at hi
  | succ j ih =>
    intro i hi
    have hl := rowL_len j
    have hl2 := rowL_len (j + 1)
    have e2 : 2 ^ (j + 1) = 2 * 2 ^ j := by rw [Nat.pow_succ]; omega
    have h0 := Nat.one_le_two_pow (n := j)
    by_cases h1 : i < (rowL j).length
    · have e : (rowL (j + 1)).getD i 0 = (rowL j).getD i 0 := by
        simp only [rowL, List.append_assoc]
        simp [List.getElem?_append_left h1]
      rw [e]; exact ih i h1
    · by_cases h2 : i < (rowL j).length + (rowL j).length
      · have e : (rowL (j + 1)).getD i 0 = (rowL j).getD (i - (rowL j).length) 0 := by
          simp only [rowL]
          simp [List.getElem?_append_right (show (rowL j).length ≤ i by omega), List.getElem?_append_left (show i - (rowL j).length < (rowL j).length by omega)]
        rw [e]
        refine LubyIs.step _ j _ (by omega) (by omega) ?_
        have e3 : i + 1 - (2 ^ j - 1) = i - (rowL j).length + 1 := by omega
        rw [e3]
        exact ih _ (by omega)
      · have e0 : i = (rowL j ++ rowL j).length := by simp; omega
        have e : (rowL (j + 1)).getD i 0 = 2 ^ j := by
          simp only [rowL, e0]
          simp
        rw [e]
        have e3 : i + 1 = 2 ^ (j + 1) - 1 := by simp at e0; omega
        rw [e3]; exact .top j
def RowPost (w : World) (n : Nat) (e : Ending) (w' : World) : Prop :=
  ∃ v l, e = .returned v ∧ IntRow .i64 w' v l ∧ l.length = n ∧ (∀ i, i < n → ∃ u : Nat, l.getD i 0 = (u : Int) ∧ LubyIs (i + 1) u) ∧ Below w.heap.size w w'
def rowRel (w : World) (j : Nat) (v : Value) (wr : World) : Prop := wr.ownsRow w.heap.size 3 1 v (rowL j).length (nats (rowL j)) ∧ Below w.heap.size w wr
theorem rowRel.done {w : World} {j n : Nat} {G cap : Nat} {wr : World} (h : rowRel w j (.slice (some ⟨G, 0, none⟩) (rowL j).length cap) wr) (hn : n ≤ (rowL j).length) : RowPost w n (.returned (.slice (some ⟨G, 0, none⟩) n cap)) wr := by
  refine ⟨_, ((rowL j).take n).map (fun v : Nat => (v : Int)), rfl, ?_, by simp; omega, ?_, h.2⟩
  · by_cases h0 : n = 0
    · subst h0; exact .inl ⟨_, _, rfl, by simp⟩
    · have hl : (((rowL j).take n).map (fun v : Nat => (v : Int))).length = n := by simp; omega
      have hsz := h.1
      rcases hsz.2 with ⟨h1, _⟩ | ⟨g, cap', cur, h1, h2, h3, h4, h5, _⟩
      · cases h1
      · injection h1 with h1 _ h1'
        injection h1 with h1
        injection h1 with h1
        subst h1
        subst h1'
        refine .inr ⟨G, 0, cap, by rw [hl], by omega, by rw [hl]; omega, (hsz.lt G rfl).2, fun i hi => ?_⟩
        rw [hl] at hi
        rw [Nat.zero_add, hsz.cellAt i (by omega), nats_get _ _ (by omega)]
        simp [hi, show i < (rowL j).length by omega]
  · intro i hi
    refine ⟨(rowL j).getD i 0, ?_, rowL_luby j i (by omega)⟩
    simp [hi, show i < (rowL j).length by omega]
set_option maxRecDepth 1000000 in
set_option maxHeartbeats 3200000 in
theorem rluby_any (n : Nat) (w : World) (hn : n ≤ 600) : Calls Try.prog 9 #[.int .i64 n] w (RowPost w n) := by
  obtain ⟨ii, hi, hi1, hi2, hi3⟩ := info_int'
  have HI := Lib.hid hi
  have HI1 := Lib.hid hi1
  have HI2 := Lib.hid hi2
  have HI3 := Lib.hid hi3
  clear hi hi1 hi2 hi3
  go_enter Try.func9, Try.ntmps9
  go_wp2_with fail
  go_loopw [3, 4] (fun r p wr => ∃ j : Nat, p = .int .i64 ((2 ^ j : Nat) : Int) ∧ j ≤ 10 ∧ rowRel w j r wr) (fun r p _ => 10 + (2048 - (intOf p).toNat))
  case atStart => exact ⟨0, rfl, by omega, ⟨by rfl, .inl ⟨rfl, rfl⟩⟩, Below.refl _ _⟩
  case round =>
    obtain ⟨j, rfl, hj, hown, hb⟩ := hrel
    have hl := rowL_len j
    obtain ⟨Q, hQ⟩ : ∃ Q, 2 ^ j = Q := ⟨_, rfl⟩
    have hQ1 : Q ≤ 1024 := by rw [← hQ]; have : 2 ^ j ≤ 2 ^ 10 := Nat.pow_le_pow_right (by omega) hj; simpa using this
    have hQ0 : 1 ≤ Q := by rw [← hQ]; exact Nat.one_le_two_pow
    have HQ := Lib.hid hQ
    rw [hQ] at hl ⊢
    have HL := Lib.hid hl
    clear hQ
    by_cases hlt : Q ≤ n
    · have hj9 : j ≤ 9 := by
        apply Classical.byContradiction
        intro hc
        obtain rfl : j = 10 := by omega
        have := HQ.out
        simp at this
        omega
      have hd : decide ((rowL j).length < n) = true := decide_eq_true (by omega)
      have HNX : Hid (∀ v' w2, w2.ownsRow w.heap.size 3 1 v' ((rowL j).length + (rowL j).length + 1) (nats (rowL j) ++ nats (rowL j) ++ [.int .i64 (Q : Int)]) → Below w.heap.size w w2 → rowRel w (j + 1) v' w2) := by
        refine Lib.hid (fun v' w2 h1 h2 => ⟨?_, h2⟩)
        have e1 : (rowL (j + 1)).length = (rowL j).length + (rowL j).length + 1 := by simp [rowL]; omega
        have e2 : nats (rowL (j + 1)) = nats (rowL j) ++ nats (rowL j) ++ [.int .i64 (Q : Int)] := by
          rw [rowL, HQ.out]; simp [nats]
        rw [e1, e2]; exact h1
      have hl1 : (rowL j).length ≤ 1023 := by omega
      have hrr : (nats (rowL j)).length = (rowL j).length := by simp [nats]
      have HRR := Lib.hid hrr
      clear hl hrr
      have HMX : Hid (2 ^ (j + 1) = 2 * Q) := by rw [Nat.pow_succ, HQ.out, Nat.mul_comm]; exact Lib.hid rfl
      have hQw : IntKind.i64.wrap ((Q : Int) * 2) = (Q : Int) * 2 := IntWalk.i64_in _ (by omega)
      obtain ⟨m, hm⟩ : ∃ m, (rowL j).length = m := ⟨_, rfl⟩
      obtain ⟨xs, hxs⟩ : ∃ xs, nats (rowL j) = xs := ⟨_, rfl⟩
      have hone : Hid (∀ u ∈ nats (rowL j), u.oneCell' = true) := by
        refine Lib.hid (fun u hu => ?_)
        obtain ⟨a, _, rfl⟩ := List.mem_map.1 hu
        rfl
      rw [hxs] at hone
      rw [hm] at hown HNX hd hl1 HRR
      rw [hxs] at hown HNX HRR
      clear hm hxs
      have HO := Lib.hid hown
      rcases hown.2 with ⟨rfl, hm0⟩ | ⟨g, cap, cur, rfl, hg⟩
      · subst hm0
        obtain rfl : xs = [] := List.length_eq_zero_iff.1 HRR.out
        clear hown
        go_wp2_with (at_builtin; first
          | (refine wpList_append_own_none rfl _ _ 23 rfl w.heap.size 3 ii 1 Try.underlying23 HI.out _ 0 [] rfl HO.out rfl ?_)
          | (refine wpList_append_own _ rfl _ _ 23 rfl w.heap.size 3 ii (.int .i64 0) 1 8 Try.underlying23 HI.out HI1.out HI2.out HI3.out rfl (by decide) _ 0 [] rfl (HO.out.alloc _) ⟨wr.heap.size, 0, none⟩ 1 1 [.int .i64 (Q : Int)] rfl rfl ?_ ?_ ?_ ?_ ?_ ?_))
        · exact cell_one_new _ _ _
        · intro u hu; rw [List.mem_singleton] at hu; subst hu; rfl
        · unfold maxLen; omega
        · omega
        · have := hb.size; simp; omega
        intro v' w2 hown' hgrow _
        have hb2 : Below w.heap.size w w2 := (hb.alloc hb.size _).grown hgrow (by have := hb.size; simp; omega) (fun g hg => by cases hg)
        have HREL := Lib.hid (HNX.out v' w2 hown' hb2)
        clear hown' hgrow hb2
        go_wp2_with fail
        go_roundw
        case rel => exact ⟨j + 1, by rw [HMX.out]; congr 1; omega, by omega, HREL.out⟩
        case measure => simp [intOf]; omega
      · have hm1 : m ≤ cap := hg.2.2.1
        clear hown hg
        have hxc : Hid (∀ q u, xs[q]? = some u → wr.cell? ((⟨g, 0, none⟩ : Addr).add q) = some u) := by
          refine Lib.hid (fun q u hu => ?_)
          have hq : q < xs.length := by
            apply Classical.byContradiction
            intro hn
            rw [List.getElem?_eq_none (by omega)] at hu
            cases hu
          rw [show (⟨g, 0, none⟩ : Addr).add q = ⟨g, q, none⟩ from by simp [Addr.add]; exact Eq.symm, HO.out.cellAt q (by rw [HRR.out] at hq; omega)]; exact hu
        go_wp2_with (at_builtin; first
          | (refine wpList_append_own _ rfl _ _ 23 rfl w.heap.size 3 ii (.int .i64 0) 1 8 Try.underlying23 HI.out HI1.out HI2.out HI3.out rfl (by decide) _ m xs rfl HO.out ⟨g, 0, none⟩ m cap xs rfl (by rw [HRR.out, Nat.mul_one]) hxc.out hone.out ?_ ?_ hb.size ?_))
        · unfold maxLen; omega
        · omega
        intro v1 w1 hown1 hgrow1 hnil1
        have hb1 : Below w.heap.size w w1 := hb.grown hgrow1 hb.size (fun g hg => (HO.out.lt g hg).1)
        have HO1 := Lib.hid hown1
        clear hown1 hgrow1 hnil1
        go_wp2_with (at_builtin; first
          | (refine wpList_append_own _ rfl _ _ 23 rfl w.heap.size 3 ii (.int .i64 0) 1 8 Try.underlying23 HI.out HI1.out HI2.out HI3.out rfl (by decide) _ (m + m) (xs ++ xs) rfl (HO1.out.alloc _) ⟨w1.heap.size, 0, none⟩ 1 1 [.int .i64 (Q : Int)] rfl rfl ?_ ?_ ?_ ?_ ?_ ?_))
        · exact cell_one_new _ _ _
        · intro u hu; rw [List.mem_singleton] at hu; subst hu; rfl
        · unfold maxLen; omega
        · omega
        · have := hb1.size; simp; omega
        intro v' w2 hown' hgrow _
        have hb2 : Below w.heap.size w w2 := (hb1.alloc hb1.size _).grown hgrow (by have := hb1.size; simp; omega) (fun g hg => (HO1.out.lt g hg).1)
        have HREL := Lib.hid (HNX.out v' w2 (by rw [List.append_assoc]; exact hown') hb2)
        clear hown' hgrow hb2
        go_wp2_with fail
        go_roundw
        case rel => exact ⟨j + 1, by rw [HMX.out]; congr 1; omega, by omega, HREL.out⟩
        case measure => simp [intOf]; omega
    · have hd : decide ((rowL j).length < n) = false := decide_eq_false (by omega)
      rcases hown.2 with ⟨rfl, hm0⟩ | ⟨g, cap, cur, rfl, hg⟩
      · obtain rfl : n = 0 := by omega
        have hr0 : (rowL j).length = 0 := hm0
        clear hown
        go_wp2_with fail
        go_ret
        exact ⟨_, [], rfl, .inl ⟨_, _, rfl, rfl⟩, rfl, fun i hi => absurd hi (by omega), hb⟩
      · have hm1 : (rowL j).length ≤ cap := hg.2.2.1
        have HD := Lib.hid (rowRel.done (n := n) ⟨hown, hb⟩ (by omega))
        have hn2 : n ≤ cap := by omega
        clear hown hg
        go_wp2_with fail
        go_ret
        exact HD.out
set_option maxRecDepth 1000000 in
set_option maxHeartbeats 3200000 in
theorem orderLubys_walk (a0 a1 : Int) (w0 : (Lit.int .i64 a0).wf = true) (w1 : (Lit.int .i64 a1).wf = true) (w : World) :
    Calls Try.prog 3 #[.int .i64 a0, .int .i64 a1] w fun e w' => e = .returned (.bool true) ∧ Below w.heap.size w w' := by
  clear w0 w1
  obtain ⟨n, hn, n1⟩ : ∃ n : Nat, wrap64 ((IntKind.u64.wrap a0).tmod 600) = (n : Int) ∧ n < 600 := by
    obtain ⟨r, hr, hlt⟩ := rem_nat a0 600 (by omega) (by omega)
    have hr' : (IntKind.u64.wrap a0).tmod 600 = (r : Int) := hr
    exact ⟨r, by rw [hr', IntWalk.wrap64_in _ (by omega)], hlt⟩
  go_enter Try.func3, Try.ntmps3
  go_wp2_with fail
  simp only [hn]
  clear hn
  refine (rluby_any n w (by omega)).mono ?_
  rintro e w1 ⟨v, l, rfl, hrow, hln, hlub, hb1⟩
  have HROW := Lib.hid hrow
  have HLN := Lib.hid hln
  have HLUB := Lib.hid hlub
  obtain ⟨a, cap, rfl⟩ := intRow_shape hrow
  rw [hln]
  clear hrow hln hlub
  go_wp2_with fail
  go_loopw [6] (fun i wr => ∃ k : Nat, i = .int .i64 k ∧ k ≤ n ∧ ∃ q, wr = w1.drewN q) (fun i _ => n - (intOf i).toNat)
  case atStart => exact ⟨0, rfl, Nat.zero_le _, 0, rfl⟩
  case round =>
    obtain ⟨k, rfl, hk, q, rfl⟩ := hrel
    by_cases hlt : k < n
    · obtain ⟨u, hu, hlu⟩ := HLUB.out k hlt
      obtain ⟨b, off, cap', hv, _, _, hbw, hc⟩ : ∃ b off cap', Value.slice a l.length cap = .slice (some ⟨b, off, none⟩) l.length cap' ∧ 0 < l.length ∧ l.length ≤ maxLen ∧ b < w1.heap.size ∧ ∀ i, i < l.length → w1.cell? ⟨b, off + i, none⟩ = some (.int .i64 (l.getD i 0)) := by
        rcases HROW.out with ⟨_, _, _, h0⟩ | h
        · have := HLN.out; rw [h0] at this; simp at this; omega
        · exact h
      have hck := hc k (by rw [HLN.out]; exact hlt)
      rw [hu] at hck
      injection hv with hv _ hv2
      subst hv
      subst hv2
      clear hc hu
      have k0 : (0 : Int) ≤ (k : Int) := by omega
      have k1 : (k : Int) < (n : Int) := by omega
      have s1 : IntKind.i64.wrap ((k : Int) + 1) = (k : Int) + 1 := IntWalk.i64_in _ (by omega)
      have L1 := Lib.hid (luby_at ((k : Int) + 1) (k + 1) u rfl (by omega) (by omega) hlu)
      clear hlu
      obtain ⟨wq, HWQ⟩ : ∃ wq, Hid (w1.drewN q = wq) := ⟨_, rfl⟩
      have hcq : wq.cell? ⟨b, off + k, none⟩ = some (.int .i64 u) := by rw [← HWQ.out]; exact hck
      have hne : ((u : Int) != (u : Int)) = false := by simp
      rw [HWQ.out]
      clear hck
      go_wp2_with fail
      go_quiet ((go_at_call 10; exact Calls.quiet_of_same (L1.out _)))
      go_wp2_with fail
      go_roundw
      case rel => exact ⟨k + 1, by go_num, by omega, q + nq, by rw [← HWQ.out, World.drewN_drewN]⟩
      case measure => simp [intOf]; omega
    · by_cases ha : 0 < a1
      · have hd : decide (0 < a1) = true := decide_eq_true ha
        go_wp2_with fail
        refine (popped_any _).mono ?_
        rintro e w2 ⟨rfl, hb2⟩
        go_wp2_with fail
        go_ret
        exact ⟨rfl, Below.trans (Below.drewN hb1 q) (hb2.mono hb1.size)⟩
      · have hd : decide (0 < a1) = false := decide_eq_false ha
        go_wp2_with fail
        refine (popped_any _).mono ?_
        rintro e w2 ⟨rfl, hb2⟩
        go_wp2_with fail
        refine (luby_low _ _ (by omega)).mono ?_
        rintro e w3 ⟨rfl, rfl⟩
        go_wp2_with fail
        go_ret
        exact ⟨rfl, Below.trans (Below.drewN hb1 q) (hb2.mono hb1.size)⟩
end Go.Proofs.Ytfhbndfdlnbfpaa
