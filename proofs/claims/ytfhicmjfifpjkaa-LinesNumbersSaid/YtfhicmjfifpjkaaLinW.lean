/- The walk of LinesNumbers. -/
import Derived.Test.YtfhicmjfifpjkaaLinV
import Derived.Conc.MuLone
namespace Go.Proofs.Ytfhicmjfifpjkaa
open Go.RowKit
set_option linter.unusedVariables false
theorem catS (a b : List UInt8) : (ByteArray.mk a.toArray) ++ (ByteArray.mk b.toArray) = ⟨(a ++ b).toArray⟩ := by
  apply ByteArray.ext
  simp
theorem ent_num (args : Array Value) (w : World) : (callFunc 19 args).run Try.prog w = .ok (.enter 19 args) w :=
  Go.MuLone.run_callFunc_enter Try.func19 (by kernel_rfl) rfl args w
theorem rnumber_some (l : List UInt8) (w : World) (hl : l.length ≤ 9223372036854775807) (n : Nat) (hv : Hid (numL l = some n)) :
    Calls Try.prog 22 #[.string ⟨l.toArray⟩] w fun e w' => e = .returned (.tuple #[.int .i64 n, .bool true]) ∧ w = w' := rnumber_any l w hl (some n) hv
theorem rnumber_none (l : List UInt8) (w : World) (hl : l.length ≤ 9223372036854775807) (hv : Hid (numL l = none)) :
    Calls Try.prog 22 #[.string ⟨l.toArray⟩] w fun e w' => e = .returned (.tuple #[.int .i64 0, .bool false]) ∧ w = w' := rnumber_any l w hl none hv
set_option maxRecDepth 1000000 in
set_option maxHeartbeats 3200000 in
theorem linesNumbers_list (l : List UInt8) (most : Int) (w : World) (hl : l.length ≤ 9223372036854775807) :
    Calls Try.prog 5 #[.string ⟨l.toArray⟩, .int .i64 most] w fun e w' => e = .returned (.bool true) ∧ Below w.heap.size w w' := by
  have hmf : ∀ (fn : Fn) (first cap : Array Value) (w : World), (Instr.makeFunc fn first cap).run Try.prog w = .ok (.func fn first cap) w := fun _ _ _ _ => rfl
  go_enter Try.func5, Try.ntmps5
  go_wp2_with fail
  refine (lread_any _).mono ?_
  rintro e w1 ⟨rfl, hb1⟩
  have hb1' : Below w.heap.size w w1 := ((Below.refl _ _).alloc (Nat.le_refl _) _).trans (hb1.mono (by simp))
  have v3 := (varAt_new w #[.int .i64 most] 3 _ rfl).after hb1
  cases hwd : wordL l with
  | false =>
    have HW := Lib.hid hwd
    clear hwd v3
    go_wp2_with fail
    refine (word_is l false _ hl HW).mono ?_
    rintro e w2 ⟨rfl, rfl⟩
    go_wp2_with fail
    refine (lread_any _).mono ?_
    rintro e w3 ⟨rfl, hb3⟩
    go_wp2_with fail
    go_ret
    exact ⟨rfl, hb1'.trans (hb3.mono hb1'.size)⟩
  | true =>
    have HW := Lib.hid hwd
    have HRD := Lib.hid (num_read l hwd)
    have h80 := ((wordL_iff l).1 hwd).2.1
    clear hwd
    have HCAT : Hid ((ByteArray.mk #[120, 32]) ++ (ByteArray.mk l.toArray) = ⟨(120 :: 32 :: l).toArray⟩) := Lib.hid (catS [120, 32] l)
    go_wp2_with fail
    refine (word_is l true _ hl HW).mono ?_
    rintro e w2 ⟨rfl, rfl⟩
    go_wp2_with fail
    rw [HCAT.out]
    refine (top_read (120 :: 32 :: l) _ _ HRD (by simp; omega)).mono ?_
    rintro e w3 ⟨v, rfl, hrow, hb3⟩
    obtain ⟨va, vc, rfl⟩ := FixOf.shape hrow
    have v3' := (v3.alloc (.cells #[.int .i64 (-1)] 3)).after hb3
    have v5' := (varAt_new w1 #[.int .i64 (-1)] 3 _ rfl).after hb3
    have hb3' : Below w1.heap.size w1 w3 := ((Below.refl _ _).alloc (Nat.le_refl _) _).trans (hb3.mono (by simp))
    have hs1 := hb1.size
    have hs3 := hb3.size
    simp at hs1 hs3
    have HROW := Lib.hid hrow
    have HBE := Lib.hid (hb1'.trans (hb3'.mono hb1'.size))
    obtain ⟨H3, HH3⟩ : ∃ H, Hid (w.heap.size = H) := ⟨_, rfl⟩
    obtain ⟨H5, HH5⟩ : ∃ H, Hid (w1.heap.size = H) := ⟨_, rfl⟩
    have h35 : H3 < H5 := by have := HH3.out; have := HH5.out; omega
    have h53 : H5 < w3.heap.size := by have := HH5.out; omega
    rw [HH3.out] at v3' 
    rw [HH5.out] at v5'
    have HFIX : Hid (FixOf 3 LineC (fun b => b = H5 ∨ w3.heap.size + 1 ≤ b) (w3.alloc (.cells #[.int .i64 0, .int .i64 0, .int .i64 0] 30)) (.slice va 1 vc) [numLine l]) :=
      Lib.hid (FixOf.near (F := fun b => b < (w1.alloc (.cells #[.int .i64 (-1)] 3)).heap.size) HROW.out (near_alloc _ _ _) (fun b hb hg => by
        simp only [show (w1.alloc (.cells #[.int .i64 (-1)] 3)).heap.size = w1.heap.size + 1 from by simp]
        have := HH5.out
        rcases hg with rfl | hg <;> omega))
    have HI0 : Hid (NumInv H3 H5 most (-1) (w3.alloc (.cells #[.int .i64 0, .int .i64 0, .int .i64 0] 30))) := Lib.hid ⟨v3'.alloc _, v5'.alloc _⟩
    clear v3 v3' v5' hrow hb3 hb3' hb1 hb1' HROW hs1 hs3
    go_wp2_with fail
    have hsz : (w3.alloc (.cells #[.int .i64 0, .int .i64 0, .int .i64 0] 30)).heap.size = w3.heap.size + 1 := by simp
    rw [HH3.out, HH5.out]
    refine (each_any (fun b => b = H5 ∨ w3.heap.size + 1 ≤ b) _ _ [numLine l] 19 #[.pointer (some ⟨H3, 0, none⟩), .pointer (some ⟨H5, 0, none⟩)] (fun b hb => .inr (by rw [hsz] at hb; exact hb)) HFIX.out (fun x hx => by rw [List.mem_singleton] at hx; subst hx; exact ⟨rfl, by simp [numLine]⟩) ent_num
      (fun k w' => if k = 0 then NumInv H3 H5 most (-1) w' else NumDone l H3 H5 most w') (NumFin l H3 H5 most) ?_ ?_ ?_).mono ?_
    · intro k wa wb hi hN
      rw [hsz] at hN
      by_cases hk : k = 0
      · rw [if_pos hk] at hi ⊢
        exact hi.near hN (by omega) (by omega)
      · rw [if_neg hk] at hi ⊢
        obtain ⟨n, h1, h2, h3⟩ := hi
        exact ⟨n, h1, h2, h3.near hN (by omega) (by omega)⟩
    · rw [if_pos rfl]; exact HI0.out
    · intro k hk wk r wv cv hN hvB hr hrd hi
      have hk0 : k = 0 := by simp at hk; omega
      subst hk0
      rw [if_pos rfl] at hi
      rw [hsz] at hvB hr ⊢
      have := num_clo l HW.out most (fun b => b = H5 ∨ w3.heap.size + 1 ≤ b) (w3.heap.size + 1) H3 H5 (.inl rfl) (by omega) (by omega) (by omega) wk r wv cv hr hvB hrd hi
      exact this
    · intro e w5 hp
      obtain ⟨v, hv⟩ : ∃ v, numL l = v := ⟨_, rfl⟩
      have HV := Lib.hid hv
      clear hv
      have HFB : Hid (∀ w6, Near (fun b => b = H5 ∨ w3.heap.size + 1 ≤ b) (w3.alloc (.cells #[.int .i64 0, .int .i64 0, .int .i64 0] 30)) w6 → Below w.heap.size w w6) := Lib.hid (fun w6 h => by
        have hz := HBE.out.size
        exact (HBE.out.alloc hz _).trans (h.below (by rw [hsz]; omega) (fun b hb => by have := HH3.out; rcases hb with rfl | hb <;> omega)))
      rcases hp with ⟨rfl, hdone, hN⟩ | ⟨c, ln, kk, rfl, hfin, hN⟩
      · obtain ⟨n, hn, hle, hinv⟩ : NumDone l H3 H5 most w5 := by simpa using hdone
        have hvn : v = some n := by rw [← HV.out]; exact hn
        subst hvn
        have c3 := hinv.v3.get 0 rfl
        have c5 := hinv.v5.get 0 rfl
        have l3 := hinv.v3.lt
        have l5 := hinv.v5.lt
        have hd : decide (most < (n : Int)) = false := decide_eq_false (by omega)
        have hnn : ((n : Int) == (n : Int)) = true := by simp
        have HB5 := Lib.hid (HFB.out w5 hN)
        clear hdone hn hinv hN hle HFB
        go_wp2_with fail
        refine (rnumber_some l _ hl n HV).mono ?_
        rintro e w6 ⟨rfl, rfl⟩
        go_wp2_with fail
        go_ret
        exact ⟨rfl, HB5.out.alloc HB5.out.size _⟩
      · obtain ⟨rfl, rfl, hc, hinv⟩ := hfin
        have c3 := hinv.v3.get 0 rfl
        have c5 := hinv.v5.get 0 rfl
        have l3 := hinv.v3.lt
        have l5 := hinv.v5.lt
        have HB5 := Lib.hid (HFB.out w5 hN)
        clear hinv hN HFB
        rcases hc with ⟨rfl, hn⟩ | ⟨rfl, n, hn, hbig⟩
        · have HNN := Lib.hid hn
          clear hn
          go_wp2_with fail
          refine (rnumber_none l _ hl HNN).mono ?_
          rintro e w6 ⟨rfl, rfl⟩
          go_wp2_with fail
          go_ret
          exact ⟨rfl, HB5.out.alloc HB5.out.size _⟩
        · have HNN := Lib.hid hn
          have hd : decide (most < (n : Int)) = true := decide_eq_true hbig
          clear hn
          go_wp2_with fail
          refine (rnumber_some l _ hl n HNN).mono ?_
          rintro e w6 ⟨rfl, rfl⟩
          go_wp2_with fail
          go_ret
          exact ⟨rfl, HB5.out.alloc HB5.out.size _⟩
theorem linesNumbers_walk (a0 : ByteArray) (w0 : a0.size ≤ maxLen) (a1 : Int) (w1 : (Lit.int .i64 a1).wf = true) (w : World) :
    Calls Try.prog 5 #[.string a0, .int .i64 a1] w fun e w' => e = .returned (.bool true) ∧ Below w.heap.size w w' := by
  have hl : a0.data.toList.length = a0.size := by rw [Array.length_toList]; rfl
  unfold maxLen at w0
  exact linesNumbers_list a0.data.toList a1 w (by omega)
end Go.Proofs.Ytfhicmjfifpjkaa
