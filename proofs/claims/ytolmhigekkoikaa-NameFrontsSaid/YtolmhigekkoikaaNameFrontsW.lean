/- The walk of NameFronts: for every text and every number it returns true and changes nothing that was there. -/
import Derived.Test.YtolmhigekkoikaaNamK
namespace Go.Proofs.Ytolmhigekkoikaa
open Go.RowKit
set_option linter.unusedVariables false
theorem cat_str (a b : List UInt8) : (ByteArray.mk a.toArray) ++ (ByteArray.mk b.toArray) = ⟨(a ++ b).toArray⟩ := by
  apply ByteArray.ext
  simp [ByteArray.data_append]
theorem cat4 (a r : List UInt8) : ByteArray.mk #[64] ++ ByteArray.mk a.toArray ++ ByteArray.mk #[47] ++ ByteArray.mk r.toArray = ⟨(64 :: a ++ 47 :: r).toArray⟩ := by
  apply ByteArray.ext
  apply Array.toList_inj.1
  simp [ByteArray.data_append]
theorem cat3 (a : List UInt8) : ByteArray.mk #[64] ++ ByteArray.mk a.toArray ++ ByteArray.mk #[47, 42] = ⟨(64 :: a ++ [47, 42]).toArray⟩ := by
  apply ByteArray.ext
  apply Array.toList_inj.1
  simp [ByteArray.data_append]
set_option maxHeartbeats 1600000 in
theorem nameFronts_list (s : List UInt8) (n : Int) (w : World) (hs : s.length ≤ 9223372036854775807) (hn1 : -9223372036854775808 ≤ n) (hn2 : n ≤ 9223372036854775807) :
    Calls Try.prog 7 #[.string ⟨s.toArray⟩, .int .i64 n] w fun e w' => e = .returned (.bool true) ∧ Below w.heap.size w w' := by
  cases hc : checkL s
  · have HC := Lib.hid hc
    clear hc
    go_enter Try.func7, Try.ntmps7
    go_wp2_with fail
    refine (named_any _).mono ?_
    rintro e w1 ⟨rfl, hb1⟩
    go_wp2_with fail
    refine (rcheck_is s false _ hs HC).mono ?_
    rintro e w2 ⟨rfl, rfl⟩
    go_wp2_with fail
    refine (named_any _).mono ?_
    rintro e w3 ⟨rfl, hb3⟩
    go_wp2_with fail
    go_ret
    exact ⟨rfl, bthen hb1 hb3⟩
  · have hlen := check_len s hc
    obtain ⟨m, hm, hml⟩ : ∃ m : Nat, (IntKind.u64.wrap n).tmod ((s.length : Int) + 1) = (m : Int) ∧ m ≤ s.length := by
      have h0 : 0 ≤ IntKind.u64.wrap n := by rw [IntKind.wrap_u64]; omega
      refine ⟨((IntKind.u64.wrap n).tmod ((s.length : Int) + 1)).toNat, ?_, ?_⟩
      · have := Int.tmod_nonneg ((s.length : Int) + 1) h0
        omega
      · have := Int.tmod_lt_of_pos (IntKind.u64.wrap n) (show (0 : Int) < (s.length : Int) + 1 by omega)
        omega
    have HC := Lib.hid hc
    have HX1 : Hid ((ByteArray.mk s.toArray).extract 0 m ++ ByteArray.mk #[42] = ⟨(s.take m ++ [42]).toArray⟩) := by
      rw [ext_list, List.drop_zero]; exact cat_str (s.take m) [42]
    have HM1 := Lib.hid (match_front s m hml hc)
    have HM2 := Lib.hid (match_self s hc)
    have HM3 := Lib.hid (match_all s hc)
    have hgl : (s.take m ++ [42]).length ≤ 43 := by simp; omega
    have hel : ((ByteArray.mk s.toArray).extract 0 m).size ≤ 42 := by rw [ext_list]; show (List.toArray _).size ≤ 42; simp; omega
    generalize hgg : globL (s.take m ++ [42]) = y at *
    have HG := Lib.hid hgg
    clear hgg
    rcases check_parts s hc with ⟨p1, p2, p3⟩ | ⟨p1, p2⟩
    · have HT := Lib.hid (scoped_text s p1)
      have HM4 := Lib.hid (match_scope s p1 p2 p3)
      have la := front_len _ (plain_front _ p2).2
      have lr := front_len _ (plain_front _ p3).2
      have hsp := (plain_front _ p2).1
      have HP2 := Lib.hid p2
      have HP3 := Lib.hid p3
      generalize hsa : scopeL s = a at *
      generalize hsr : restL s = r at *
      have HA := Lib.hid hsa
      have HR := Lib.hid hsr
      have hae : a.isEmpty = false := by cases a with | nil => simp at hsp | cons => rfl
      clear p1 p2 p3 hc hsa hsr
      go_enter Try.func7, Try.ntmps7
      go_wp2_with fail
      refine (named_any _).mono ?_
      rintro e w1 ⟨rfl, hb1⟩
      go_wp2_with fail
      refine (rcheck_is s true _ hs HC).mono ?_
      rintro e w2 ⟨rfl, rfl⟩
      go_wp2_with fail
      rw [HX1.out]
      refine (match_is _ s y _ (by omega) (by omega) HM1).mono ?_
      rintro e w2 ⟨rfl, hb2⟩
      go_wp2_with fail
      refine (glob_is _ y _ (by omega) HG).mono ?_
      rintro e w3 ⟨rfl, hb3⟩
      have ey : (y != y) = false := by simp
      go_wp2_with fail
      refine (match_is s s true _ (by omega) (by omega) HM2).mono ?_
      rintro e w4 ⟨rfl, hb4⟩
      go_wp2_with fail
      refine (match_is [42] s true _ (by decide) (by omega) HM3).mono ?_
      rintro e w5 ⟨rfl, hb5⟩
      go_wp2_with fail
      refine (split_is s a r _ hs HA HR).mono ?_
      rintro e w6 ⟨rfl, hb6⟩
      go_wp2_with fail
      refine (plain_is a true _ (by omega) HP2).mono ?_
      rintro e w7 ⟨rfl, rfl⟩
      go_wp2_with fail
      refine (plain_is r true _ (by omega) HP3).mono ?_
      rintro e w7 ⟨rfl, rfl⟩
      have hcat : (s == (ByteArray.mk #[64] ++ ByteArray.mk a.toArray ++ ByteArray.mk #[47] ++ ByteArray.mk r.toArray).toList) = true := by
        have e := cat4 a r
        rw [e, Go.ByteArray.toList_eq]
        exact beq_iff_eq.2 HT.out
      go_wp2_with fail
      rw [cat3 a]
      refine (match_is _ s true _ (by simp; omega) (by omega) HM4).mono ?_
      rintro e w7 ⟨rfl, hb7⟩
      go_wp2_with fail
      go_ret
      exact ⟨rfl, bthen (bthen (bthen (bthen (bthen (bthen hb1 hb2) hb3) hb4) hb5) hb6) hb7⟩
    · have h1 : scopeL s = [] := by unfold scopeL; rw [p1]; rfl
      have h2 : restL s = s := by unfold restL; rw [p1]; rfl
      have HA := Lib.hid h1
      have HR := Lib.hid h2
      have HP := Lib.hid p2
      clear p1 p2 hc h1 h2
      go_enter Try.func7, Try.ntmps7
      go_wp2_with fail
      refine (named_any _).mono ?_
      rintro e w1 ⟨rfl, hb1⟩
      go_wp2_with fail
      refine (rcheck_is s true _ hs HC).mono ?_
      rintro e w2 ⟨rfl, rfl⟩
      go_wp2_with fail
      rw [HX1.out]
      refine (match_is _ s y _ (by omega) (by omega) HM1).mono ?_
      rintro e w2 ⟨rfl, hb2⟩
      go_wp2_with fail
      refine (glob_is _ y _ (by omega) HG).mono ?_
      rintro e w3 ⟨rfl, hb3⟩
      have ey : (y != y) = false := by simp
      go_wp2_with fail
      refine (match_is s s true _ (by omega) (by omega) HM2).mono ?_
      rintro e w4 ⟨rfl, hb4⟩
      go_wp2_with fail
      refine (match_is [42] s true _ (by decide) (by omega) HM3).mono ?_
      rintro e w5 ⟨rfl, hb5⟩
      go_wp2_with fail
      refine (split_is s [] s _ hs HA HR).mono ?_
      rintro e w6 ⟨rfl, hb6⟩
      go_wp2_with fail
      refine (plain_is s true _ (by omega) HP).mono ?_
      rintro e w7 ⟨rfl, rfl⟩
      go_wp2_with fail
      go_ret
      exact ⟨rfl, bthen (bthen (bthen (bthen (bthen hb1 hb2) hb3) hb4) hb5) hb6⟩
theorem nameFronts_walk (a0 : ByteArray) (a1 : Int) (w0 : a0.size ≤ maxLen) (w1 : (Lit.int .i64 a1).wf = true) (w : World) :
    Calls Try.prog 7 #[.string a0, .int .i64 a1] w fun e w' => e = .returned (.bool true) ∧ Below w.heap.size w w' := by
  have := bounds_i64 w1
  exact nameFronts_list a0.data.toList a1 w w0 this.1 this.2
end Go.Proofs.Ytolmhigekkoikaa
