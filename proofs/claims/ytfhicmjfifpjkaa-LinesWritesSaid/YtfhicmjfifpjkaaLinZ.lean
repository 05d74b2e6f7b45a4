/- What is asked of readers (plain), and the law's one. -/
import Derived.Test.YtfhicmjfifpjkaaLinY
namespace Go.Proofs.Ytfhicmjfifpjkaa
open Go.RowKit
set_option linter.unusedVariables false
structure OpD where
  kind : Int
  n : Int
  w : List UInt8
/-- what a question comes to: so many words are taken, these are told; or an error at a byte -/
inductive StepR where
  | go (k : Nat) (out : List (List UInt8))
  | stop (c : Int) (col : Nat) (k : Nat)
def wd (x : LineD) (k : Nat) : List UInt8 := x.ws.getD k []
def numStep (x : LineD) (k : Nat) (n : Int) : Option Nat → StepR
  | none => .stop 1 (colAt x (k + 1)) (k + 1)
  | some m => if n < (m : Int) then .stop 8 (colAt x (k + 1)) (k + 1) else .go (k + 1) [wd x k]
def stepL (x : LineD) (k : Nat) (o : OpD) : StepR :=
  if o.kind = 1 then (if k < x.ws.length then .go (k + 1) [wd x k] else .stop 1 0 k)
  else if o.kind = 2 then (if k < x.ws.length ∧ wd x k = o.w then .go (k + 1) [[121, 101, 115]] else .go k [[110, 111]])
  else if o.kind = 3 then (if k < x.ws.length then numStep x k o.n (numL (wd x k)) else .stop 1 0 k)
  else if o.kind = 4 then .stop o.n (colAt x k) k
  else if o.kind = 5 then (if k < x.ws.length then .go k [[109, 111, 114, 101]] else .go k [[101, 110, 100]])
  else if o.kind = 6 then (if k < x.ws.length then (if wd x k = o.w then .go (k + 1) [wd x k] else .stop 1 (colAt x (k + 1)) (k + 1)) else .stop 1 0 k)
  else .go k []
/-- what one is told of a question -/
def OnePost (G : Nat → Prop) (w : World) (r : Nat) (wv cv : Value) (x : LineD) (res : StepR) (e : Ending) (w' : World) : Prop :=
  match res with
  | .go k' out => RdAt G w' r wv cv x k' ∧ Near (fun b => b = r) w w' ∧ ((out = [] ∧ e = .returned (.slice none 0 0)) ∨ ∃ s g, out = [s] ∧ w.heap.size ≤ g ∧ g < w'.heap.size ∧ e = .returned (.slice (some ⟨g, 0, none⟩) 1 1) ∧ VarAt w' g [.string ⟨s.toArray⟩])
  | .stop c col _ => e = .panicked [{ v := stopV c x.no col, recovered := false }] ∧ Near (fun b => b = r) w w'
theorem Moved.nearR {G : Nat → Prop} {w : World} {r : Nat} {wv cv : Value} {x : LineD} {k : Nat} {w' : World} (h : Moved G w r wv cv x k w') : Near (fun b => b = r) w w' := by
  obtain ⟨_, m, rfl⟩ := h
  exact (near_setCell w ⟨r, 3, none⟩ _ (F := fun b => b = r) rfl).trans (near_drewN _ _ _)
theorem Moved.lt {G : Nat → Prop} {w : World} {r : Nat} {wv cv : Value} {x : LineD} {k : Nat} {w' : World} (h : Moved G w r wv cv x k w') : w'.heap.size = w.heap.size := by
  obtain ⟨_, m, rfl⟩ := h
  exact heap_setCell_size w _ _
theorem one_told {G : Nat → Prop} {w w1 : World} {r : Nat} {wv cv : Value} {x : LineD} {k : Nat} {res : StepR} (s : List UInt8) (hres : res = .go k [s]) (hr : RdAt G w1 r wv cv x k) (hn : Near (fun b => b = r) w w1) (T : TypeId) (g : Nat) (hg : g = w1.heap.size) :
    OnePost G w r wv cv x res (.returned (.slice (some ⟨g, 0, none⟩) 1 1)) (w1.alloc (.cells #[.string ⟨s.toArray⟩] T)) := by
  subst hres
  exact ⟨hr.near (near_alloc _ _ _) (hr.var.alloc _), hn.trans (near_alloc _ _ _), .inr ⟨s, g, rfl, by rw [hg]; exact hn.size, by rw [hg]; simp, rfl, varAt_new w1 #[.string ⟨s.toArray⟩] T g hg⟩⟩
theorem one_stopped {G : Nat → Prop} {w w1 : World} {r : Nat} {wv cv : Value} {x : LineD} {c : Int} {col k : Nat} {res : StepR} (hres : res = .stop c col k) (hn : Near (fun b => b = r) w w1) :
    OnePost G w r wv cv x res (.panicked [{ v := stopV c x.no col, recovered := false }]) w1 := by
  subst hres
  exact ⟨rfl, hn⟩
set_option maxHeartbeats 800000 in
theorem one_word (G : Nat → Prop) (w : World) (r : Nat) (wv cv : Value) (x : LineD) (k : Nat) (h : RdAt G w r wv cv x k) (n : Int) (t : List UInt8) (res : StepR) (HRES : Hid ((if k < x.ws.length then .go (k + 1) [wd x k] else .stop 1 0 k : StepR) = res)) :
    Calls Try.prog 25 #[.pointer (some ⟨r, 0, none⟩), .agg #[.int .i64 1, .int .i64 n, .string ⟨t.toArray⟩]] w (OnePost G w r wv cv x res) := by
  have HR := Lib.hid (show RdAt G (w.alloc (.cells #[.int .i64 1, .int .i64 n, .string ⟨t.toArray⟩] 58)) r wv cv x k from h.near (near_alloc _ _ _) (h.var.alloc _))
  have HN := Lib.hid (near_alloc (fun b => b = r) w (.cells #[.int .i64 1, .int .i64 n, .string ⟨t.toArray⟩] 58))
  clear h
  by_cases hk : k < x.ws.length
  · have HQ := Lib.hid (HRES.out.symm.trans (if_pos hk))
    go_enter Try.func25, Try.ntmps25
    go_wp2_with fail
    refine (rword_yes G _ r wv cv x k HR.out hk (wd x k) (Lib.hid rfl)).mono ?_
    rintro e w1 ⟨rfl, hm1⟩
    have HM1 := Lib.hid hm1
    clear hm1
    go_wp2_with fail
    go_ret
    exact one_told _ (HQ.out) HM1.out.rd (HN.out.trans HM1.out.nearR) _ _ rfl
  · have HQ := Lib.hid (HRES.out.symm.trans (if_neg hk))
    go_enter Try.func25, Try.ntmps25
    go_wp2_with fail
    refine (rword_no G _ r wv cv x k HR.out hk).mono ?_
    rintro e w1 ⟨rfl, m1, rfl⟩
    go_wp2_with fail
    exact ⟨rfl, one_stopped (HQ.out) (HN.out.trans (near_drewN _ _ _))⟩
theorem is_ne {a b : List UInt8} (h : ¬ a = b) : (a == b) = false := by simpa using h
theorem is_eq {a b : List UInt8} (h : a = b) : (a == b) = true := by simpa using h
set_option maxHeartbeats 800000 in
theorem one_is (G : Nat → Prop) (w : World) (r : Nat) (wv cv : Value) (x : LineD) (k : Nat) (h : RdAt G w r wv cv x k) (n : Int) (t : List UInt8) (res : StepR) (HRES : Hid ((if k < x.ws.length ∧ wd x k = t then .go (k + 1) [[121, 101, 115]] else .go k [[110, 111]] : StepR) = res)) :
    Calls Try.prog 25 #[.pointer (some ⟨r, 0, none⟩), .agg #[.int .i64 2, .int .i64 n, .string ⟨t.toArray⟩]] w (OnePost G w r wv cv x res) := by
  have HR := Lib.hid (show RdAt G (w.alloc (.cells #[.int .i64 2, .int .i64 n, .string ⟨t.toArray⟩] 58)) r wv cv x k from h.near (near_alloc _ _ _) (h.var.alloc _))
  have HN := Lib.hid (near_alloc (fun b => b = r) w (.cells #[.int .i64 2, .int .i64 n, .string ⟨t.toArray⟩] 58))
  clear h
  by_cases hk : k < x.ws.length
  · by_cases ht : wd x k = t
    · have HQ := Lib.hid (HRES.out.symm.trans (if_pos ⟨hk, ht⟩))
      have HE : Hid ((t == t) = true) := Lib.hid (by simp)
      have HT : Hid (x.ws.getD k [] = t) := Lib.hid ht
      clear ht
      go_enter Try.func25, Try.ntmps25
      go_wp2_with fail
      refine (is_some G _ r wv cv x k HR.out hk t HT t true HE).mono ?_
      rintro e w1 ⟨rfl, hm1⟩
      have HM1 := Lib.hid hm1
      clear hm1
      go_wp2_with fail
      go_ret
      exact one_told _ (HQ.out) HM1.out.rd (HN.out.trans HM1.out.nearR) _ _ rfl
    · have HQ := Lib.hid (HRES.out.symm.trans (if_neg (fun h => ht h.2)))
      have HE : Hid ((wd x k == t) = false) := Lib.hid (is_ne ht)
      clear ht
      go_enter Try.func25, Try.ntmps25
      go_wp2_with fail
      refine (is_some G _ r wv cv x k HR.out hk (wd x k) (Lib.hid rfl) t false HE).mono ?_
      rintro e w1 ⟨rfl, m1, rfl⟩
      go_wp2_with fail
      go_ret
      exact one_told _ (HQ.out) (HR.out.drewN m1) (HN.out.trans (near_drewN _ _ m1)) _ _ (by simp)
  · have HQ := Lib.hid (HRES.out.symm.trans (if_neg (fun h => hk h.1)))
    go_enter Try.func25, Try.ntmps25
    go_wp2_with fail
    refine (is_none G _ r wv cv x k HR.out hk t).mono ?_
    rintro e w1 ⟨rfl, m1, rfl⟩
    go_wp2_with fail
    go_ret
    exact one_told _ (HQ.out) (HR.out.drewN m1) (HN.out.trans (near_drewN _ _ m1)) _ _ (by simp)
set_option maxHeartbeats 800000 in
theorem one_number (G : Nat → Prop) (w : World) (r : Nat) (wv cv : Value) (x : LineD) (k : Nat) (h : RdAt G w r wv cv x k) (hw : (wd x k).length ≤ 80) (n : Int) (t : List UInt8) (res : StepR) (HRES : Hid ((if k < x.ws.length then numStep x k n (numL (wd x k)) else .stop 1 0 k : StepR) = res)) :
    Calls Try.prog 25 #[.pointer (some ⟨r, 0, none⟩), .agg #[.int .i64 3, .int .i64 n, .string ⟨t.toArray⟩]] w (OnePost G w r wv cv x res) := by
  have HR := Lib.hid (show RdAt G (w.alloc (.cells #[.int .i64 3, .int .i64 n, .string ⟨t.toArray⟩] 58)) r wv cv x k from h.near (near_alloc _ _ _) (h.var.alloc _))
  have HN := Lib.hid (near_alloc (fun b => b = r) w (.cells #[.int .i64 3, .int .i64 n, .string ⟨t.toArray⟩] 58))
  clear h
  by_cases hk : k < x.ws.length
  · have HQ := Lib.hid (HRES.out.symm.trans (if_pos hk))
    obtain ⟨v, hv⟩ : ∃ v, numL (wd x k) = v := ⟨_, rfl⟩
    have HV := Lib.hid hv
    clear hv
    go_enter Try.func25, Try.ntmps25
    go_wp2_with fail
    refine (rnum_any G _ r wv cv x k HR.out hk (wd x k) (Lib.hid rfl) (by omega) n v HV).mono ?_
    cases v with
    | none =>
      rintro e w1 ⟨rfl, hm1⟩
      have HM1 := Lib.hid hm1
      clear hm1
      go_wp2_with fail
      exact ⟨rfl, one_stopped (HQ.out.trans (by rw [HV.out]; rfl)) (HN.out.trans HM1.out.nearR)⟩
    | some m =>
      have HB : Hid (m ≤ 1000000000) := Lib.hid (by
        have hd := HV.out
        unfold numL at hd
        split at hd
        · rename_i hc
          injection hd with hd
          subst hd
          have h9 : (wd x k).length ≤ 9 := by have := hc.1; simp [numFront] at this; omega
          have h1 := numV_le (wd x k) (wd x k).length (Nat.le_refl _) ((all_dig _).1 hc.2)
          rw [List.take_length] at h1
          have : 10 ^ (wd x k).length ≤ 10 ^ 9 := Nat.pow_le_pow_right (by omega) h9
          omega
        · cases hd)
      have HD : Hid (digL m = wd x k) := Lib.hid (digL_of HV.out)
      rintro e w1 (⟨hbig, rfl, hm1⟩ | ⟨hle, rfl, hm1⟩)
      · have HM1 := Lib.hid hm1
        have HX : Hid (numStep x k n (some m) = .stop 8 (colAt x (k + 1)) (k + 1)) := Lib.hid (if_pos hbig)
        clear hm1 hbig
        go_wp2_with fail
        exact ⟨rfl, one_stopped (HQ.out.trans (by rw [HV.out, HX.out])) (HN.out.trans HM1.out.nearR)⟩
      · have HM1 := Lib.hid hm1
        have HX : Hid (numStep x k n (some m) = .go (k + 1) [wd x k]) := Lib.hid (if_neg (by omega))
        clear hm1 hle
        go_wp2_with fail
        refine (digits_any m _ HB.out (wd x k) HD).mono ?_
        rintro e w2 ⟨rfl, hb2⟩
        have HB2 := Lib.hid hb2
        clear hb2
        go_wp2_with fail
        go_ret
        exact one_told _ (HQ.out.trans (by rw [HV.out, HX.out])) (HM1.out.rd.near (near_of_below _ HB2.out) (HM1.out.rd.var.after HB2.out)) ((HN.out.trans HM1.out.nearR).trans (near_of_below _ HB2.out)) _ _ rfl
  · have HQ := Lib.hid (HRES.out.symm.trans (if_neg hk))
    go_enter Try.func25, Try.ntmps25
    go_wp2_with fail
    refine (rnum_none G _ r wv cv x k HR.out hk n).mono ?_
    rintro e w1 ⟨rfl, m1, rfl⟩
    go_wp2_with fail
    exact ⟨rfl, one_stopped (HQ.out) (HN.out.trans (near_drewN _ _ _))⟩
theorem one_fail (G : Nat → Prop) (w : World) (r : Nat) (wv cv : Value) (x : LineD) (k : Nat) (h : RdAt G w r wv cv x k) (n : Int) (t : List UInt8) (res : StepR) (HRES : Hid ((.stop n (colAt x k) k : StepR) = res)) :
    Calls Try.prog 25 #[.pointer (some ⟨r, 0, none⟩), .agg #[.int .i64 4, .int .i64 n, .string ⟨t.toArray⟩]] w (OnePost G w r wv cv x res) := by
  have HR := Lib.hid (show RdAt G (w.alloc (.cells #[.int .i64 4, .int .i64 n, .string ⟨t.toArray⟩] 58)) r wv cv x k from h.near (near_alloc _ _ _) (h.var.alloc _))
  have HN := Lib.hid (near_alloc (fun b => b = r) w (.cells #[.int .i64 4, .int .i64 n, .string ⟨t.toArray⟩] 58))
  clear h
  go_enter Try.func25, Try.ntmps25
  go_wp2_with fail
  refine (fail_any G _ r wv cv x k HR.out n (colAt x k) (Lib.hid rfl)).mono ?_
  rintro e w1 ⟨rfl, m1, rfl⟩
  go_wp2_with fail
  exact ⟨rfl, one_stopped (HRES.out.symm) (HN.out.trans (near_drewN _ _ _))⟩
theorem one_more (G : Nat → Prop) (w : World) (r : Nat) (wv cv : Value) (x : LineD) (k : Nat) (h : RdAt G w r wv cv x k) (n : Int) (t : List UInt8) (res : StepR) (HRES : Hid ((if k < x.ws.length then .go k [[109, 111, 114, 101]] else .go k [[101, 110, 100]] : StepR) = res)) :
    Calls Try.prog 25 #[.pointer (some ⟨r, 0, none⟩), .agg #[.int .i64 5, .int .i64 n, .string ⟨t.toArray⟩]] w (OnePost G w r wv cv x res) := by
  have HR := Lib.hid (show RdAt G (w.alloc (.cells #[.int .i64 5, .int .i64 n, .string ⟨t.toArray⟩] 58)) r wv cv x k from h.near (near_alloc _ _ _) (h.var.alloc _))
  have HN := Lib.hid (near_alloc (fun b => b = r) w (.cells #[.int .i64 5, .int .i64 n, .string ⟨t.toArray⟩] 58))
  clear h
  by_cases hk : k < x.ws.length
  · have HQ := Lib.hid (HRES.out.symm.trans (if_pos hk))
    go_enter Try.func25, Try.ntmps25
    go_wp2_with fail
    refine (more_any G _ r wv cv x k HR.out true (Lib.hid (decide_eq_true hk))).mono ?_
    rintro e w1 ⟨rfl, m1, rfl⟩
    go_wp2_with fail
    go_ret
    exact one_told _ (HQ.out) (HR.out.drewN m1) (HN.out.trans (near_drewN _ _ m1)) _ _ (by simp)
  · have HQ := Lib.hid (HRES.out.symm.trans (if_neg hk))
    go_enter Try.func25, Try.ntmps25
    go_wp2_with fail
    refine (more_any G _ r wv cv x k HR.out false (Lib.hid (decide_eq_false hk))).mono ?_
    rintro e w1 ⟨rfl, m1, rfl⟩
    go_wp2_with fail
    go_ret
    exact one_told _ (HQ.out) (HR.out.drewN m1) (HN.out.trans (near_drewN _ _ m1)) _ _ (by simp)
set_option maxHeartbeats 800000 in
theorem one_take (G : Nat → Prop) (w : World) (r : Nat) (wv cv : Value) (x : LineD) (k : Nat) (h : RdAt G w r wv cv x k) (n : Int) (t : List UInt8) (res : StepR) (HRES : Hid ((if k < x.ws.length then (if wd x k = t then .go (k + 1) [wd x k] else .stop 1 (colAt x (k + 1)) (k + 1)) else .stop 1 0 k : StepR) = res)) :
    Calls Try.prog 25 #[.pointer (some ⟨r, 0, none⟩), .agg #[.int .i64 6, .int .i64 n, .string ⟨t.toArray⟩]] w (OnePost G w r wv cv x res) := by
  have hmf : ∀ (fn : Fn) (first cap : Array Value) (w : World), (Instr.makeFunc fn first cap).run Try.prog w = .ok (.func fn first cap) w := fun _ _ _ _ => rfl
  have hrw := h.var.lt
  have HR := Lib.hid (show RdAt G (w.alloc (.cells #[.int .i64 6, .int .i64 n, .string ⟨t.toArray⟩] 58)) r wv cv x k from h.near (near_alloc _ _ _) (h.var.alloc _))
  have HN := Lib.hid (near_alloc (fun b => b = r) w (.cells #[.int .i64 6, .int .i64 n, .string ⟨t.toArray⟩] 58))
  have HO : Hid (VarAt (w.alloc (.cells #[.int .i64 6, .int .i64 n, .string ⟨t.toArray⟩] 58)) w.heap.size [.int .i64 6, .int .i64 n, .string ⟨t.toArray⟩]) := Lib.hid (varAt_new w #[.int .i64 6, .int .i64 n, .string ⟨t.toArray⟩] _ _ rfl)
  clear h
  by_cases hk : k < x.ws.length
  · have HQ := Lib.hid (HRES.out.symm.trans (if_pos hk))
    obtain ⟨v, hv⟩ : ∃ v, (wd x k == t) = v := ⟨_, rfl⟩
    have HV := Lib.hid hv
    clear hv
    go_enter Try.func25, Try.ntmps25
    go_wp2_with fail
    refine (take_some G _ r wv cv x k HR.out hk (wd x k) (Lib.hid rfl) t w.heap.size _ _ HO.out (by omega) v HV).mono ?_
    cases v with
    | true =>
      have HX : Hid (wd x k = t) := Lib.hid (by simpa using HV.out)
      rintro e w1 ⟨rfl, hm1⟩
      have HM1 := Lib.hid hm1
      clear hm1
      go_wp2_with fail
      go_ret
      exact one_told _ (HQ.out.trans (if_pos HX.out)) HM1.out.rd (HN.out.trans HM1.out.nearR) _ _ rfl
    | false =>
      have HX : Hid (¬ wd x k = t) := Lib.hid (by simpa using HV.out)
      rintro e w1 ⟨rfl, hm1⟩
      have HM1 := Lib.hid hm1
      clear hm1
      go_wp2_with fail
      exact ⟨rfl, one_stopped (HQ.out.trans (if_neg HX.out)) (HN.out.trans HM1.out.nearR)⟩
  · have HQ := Lib.hid (HRES.out.symm.trans (if_neg hk))
    go_enter Try.func25, Try.ntmps25
    go_wp2_with fail
    refine (take_none G _ r wv cv x k HR.out hk _).mono ?_
    rintro e w1 ⟨rfl, m1, rfl⟩
    go_wp2_with fail
    exact ⟨rfl, one_stopped (HQ.out) (HN.out.trans (near_drewN _ _ _))⟩
theorem one_none (G : Nat → Prop) (w : World) (r : Nat) (wv cv : Value) (x : LineD) (k : Nat) (h : RdAt G w r wv cv x k) (K n : Int) (t : List UInt8) (h1 : K ≠ 1) (h2 : K ≠ 2) (h3 : K ≠ 3) (h4 : K ≠ 4) (h5 : K ≠ 5) (h6 : K ≠ 6) :
    Calls Try.prog 25 #[.pointer (some ⟨r, 0, none⟩), .agg #[.int .i64 K, .int .i64 n, .string ⟨t.toArray⟩]] w (OnePost G w r wv cv x (.go k [])) := by
  have HR := Lib.hid (show RdAt G (w.alloc (.cells #[.int .i64 K, .int .i64 n, .string ⟨t.toArray⟩] 58)) r wv cv x k from h.near (near_alloc _ _ _) (h.var.alloc _))
  have HN := Lib.hid (near_alloc (fun b => b = r) w (.cells #[.int .i64 K, .int .i64 n, .string ⟨t.toArray⟩] 58))
  have b1 : (K == 1) = false := by simpa using h1
  have b2 : (K == 2) = false := by simpa using h2
  have b3 : (K == 3) = false := by simpa using h3
  have b4 : (K == 4) = false := by simpa using h4
  have b5 : (K == 5) = false := by simpa using h5
  have b6 : (K == 6) = false := by simpa using h6
  clear h h1 h2 h3 h4 h5 h6
  go_enter Try.func25, Try.ntmps25
  go_wp2_with fail
  go_ret
  exact ⟨HR.out, HN.out, .inl ⟨rfl, rfl⟩⟩
theorem one_any (G : Nat → Prop) (w : World) (r : Nat) (wv cv : Value) (x : LineD) (k : Nat) (h : RdAt G w r wv cv x k) (hw : (wd x k).length ≤ 80) (o : OpD) :
    Calls Try.prog 25 #[.pointer (some ⟨r, 0, none⟩), .agg #[.int .i64 o.kind, .int .i64 o.n, .string ⟨o.w.toArray⟩]] w (OnePost G w r wv cv x (stepL x k o)) := by
  obtain ⟨K, n, t⟩ := o
  unfold stepL
  by_cases h1 : K = 1
  · subst h1; exact one_word G w r wv cv x k h n t _ (Lib.hid rfl)
  by_cases h2 : K = 2
  · subst h2; exact one_is G w r wv cv x k h n t _ (Lib.hid rfl)
  by_cases h3 : K = 3
  · subst h3; exact one_number G w r wv cv x k h hw n t _ (Lib.hid rfl)
  by_cases h4 : K = 4
  · subst h4; exact one_fail G w r wv cv x k h n t _ (Lib.hid rfl)
  by_cases h5 : K = 5
  · subst h5; exact one_more G w r wv cv x k h n t _ (Lib.hid rfl)
  by_cases h6 : K = 6
  · subst h6; exact one_take G w r wv cv x k h n t _ (Lib.hid rfl)
  simp only [h1, h2, h3, h4, h5, h6, if_false]
  exact one_none G w r wv cv x k h K n t h1 h2 h3 h4 h5 h6
end Go.Proofs.Ytfhicmjfifpjkaa
