/- Parts of the proofs, put together: Held, CnAC, CnAD, CnAE, CnAF, CnAG, CnAH, PfA, Snoc, PfB, PfC, PfD, PfE, PfP, PfQ, PfR. -/
import Derived.Test.YtiimkhnngpfnbaaR15
import Derived.Deep.RegionHeld3
/- A region that draws its order, walked operation by operation; operations that a false guard leaves out among them: no program in sight. -/
namespace Go.Proofs.Ytiimkhnngpfnbaa
open Go.RowKit
section
variable {P : Program} {ops : Array Oper} {Q : Exit → Act → World → Prop} {md : Region.Mode} {S : World → Prop}
/-- those of n that have come up -/
def marks (n : Nat) (ks : List Nat) : Array Bool := ((List.range n).map fun i => ks.contains i).toArray
theorem marks_zero (n : Nat) : Array.replicate n false = marks n [] := by
  apply Array.ext
  · simp [marks]
  · intro i h1 h2; simp [marks]
theorem marks_succ (n k : Nat) (ks : List Nat) : (marks n ks).setIfInBounds k true = marks n (k :: ks) := by
  apply Array.ext
  · simp [marks]
  · intro i h1 h2
    rw [Array.getElem_setIfInBounds]
    · simp only [marks, List.getElem_toArray, List.getElem_map, List.getElem_range, List.contains_cons]
      by_cases e : k = i
      · subst e; simp
      · rw [if_neg e]
        have : (i == k) = false := by simp; omega
        rw [this, Bool.false_or]
    · simpa [marks] using h2
theorem held_start (n : Nat) {id : Nat} {a : Act} {w : World} (hn : ops.size = n) (hm : P.follows .mixedOrders = true) (hS : S w.drew)
    (h : S w.drew → wpAnyH P .any ops Q S n (marks n []) a w.drew) : (Code.region id ops true).wp P Q a w :=
  wp_region_held_drew hm hS (fun hs => by rw [hn, marks_zero]; exact h hs)
theorem held_take (i : Nat) (dst : Option Tmp) (v : Value) (fuel : Nat) {n : Nat} {ks : List Nat} {oi : Oper} {a : Act} {w : World} (hi : ops[i]? = some oi) (hd : oi.dst = dst)
    (hs : Region.noSelect ops = true) (hf : Region.free md ops (marks n ks) i = true) (hr : (Region.ready md ops (marks n ks)).contains i = true)
    (hQ : ∀ c a w, Q (.panic c) (a.put dst v) w → Q (.panic c) a w) (hw : Region.wanted oi (yielded ops a.tmps) = true) (hy : ∀ w, S w → (execOp a.eval oi).run P w = .ok (.value v) w) (hS : S w)
    (h : wpAnyH P md ops Q S fuel (marks n (i :: ks)) (a.put dst v) w) : wpAnyH P md ops Q S (fuel + 1) (marks n ks) a w := by
  subst hd
  rw [← marks_succ] at h
  exact wpAnyH_take hi hs hf hr hQ (.inl ⟨hw, hy⟩) hS h
theorem held_call (i fuel : Nat) {n : Nat} {ks : List Nat} {oi : Oper} {a : Act} {w : World} (hi : ops[i]? = some oi) (hr : Region.ready md ops (marks n ks) = [i])
    (hw : Region.wanted oi (yielded ops a.tmps) = true)
    (h : ∀ K' : Act → World → Prop, Shut (∀ a w, S w → (S w → wpAnyH P md ops Q S fuel (marks n (i :: ks)) a w) → K' a w) → Oper.wp P oi a w K' Q) : wpAnyH P md ops Q S (fuel + 1) (marks n ks) a w :=
  wpAnyH_ready hr (by simp) (AllReadyH.cons hi (fun K' hK => by rw [if_pos hw]; rw [marks_succ] at hK; exact h K' hK) AllReadyH.nil)
theorem held_branch (rs : List Nat) (fuel : Nat) {n : Nat} {ks : List Nat} {a : Act} {w : World} (hr : Region.ready md ops (marks n ks) = rs) (h : AllReadyH P md ops Q S fuel (marks n ks) a w rs) (hne : rs ≠ [] := by simp) : wpAnyH P md ops Q S (fuel + 1) (marks n ks) a w :=
  wpAnyH_ready hr hne h
theorem held_cons (i fuel : Nat) {n : Nat} {ks : List Nat} {rs : List Nat} {oi : Oper} {a : Act} {w : World} (hi : ops[i]? = some oi) (hw : Region.wanted oi (yielded ops a.tmps) = true)
    (h : ∀ K' : Act → World → Prop, Shut (∀ a w, S w → (S w → wpAnyH P md ops Q S fuel (marks n (i :: ks)) a w) → K' a w) → Oper.wp P oi a w K' Q) (hs : AllReadyH P md ops Q S fuel (marks n ks) a w rs) : AllReadyH P md ops Q S fuel (marks n ks) a w (i :: rs) :=
  AllReadyH.cons hi (fun K' hK => by rw [if_pos hw]; rw [marks_succ] at hK; exact h K' hK) hs
end
end Go.Proofs.Ytiimkhnngpfnbaa
/- CnfNorms. -/
namespace Go.Proofs.Ytiimkhnngpfnbaa
open Go.RowKit
set_option linter.unusedVariables false
set_option linter.unusedSimpArgs false
end Go.Proofs.Ytiimkhnngpfnbaa
/- CnfSubsumes. -/
namespace Go.Proofs.Ytiimkhnngpfnbaa
open Go.RowKit
set_option linter.unusedVariables false
end Go.Proofs.Ytiimkhnngpfnbaa
/- CnfResolves. -/
namespace Go.Proofs.Ytiimkhnngpfnbaa
open Go.RowKit
set_option linter.unusedVariables false
theorem trueB_neg (M : List Bool) (v : Int) (h0 : v ≠ 0) (h : trueB M v = true) : trueB M (-v) = false := by
  unfold trueB at h ⊢
  rw [Int.natAbs_neg]
  obtain ⟨u, hu⟩ : ∃ u, (decide (v.natAbs ≤ M.length) && M.getD (v.natAbs - 1) false) = u := ⟨_, rfl⟩
  rw [hu] at h ⊢
  by_cases hp : 0 < v
  · rw [decide_eq_true hp] at h
    rw [decide_eq_false (by omega : ¬ 0 < -v)]
    cases u <;> simp_all
  · rw [decide_eq_false hp] at h
    rw [decide_eq_true (by omega : 0 < -v)]
    cases u <;> simp_all
end Go.Proofs.Ytiimkhnngpfnbaa
/- CnfHolds. -/
namespace Go.Proofs.Ytiimkhnngpfnbaa
open Go.RowKit
set_option linter.unusedVariables false
end Go.Proofs.Ytiimkhnngpfnbaa
/- CnfSpreads. -/
namespace Go.Proofs.Ytiimkhnngpfnbaa
open Go.RowKit
set_option linter.unusedVariables false
end Go.Proofs.Ytiimkhnngpfnbaa
/- What is true by spreading is so in each model; rows of rows of the call's own. -/
namespace Go.Proofs.Ytiimkhnngpfnbaa
open Go.RowKit Go.ChangeShapes Go.WideShapes Go.Deep
set_option linter.unusedVariables false
/-- what a model makes of what variables are -/
def SatV (M : List Bool) (V : List Int) : Prop := ∀ x : Int, x ≠ 0 → ofV V x = 1 → trueB M x = true
theorem SatV.set {M : List Bool} {V : List Int} (h : SatV M V) {x : Int} (x0 : x ≠ 0) (hx : x.natAbs < V.length) (ht : trueB M x = true) : SatV M (setV V x) := by
  intro y y0 hy
  by_cases e : x.natAbs = y.natAbs
  · rcases (by omega : y = x ∨ y = -x) with rfl | rfl
    · exact ht
    · rw [ofV_neg _ _ x0, ofV_set_self V x x0 hx] at hy; omega
  · rw [ofV_set_other V x y e] at hy
    exact h y y0 hy
theorem SatV.false {M : List Bool} {V : List Int} (h : SatV M V) {x : Int} (x0 : x ≠ 0) (hv : ofV V x = -1) : trueB M x = false := by
  have := h (-x) (by omega) (by rw [ofV_neg V x x0]; omega)
  have h2 := trueB_neg M (-x) (by omega) this
  rwa [Int.neg_neg] at h2
def SmallV (V : List Int) : Prop := ∀ v ∈ V, -1 ≤ v ∧ v ≤ 1
theorem SmallV.of {V : List Int} (h : SmallV V) (x : Int) : -1 ≤ ofV V x ∧ ofV V x ≤ 1 := by
  have hv : -1 ≤ V.getD x.natAbs 0 ∧ V.getD x.natAbs 0 ≤ 1 := by
    by_cases hk : x.natAbs < V.length
    · have e : V.getD x.natAbs 0 = V[x.natAbs] := by simp [hk]
      rw [e]; exact h _ (List.getElem_mem hk)
    · simp [List.getD, List.getElem?_eq_none (Nat.le_of_not_lt hk)]
  unfold ofV
  split <;> omega
theorem SmallV.set {V : List Int} (h : SmallV V) (x : Int) : SmallV (setV V x) := fun v hv => by
  rcases List.mem_or_eq_of_mem_set hv with hv | rfl
  · exact h v hv
  · split <;> omega
theorem ValRow.near {w w' : World} {F : Nat → Prop} {g o n c : Nat} {vs : List Value} (h : ValRow w (.slice (some ⟨g, o, none⟩) n c) vs) (hN : Near F w w') (hg : ¬ F g) : ValRow w' (.slice (some ⟨g, o, none⟩) n c) vs := by
  rcases h with ⟨a', cap', h1, h2⟩ | ⟨b, off, c2, h1, h2, h3, h4, h5⟩
  · exact .inl ⟨a', cap', h1, h2⟩
  · have e := h1
    simp only [Value.slice.injEq, Option.some.injEq, Addr.mk.injEq] at e
    obtain ⟨⟨rfl, rfl, _⟩, _, _⟩ := e
    exact .inr ⟨g, o, c2, h1, h2, h3, Nat.lt_of_lt_of_le h4 hN.size, fun i hi => by rw [World.cell?_of_block (w := w) (a := ⟨g, o + i, none⟩) (hN.block g h4 hg)]; exact h5 i hi⟩
/-- two slices of the call's own that grow side by side; El: what holds whatever becomes of their blocks -/
structure Two (B : Nat) (T1 T2 : TypeId) (w0 w : World) (v : Value) (vs : List Value) (u : Value) (us : List Value) (El : World → Prop) : Prop where
  one : OwnV B T1 w0 w v vs
  two : OwnV B T2 w0 w u us
  ne : ∀ b, v.ownBlock = some b → u.ownBlock ≠ some b
  el : ∀ w', Near (fun b => v.ownBlock = some b ∨ u.ownBlock = some b) w w' → El w'
theorem Two.after {B : Nat} {T1 T2 : TypeId} {w0 w w' : World} {v : Value} {vs : List Value} {u : Value} {us : List Value} {El : World → Prop} (h : Two B T1 T2 w0 w v vs u us El) (hb : Below w.heap.size w w') : Two B T1 T2 w0 w' v vs u us El :=
  ⟨h.one.after hb, h.two.after hb, h.ne, fun w2 h2 => h.el w2 ((near_of_below _ hb).trans h2)⟩
/-- each value is a slice that holds its numbers -/
def ElsOf (vals : List Value) (LL : List (List Int)) (w : World) : Prop := ∀ (i : Nat) (h : i < vals.length) (h' : i < LL.length), ValRow w vals[i] (intVals LL[i])
theorem ElsOf.snoc {vals : List Value} {LL : List (List Int)} {w : World} {v : Value} {c : List Int} (h : ElsOf vals LL w) (hl : vals.length = LL.length) (hv : ValRow w v (intVals c)) : ElsOf (vals ++ [v]) (LL ++ [c]) w := by
  intro i hi hi'
  by_cases hlt : i < vals.length
  · rw [List.getElem_append_left hlt, List.getElem_append_left (by omega)]
    exact h i hlt (by omega)
  · have e1 : i = vals.length := by simp at hi; omega
    subst e1
    rw [List.getElem_append_right (Nat.le_refl _), List.getElem_append_right (by omega)]
    simpa using hv
end Go.Proofs.Ytiimkhnngpfnbaa
/- Steps in memory; the small functions on them. -/
namespace Go.Proofs.Ytiimkhnngpfnbaa
open Go.RowKit Go.ChangeShapes Go.WideShapes Go.Deep
set_option linter.unusedVariables false
set_option linter.unnecessarySimpa false
/-- a step: a clause, the numbers of those that it comes from, and the variables -/
structure StepD where
  cl : List Int
  fr : List Int
  on : List Int
  deriving DecidableEq
instance : Inhabited StepD := ⟨⟨[], [], []⟩⟩
def StepC (w : World) (cs : List Value) (x : StepD) : Prop := ∃ v1 v2 v3, cs = [v1, v2, v3] ∧ ValRow w v1 (intVals x.cl) ∧ ValRow w v2 (intVals x.fr) ∧ ValRow w v3 (intVals x.on) ∧ InR x.cl ∧ InR x.fr ∧ InR x.on
theorem stepC_lasts : Lasts StepC := by
  rintro w w' cs x hb ⟨v1, v2, v3, h1, h2, h3, h4, h5⟩
  exact ⟨v1, v2, v3, h1, h2.below hb, h3.below hb, h4.below hb, h5⟩
/-- a step of a row, and where it lies -/
theorem steps_row {w : World} {a : Option Addr} {cap : Nat} {L : List StepD} (h : RowOf 3 StepC w (.slice a L.length cap) L) (i : Nat) (hi : i < L.length) (x : StepD) (hx : L.getD i default = x) :
    ∃ b off a1 c1 a2 c2 a3 c3, a = some ⟨b, off, none⟩ ∧ b < w.heap.size ∧ w.cell? ⟨b, off + i * 3, none⟩ = some (.slice a1 x.cl.length c1) ∧ w.cell? ⟨b, off + i * 3 + 1, none⟩ = some (.slice a2 x.fr.length c2) ∧ w.cell? ⟨b, off + i * 3 + 2, none⟩ = some (.slice a3 x.on.length c3) ∧
      ValRow w (.slice a1 x.cl.length c1) (intVals x.cl) ∧ ValRow w (.slice a2 x.fr.length c2) (intVals x.fr) ∧ ValRow w (.slice a3 x.on.length c3) (intVals x.on) ∧ InR x.cl ∧ InR x.fr ∧ InR x.on := by
  have e : L[i] = x := by rw [← hx]; simp [hi]
  obtain ⟨b, off, ha, hb, cs, ⟨_, hc⟩, v1, v2, v3, rfl, h1, h2, h3, h4, h5, h6⟩ := h.at_ i hi
  rw [e] at h1 h2 h3 h4 h5 h6
  obtain ⟨a1, c1, rfl⟩ := h1.shape
  obtain ⟨a2, c2, rfl⟩ := h2.shape
  obtain ⟨a3, c3, rfl⟩ := h3.shape
  rw [intVals_length] at h1 h2 h3 hc
  exact ⟨b, off, a1, c1, a2, c2, a3, c3, ha, hb, by simpa using hc 0 (by omega), by simpa [intVals_length] using hc 1 (by omega), by simpa [intVals_length] using hc 2 (by omega), h1, h2, h3, h4, h5, h6⟩
/-- are there few clauses and steps, and short ones? -/
def fewS (LL : List (List Int)) (L : List StepD) : Bool := decide (LL.length ≤ 40) && decide (L.length ≤ 40) && LL.all (fun c => decide (c.length ≤ 12)) && L.all (fun x => decide (x.cl.length ≤ 20 ∧ x.fr.length ≤ 20 ∧ x.on.length ≤ 20))
set_option maxRecDepth 100000 in
set_option maxHeartbeats 1600000 in
theorem fews_any (va : Option Addr) (vc : Nat) (LL : List (List Int)) (sa : Option Addr) (sc : Nat) (L : List StepD) (w : World) (hL : RowOf 1 IntsC w (.slice va LL.length vc) LL) (hS : RowOf 3 StepC w (.slice sa L.length sc) L) (v : Bool) (hv : Hid (fewS LL L = v)) :
    Calls Try.prog 6 #[.slice va LL.length vc, .slice sa L.length sc] w fun e w' => e = .returned (.bool v) ∧ w = w' := by
  have hml := hL.len
  have hms := hS.len
  unfold maxLen at hml hms
  have HL := Lib.hid hL
  have HS := Lib.hid hS
  clear hL hS
  have HD : Hid (fewS LL L = (decide (LL.length ≤ 40) && decide (L.length ≤ 40) && LL.all (fun c => decide (c.length ≤ 12)) && L.all (fun x => decide (x.cl.length ≤ 20 ∧ x.fr.length ≤ 20 ∧ x.on.length ≤ 20)))) := Lib.hid rfl
  by_cases h1 : LL.length ≤ 40
  · have d1 : decide ((40 : Int) < (LL.length : Int)) = false := decide_eq_false (by omega)
    have d1' : decide (40 < LL.length) = false := decide_eq_false (by omega)
    by_cases h2 : L.length ≤ 40
    · have d2 : decide ((40 : Int) < (L.length : Int)) = false := decide_eq_false (by omega)
      have d2' : decide (40 < L.length) = false := decide_eq_false (by omega)
      have HV : Hid ((LL.all (fun c => decide (c.length ≤ 12)) && L.all (fun x => decide (x.cl.length ≤ 20 ∧ x.fr.length ≤ 20 ∧ x.on.length ≤ 20))) = v) := Lib.hid (by rw [← hv.out, HD.out, decide_eq_true h1, decide_eq_true h2]; simp)
      clear hv HD
      go_enter Try.func6, Try.ntmps6
      go_wp2_with fail
      go_loop [5] (fun i => ∃ k : Nat, i = .int .i64 k ∧ k ≤ LL.length ∧ (LL.take k).all (fun c => decide (c.length ≤ 12)) = true) (fun i => LL.length - (intOf i).toNat)
      case atStart => exact ⟨0, rfl, Nat.zero_le _, rfl⟩
      case round =>
        obtain ⟨k, rfl, hk, hok⟩ := hrel
        have HOK := Lib.hid hok
        clear hok
        have k0 : (0 : Int) ≤ (k : Int) := by omega
        by_cases hlt : k < LL.length
        · have k1 : (k : Int) < (LL.length : Int) := by omega
          have hdk : decide (k < LL.length) = true := decide_eq_true hlt
          obtain ⟨b, off, ca, cc, rfl, _, hc, _, _⟩ := ints_row HL.out k hlt
          have HTK := Lib.hid (List.take_succ_eq_append_getElem hlt)
          have e : LL.getD k [] = LL[k] := by simp [hlt]
          rw [← e] at HTK
          have HM := Lib.hid (e ▸ List.getElem_mem hlt : LL.getD k [] ∈ LL)
          clear e
          obtain ⟨c, hcc⟩ : ∃ c, LL.getD k [] = c := ⟨_, rfl⟩
          rw [hcc] at hc HTK HM
          clear hcc
          by_cases h12 : c.length ≤ 12
          · have d3 : decide ((12 : Int) < (c.length : Int)) = false := decide_eq_false (by omega)
            have d3' : decide (12 < c.length) = false := decide_eq_false (by omega)
            have HNX : Hid ((LL.take (k + 1)).all (fun c => decide (c.length ≤ 12)) = true) := Lib.hid (by rw [HTK.out, List.all_append, HOK.out]; simp [h12])
            clear h12
            go_wp2_with fail
            go_round
            case rel => exact ⟨k + 1, by go_num, by omega, HNX.out⟩
            case measure => simp [intOf]; omega
          · have d3 : decide ((12 : Int) < (c.length : Int)) = true := decide_eq_true (by omega)
            have d3' : decide (12 < c.length) = true := decide_eq_true (by omega)
            have HF : Hid (v = false) := Lib.hid (by
              rw [← HV.out, show LL.all (fun c => decide (c.length ≤ 12)) = false from by
                rw [← Bool.not_eq_true, List.all_eq_true]
                exact fun h => h12 (of_decide_eq_true (h c HM.out))]
              rfl)
            clear h12
            go_wp2_with fail
            go_ret
            exact ⟨ret_bool HF.out.symm, rfl⟩
        · have hdk : decide (k < LL.length) = false := decide_eq_false hlt
          have HV2 : Hid (L.all (fun x => decide (x.cl.length ≤ 20 ∧ x.fr.length ≤ 20 ∧ x.on.length ≤ 20)) = v) := Lib.hid (by
            have := HOK.out
            rw [List.take_of_length_le (by omega)] at this
            rw [← HV.out, this]; rfl)
          have HLT := Lib.hid hlt
          clear hlt
          go_wp2_with fail
          go_loop [6] (fun i => ∃ q : Nat, i = .int .i64 q ∧ q ≤ L.length ∧ (L.take q).all (fun x => decide (x.cl.length ≤ 20 ∧ x.fr.length ≤ 20 ∧ x.on.length ≤ 20)) = true) (fun i => L.length - (intOf i).toNat)
          case atStart => exact ⟨0, rfl, Nat.zero_le _, rfl⟩
          case round =>
            obtain ⟨q, rfl, hq, hok⟩ := hrel
            have HOQ := Lib.hid hok
            clear hok
            have q0 : (0 : Int) ≤ (q : Int) := by omega
            by_cases hqt : q < L.length
            · have q1 : (q : Int) < (L.length : Int) := by omega
              have hdq : decide (q < L.length) = true := decide_eq_true hqt
              have HTQ := Lib.hid (List.take_succ_eq_append_getElem hqt)
              have e : L.getD q default = L[q] := by simp [hqt]
              rw [← e] at HTQ
              have HM := Lib.hid (e ▸ List.getElem_mem hqt : L.getD q default ∈ L)
              clear e
              obtain ⟨x, hx⟩ : ∃ x, L.getD q default = x := ⟨_, rfl⟩
              obtain ⟨b, off, a1, c1, a2, c2, a3, c3, rfl, _, hc1, hc2, hc3, _⟩ := steps_row HS.out q hqt x hx
              rw [hx] at HTQ HM
              clear hx
              obtain ⟨l1, hl1⟩ : ∃ n, x.cl.length = n := ⟨_, rfl⟩
              obtain ⟨l2, hl2⟩ : ∃ n, x.fr.length = n := ⟨_, rfl⟩
              obtain ⟨l3, hl3⟩ : ∃ n, x.on.length = n := ⟨_, rfl⟩
              rw [hl1] at hc1
              rw [hl2] at hc2
              rw [hl3] at hc3
              have HL123 : Hid (x.cl.length = l1 ∧ x.fr.length = l2 ∧ x.on.length = l3) := Lib.hid ⟨hl1, hl2, hl3⟩
              have HNO : (20 < l1 ∨ 20 < l2 ∨ 20 < l3) → v = false := fun hh => by
                rw [← HV2.out, ← Bool.not_eq_true, List.all_eq_true]
                intro h
                have := of_decide_eq_true (h x HM.out)
                have := HL123.out
                omega
              have HNOH := Lib.hid HNO
              clear hl1 hl2 hl3 HNO
              by_cases g1 : l1 ≤ 20
              · have d3 : decide ((20 : Int) < (l1 : Int)) = false := decide_eq_false (by omega)
                have d3' : decide (20 < l1) = false := decide_eq_false (by omega)
                by_cases g2 : l2 ≤ 20
                · have d4 : decide ((20 : Int) < (l2 : Int)) = false := decide_eq_false (by omega)
                  have d4' : decide (20 < l2) = false := decide_eq_false (by omega)
                  by_cases g3 : l3 ≤ 20
                  · have d5 : decide ((20 : Int) < (l3 : Int)) = false := decide_eq_false (by omega)
                    have d5' : decide (20 < l3) = false := decide_eq_false (by omega)
                    have HNX : Hid ((L.take (q + 1)).all (fun x => decide (x.cl.length ≤ 20 ∧ x.fr.length ≤ 20 ∧ x.on.length ≤ 20)) = true) := Lib.hid (by
                      rw [HTQ.out, List.all_append, HOQ.out]
                      have := HL123.out
                      simp; omega)
                    go_wp2_with fail
                    go_round
                    case rel => exact ⟨q + 1, by go_num, by omega, HNX.out⟩
                    case measure => simp [intOf]; omega
                  · have d5 : decide ((20 : Int) < (l3 : Int)) = true := decide_eq_true (by omega)
                    have d5' : decide (20 < l3) = true := decide_eq_true (by omega)
                    have HF := Lib.hid (HNOH.out (by omega))
                    go_wp2_with fail
                    go_ret
                    exact ⟨ret_bool HF.out.symm, rfl⟩
                · have d4 : decide ((20 : Int) < (l2 : Int)) = true := decide_eq_true (by omega)
                  have d4' : decide (20 < l2) = true := decide_eq_true (by omega)
                  have HF := Lib.hid (HNOH.out (by omega))
                  go_wp2_with fail
                  go_ret
                  exact ⟨ret_bool HF.out.symm, rfl⟩
              · have d3 : decide ((20 : Int) < (l1 : Int)) = true := decide_eq_true (by omega)
                have d3' : decide (20 < l1) = true := decide_eq_true (by omega)
                have HF := Lib.hid (HNOH.out (by omega))
                go_wp2_with fail
                go_ret
                exact ⟨ret_bool HF.out.symm, rfl⟩
            · have hdq : decide (q < L.length) = false := decide_eq_false hqt
              have HT : Hid (v = true) := Lib.hid (by
                have := HOQ.out
                rw [List.take_of_length_le (by omega)] at this
                rw [← HV2.out, this])
              have HQT := Lib.hid hqt
              clear hqt
              go_wp2_with fail
              go_ret
              exact ⟨ret_bool HT.out.symm, rfl⟩
    · have d2 : decide ((40 : Int) < (L.length : Int)) = true := decide_eq_true (by omega)
      have d2' : decide (40 < L.length) = true := decide_eq_true (by omega)
      have HF : Hid (v = false) := Lib.hid (by rw [← hv.out, HD.out, decide_eq_true h1, decide_eq_false h2]; simp)
      clear hv HD
      go_enter Try.func6, Try.ntmps6
      go_wp2_with fail
      go_ret
      exact ⟨ret_bool HF.out.symm, rfl⟩
  · have d1 : decide ((40 : Int) < (LL.length : Int)) = true := decide_eq_true (by omega)
    have d1' : decide (40 < LL.length) = true := decide_eq_true (by omega)
    have HF : Hid (v = false) := Lib.hid (by rw [← hv.out, HD.out, decide_eq_false h1]; simp)
    clear hv HD
    go_enter Try.func6, Try.ntmps6
    go_wp2_with fail
    go_ret
    exact ⟨ret_bool HF.out.symm, rfl⟩
end Go.Proofs.Ytiimkhnngpfnbaa
/- An append of one element behind a slice of the call's own, as one step: no program in sight. -/
namespace Go.Proofs.Ytiimkhnngpfnbaa
open Go.RowKit
set_option linter.unusedVariables false
section
variable {P : Program} (w : World)
theorem wp_snoc {α : Type} {n : Nat} {R : World → List Value → α → Prop} {F : Nat → Prop} {o : Oper} {a : Act} {K : Act → World → Prop} {Q : Exit → Act → World → Prop} (s x : Operand) (t : TypeId)
    (ho : o.op = .call { callee := .builtin .append, args := #[s, x], argTypes := #[t, t] })
    (base : Nat) (e : TypeId) (i : TypeInfo) (z : Value) (bytes : Nat) (ht : P.underlying t = some (.slice e)) (hi : P.info? e = some i) (hz : i.zero = some z)
    (hsize : i.size = n) (hby : i.bytes = bytes) (hzs : z.cells.size = n) (hsz : 0 < n)
    (v : Value) (l : List α) (hs : a.eval s = v) (hO : OwnOf n R F w base e v l)
    (ad : Addr) (c : Nat) (cs : List Value) (y : α) (hx : a.eval x = .slice (some ad) 1 c) (hl : cs.length = n) (hnews : ∀ j u, cs[j]? = some u → w.cell? (ad.add j) = some u) (h1 : ∀ u ∈ cs, u.oneCell' = true)
    (hnew : Robust R w (fun b => F b ∨ v.ownBlock = some b) cs y)
    (h63 : l.length + 1 ≤ maxLen) (hbytes : (l.length + 1) * bytes ≤ 140737488355328) (hbase : base ≤ w.heap.size)
    (h : ∀ g cap w', OwnOf n R F w' base e (.slice (some ⟨g, 0, none⟩) (l.length + 1) cap) (l ++ [y]) → w.grownBy w' v.ownBlock → Below base w w' → K (a.put o.dst (.slice (some ⟨g, 0, none⟩) (l.length + 1) cap)) w') : o.wp P a w K Q := by
  obtain ⟨css, g1, g2, g3, g4⟩ := hO
  refine wp_append_lies w s x t ho base e i z n bytes ht hi hz hsize hby hzs hsz v l.length css.flatten hs g3 ad 1 c cs hx (by omega) hnews h1 (by omega) h63 hbytes hbase w.heap.size rfl ?_
  intro g cap w' hown hgrow hat hlt
  exact h g cap w' (OwnOf.snoc g1 g2 g4 hl hnew hown hgrow hat) hgrow (below_of_grown hgrow hbase (fun b e => (row_block g3 e).1))
theorem wpList_snoc {α : Type} {n : Nat} {R : World → List Value → α → Prop} {F : Nat → Prop} {ops : Array Oper} {rest : List Oper} {o : Oper} {a : Act} {Q : Exit → Act → World → Prop} (hgd : o.guard = none) (s x : Operand) (t : TypeId)
    (ho : o.op = .call { callee := .builtin .append, args := #[s, x], argTypes := #[t, t] })
    (base : Nat) (e : TypeId) (i : TypeInfo) (z : Value) (bytes : Nat) (ht : P.underlying t = some (.slice e)) (hi : P.info? e = some i) (hz : i.zero = some z)
    (hsize : i.size = n) (hby : i.bytes = bytes) (hzs : z.cells.size = n) (hsz : 0 < n)
    (v : Value) (l : List α) (hs : a.eval s = v) (hO : OwnOf n R F w base e v l)
    (ad : Addr) (c : Nat) (cs : List Value) (y : α) (hx : a.eval x = .slice (some ad) 1 c) (hl : cs.length = n) (hnews : ∀ j u, cs[j]? = some u → w.cell? (ad.add j) = some u) (h1 : ∀ u ∈ cs, u.oneCell' = true)
    (hnew : Robust R w (fun b => F b ∨ v.ownBlock = some b) cs y)
    (h63 : l.length + 1 ≤ maxLen) (hbytes : (l.length + 1) * bytes ≤ 140737488355328) (hbase : base ≤ w.heap.size)
    (h : ∀ g cap w', OwnOf n R F w' base e (.slice (some ⟨g, 0, none⟩) (l.length + 1) cap) (l ++ [y]) → w.grownBy w' v.ownBlock → Below base w w' → wpList P ops Q rest (a.put o.dst (.slice (some ⟨g, 0, none⟩) (l.length + 1) cap)) w') : wpList P ops Q (o :: rest) a w :=
  wpList_plain hgd fun _ hK => wp_snoc w s x t ho base e i z bytes ht hi hz hsize hby hzs hsz v l hs hO ad c cs y hx hl hnews h1 hnew h63 hbytes hbase fun g cap w' h2 h3 h4 => hK _ _ (h g cap w' h2 h3 h4)
/-- cells that a literal has laid -/
theorem lit_cells (w : World) (A : Array Value) (T : TypeId) (g : Nat) (hg : g = w.heap.size) : ∀ j u, A.toList[j]? = some u → (w.alloc (.cells A T)).cell? ((⟨g, 0, none⟩ : Addr).add j) = some u := by
  subst hg
  intro j u hu
  have := (varAt_new w A T _ rfl).get j hu
  unfold Addr.add
  by_cases h : j = 0
  · subst h; simpa using this
  · simpa [h] using this
theorem OwnOf.shape {α : Type} {n : Nat} {R : World → List Value → α → Prop} {F : Nat → Prop} {w : World} {base : Nat} {E : TypeId} {v : Value} {l : List α} (h : OwnOf n R F w base E v l) : ∃ a cap, v = .slice a l.length cap := by
  obtain ⟨css, _, _, h3, _⟩ := h
  rcases h3.2 with ⟨rfl, h0⟩ | ⟨g, cap, cur, rfl, _⟩
  · exact ⟨_, _, by rw [h0]⟩
  · exact ⟨_, _, rfl⟩
theorem OwnOf.atLeast {α : Type} {n : Nat} {R : World → List Value → α → Prop} {F : Nat → Prop} {w : World} {base : Nat} {E : TypeId} {v : Value} {l : List α} (h : OwnOf n R F w base E v l) {b : Nat} (e : v.ownBlock = some b) : base ≤ b ∧ b < w.heap.size := by
  obtain ⟨css, _, _, h3, _⟩ := h
  exact row_block h3 e
end
end Go.Proofs.Ytiimkhnngpfnbaa
/- Steps of one kind made those of the other. -/
namespace Go.Proofs.Ytiimkhnngpfnbaa
open Go.RowKit
set_option linter.unusedVariables false
set_option linter.unusedSimpArgs false
set_option linter.unnecessarySimpa false
theorem infoR14 : (Try.prog.info? 43).map (fun i => (i.zero, i.size, i.bytes)) = some (some (.agg #[.slice none 0 0, .slice none 0 0, .slice none 0 0]), 3, 72) := by kernel_rfl
theorem infoSol : (Try.prog.info? 42).map (fun i => (i.zero, i.size, i.bytes)) = some (some (.agg #[.slice none 0 0, .slice none 0 0, .slice none 0 0]), 3, 72) := by kernel_rfl
def StepsOf (w0 : World) (L : List StepD) (e : Ending) (w' : World) : Prop := ∃ a cap, e = .returned (.slice a L.length cap) ∧ RowOf 3 StepC w' (.slice a L.length cap) L ∧ Below w0.heap.size w0 w'
set_option maxRecDepth 100000 in
set_option maxHeartbeats 3200000 in
theorem of_steps (a : Option Addr) (cap : Nat) (L : List StepD) (w : World) (h : RowOf 3 StepC w (.slice a L.length cap) L) (hl : L.length ≤ 100000) :
    Calls Try.prog 11 #[.slice a L.length cap] w (StepsOf w L) := by
  have H := Lib.hid h
  clear h
  obtain ⟨i0, hi0, hz0, hz1, hz2⟩ := info_parts' infoR14
  have HI0 := Lib.hid hi0
  have HZ0 := Lib.hid hz0
  have HZ1 := Lib.hid hz1
  have HZ2 := Lib.hid hz2
  clear hi0 hz0 hz1 hz2
  go_enter Try.func11, Try.ntmps11
  go_wp2_with fail
  go_loopw [3, 4] (fun s i wr => ∃ k : Nat, i = .int .i64 k ∧ k ≤ L.length ∧ OwnOf 3 StepC (fun _ => False) wr w.heap.size 43 s (L.take k) ∧ Below w.heap.size w wr) (fun _ i _ => L.length - (intOf i).toNat)
  case atStart => exact ⟨0, rfl, Nat.zero_le _, ownOf_nil _ _ _ _ _ _, Below.refl _ _⟩
  case round =>
    obtain ⟨k, rfl, hk, hO, hbe⟩ := hrel
    have HO := Lib.hid hO
    have HBE := Lib.hid hbe
    have k0 : (0 : Int) ≤ (k : Int) := by omega
    have hsz := hbe.size
    obtain ⟨sa, sc, rfl⟩ := hO.shape
    have HTL : Hid ((L.take k).length = k) := Lib.hid (by rw [List.length_take]; omega)
    rw [HTL.out] at HO ⊢
    clear hO hbe
    by_cases hlt : k < L.length
    · have k1 : (k : Int) < (L.length : Int) := by omega
      have hdk : decide (k < L.length) = true := decide_eq_true hlt
      have e : L.getD k default = L[k] := by simp [hlt]
      have HTK := Lib.hid (List.take_succ_eq_append_getElem hlt)
      rw [← e] at HTK
      clear e
      obtain ⟨x, hx⟩ : ∃ x, L.getD k default = x := ⟨_, rfl⟩
      obtain ⟨b, off, a1, c1, a2, c2, a3, c3, rfl, hbw, hc1, hc2, hc3, r1, r2, r3, i1, i2, i3⟩ := steps_row H.out k hlt x hx
      rw [hx] at HTK
      clear hx
      have SK : Hid (∀ w', Below w.heap.size w w' → w'.cell? ⟨b, off + k * 3, none⟩ = some (.slice a1 x.cl.length c1) ∧ w'.cell? ⟨b, off + k * 3 + 1, none⟩ = some (.slice a2 x.fr.length c2) ∧ w'.cell? ⟨b, off + k * 3 + 2, none⟩ = some (.slice a3 x.on.length c3)) :=
        Lib.hid (fun w' hb => ⟨(hb.cell (p := ⟨b, off + k * 3, none⟩) hbw).trans hc1, (hb.cell (p := ⟨b, off + k * 3 + 1, none⟩) hbw).trans hc2, (hb.cell (p := ⟨b, off + k * 3 + 2, none⟩) hbw).trans hc3⟩)
      have HBD : Hid (Below w.heap.size w wr.drew) := Lib.hid (Below.drew HBE.out)
      have HBA : Hid (Below w.heap.size w (wr.alloc (.cells #[.slice a1 x.cl.length c1, .slice a2 x.fr.length c2, .slice a3 x.on.length c3] 43)).drew) := Lib.hid (Below.drew (HBE.out.alloc HBE.out.size _))
      have HBS : Hid (w.heap.size ≤ ((wr.alloc (.cells #[.slice a1 x.cl.length c1, .slice a2 x.fr.length c2, .slice a3 x.on.length c3] 43)).drew).heap.size) := Lib.hid HBA.out.size
      have HO2 : Hid (OwnOf 3 StepC (fun _ => False) (wr.alloc (.cells #[.slice a1 x.cl.length c1, .slice a2 x.fr.length c2, .slice a3 x.on.length c3] 43)).drew w.heap.size 43 (.slice sa k sc) (L.take k)) :=
        Lib.hid (HO.out.below (Below.drew ((Below.refl _ _).alloc (Nat.le_refl _) _)))
      have HNEW : Hid (Robust StepC (wr.alloc (.cells #[.slice a1 x.cl.length c1, .slice a2 x.fr.length c2, .slice a3 x.on.length c3] 43)).drew (fun b => False ∨ (Value.slice sa k sc).ownBlock = some b) [.slice a1 x.cl.length c1, .slice a2 x.fr.length c2, .slice a3 x.on.length c3] x) := Lib.hid (fun w' hN => by
        have hb : Below w.heap.size w w' := HBA.out.trans (hN.below HBS.out (fun b e => by
          rcases e with e | e
          · exact e.elim
          · exact (HO.out.atLeast e).1))
        exact ⟨_, _, _, rfl, r1.below hb, r2.below hb, r3.below hb, i1, i2, i3⟩)
      clear hc1 hc2 hc3 r1 r2 r3
      go_wp2_with fail
      refine held_start (S := fun w' => w'.cell? ⟨b, off + k * 3, none⟩ = some (.slice a1 x.cl.length c1) ∧ w'.cell? ⟨b, off + k * 3 + 1, none⟩ = some (.slice a2 x.fr.length c2) ∧ w'.cell? ⟨b, off + k * 3 + 2, none⟩ = some (.slice a3 x.on.length c3)) 20 (by rfl) (by kernel_rfl) ?_ (fun hS0 => ?_)
      · first | with_reducible exact SK.out _ HBZ | exact SK.out _ HBA.out | exact SK.out _ HBD.out
      refine held_take 0 (some 11) ?_ 19 rfl rfl (by kernel_rfl) (by kernel_rfl) (by kernel_rfl) (fun _ _ _ h => h) (by rfl) ?_ hS0 ?_
      rotate_left
      · intro wz hSw
        (try dsimp only at hSw)
        go_simp
        (try with_reducible rfl)
      (try simp only [Act.put, List.setIfInBounds_toArray, List.set_cons_zero, List.set_cons_succ])
      refine held_take 1 (some 12) ?_ 18 rfl rfl (by kernel_rfl) (by kernel_rfl) (by kernel_rfl) (fun _ _ _ h => h) (by rfl) ?_ hS0 ?_
      rotate_left
      · intro wz hSw
        (try dsimp only at hSw)
        go_simp
        (try with_reducible rfl)
      (try simp only [Act.put, List.setIfInBounds_toArray, List.set_cons_zero, List.set_cons_succ])
      refine held_take 2 (some 13) ?_ 17 rfl rfl (by kernel_rfl) (by kernel_rfl) (by kernel_rfl) (fun _ _ _ h => h) (by rfl) ?_ hS0 ?_
      rotate_left
      · intro wz hSw
        (try dsimp only at hSw)
        go_simp
        (try with_reducible rfl)
      (try simp only [Act.put, List.setIfInBounds_toArray, List.set_cons_zero, List.set_cons_succ])
      refine held_take 3 (some 14) ?_ 16 rfl rfl (by kernel_rfl) (by kernel_rfl) (by kernel_rfl) (fun _ _ _ h => h) (by rfl) ?_ hS0 ?_
      rotate_left
      · intro wz hSw
        (try dsimp only at hSw)
        go_simp
        (try with_reducible rfl)
      (try simp only [Act.put, List.setIfInBounds_toArray, List.set_cons_zero, List.set_cons_succ])
      refine held_take 4 (some 15) ?_ 15 rfl rfl (by kernel_rfl) (by kernel_rfl) (by kernel_rfl) (fun _ _ _ h => h) (by rfl) ?_ hS0 ?_
      rotate_left
      · intro wz hSw
        (try dsimp only at hSw)
        go_simp
        (try with_reducible rfl)
      (try simp only [Act.put, List.setIfInBounds_toArray, List.set_cons_zero, List.set_cons_succ])
      refine held_take 5 (some 16) ?_ 14 rfl rfl (by kernel_rfl) (by kernel_rfl) (by kernel_rfl) (fun _ _ _ h => h) (by rfl) ?_ hS0 ?_
      rotate_left
      · intro wz hSw
        (try dsimp only at hSw)
        go_simp
        (try with_reducible rfl)
      (try simp only [Act.put, List.setIfInBounds_toArray, List.set_cons_zero, List.set_cons_succ])
      refine held_take 6 (some 17) ?_ 13 rfl rfl (by kernel_rfl) (by kernel_rfl) (by kernel_rfl) (fun _ _ _ h => h) (by rfl) ?_ hS0 ?_
      rotate_left
      · intro wz hSw
        (try dsimp only at hSw)
        go_simp
        (try with_reducible rfl)
      (try simp only [Act.put, List.setIfInBounds_toArray, List.set_cons_zero, List.set_cons_succ])
      refine held_take 7 (some 18) ?_ 12 rfl rfl (by kernel_rfl) (by kernel_rfl) (by kernel_rfl) (fun _ _ _ h => h) (by rfl) ?_ hS0 ?_
      rotate_left
      · intro wz hSw
        (try dsimp only at hSw)
        go_simp
        (try with_reducible rfl)
      (try simp only [Act.put, List.setIfInBounds_toArray, List.set_cons_zero, List.set_cons_succ])
      refine held_take 8 (some 19) ?_ 11 rfl rfl (by kernel_rfl) (by kernel_rfl) (by kernel_rfl) (fun _ _ _ h => h) (by rfl) ?_ hS0 ?_
      rotate_left
      · intro wz hSw
        (try dsimp only at hSw)
        go_simp
        (try with_reducible rfl)
      (try simp only [Act.put, List.setIfInBounds_toArray, List.set_cons_zero, List.set_cons_succ])
      refine held_take 9 (some 20) ?_ 10 rfl rfl (by kernel_rfl) (by kernel_rfl) (by kernel_rfl) (fun _ _ _ h => h) (by rfl) ?_ hS0 ?_
      rotate_left
      · intro wz hSw
        (try dsimp only at hSw)
        go_simp
        (try with_reducible rfl)
      (try simp only [Act.put, List.setIfInBounds_toArray, List.set_cons_zero, List.set_cons_succ])
      refine held_take 10 (some 21) ?_ 9 rfl rfl (by kernel_rfl) (by kernel_rfl) (by kernel_rfl) (fun _ _ _ h => h) (by rfl) ?_ hS0 ?_
      rotate_left
      · intro wz hSw
        (try dsimp only at hSw)
        go_simp
        (try with_reducible rfl)
      (try simp only [Act.put, List.setIfInBounds_toArray, List.set_cons_zero, List.set_cons_succ])
      refine held_take 11 (some 22) ?_ 8 rfl rfl (by kernel_rfl) (by kernel_rfl) (by kernel_rfl) (fun _ _ _ h => h) (by rfl) ?_ hS0 ?_
      rotate_left
      · intro wz hSw
        (try dsimp only at hSw)
        go_simp
        (try with_reducible rfl)
      (try simp only [Act.put, List.setIfInBounds_toArray, List.set_cons_zero, List.set_cons_succ])
      refine held_take 12 (some 23) ?_ 7 rfl rfl (by kernel_rfl) (by kernel_rfl) (by kernel_rfl) (fun _ _ _ h => h) (by rfl) ?_ hS0 ?_
      rotate_left
      · intro wz hSw
        (try dsimp only at hSw)
        go_simp
        (try with_reducible rfl)
      (try simp only [Act.put, List.setIfInBounds_toArray, List.set_cons_zero, List.set_cons_succ])
      refine held_take 13 (some 24) ?_ 6 rfl rfl (by kernel_rfl) (by kernel_rfl) (by kernel_rfl) (fun _ _ _ h => h) (by rfl) ?_ hS0 ?_
      rotate_left
      · intro wz hSw
        (try dsimp only at hSw)
        go_simp
        (try with_reducible rfl)
      (try simp only [Act.put, List.setIfInBounds_toArray, List.set_cons_zero, List.set_cons_succ])
      refine held_take 14 (some 25) ?_ 5 rfl rfl (by kernel_rfl) (by kernel_rfl) (by kernel_rfl) (fun _ _ _ h => h) (by rfl) ?_ hS0 ?_
      rotate_left
      · intro wz hSw
        (try dsimp only at hSw)
        go_simp
        (try with_reducible rfl)
      (try simp only [Act.put, List.setIfInBounds_toArray, List.set_cons_zero, List.set_cons_succ])
      refine held_take 15 (some 26) ?_ 4 rfl rfl (by kernel_rfl) (by kernel_rfl) (by kernel_rfl) (fun _ _ _ h => h) (by rfl) ?_ hS0 ?_
      rotate_left
      · intro wz hSw
        (try dsimp only at hSw)
        go_simp
        (try with_reducible rfl)
      (try simp only [Act.put, List.setIfInBounds_toArray, List.set_cons_zero, List.set_cons_succ])
      refine held_take 16 (some 27) ?_ 3 rfl rfl (by kernel_rfl) (by kernel_rfl) (by kernel_rfl) (fun _ _ _ h => h) (by rfl) ?_ hS0 ?_
      rotate_left
      · intro wz hSw
        (try dsimp only at hSw)
        go_simp
        (try with_reducible rfl)
      (try simp only [Act.put, List.setIfInBounds_toArray, List.set_cons_zero, List.set_cons_succ])
      refine held_call 17 2 rfl (by kernel_rfl) (by rfl) (fun K hK => ?_)
      go_simp
      refine hK.out _ _ ?_ (fun hS17 => ?_)
      · first | with_reducible exact SK.out _ HBZ | exact SK.out _ HBA.out | exact SK.out _ HBD.out
      clear hK K
      refine held_call 18 1 rfl (by kernel_rfl) (by rfl) (fun K hK => ?_)
      (refine wp_snoc (R := StepC) (F := fun _ => False) _ _ _ 25 rfl w.heap.size 43 i0 _ 72 Try.underlying25 HI0.out HZ0.out HZ1.out HZ2.out rfl (by decide) _ _ rfl HO2.out ⟨wr.heap.size, 0, none⟩ 1 [.slice a1 x.cl.length c1, .slice a2 x.fr.length c2, .slice a3 x.on.length c3] x rfl rfl (lit_cells wr _ _ _ rfl) (by simp [Value.oneCell']) HNEW.out (by rw [HTL.out]; unfold maxLen; omega) (by rw [HTL.out]; omega) HBS.out ?_; intro g cp wz hoz _ hbz; have HBZ := HBA.out.trans hbz; have HOZ := Lib.hid hoz; clear hoz hbz)
      (try simp only [Act.put, List.setIfInBounds_toArray, List.set_cons_zero, List.set_cons_succ])
      refine hK.out _ _ ?_ (fun hS18 => ?_)
      · first | with_reducible exact SK.out _ HBZ | exact SK.out _ HBA.out | exact SK.out _ HBD.out
      clear hK K
      refine held_take 19 (some 3) ?_ 0 rfl rfl (by kernel_rfl) (by kernel_rfl) (by kernel_rfl) (fun _ _ _ h => h) (by rfl) ?_ hS18 ?_
      rotate_left
      · intro wz hSw
        (try dsimp only at hSw)
        go_simp
        (try with_reducible rfl)
      (try simp only [Act.put, List.setIfInBounds_toArray, List.set_cons_zero, List.set_cons_succ])
      refine wpAnyH_done (by kernel_rfl) ?_ _
      all_goals
        go_wp2_with fail
        go_roundw
        case rel => exact ⟨k + 1, by go_num, by omega, by rw [HTK.out]; have := HOZ.out; rwa [HTL.out] at this, HBZ⟩
        case measure => simp [intOf]; omega
    · have hdk : decide (k < L.length) = false := decide_eq_false hlt
      have HRW : Hid (RowOf 3 StepC wr (.slice sa k sc) (L.take k)) := Lib.hid (HO.out.row (by omega))
      have hke : L.take k = L := List.take_of_length_le (by omega)
      have hkl : k = L.length := by omega
      rw [hke, hkl] at HRW
      rw [hkl]
      have HLT := Lib.hid hlt
      clear hlt hke hkl
      go_wp2_with fail
      go_ret
      exact ⟨_, _, rfl, HRW.out, HBE.out⟩
set_option maxRecDepth 100000 in
set_option maxHeartbeats 3200000 in
theorem back_steps (a : Option Addr) (cap : Nat) (L : List StepD) (w : World) (h : RowOf 3 StepC w (.slice a L.length cap) L) (hl : L.length ≤ 100000) :
    Calls Try.prog 15 #[.slice a L.length cap] w (StepsOf w L) := by
  have H := Lib.hid h
  clear h
  obtain ⟨i0, hi0, hz0, hz1, hz2⟩ := info_parts' infoSol
  have HI0 := Lib.hid hi0
  have HZ0 := Lib.hid hz0
  have HZ1 := Lib.hid hz1
  have HZ2 := Lib.hid hz2
  clear hi0 hz0 hz1 hz2
  go_enter Try.func15, Try.ntmps15
  go_wp2_with fail
  go_loopw [3, 4] (fun s i wr => ∃ k : Nat, i = .int .i64 k ∧ k ≤ L.length ∧ OwnOf 3 StepC (fun _ => False) wr w.heap.size 42 s (L.take k) ∧ Below w.heap.size w wr) (fun _ i _ => L.length - (intOf i).toNat)
  case atStart => exact ⟨0, rfl, Nat.zero_le _, ownOf_nil _ _ _ _ _ _, Below.refl _ _⟩
  case round =>
    obtain ⟨k, rfl, hk, hO, hbe⟩ := hrel
    have HO := Lib.hid hO
    have HBE := Lib.hid hbe
    have k0 : (0 : Int) ≤ (k : Int) := by omega
    have hsz := hbe.size
    obtain ⟨sa, sc, rfl⟩ := hO.shape
    have HTL : Hid ((L.take k).length = k) := Lib.hid (by rw [List.length_take]; omega)
    rw [HTL.out] at HO ⊢
    clear hO hbe
    by_cases hlt : k < L.length
    · have k1 : (k : Int) < (L.length : Int) := by omega
      have hdk : decide (k < L.length) = true := decide_eq_true hlt
      have e : L.getD k default = L[k] := by simp [hlt]
      have HTK := Lib.hid (List.take_succ_eq_append_getElem hlt)
      rw [← e] at HTK
      clear e
      obtain ⟨x, hx⟩ : ∃ x, L.getD k default = x := ⟨_, rfl⟩
      obtain ⟨b, off, a1, c1, a2, c2, a3, c3, rfl, hbw, hc1, hc2, hc3, r1, r2, r3, i1, i2, i3⟩ := steps_row H.out k hlt x hx
      rw [hx] at HTK
      clear hx
      have SK : Hid (∀ w', Below w.heap.size w w' → w'.cell? ⟨b, off + k * 3, none⟩ = some (.slice a1 x.cl.length c1) ∧ w'.cell? ⟨b, off + k * 3 + 1, none⟩ = some (.slice a2 x.fr.length c2) ∧ w'.cell? ⟨b, off + k * 3 + 2, none⟩ = some (.slice a3 x.on.length c3)) :=
        Lib.hid (fun w' hb => ⟨(hb.cell (p := ⟨b, off + k * 3, none⟩) hbw).trans hc1, (hb.cell (p := ⟨b, off + k * 3 + 1, none⟩) hbw).trans hc2, (hb.cell (p := ⟨b, off + k * 3 + 2, none⟩) hbw).trans hc3⟩)
      have HBD : Hid (Below w.heap.size w wr.drew) := Lib.hid (Below.drew HBE.out)
      have HBA : Hid (Below w.heap.size w (wr.alloc (.cells #[.slice a1 x.cl.length c1, .slice a2 x.fr.length c2, .slice a3 x.on.length c3] 42)).drew) := Lib.hid (Below.drew (HBE.out.alloc HBE.out.size _))
      have HBS : Hid (w.heap.size ≤ ((wr.alloc (.cells #[.slice a1 x.cl.length c1, .slice a2 x.fr.length c2, .slice a3 x.on.length c3] 42)).drew).heap.size) := Lib.hid HBA.out.size
      have HO2 : Hid (OwnOf 3 StepC (fun _ => False) (wr.alloc (.cells #[.slice a1 x.cl.length c1, .slice a2 x.fr.length c2, .slice a3 x.on.length c3] 42)).drew w.heap.size 42 (.slice sa k sc) (L.take k)) :=
        Lib.hid (HO.out.below (Below.drew ((Below.refl _ _).alloc (Nat.le_refl _) _)))
      have HNEW : Hid (Robust StepC (wr.alloc (.cells #[.slice a1 x.cl.length c1, .slice a2 x.fr.length c2, .slice a3 x.on.length c3] 42)).drew (fun b => False ∨ (Value.slice sa k sc).ownBlock = some b) [.slice a1 x.cl.length c1, .slice a2 x.fr.length c2, .slice a3 x.on.length c3] x) := Lib.hid (fun w' hN => by
        have hb : Below w.heap.size w w' := HBA.out.trans (hN.below HBS.out (fun b e => by
          rcases e with e | e
          · exact e.elim
          · exact (HO.out.atLeast e).1))
        exact ⟨_, _, _, rfl, r1.below hb, r2.below hb, r3.below hb, i1, i2, i3⟩)
      clear hc1 hc2 hc3 r1 r2 r3
      go_wp2_with fail
      refine held_start (S := fun w' => w'.cell? ⟨b, off + k * 3, none⟩ = some (.slice a1 x.cl.length c1) ∧ w'.cell? ⟨b, off + k * 3 + 1, none⟩ = some (.slice a2 x.fr.length c2) ∧ w'.cell? ⟨b, off + k * 3 + 2, none⟩ = some (.slice a3 x.on.length c3)) 20 (by rfl) (by kernel_rfl) ?_ (fun hS0 => ?_)
      · first | with_reducible exact SK.out _ HBZ | exact SK.out _ HBA.out | exact SK.out _ HBD.out
      refine held_take 0 (some 11) ?_ 19 rfl rfl (by kernel_rfl) (by kernel_rfl) (by kernel_rfl) (fun _ _ _ h => h) (by rfl) ?_ hS0 ?_
      rotate_left
      · intro wz hSw
        (try dsimp only at hSw)
        go_simp
        (try with_reducible rfl)
      (try simp only [Act.put, List.setIfInBounds_toArray, List.set_cons_zero, List.set_cons_succ])
      refine held_take 1 (some 12) ?_ 18 rfl rfl (by kernel_rfl) (by kernel_rfl) (by kernel_rfl) (fun _ _ _ h => h) (by rfl) ?_ hS0 ?_
      rotate_left
      · intro wz hSw
        (try dsimp only at hSw)
        go_simp
        (try with_reducible rfl)
      (try simp only [Act.put, List.setIfInBounds_toArray, List.set_cons_zero, List.set_cons_succ])
      refine held_take 2 (some 13) ?_ 17 rfl rfl (by kernel_rfl) (by kernel_rfl) (by kernel_rfl) (fun _ _ _ h => h) (by rfl) ?_ hS0 ?_
      rotate_left
      · intro wz hSw
        (try dsimp only at hSw)
        go_simp
        (try with_reducible rfl)
      (try simp only [Act.put, List.setIfInBounds_toArray, List.set_cons_zero, List.set_cons_succ])
      refine held_take 3 (some 14) ?_ 16 rfl rfl (by kernel_rfl) (by kernel_rfl) (by kernel_rfl) (fun _ _ _ h => h) (by rfl) ?_ hS0 ?_
      rotate_left
      · intro wz hSw
        (try dsimp only at hSw)
        go_simp
        (try with_reducible rfl)
      (try simp only [Act.put, List.setIfInBounds_toArray, List.set_cons_zero, List.set_cons_succ])
      refine held_take 4 (some 15) ?_ 15 rfl rfl (by kernel_rfl) (by kernel_rfl) (by kernel_rfl) (fun _ _ _ h => h) (by rfl) ?_ hS0 ?_
      rotate_left
      · intro wz hSw
        (try dsimp only at hSw)
        go_simp
        (try with_reducible rfl)
      (try simp only [Act.put, List.setIfInBounds_toArray, List.set_cons_zero, List.set_cons_succ])
      refine held_take 5 (some 16) ?_ 14 rfl rfl (by kernel_rfl) (by kernel_rfl) (by kernel_rfl) (fun _ _ _ h => h) (by rfl) ?_ hS0 ?_
      rotate_left
      · intro wz hSw
        (try dsimp only at hSw)
        go_simp
        (try with_reducible rfl)
      (try simp only [Act.put, List.setIfInBounds_toArray, List.set_cons_zero, List.set_cons_succ])
      refine held_take 6 (some 17) ?_ 13 rfl rfl (by kernel_rfl) (by kernel_rfl) (by kernel_rfl) (fun _ _ _ h => h) (by rfl) ?_ hS0 ?_
      rotate_left
      · intro wz hSw
        (try dsimp only at hSw)
        go_simp
        (try with_reducible rfl)
      (try simp only [Act.put, List.setIfInBounds_toArray, List.set_cons_zero, List.set_cons_succ])
      refine held_take 7 (some 18) ?_ 12 rfl rfl (by kernel_rfl) (by kernel_rfl) (by kernel_rfl) (fun _ _ _ h => h) (by rfl) ?_ hS0 ?_
      rotate_left
      · intro wz hSw
        (try dsimp only at hSw)
        go_simp
        (try with_reducible rfl)
      (try simp only [Act.put, List.setIfInBounds_toArray, List.set_cons_zero, List.set_cons_succ])
      refine held_take 8 (some 19) ?_ 11 rfl rfl (by kernel_rfl) (by kernel_rfl) (by kernel_rfl) (fun _ _ _ h => h) (by rfl) ?_ hS0 ?_
      rotate_left
      · intro wz hSw
        (try dsimp only at hSw)
        go_simp
        (try with_reducible rfl)
      (try simp only [Act.put, List.setIfInBounds_toArray, List.set_cons_zero, List.set_cons_succ])
      refine held_take 9 (some 20) ?_ 10 rfl rfl (by kernel_rfl) (by kernel_rfl) (by kernel_rfl) (fun _ _ _ h => h) (by rfl) ?_ hS0 ?_
      rotate_left
      · intro wz hSw
        (try dsimp only at hSw)
        go_simp
        (try with_reducible rfl)
      (try simp only [Act.put, List.setIfInBounds_toArray, List.set_cons_zero, List.set_cons_succ])
      refine held_take 10 (some 21) ?_ 9 rfl rfl (by kernel_rfl) (by kernel_rfl) (by kernel_rfl) (fun _ _ _ h => h) (by rfl) ?_ hS0 ?_
      rotate_left
      · intro wz hSw
        (try dsimp only at hSw)
        go_simp
        (try with_reducible rfl)
      (try simp only [Act.put, List.setIfInBounds_toArray, List.set_cons_zero, List.set_cons_succ])
      refine held_take 11 (some 22) ?_ 8 rfl rfl (by kernel_rfl) (by kernel_rfl) (by kernel_rfl) (fun _ _ _ h => h) (by rfl) ?_ hS0 ?_
      rotate_left
      · intro wz hSw
        (try dsimp only at hSw)
        go_simp
        (try with_reducible rfl)
      (try simp only [Act.put, List.setIfInBounds_toArray, List.set_cons_zero, List.set_cons_succ])
      refine held_take 12 (some 23) ?_ 7 rfl rfl (by kernel_rfl) (by kernel_rfl) (by kernel_rfl) (fun _ _ _ h => h) (by rfl) ?_ hS0 ?_
      rotate_left
      · intro wz hSw
        (try dsimp only at hSw)
        go_simp
        (try with_reducible rfl)
      (try simp only [Act.put, List.setIfInBounds_toArray, List.set_cons_zero, List.set_cons_succ])
      refine held_take 13 (some 24) ?_ 6 rfl rfl (by kernel_rfl) (by kernel_rfl) (by kernel_rfl) (fun _ _ _ h => h) (by rfl) ?_ hS0 ?_
      rotate_left
      · intro wz hSw
        (try dsimp only at hSw)
        go_simp
        (try with_reducible rfl)
      (try simp only [Act.put, List.setIfInBounds_toArray, List.set_cons_zero, List.set_cons_succ])
      refine held_take 14 (some 25) ?_ 5 rfl rfl (by kernel_rfl) (by kernel_rfl) (by kernel_rfl) (fun _ _ _ h => h) (by rfl) ?_ hS0 ?_
      rotate_left
      · intro wz hSw
        (try dsimp only at hSw)
        go_simp
        (try with_reducible rfl)
      (try simp only [Act.put, List.setIfInBounds_toArray, List.set_cons_zero, List.set_cons_succ])
      refine held_take 15 (some 26) ?_ 4 rfl rfl (by kernel_rfl) (by kernel_rfl) (by kernel_rfl) (fun _ _ _ h => h) (by rfl) ?_ hS0 ?_
      rotate_left
      · intro wz hSw
        (try dsimp only at hSw)
        go_simp
        (try with_reducible rfl)
      (try simp only [Act.put, List.setIfInBounds_toArray, List.set_cons_zero, List.set_cons_succ])
      refine held_take 16 (some 27) ?_ 3 rfl rfl (by kernel_rfl) (by kernel_rfl) (by kernel_rfl) (fun _ _ _ h => h) (by rfl) ?_ hS0 ?_
      rotate_left
      · intro wz hSw
        (try dsimp only at hSw)
        go_simp
        (try with_reducible rfl)
      (try simp only [Act.put, List.setIfInBounds_toArray, List.set_cons_zero, List.set_cons_succ])
      refine held_call 17 2 rfl (by kernel_rfl) (by rfl) (fun K hK => ?_)
      go_simp
      refine hK.out _ _ ?_ (fun hS17 => ?_)
      · first | with_reducible exact SK.out _ HBZ | exact SK.out _ HBA.out | exact SK.out _ HBD.out
      clear hK K
      refine held_call 18 1 rfl (by kernel_rfl) (by rfl) (fun K hK => ?_)
      (refine wp_snoc (R := StepC) (F := fun _ => False) _ _ _ 22 rfl w.heap.size 42 i0 _ 72 Try.underlying22 HI0.out HZ0.out HZ1.out HZ2.out rfl (by decide) _ _ rfl HO2.out ⟨wr.heap.size, 0, none⟩ 1 [.slice a1 x.cl.length c1, .slice a2 x.fr.length c2, .slice a3 x.on.length c3] x rfl rfl (lit_cells wr _ _ _ rfl) (by simp [Value.oneCell']) HNEW.out (by rw [HTL.out]; unfold maxLen; omega) (by rw [HTL.out]; omega) HBS.out ?_; intro g cp wz hoz _ hbz; have HBZ := HBA.out.trans hbz; have HOZ := Lib.hid hoz; clear hoz hbz)
      (try simp only [Act.put, List.setIfInBounds_toArray, List.set_cons_zero, List.set_cons_succ])
      refine hK.out _ _ ?_ (fun hS18 => ?_)
      · first | with_reducible exact SK.out _ HBZ | exact SK.out _ HBA.out | exact SK.out _ HBD.out
      clear hK K
      refine held_take 19 (some 3) ?_ 0 rfl rfl (by kernel_rfl) (by kernel_rfl) (by kernel_rfl) (fun _ _ _ h => h) (by rfl) ?_ hS18 ?_
      rotate_left
      · intro wz hSw
        (try dsimp only at hSw)
        go_simp
        (try with_reducible rfl)
      (try simp only [Act.put, List.setIfInBounds_toArray, List.set_cons_zero, List.set_cons_succ])
      refine wpAnyH_done (by kernel_rfl) ?_ _
      all_goals
        go_wp2_with fail
        go_roundw
        case rel => exact ⟨k + 1, by go_num, by omega, by rw [HTK.out]; have := HOZ.out; rwa [HTL.out] at this, HBZ⟩
        case measure => simp [intOf]; omega
    · have hdk : decide (k < L.length) = false := decide_eq_false hlt
      have HRW : Hid (RowOf 3 StepC wr (.slice sa k sc) (L.take k)) := Lib.hid (HO.out.row (by omega))
      have hke : L.take k = L := List.take_of_length_le (by omega)
      have hkl : k = L.length := by omega
      rw [hke, hkl] at HRW
      rw [hkl]
      have HLT := Lib.hid hlt
      clear hlt hke hkl
      go_wp2_with fail
      go_ret
      exact ⟨_, _, rfl, HRW.out, HBE.out⟩
end Go.Proofs.Ytiimkhnngpfnbaa
/- The reference's Same at what is the same. -/
namespace Go.Proofs.Ytiimkhnngpfnbaa
open Go.RowKit
set_option linter.unusedVariables false
set_option maxRecDepth 100000 in
set_option maxHeartbeats 3200000 in
theorem same_steps (va vb : Value) (L : List StepD) (w : World) (hA : RowOf 3 StepC w va L) (hB : RowOf 3 StepC w vb L) :
    Calls Try.prog 10 #[va, vb] w fun e w' => e = .returned (.bool true) ∧ ∃ m, w' = w.drewN m := by
  obtain ⟨aa, ac, rfl⟩ := hA.shape
  obtain ⟨ba, bc, rfl⟩ := hB.shape
  have hmax := hA.len
  unfold maxLen at hmax
  have HA := Lib.hid hA
  have HB := Lib.hid hB
  have hne : (L.length != L.length) = false := by simp
  have hne2 : ((L.length : Int) != (L.length : Int)) = false := by simp
  clear hA hB
  go_enter Try.func10, Try.ntmps10
  go_wp2_with fail
  go_loopw [5] (fun i wr => ∃ k : Nat, i = .int .i64 k ∧ k ≤ L.length ∧ ∃ m, wr = w.drewN m) (fun i _ => L.length - (intOf i).toNat)
  case atStart => exact ⟨0, rfl, Nat.zero_le _, 0, rfl⟩
  case round =>
    obtain ⟨k, rfl, hk, m, rfl⟩ := hrel
    by_cases hlt : k < L.length
    · obtain ⟨x, hx⟩ : ∃ x, L.getD k default = x := ⟨_, rfl⟩
      obtain ⟨b1, o1, a11, c11, a12, c12, a13, c13, rfl, _, h11, h12, h13, r11, r12, r13, _⟩ := steps_row HA.out k hlt x hx
      obtain ⟨b2, o2, a21, c21, a22, c22, a23, c23, rfl, _, h21, h22, h23, r21, r22, r23, _⟩ := steps_row HB.out k hlt x hx
      have R11 := Lib.hid r11
      have R12 := Lib.hid r12
      have R13 := Lib.hid r13
      have R21 := Lib.hid r21
      have R22 := Lib.hid r22
      have R23 := Lib.hid r23
      have d11 : (w.drewN m).cell? ⟨b1, o1 + k * 3, none⟩ = some (.slice a11 x.cl.length c11) := h11
      have d12 : (w.drewN m).cell? ⟨b1, o1 + k * 3 + 1, none⟩ = some (.slice a12 x.fr.length c12) := h12
      have d13 : (w.drewN m).cell? ⟨b1, o1 + k * 3 + 2, none⟩ = some (.slice a13 x.on.length c13) := h13
      have d21 : (w.drewN m).cell? ⟨b2, o2 + k * 3, none⟩ = some (.slice a21 x.cl.length c21) := h21
      have d22 : (w.drewN m).cell? ⟨b2, o2 + k * 3 + 1, none⟩ = some (.slice a22 x.fr.length c22) := h22
      have d23 : (w.drewN m).cell? ⟨b2, o2 + k * 3 + 2, none⟩ = some (.slice a23 x.on.length c23) := h23
      have Q1 : ∀ q q', Hid (ValRow ((w.drewN q).drewN q') (.slice a11 x.cl.length c11) (intVals x.cl) ∧ ValRow ((w.drewN q).drewN q') (.slice a21 x.cl.length c21) (intVals x.cl)) := fun q q' => Lib.hid ⟨r11, r21⟩
      have Q2 : ∀ q q', Hid (ValRow ((w.drewN q).drewN q') (.slice a12 x.fr.length c12) (intVals x.fr) ∧ ValRow ((w.drewN q).drewN q') (.slice a22 x.fr.length c22) (intVals x.fr)) := fun q q' => Lib.hid ⟨r12, r22⟩
      have Q3 : ∀ q q', Hid (ValRow ((w.drewN q).drewN q') (.slice a13 x.on.length c13) (intVals x.on) ∧ ValRow ((w.drewN q).drewN q') (.slice a23 x.on.length c23) (intVals x.on)) := fun q q' => Lib.hid ⟨r13, r23⟩
      have k0 : (0 : Int) ≤ (k : Int) := by omega
      have k1 : (k : Int) < (L.length : Int) := by omega
      have hd : decide (k < L.length) = true := decide_eq_true hlt
      obtain ⟨wm, HW⟩ : ∃ wm, Hid (w.drewN m = wm) := ⟨_, rfl⟩
      have P1 := fun q' => Q1 m q'
      have P2 := fun q' => Q2 m q'
      have P3 := fun q' => Q3 m q'
      rw [HW.out] at d11 d12 d13 d21 d22 d23 P1 P2 P3 ⊢
      clear h11 h12 h13 h21 h22 h23 r11 r12 r13 r21 r22 r23 Q1 Q2 Q3 hx
      go_wp2_with fail
      go_quiet (first
        | (go_at_call 12; with_reducible exact Calls.quiet_of (ints_same _ _ x.cl _ (P1 _).out.1 (P1 _).out.2))
        | (go_at_call 12; with_reducible exact Calls.quiet_of (ints_same _ _ x.fr _ (P2 _).out.1 (P2 _).out.2))
        | (go_at_call 12; with_reducible exact Calls.quiet_of (ints_same _ _ x.on _ (P3 _).out.1 (P3 _).out.2)))
      go_wp2_with fail
      go_roundw
      case rel => exact ⟨k + 1, by go_num, by omega, m + nq, by rw [← HW.out, World.drewN_drewN]⟩
      case measure => simp [intOf]; omega
    · have hd : decide (k < L.length) = false := decide_eq_false hlt
      go_wp2_with fail
      go_ret
      exact ⟨rfl, m, rfl⟩
end Go.Proofs.Ytiimkhnngpfnbaa
/- What the last step needs, plain: the program's way and the reference's. -/
namespace Go.Proofs.Ytiimkhnngpfnbaa
open Go.RowKit
set_option linter.unusedVariables false
/-- may step i come from clause k? -/
def okFrom (many i : Nat) (k : Int) : Bool := decide (1 ≤ k) && decide (k ≤ ((many + i : Nat) : Int))
/-- one number of a step, the program's way -/
def stepN (many i : Nat) (ns : List Bool) (k : Int) : List Bool := if (ns.getD (many + i + 1) false && okFrom many i k) = true then ns.set k.toNat true else ns
/-- the steps from the last of the first i on -/
def needD (many : Nat) (L : List StepD) : Nat → List Bool → List Bool
  | 0, ns => ns
  | i + 1, ns => needD many L i ((L.getD i default).fr.foldl (stepN many i) ns)
def needV (many : Nat) (L : List StepD) : List Bool := needD many L L.length ((List.replicate (many + L.length + 1) false).set (many + L.length) true)
/-- what the last step leads to -/
inductive Reach (many : Nat) (L : List StepD) : Nat → Prop
  | last : Reach many L (many + L.length)
  | from_ {i k : Nat} (h : Reach many L (many + i + 1)) (hi : i < L.length) (hk : (k : Int) ∈ (L.getD i default).fr) (h1 : 1 ≤ k) (h2 : k ≤ many + i) : Reach many L k
theorem okFrom_iff {many i : Nat} {k : Int} : okFrom many i k = true ↔ 1 ≤ k ∧ k ≤ ((many + i : Nat) : Int) := by unfold okFrom; simp
theorem getD_set_bool (ns : List Bool) (k j : Nat) : (ns.set k true).getD j false = true ↔ (k = j ∧ k < ns.length) ∨ ns.getD j false = true := by
  by_cases h : k = j
  · subst h
    by_cases hl : k < ns.length
    · simp [hl]
    · have : ns.set k true = ns := List.set_eq_of_length_le (by omega)
      rw [this]; simp [hl]
  · simp [List.getElem?_set_ne h, h]
theorem stepN_len (many i : Nat) (ns : List Bool) (k : Int) : (stepN many i ns k).length = ns.length := by unfold stepN; split <;> simp
theorem foldN_len (many i : Nat) : ∀ (fr : List Int) (ns : List Bool), (fr.foldl (stepN many i) ns).length = ns.length := by
  intro fr
  induction fr with
  | nil => intro ns; rfl
  | cons k t ih => intro ns; rw [List.foldl_cons, ih, stepN_len]
theorem stepN_iff {many i : Nat} {ns : List Bool} {k : Int} (hl : many + i < ns.length) (j : Nat) :
    (stepN many i ns k).getD j false = true ↔ ns.getD j false = true ∨ (ns.getD (many + i + 1) false = true ∧ 1 ≤ k ∧ k ≤ ((many + i : Nat) : Int) ∧ (j : Int) = k) := by
  unfold stepN
  by_cases h : (ns.getD (many + i + 1) false && okFrom many i k) = true
  · rw [if_pos h, getD_set_bool]
    rw [Bool.and_eq_true, okFrom_iff] at h
    constructor
    · rintro (⟨h1, h2⟩ | h1)
      · exact .inr ⟨h.1, h.2.1, h.2.2, by omega⟩
      · exact .inl h1
    · rintro (h1 | ⟨_, h2, h3, h4⟩)
      · exact .inr h1
      · exact .inl ⟨by omega, by omega⟩
  · rw [if_neg h]
    constructor
    · exact .inl
    · rintro (h1 | ⟨h1, h2, h3, h4⟩)
      · exact h1
      · exact absurd (by rw [Bool.and_eq_true, okFrom_iff]; exact ⟨h1, h2, h3⟩) h
theorem foldN_iff {many i : Nat} : ∀ (fr : List Int) (ns : List Bool), many + i < ns.length → ∀ j : Nat,
    ((fr.foldl (stepN many i) ns).getD j false = true ↔ ns.getD j false = true ∨ (ns.getD (many + i + 1) false = true ∧ (j : Int) ∈ fr ∧ 1 ≤ j ∧ j ≤ many + i)) := by
  intro fr
  induction fr with
  | nil => intro ns hl j; simp
  | cons k t ih =>
    intro ns hl j
    rw [List.foldl_cons, ih _ (by rw [stepN_len]; exact hl) j, stepN_iff hl j, stepN_iff hl (many + i + 1)]
    constructor
    · rintro ((h | ⟨h1, h2, h3, h4⟩) | ⟨h1, h2, h3, h4⟩)
      · exact .inl h
      · exact .inr ⟨h1, by rw [h4]; simp, by omega, by omega⟩
      · rcases h1 with h1 | ⟨_, _, h5, h6⟩
        · exact .inr ⟨h1, by simp [h2], h3, h4⟩
        · omega
    · rintro (h | ⟨h1, h2, h3, h4⟩)
      · exact .inl (.inl h)
      · rcases List.mem_cons.1 h2 with h5 | h5
        · exact .inl (.inr ⟨h1, by omega, by omega, h5⟩)
        · exact .inr ⟨.inl h1, h5, h3, h4⟩
theorem needD_len (many : Nat) (L : List StepD) : ∀ (i : Nat) (ns : List Bool), (needD many L i ns).length = ns.length := by
  intro i
  induction i with
  | zero => intro ns; rfl
  | succ i ih => intro ns; unfold needD; rw [ih, foldN_len]
theorem needV_len (many : Nat) (L : List StepD) : (needV many L).length = many + L.length + 1 := by unfold needV; rw [needD_len]; simp
/-- what is marked is led to, the last is marked, and what is marked among the steps behind i leads on to what is marked -/
structure NeedInv (many : Nat) (L : List StepD) (i : Nat) (ns : List Bool) : Prop where
  len : ns.length = many + L.length + 1
  last : ns.getD (many + L.length) false = true
  sound : ∀ k, ns.getD k false = true → Reach many L k
  closed : ∀ i', i ≤ i' → i' < L.length → ns.getD (many + i' + 1) false = true → ∀ k : Nat, (k : Int) ∈ (L.getD i' default).fr → 1 ≤ k → k ≤ many + i' → ns.getD k false = true
theorem needD_inv (many : Nat) (L : List StepD) : ∀ (i : Nat) (ns : List Bool), i ≤ L.length → NeedInv many L i ns → NeedInv many L 0 (needD many L i ns) := by
  intro i
  induction i with
  | zero => intro ns _ h; exact h
  | succ i ih =>
    intro ns hi h
    unfold needD
    have hl : many + i < ns.length := by have := h.len; omega
    refine ih _ (by omega) ⟨by rw [foldN_len]; exact h.len, (foldN_iff _ _ hl _).2 (.inl h.last), fun k hk => ?_, fun i' hi1 hi2 hm k hk k1 k2 => ?_⟩
    · rcases (foldN_iff _ _ hl k).1 hk with h1 | ⟨h1, h2, h3, h4⟩
      · exact h.sound k h1
      · exact .from_ (h.sound _ h1) (by omega) h2 h3 h4
    · rcases (foldN_iff _ _ hl _).1 hm with h1 | ⟨_, _, _, h4⟩
      · by_cases e : i' = i
        · subst e
          exact (foldN_iff _ _ hl k).2 (.inr ⟨h1, hk, k1, k2⟩)
        · exact (foldN_iff _ _ hl k).2 (.inl (h.closed i' (by omega) hi2 h1 k hk k1 k2))
      · omega
theorem start_inv (many : Nat) (L : List StepD) : NeedInv many L L.length ((List.replicate (many + L.length + 1) false).set (many + L.length) true) where
  len := by simp
  last := by simp
  sound := fun k hk => by
    rcases (getD_set_bool _ _ _).1 hk with ⟨rfl, _⟩ | h
    · exact .last
    · rw [List.getD_eq_getElem?_getD, List.getElem?_replicate] at h
      split at h <;> cases h
  closed := fun i' h1 h2 => by omega
theorem needV_iff (many : Nat) (L : List StepD) (k : Nat) : (needV many L).getD k false = true ↔ Reach many L k := by
  have h := needD_inv many L L.length _ (Nat.le_refl _) (start_inv many L)
  refine ⟨h.sound k, fun hr => ?_⟩
  induction hr with
  | last => exact h.last
  | from_ h1 hi hk k1 k2 ih => exact h.closed _ (Nat.zero_le _) hi ih _ hk k1 k2
/-- how many are needed of the first k -/
def cntV (ns : List Bool) (k : Nat) : Nat := (ns.take k).countP id
/-- a clause's or a step's new number -/
def numV (ns : List Bool) : List Int := (List.range ns.length).map fun k => if ns.getD k false then ((cntV ns (k + 1) : Nat) : Int) else 0
def usedV (many : Nat) (ns : List Bool) : List Int := ((List.range ns.length).filter fun k => ns.getD k false && decide (k ≤ many)).map fun k : Nat => (k : Int)
def renS (many i : Nat) (nm : List Int) (x : StepD) : StepD := ⟨x.cl, x.fr.map fun k => if okFrom many i k then nm.getD k.toNat 0 else 0, x.on⟩
def renV (many : Nat) (nm : List Int) : List StepD → Nat → List StepD
  | [], _ => []
  | x :: t, i => if nm.getD (many + i + 1) 0 = 0 then renV many nm t (i + 1) else renS many i nm x :: renV many nm t (i + 1)
def trimV (many : Nat) (L : List StepD) : List StepD × List Int := (renV many (numV (needV many L)) L 0, usedV many (needV many L))
theorem cntV_succ (ns : List Bool) (k : Nat) (h : k < ns.length) : cntV ns (k + 1) = cntV ns k + (if ns.getD k false then 1 else 0) := by
  unfold cntV
  rw [List.take_succ_eq_append_getElem h, List.countP_append]
  have e : ns.getD k false = ns[k] := by simp [h]
  rw [e]
  cases ns[k] <;> simp
theorem numV_len (ns : List Bool) : (numV ns).length = ns.length := by simp [numV]
theorem numV_get (ns : List Bool) (k : Nat) (h : k < ns.length) : (numV ns).getD k 0 = if ns.getD k false then ((cntV ns (k + 1) : Nat) : Int) else 0 := by
  unfold numV
  rw [List.getD_eq_getElem?_getD, List.getElem?_map, List.getElem?_range h]; rfl
theorem numV_zero (ns : List Bool) (k : Nat) (h : k < ns.length) : (numV ns).getD k 0 = 0 ↔ ns.getD k false = false := by
  rw [numV_get ns k h]
  cases hb : ns.getD k false with
  | false => simp
  | true =>
    rw [if_pos rfl, cntV_succ ns k h, hb]
    simp; omega
/-- up to number k: what is used so far -/
def usedTo (many : Nat) (ns : List Bool) (k : Nat) : List Int := ((List.range k).filter fun k => ns.getD k false && decide (k ≤ many)).map fun k : Nat => (k : Int)
theorem usedTo_succ (many : Nat) (ns : List Bool) (k : Nat) : usedTo many ns (k + 1) = usedTo many ns k ++ (if (ns.getD k false && decide (k ≤ many)) = true then [(k : Int)] else []) := by
  unfold usedTo
  rw [List.range_succ, List.filter_append, List.map_append]
  congr 1
  by_cases h : (ns.getD k false && decide (k ≤ many)) = true
  · rw [if_pos h]; simp only [List.filter_cons, List.filter_nil]; rw [if_pos h]; rfl
  · rw [if_neg h]; simp only [List.filter_cons, List.filter_nil]; rw [if_neg h]; rfl
theorem usedTo_len (many : Nat) (ns : List Bool) (k : Nat) : (usedTo many ns k).length ≤ k := by
  unfold usedTo
  rw [List.length_map]
  exact Nat.le_trans (List.length_filter_le _ _) (by simp)
/-- up to number k: the numbers given so far; behind it: none -/
def numTo (ns : List Bool) (k : Nat) : List Int := (List.range ns.length).map fun j => if ns.getD j false ∧ j < k then ((cntV ns (j + 1) : Nat) : Int) else 0
theorem numTo_zero (ns : List Bool) : numTo ns 0 = List.replicate ns.length 0 := by
  apply List.ext_getElem
  · simp [numTo]
  · intro i h1 h2; simp [numTo]
theorem numTo_len (ns : List Bool) (k : Nat) : (numTo ns k).length = ns.length := by simp [numTo]
theorem numTo_all (ns : List Bool) : numTo ns ns.length = numV ns := by
  unfold numTo numV
  apply List.map_congr_left
  intro k hk
  have := List.mem_range.1 hk
  simp [this]
theorem numTo_no (ns : List Bool) (k : Nat) (h : ns.getD k false = false) : numTo ns (k + 1) = numTo ns k := by
  unfold numTo
  apply List.map_congr_left
  intro j _
  by_cases e : j = k
  · subst e; rw [h]; simp
  · have : (j < k + 1) = (j < k) := by apply propext; omega
    simp only [this]
theorem numTo_yes (ns : List Bool) (k : Nat) (hk : k < ns.length) (h : ns.getD k false = true) : numTo ns (k + 1) = (numTo ns k).set k ((cntV ns (k + 1) : Nat) : Int) := by
  apply List.ext_getElem
  · simp [numTo]
  · intro j h1 h2
    rw [List.getElem_set]
    by_cases e : k = j
    · subst e
      rw [if_pos rfl]
      simp only [numTo, List.getElem_map, List.getElem_range]
      rw [if_pos ⟨h, by omega⟩]
    · rw [if_neg e]
      simp only [numTo, List.getElem_map, List.getElem_range]
      have : (j < k + 1) = (j < k) := by apply propext; omega
      simp only [this]
end Go.Proofs.Ytiimkhnngpfnbaa
/- The program's renumber. -/
namespace Go.Proofs.Ytiimkhnngpfnbaa
open Go.RowKit
set_option linter.unusedVariables false
set_option linter.unusedSimpArgs false
set_option linter.unnecessarySimpa false
/-- a copy: it lies in memory of its own -/
theorem clone_any (a : Option Addr) (cap : Nat) (l : List Int) (w : World) (h : ValRow w (.slice a l.length cap) (intVals l)) (hl : l.length ≤ 1000000) :
    Calls Try.prog 29 #[.slice a l.length cap] w fun e w' => ∃ a' n c', e = .returned (.slice a' n c') ∧ Below w.heap.size w w' ∧ ∀ w2, Near (fun b => b < w.heap.size) w' w2 → n = l.length ∧ ValRow w2 (.slice a' n c') (intVals l) := by
  cases a with
  | none =>
    have hc : l = [] := by
      rcases h with ⟨_, _, _, h2⟩ | ⟨b, off, cap', h1, _⟩
      · simpa [intVals] using h2
      · simp at h1
    subst hc
    refine (Try.slices_Clone_int_nil _ cap w).mono ?_
    rintro e w' ⟨rfl, rfl⟩
    exact ⟨none, 0, 0, rfl, Below.refl _ _, fun w2 _ => ⟨rfl, .inl ⟨_, _, rfl, rfl⟩⟩⟩
  | some ad =>
    refine (clone_some ad cap l w h hl).mono ?_
    rintro e w' ⟨g, cp, rfl, ho, hb⟩
    exact ⟨_, _, _, rfl, hb, fun w2 h2 => ⟨rfl, ho.row.near h2 (by have := ho.bg; omega)⟩⟩
/-- a step being made: what lies in its variable -/
structure CopyAt (w4 wx : World) (b : Nat) (x : StepD) (v1 v3 : Value) : Prop where
  be : Below w4.heap.size w4 wx
  lo : w4.heap.size ≤ b
  var : VarAt wx b [v1, .slice none 0 0, v3]
  r1 : ∀ w', Near (fun c => c = b ∨ c < w4.heap.size) wx w' → ValRow w' v1 (intVals x.cl)
  r3 : ∀ w', Near (fun c => c = b ∨ c < w4.heap.size) wx w' → ValRow w' v3 (intVals x.on)
theorem near_to {wa W w' : World} {b m m' : Nat} (h1 : Below wa.heap.size wa W) (h2 : Near (fun c => c = b ∨ c < m) W w') (hb : wa.heap.size ≤ b ∨ b < m') (hm : m ≤ m') : Near (fun c => c < m') wa w' :=
  ⟨h2.os.trans h1.os, h2.tape.trans h1.tape, h2.output.trans h1.output, Nat.le_trans h1.size h2.size, fun c hc hn => by
    rw [h2.block c (Nat.lt_of_lt_of_le hc h1.size) (by omega)]
    exact h1.block c hc⟩
theorem copy_fin {w4 W : World} {b : Nat} {x : StepD} {v1 v3 n0 n1 n2 : Value} (hb : Below w4.heap.size w4 W) (lo : w4.heap.size ≤ b) (hv : VarAt W b [n0, n1, n2])
    (r1 : ∀ w', Near (fun c => c = b ∨ c < w4.heap.size) W w' → ValRow w' v1 (intVals x.cl)) (r3 : ∀ w', Near (fun c => c = b ∨ c < w4.heap.size) W w' → ValRow w' v3 (intVals x.on)) :
    CopyAt w4 (((W.setCell ⟨b, 0, none⟩ v1).setCell ⟨b, 1, none⟩ (.slice none 0 0)).setCell ⟨b, 2, none⟩ v3) b x v1 v3 := by
  have hN : Near (fun c => c = b ∨ c < w4.heap.size) W (((W.setCell ⟨b, 0, none⟩ v1).setCell ⟨b, 1, none⟩ (.slice none 0 0)).setCell ⟨b, 2, none⟩ v3) :=
    ((near_setCell _ _ _ (.inl rfl)).trans (near_setCell _ _ _ (.inl rfl))).trans (near_setCell _ _ _ (.inl rfl))
  exact ⟨((hb.setCell (p := ⟨b, 0, none⟩) lo _).setCell (p := ⟨b, 1, none⟩) lo _).setCell (p := ⟨b, 2, none⟩) lo _, lo, ((hv.set 0 (by simp) _).set 1 (by simp) _).set 2 (by simp) _, fun w' h => r1 w' (hN.trans h), fun w' h => r3 w' (hN.trans h)⟩
/-- the numbers of a step being made, as they come -/
structure MakeAt (wy wq : World) (b : Nat) (v1 u v3 : Value) (l : List Int) : Prop where
  near : Near (fun c => c = b) wy wq
  var : VarAt wq b [v1, u, v3]
  own : wq.ownsRow wy.heap.size 3 1 u l.length (intVals l)
  lt : b < wy.heap.size
theorem MakeAt.app {wy wq wa w8 : World} {b : Nat} {v1 u v3 u' : Value} {l : List Int} {y : Int} (h : MakeAt wy wq b v1 u v3 l) (hb : Below wq.heap.size wq wa) (hne : u.ownBlock ≠ some b) (ha : Appd wa w8 wy.heap.size 3 u u' l.length (intVals l) (intVals [y])) :
    MakeAt wy (w8.setCell ⟨b, 1, none⟩ u') b v1 u' v3 (l ++ [y]) ∧ w8.cell? ⟨b, 1, none⟩ = some u ∧ w8.frozen? ⟨b, 1, none⟩ = false ∧ Near (fun c => c = b) wy w8 := by
  have hvar : VarAt w8 b [v1, u, v3] := (h.var.after hb).grown ha.grow hne
  have hsz := h.near.size
  have hn : Near (fun c => c = b) wy w8 := by
    have hown := ownsRow_below h.own hb
    have h2 : Near (fun c => c = b ∨ wy.heap.size ≤ c) wy w8 := (h.near.trans (near_of_below _ hb)).mono (fun _ _ e => .inl e) |>.trans (near_of_grown ha.grow (fun c e => .inr (row_block hown e).1))
    exact h2.mono (fun c hc e => e.elim id (fun e => absurd e (by omega)))
  have hne' : u'.ownBlock ≠ some b := by
    rcases ha.at_ with g | g
    · rw [g]; exact hne
    · rw [g]
      intro e
      injection e with e
      have := hb.size
      have := h.lt
      omega
  refine ⟨⟨hn.trans (near_setCell _ _ _ rfl), hvar.set 1 (by simp) _, ?_, h.lt⟩, hvar.get 1 rfl, hvar.free 1, hn⟩
  rw [intVals_app, List.length_append]
  have := ha.own
  rw [intVals_length] at this
  exact row_set this hne' _
def frS (many k : Nat) (nm : List Int) (fr : List Int) : List Int := fr.map fun z => if okFrom many k z then nm.getD z.toNat 0 else 0
theorem frS_snoc (many k : Nat) (nm fr : List Int) (z : Int) : frS many k nm (fr ++ [z]) = frS many k nm fr ++ [if okFrom many k z then nm.getD z.toNat 0 else 0] := by simp [frS]
theorem frS_len (many k : Nat) (nm fr : List Int) : (frS many k nm fr).length = fr.length := by simp [frS]
def renTo (many : Nat) (nm : List Int) (L : List StepD) : Nat → List StepD
  | 0 => []
  | k + 1 => renTo many nm L k ++ (if nm.getD (many + k + 1) 0 = 0 then [] else [renS many k nm (L.getD k default)])
theorem renTo_len (many : Nat) (nm : List Int) (L : List StepD) : ∀ k, (renTo many nm L k).length ≤ k := by
  intro k
  induction k with
  | zero => exact Nat.le_refl _
  | succ k ih => unfold renTo; rw [List.length_append]; split <;> simp <;> omega
theorem renV_to (many : Nat) (nm : List Int) (L : List StepD) : ∀ k, k ≤ L.length → renTo many nm L k ++ renV many nm (L.drop k) k = renV many nm L 0 := by
  intro k
  induction k with
  | zero => intro _; simp [renTo]
  | succ k ih =>
    intro hk
    rw [← ih (by omega), List.drop_eq_getElem_cons (show k < L.length by omega)]
    have e : L.getD k default = L[k]'(by omega) := by simp [show k < L.length by omega]
    conv => lhs; unfold renTo
    conv => rhs; unfold renV
    rw [e]
    split <;> simp
theorem renV_all (many : Nat) (nm : List Int) (L : List StepD) : renTo many nm L L.length = renV many nm L 0 := by
  have := renV_to many nm L L.length (Nat.le_refl _)
  rw [List.drop_length] at this
  rw [← this]; simp [renV]
set_option maxRecDepth 100000 in
set_option maxHeartbeats 6400000 in
theorem renumber_any (many : Nat) (sa : Option Addr) (sc : Nat) (L : List StepD) (na : Option Addr) (nc : Nat) (nm : List Int) (w : World) (hS : RowOf 3 StepC w (.slice sa L.length sc) L) (hN : ValRow w (.slice na nm.length nc) (intVals nm))
    (hm : many ≤ 1000) (hl : L.length ≤ 1000) (hnl : nm.length = many + L.length + 1) (hnb : ∀ v ∈ nm, 0 ≤ v ∧ v ≤ 100000) (hsh : ∀ x ∈ L, x.cl.length ≤ 1000 ∧ x.fr.length ≤ 1000 ∧ x.on.length ≤ 1000) :
    Calls Try.prog 19 #[.int .i64 many, .slice sa L.length sc, .slice na nm.length nc] w (StepsOf w (renTo many nm L L.length)) := by
  have HS := Lib.hid hS
  have HN := Lib.hid hN
  have HNB := Lib.hid hnb
  have HSH := Lib.hid hsh
  have HNL := Lib.hid hnl
  clear hS hN hnb hsh
  obtain ⟨i0, hi0, hz0, hz1, hz2⟩ := info_parts' infoSol
  have HI0 := Lib.hid hi0
  have HZ0 := Lib.hid hz0
  have HZ1 := Lib.hid hz1
  have HZ2 := Lib.hid hz2
  clear hi0 hz0 hz1 hz2
  obtain ⟨ii, hi0, hz0, hz1, hz2⟩ := info_parts' infoI
  have HII := Lib.hid hi0
  have HY0 := Lib.hid hz0
  have HY1 := Lib.hid hz1
  have HY2 := Lib.hid hz2
  clear hi0 hz0 hz1 hz2
  obtain ⟨nl, hnl2⟩ : ∃ nl, nm.length = nl := ⟨_, rfl⟩
  have HNL2 := Lib.hid hnl2
  rw [hnl2] at hnl ⊢
  clear hnl2
  go_enter Try.func19, Try.ntmps19
  go_wp2_with fail
  go_loopw [7, 15] (fun s i wr => ∃ k : Nat, i = .int .i64 k ∧ k ≤ L.length ∧ OwnOf 3 StepC (fun _ => False) wr w.heap.size 42 s (renTo many nm L k) ∧ Below w.heap.size w wr) (fun _ i _ => L.length - (intOf i).toNat)
  case atStart => exact ⟨0, rfl, Nat.zero_le _, ownOf_nil _ _ _ _ _ _, Below.refl _ _⟩
  case round =>
    obtain ⟨k, rfl, hk, hO, hbe⟩ := hrel
    have HO := Lib.hid hO
    have HBE0 := Lib.hid hbe
    have k0 : (0 : Int) ≤ (k : Int) := by omega
    obtain ⟨oa, oc, rfl⟩ := hO.shape
    clear hO hbe
    by_cases hlt : k < L.length
    · have k1 : (k : Int) < (L.length : Int) := by omega
      have hdk : decide (k < L.length) = true := decide_eq_true hlt
      obtain ⟨x, hx⟩ : ∃ x, L.getD k default = x := ⟨_, rfl⟩
      have HXM : Hid (x.cl.length ≤ 1000 ∧ x.fr.length ≤ 1000 ∧ x.on.length ≤ 1000) := Lib.hid (by
        rw [← hx, show L.getD k default = L[k] from by simp [hlt]]
        exact HSH.out _ (List.getElem_mem hlt))
      obtain ⟨b, off, a1, c1, a2, c2, a3, c3, rfl, hbw, hc1, hc2, hc3, r1, r2, r3, j1, j2, j3⟩ := steps_row (HS.out.below stepC_lasts HBE0.out) k hlt x hx
      have HX := Lib.hid hx
      have hkn : many + k + 1 < nm.length := by rw [HNL.out]; omega
      obtain ⟨nb, no, rfl, hnbw, hcn⟩ := int_at (HN.out.below HBE0.out) (many + k + 1) hkn
      obtain ⟨v, hv⟩ : ∃ v, nm.getD (many + k + 1) 0 = v := ⟨_, rfl⟩
      have HV := Lib.hid hv
      rw [hv] at hcn
      have hmk : ((many : Int) + (k : Int) + 1) = ((many + k + 1 : Nat) : Int) := by omega
      have hmkt : ((many : Int) + (k : Int) + 1).toNat = many + k + 1 := by omega
      have m1 : (0 : Int) ≤ (many : Int) + (k : Int) + 1 := by omega
      have m2 : (many : Int) + (k : Int) + 1 < (nl : Int) := by rw [hnl]; omega
      have HR1 := Lib.hid r1
      have HR2 := Lib.hid r2
      have HR3 := Lib.hid r3
      clear r1 r2 r3 hx hv hkn hmk
      have HNLE := Lib.hid hnl
      clear hnl
      go_upto_region 5 with (fail)
      have hb4 := below_lit wr (.cells #[.slice a1 x.cl.length c1, .slice a2 x.fr.length c2, .slice a3 x.on.length c3] 42)
      have V9 := Lib.hid (varAt_new wr #[.slice a1 x.cl.length c1, .slice a2 x.fr.length c2, .slice a3 x.on.length c3] 42 _ rfl)
      have HBW4 := Lib.hid (HBE0.out.trans (hb4.mono HBE0.out.size))
      have R1 := Lib.hid (HR1.out.below hb4)
      have R2 := Lib.hid (HR2.out.below hb4)
      have R3 := Lib.hid (HR3.out.below hb4)
      have HO4 := Lib.hid (HO.out.below hb4)
      have hcn4 := (hb4.cell (p := ⟨nb, no + (many + k + 1), none⟩) hnbw).trans hcn
      have HN4 := Lib.hid ((HN.out.below HBE0.out).below hb4)
      have hsz4 : (wr.alloc (.cells #[.slice a1 x.cl.length c1, .slice a2 x.fr.length c2, .slice a3 x.on.length c3] 42)).heap.size = wr.heap.size + 1 := by simp
      obtain ⟨w4, hw4⟩ : ∃ w4, wr.alloc (.cells #[.slice a1 x.cl.length c1, .slice a2 x.fr.length c2, .slice a3 x.on.length c3] 42) = w4 := ⟨_, rfl⟩
      obtain ⟨b9, hb9⟩ : ∃ b9, wr.heap.size = b9 := ⟨_, rfl⟩
      rw [hw4] at V9 HBW4 R1 R2 R3 HO4 hcn4 HN4 hsz4 ⊢
      rw [hb9] at V9 hsz4 ⊢
      have HSZ4 := Lib.hid hsz4
      clear hb4 hw4 hcn HR1 HR2 HR3 hc1 hc2 hc3 hsz4
      by_cases hv0 : v = 0
      · have e0 := iet hv0
        have HNX : Hid (renTo many nm L (k + 1) = renTo many nm L k) := Lib.hid (by
          show renTo many nm L k ++ _ = _
          rw [HV.out, if_pos hv0, List.append_nil])
        clear hv0
        go_wp2_with fail
        go_roundw
        case rel => exact ⟨k + 1, by go_num, by omega, by rw [HNX.out]; exact HO4.out, HBW4.out⟩
        case measure => simp [intOf]; omega
      · have e0 := ief hv0
        have HNX : Hid (renTo many nm L (k + 1) = renTo many nm L k ++ [renS many k nm x]) := Lib.hid (by
          show renTo many nm L k ++ _ = _
          rw [HV.out, if_neg hv0, HX.out])
        clear hv0
        go_upto_region 6 with (fail)
        go_cut [10] (fun p wx => ∃ b10 v1 v3, p = .pointer (some ⟨b10, 0, none⟩) ∧ CopyAt w4 wx b10 x v1 v3)
        case first =>
          have SK : Hid (∀ w', Below w4.heap.size w4 w' → w'.cell? ⟨b9, 0, none⟩ = some (.slice a1 x.cl.length c1) ∧ w'.cell? ⟨b9, 2, none⟩ = some (.slice a3 x.on.length c3)) := Lib.hid (fun w' hb => ⟨(V9.out.after hb).get 0 rfl, (V9.out.after hb).get 2 rfl⟩)
          have HBD : Hid (Below w4.heap.size w4 w4.drew) := Lib.hid (Below.drew (Below.refl _ _))
          have HBE : Hid (Below w4.heap.size w4 (w4.alloc (.cells #[.slice none 0 0, .slice none 0 0, .slice none 0 0] 42)).drew) := Lib.hid (Below.drew ((Below.refl _ _).alloc (Nat.le_refl _) _))
          have hl1 := HXM.out.1
          have hl3 := HXM.out.2.2
          refine held_start (S := fun w' => w'.cell? ⟨b9, 0, none⟩ = some (.slice a1 x.cl.length c1) ∧ w'.cell? ⟨b9, 2, none⟩ = some (.slice a3 x.on.length c3)) 9 (by rfl) (by kernel_rfl) ?_ (fun hS0 => ?_)
          · (refine SK.out _ ?_; repeat (first | assumption | exact HBD.out | exact HBE.out | refine Below.alloc ?_ (by first | exact Nat.le_refl _ | omega) _ | refine Below.setCell ?_ (by first | exact Nat.le_refl _ | (simp; omega) | omega) _))
          refine held_take 0 (some 28) ?_ 8 rfl rfl (by kernel_rfl) (by kernel_rfl) (by kernel_rfl) (fun _ _ _ h => h) (by rfl) ?_ hS0 ?_
          rotate_left
          · intro wz hSw
            (try dsimp only at hSw)
            go_simp
            (try with_reducible rfl)
          (try simp only [Act.put, List.setIfInBounds_toArray, List.set_cons_zero, List.set_cons_succ])
          refine held_take 1 (some 29) ?_ 7 rfl rfl (by kernel_rfl) (by kernel_rfl) (by kernel_rfl) (fun _ _ _ h => h) (by rfl) ?_ hS0 ?_
          rotate_left
          · intro wz hSw
            (try dsimp only at hSw)
            go_simp
            (try with_reducible rfl)
          (try simp only [Act.put, List.setIfInBounds_toArray, List.set_cons_zero, List.set_cons_succ])
          refine held_take 3 (some 31) ?_ 6 rfl rfl (by kernel_rfl) (by kernel_rfl) (by kernel_rfl) (fun _ _ _ h => h) (by rfl) ?_ hS0 ?_
          rotate_left
          · intro wz hSw
            (try dsimp only at hSw)
            go_simp
            (try with_reducible rfl)
          (try simp only [Act.put, List.setIfInBounds_toArray, List.set_cons_zero, List.set_cons_succ])
          refine held_take 4 (some 32) ?_ 5 rfl rfl (by kernel_rfl) (by kernel_rfl) (by kernel_rfl) (fun _ _ _ h => h) (by rfl) ?_ hS0 ?_
          rotate_left
          · intro wz hSw
            (try dsimp only at hSw)
            go_simp
            (try with_reducible rfl)
          (try simp only [Act.put, List.setIfInBounds_toArray, List.set_cons_zero, List.set_cons_succ])
          refine held_branch [2, 7] 4 (by kernel_rfl) ?_
          refine held_cons 2 4 rfl (by rfl) (fun K hK => ?_) ?_
          · skip
            go_simp
            (refine (clone_any _ _ x.cl _ (R1.out.below (by first | exact HBD.out | exact HBE.out)) (by omega)).mono ?_; rintro e wa ⟨va, na, ca, rfl, hba, hra⟩; have HBa : Below w4.heap.size w4 wa := (by first | exact HBD.out.trans hba | exact HBE.out.trans (hba.mono HBE.out.size)); have HRA := Lib.hid hra; have hsa := HBa.size; clear hra)
            go_wp2_with fail
            refine hK.out _ _ ?_ (fun hS4 => ?_)
            · (refine SK.out _ ?_; repeat (first | assumption | exact HBD.out | exact HBE.out | refine Below.alloc ?_ (by first | exact Nat.le_refl _ | omega) _ | refine Below.setCell ?_ (by first | exact Nat.le_refl _ | (simp; omega) | omega) _))
            clear hK K
            refine held_branch [5, 7] 3 (by kernel_rfl) ?_
            refine held_cons 5 3 rfl (by rfl) (fun K hK => ?_) ?_
            · skip
              go_simp
              (refine (clone_any _ _ x.on _ (R3.out.below (by first | exact HBa | exact HBa.alloc HBa.size _)) (by omega)).mono ?_; rintro e wc ⟨vc, nc, cc, rfl, hbc, hrc⟩; have HBc : Below w4.heap.size w4 wc := (by first | exact HBa.trans (hbc.mono HBa.size) | exact (HBa.alloc HBa.size _).trans (hbc.mono (HBa.alloc HBa.size _).size)); have HRC := Lib.hid hrc; have hsc := HBc.size; clear hrc; (try (have vz := (varAt_new wa #[.slice none 0 0, .slice none 0 0, .slice none 0 0] 42 _ rfl).after hbc; have z0 := vz.get 0 rfl; have z1 := vz.get 1 rfl; have z2 := vz.get 2 rfl; have zz := vz.free)); (try (have vz := (((varAt_new w4 #[.slice none 0 0, .slice none 0 0, .slice none 0 0] 42 _ rfl).drew).after hba).after hbc; have z0 := vz.get 0 rfl; have z1 := vz.get 1 rfl; have z2 := vz.get 2 rfl; have zz := vz.free)))
              go_wp2_with fail
              refine hK.out _ _ ?_ (fun hS5 => ?_)
              · (refine SK.out _ ?_; repeat (first | assumption | exact HBD.out | exact HBE.out | refine Below.alloc ?_ (by first | exact Nat.le_refl _ | omega) _ | refine Below.setCell ?_ (by first | exact Nat.le_refl _ | (simp; omega) | omega) _))
              clear hK K
              refine held_take 6 (some 34) ?_ 2 rfl rfl (by kernel_rfl) (by kernel_rfl) (by kernel_rfl) (fun _ _ _ h => h) (by rfl) ?_ hS5 ?_
              rotate_left
              · intro wz hSw
                (try dsimp only at hSw)
                go_simp
                (try with_reducible rfl)
              (try simp only [Act.put, List.setIfInBounds_toArray, List.set_cons_zero, List.set_cons_succ])
              refine held_call 7 1 rfl (by kernel_rfl) (by rfl) (fun K hK => ?_)
              go_simp
              refine hK.out _ _ ?_ (fun hS7 => ?_)
              · (refine SK.out _ ?_; repeat (first | assumption | exact HBD.out | exact HBE.out | refine Below.alloc ?_ (by first | exact Nat.le_refl _ | omega) _ | refine Below.setCell ?_ (by first | exact Nat.le_refl _ | (simp; omega) | omega) _))
              clear hK K
              refine held_call 8 0 rfl (by kernel_rfl) (by rfl) (fun K hK => ?_)
              go_simp
              refine hK.out _ _ ?_ (fun hS8 => ?_)
              · (refine SK.out _ ?_; repeat (first | assumption | exact HBD.out | exact HBE.out | refine Below.alloc ?_ (by first | exact Nat.le_refl _ | omega) _ | refine Below.setCell ?_ (by first | exact Nat.le_refl _ | (simp; omega) | omega) _))
              clear hK K
              refine wpAnyH_done (by kernel_rfl) ?_ _
              go_wp2_with fail
              go_meet
              first
                | exact ⟨_, _, _, rfl, ⟨HBc.alloc HBc.size _, HBc.size, varAt_new wc _ _ _ rfl, (fun w' h => (HRA.out w' (near_to (hbc.alloc hbc.size _) h (.inl hbc.size) (Nat.le_refl _))).2), (fun w' h => (HRC.out w' (near_to (below_lit wc _) h (.inl (Nat.le_refl _)) hsa)).2)⟩⟩
                | exact ⟨_, _, _, rfl, copy_fin HBc hsa vz (fun w' h => (HRA.out w' (near_to ((below_lit wa _).trans (hbc.mono (by simp))) h (.inl (Nat.le_refl _)) (Nat.le_refl _))).2) (fun w' h => (HRC.out w' (near_to (Below.refl _ _) h (.inr (by simp)) (by simp; omega))).2)⟩
                | exact ⟨_, _, _, rfl, copy_fin HBc (Nat.le_refl _) vz (fun w' h => (HRA.out w' (near_to hbc h (.inr (by simp)) (by simp))).2) (fun w' h => (HRC.out w' (near_to (Below.refl _ _) h (.inr (by have := hba.size; simp at this; omega)) hsa)).2)⟩
            refine held_cons 7 3 rfl (by rfl) (fun K hK => ?_) ?_
            · skip
              go_simp
              refine hK.out _ _ ?_ (fun hS5 => ?_)
              · (refine SK.out _ ?_; repeat (first | assumption | exact HBD.out | exact HBE.out | refine Below.alloc ?_ (by first | exact Nat.le_refl _ | omega) _ | refine Below.setCell ?_ (by first | exact Nat.le_refl _ | (simp; omega) | omega) _))
              clear hK K
              refine held_call 5 2 rfl (by kernel_rfl) (by rfl) (fun K hK => ?_)
              go_simp
              (refine (clone_any _ _ x.on _ (R3.out.below (by first | exact HBa | exact HBa.alloc HBa.size _)) (by omega)).mono ?_; rintro e wc ⟨vc, nc, cc, rfl, hbc, hrc⟩; have HBc : Below w4.heap.size w4 wc := (by first | exact HBa.trans (hbc.mono HBa.size) | exact (HBa.alloc HBa.size _).trans (hbc.mono (HBa.alloc HBa.size _).size)); have HRC := Lib.hid hrc; have hsc := HBc.size; clear hrc; (try (have vz := (varAt_new wa #[.slice none 0 0, .slice none 0 0, .slice none 0 0] 42 _ rfl).after hbc; have z0 := vz.get 0 rfl; have z1 := vz.get 1 rfl; have z2 := vz.get 2 rfl; have zz := vz.free)); (try (have vz := (((varAt_new w4 #[.slice none 0 0, .slice none 0 0, .slice none 0 0] 42 _ rfl).drew).after hba).after hbc; have z0 := vz.get 0 rfl; have z1 := vz.get 1 rfl; have z2 := vz.get 2 rfl; have zz := vz.free)))
              go_wp2_with fail
              refine hK.out _ _ ?_ (fun hS6 => ?_)
              · (refine SK.out _ ?_; repeat (first | assumption | exact HBD.out | exact HBE.out | refine Below.alloc ?_ (by first | exact Nat.le_refl _ | omega) _ | refine Below.setCell ?_ (by first | exact Nat.le_refl _ | (simp; omega) | omega) _))
              clear hK K
              refine held_take 6 (some 34) ?_ 1 rfl rfl (by kernel_rfl) (by kernel_rfl) (by kernel_rfl) (fun _ _ _ h => h) (by rfl) ?_ hS6 ?_
              rotate_left
              · intro wz hSw
                (try dsimp only at hSw)
                go_simp
                (try with_reducible rfl)
              (try simp only [Act.put, List.setIfInBounds_toArray, List.set_cons_zero, List.set_cons_succ])
              refine held_call 8 0 rfl (by kernel_rfl) (by rfl) (fun K hK => ?_)
              go_simp
              refine hK.out _ _ ?_ (fun hS8 => ?_)
              · (refine SK.out _ ?_; repeat (first | assumption | exact HBD.out | exact HBE.out | refine Below.alloc ?_ (by first | exact Nat.le_refl _ | omega) _ | refine Below.setCell ?_ (by first | exact Nat.le_refl _ | (simp; omega) | omega) _))
              clear hK K
              refine wpAnyH_done (by kernel_rfl) ?_ _
              go_wp2_with fail
              go_meet
              first
                | exact ⟨_, _, _, rfl, ⟨HBc.alloc HBc.size _, HBc.size, varAt_new wc _ _ _ rfl, (fun w' h => (HRA.out w' (near_to (hbc.alloc hbc.size _) h (.inl hbc.size) (Nat.le_refl _))).2), (fun w' h => (HRC.out w' (near_to (below_lit wc _) h (.inl (Nat.le_refl _)) hsa)).2)⟩⟩
                | exact ⟨_, _, _, rfl, copy_fin HBc hsa vz (fun w' h => (HRA.out w' (near_to ((below_lit wa _).trans (hbc.mono (by simp))) h (.inl (Nat.le_refl _)) (Nat.le_refl _))).2) (fun w' h => (HRC.out w' (near_to (Below.refl _ _) h (.inr (by simp)) (by simp; omega))).2)⟩
                | exact ⟨_, _, _, rfl, copy_fin HBc (Nat.le_refl _) vz (fun w' h => (HRA.out w' (near_to hbc h (.inr (by simp)) (by simp))).2) (fun w' h => (HRC.out w' (near_to (Below.refl _ _) h (.inr (by have := hba.size; simp at this; omega)) hsa)).2)⟩
            exact AllReadyH.nil
          refine held_cons 7 4 rfl (by rfl) (fun K hK => ?_) ?_
          · skip
            go_simp
            refine hK.out _ _ ?_ (fun hS4 => ?_)
            · (refine SK.out _ ?_; repeat (first | assumption | exact HBD.out | exact HBE.out | refine Below.alloc ?_ (by first | exact Nat.le_refl _ | omega) _ | refine Below.setCell ?_ (by first | exact Nat.le_refl _ | (simp; omega) | omega) _))
            clear hK K
            refine held_call 2 3 rfl (by kernel_rfl) (by rfl) (fun K hK => ?_)
            go_simp
            (refine (clone_any _ _ x.cl _ (R1.out.below (by first | exact HBD.out | exact HBE.out)) (by omega)).mono ?_; rintro e wa ⟨va, na, ca, rfl, hba, hra⟩; have HBa : Below w4.heap.size w4 wa := (by first | exact HBD.out.trans hba | exact HBE.out.trans (hba.mono HBE.out.size)); have HRA := Lib.hid hra; have hsa := HBa.size; clear hra)
            go_wp2_with fail
            refine hK.out _ _ ?_ (fun hS5 => ?_)
            · (refine SK.out _ ?_; repeat (first | assumption | exact HBD.out | exact HBE.out | refine Below.alloc ?_ (by first | exact Nat.le_refl _ | omega) _ | refine Below.setCell ?_ (by first | exact Nat.le_refl _ | (simp; omega) | omega) _))
            clear hK K
            refine held_call 5 2 rfl (by kernel_rfl) (by rfl) (fun K hK => ?_)
            go_simp
            (refine (clone_any _ _ x.on _ (R3.out.below (by first | exact HBa | exact HBa.alloc HBa.size _)) (by omega)).mono ?_; rintro e wc ⟨vc, nc, cc, rfl, hbc, hrc⟩; have HBc : Below w4.heap.size w4 wc := (by first | exact HBa.trans (hbc.mono HBa.size) | exact (HBa.alloc HBa.size _).trans (hbc.mono (HBa.alloc HBa.size _).size)); have HRC := Lib.hid hrc; have hsc := HBc.size; clear hrc; (try (have vz := (varAt_new wa #[.slice none 0 0, .slice none 0 0, .slice none 0 0] 42 _ rfl).after hbc; have z0 := vz.get 0 rfl; have z1 := vz.get 1 rfl; have z2 := vz.get 2 rfl; have zz := vz.free)); (try (have vz := (((varAt_new w4 #[.slice none 0 0, .slice none 0 0, .slice none 0 0] 42 _ rfl).drew).after hba).after hbc; have z0 := vz.get 0 rfl; have z1 := vz.get 1 rfl; have z2 := vz.get 2 rfl; have zz := vz.free)))
            go_wp2_with fail
            refine hK.out _ _ ?_ (fun hS6 => ?_)
            · (refine SK.out _ ?_; repeat (first | assumption | exact HBD.out | exact HBE.out | refine Below.alloc ?_ (by first | exact Nat.le_refl _ | omega) _ | refine Below.setCell ?_ (by first | exact Nat.le_refl _ | (simp; omega) | omega) _))
            clear hK K
            refine held_take 6 (some 34) ?_ 1 rfl rfl (by kernel_rfl) (by kernel_rfl) (by kernel_rfl) (fun _ _ _ h => h) (by rfl) ?_ hS6 ?_
            rotate_left
            · intro wz hSw
              (try dsimp only at hSw)
              go_simp
              (try with_reducible rfl)
            (try simp only [Act.put, List.setIfInBounds_toArray, List.set_cons_zero, List.set_cons_succ])
            refine held_call 8 0 rfl (by kernel_rfl) (by rfl) (fun K hK => ?_)
            go_simp
            refine hK.out _ _ ?_ (fun hS8 => ?_)
            · (refine SK.out _ ?_; repeat (first | assumption | exact HBD.out | exact HBE.out | refine Below.alloc ?_ (by first | exact Nat.le_refl _ | omega) _ | refine Below.setCell ?_ (by first | exact Nat.le_refl _ | (simp; omega) | omega) _))
            clear hK K
            refine wpAnyH_done (by kernel_rfl) ?_ _
            go_wp2_with fail
            go_meet
            first
              | exact ⟨_, _, _, rfl, ⟨HBc.alloc HBc.size _, HBc.size, varAt_new wc _ _ _ rfl, (fun w' h => (HRA.out w' (near_to (hbc.alloc hbc.size _) h (.inl hbc.size) (Nat.le_refl _))).2), (fun w' h => (HRC.out w' (near_to (below_lit wc _) h (.inl (Nat.le_refl _)) hsa)).2)⟩⟩
              | exact ⟨_, _, _, rfl, copy_fin HBc hsa vz (fun w' h => (HRA.out w' (near_to ((below_lit wa _).trans (hbc.mono (by simp))) h (.inl (Nat.le_refl _)) (Nat.le_refl _))).2) (fun w' h => (HRC.out w' (near_to (Below.refl _ _) h (.inr (by simp)) (by simp; omega))).2)⟩
              | exact ⟨_, _, _, rfl, copy_fin HBc (Nat.le_refl _) vz (fun w' h => (HRA.out w' (near_to hbc h (.inr (by simp)) (by simp))).2) (fun w' h => (HRC.out w' (near_to (Below.refl _ _) h (.inr (by have := hba.size; simp at this; omega)) hsa)).2)⟩
          exact AllReadyH.nil

        case rest =>
          obtain ⟨b10, v1, v3, rfl, hcp⟩ := hcut
          obtain ⟨wy, hwy⟩ : ∃ wy, wy = wc := ⟨_, rfl⟩
          subst hwy
          have HCP := Lib.hid hcp
          have c9 := (V9.out.after hcp.be).get 1 rfl
          have hlo := hcp.lo
          have hbl := hcp.var.lt
          have HBWY : Hid (Below w.heap.size w wy) := Lib.hid (HBW4.out.trans (hcp.be.mono HBW4.out.size))
          have HMK0 : Hid (MakeAt wy wy b10 v1 (.slice none 0 0) v3 []) := Lib.hid ⟨Near.refl _ _, hcp.var, ⟨rfl, .inl ⟨rfl, rfl⟩⟩, hbl⟩
          have hl2 := HXM.out.2.1
          have hszw4 := HBW4.out.size
          clear hcp
          go_wp2_with fail
          go_loopw [38] (fun i wq => ∃ (q : Nat) (u : Value), i = .int .i64 q ∧ q ≤ x.fr.length ∧ MakeAt wy wq b10 v1 u v3 (frS many k nm (x.fr.take q))) (fun i _ => x.fr.length - (intOf i).toNat)
          case atStart => exact ⟨0, _, rfl, Nat.zero_le _, HMK0.out⟩
          case round =>
            obtain ⟨q, u, rfl, hq, hmk⟩ := hrel
            obtain ⟨wq, hwq⟩ : ∃ wq, wq = wr := ⟨_, rfl⟩
            subst hwq
            have HMK := Lib.hid hmk
            have hbq : Below w4.heap.size w4 wq := HCP.out.be.trans (hmk.near.below HCP.out.be.size (fun c e => by omega))
            have HBQ := Lib.hid hbq
            have q0 : (0 : Int) ≤ (q : Int) := by omega
            obtain ⟨l, hfl⟩ : ∃ l, frS many k nm (x.fr.take q) = l := ⟨_, rfl⟩
            have HFL := Lib.hid hfl
            have hll : l.length = q := by rw [← hfl, frS_len, List.length_take]; omega
            rw [hfl] at HMK hmk
            have hne : u.ownBlock ≠ some b10 := fun e => by have := (row_block hmk.own e).1; have := hmk.lt; omega
            have hwys := hmk.near.size
            by_cases hqt : q < x.fr.length
            · have q1 : (q : Int) < (x.fr.length : Int) := by omega
              have hdq : decide (q < x.fr.length) = true := decide_eq_true hqt
              obtain ⟨fb, fo, rfl, _, hcz⟩ := int_at (R2.out.below hbq) q hqt
              have e : x.fr.getD q 0 = x.fr[q] := by simp [hqt]
              have HTQ := Lib.hid (List.take_succ_eq_append_getElem hqt)
              have HZR := Lib.hid (j2 x.fr[q] (List.getElem_mem hqt))
              rw [← e] at HTQ HZR
              clear e
              obtain ⟨z, hz⟩ : ∃ z, x.fr.getD q 0 = z := ⟨_, rfl⟩
              rw [hz] at hcz HTQ HZR
              have HNX : Hid (frS many k nm (x.fr.take (q + 1)) = l ++ [if okFrom many k z then nm.getD z.toNat 0 else 0]) := Lib.hid (by rw [HTQ.out, frS_snoc, HFL.out])
              clear hz hfl
              by_cases hok : okFrom many k z = true
              · have hz2 := okFrom_iff.1 hok
                obtain ⟨zn, rfl⟩ := Int.eq_ofNat_of_zero_le (by omega : 0 ≤ z)
                have hzl : zn < nm.length := by rw [HNL.out]; omega
                obtain ⟨nb2, no2, e1, hnb2, hcy⟩ := int_at (HN4.out.below hbq) zn hzl
                simp only [Option.some.injEq, Addr.mk.injEq] at e1
                obtain ⟨rfl, rfl, _⟩ := e1
                obtain ⟨y, hy⟩ : ∃ y, nm.getD zn 0 = y := ⟨_, rfl⟩
                rw [hy] at hcy
                have HNX2 : Hid (frS many k nm (x.fr.take (q + 1)) = l ++ [y]) := Lib.hid (by rw [HNX.out, if_pos hok, Int.toNat_natCast, hy])
                have d1 : decide ((1 : Int) ≤ (zn : Int)) = true := decide_eq_true (by omega)
                have d1' : decide (1 ≤ zn) = true := decide_eq_true (by omega)
                have d2 : decide ((zn : Int) ≤ (many : Int) + (k : Int)) = true := decide_eq_true (by omega)
                have z1 : (0 : Int) ≤ (zn : Int) := by omega
                have z2 : (zn : Int) < (nl : Int) := by rw [HNLE.out]; omega
                obtain ⟨nb3, no3, e1, hnb3, hcy3⟩ := int_at HN4.out zn hzl
                simp only [Option.some.injEq, Addr.mk.injEq] at e1
                obtain ⟨rfl, rfl, _⟩ := e1
                rw [hy] at hcy3
                have SK : Hid (∀ w', Below w4.heap.size w4 w' → w'.cell? ⟨nb, no + zn, none⟩ = some (.int .i64 y)) := Lib.hid (fun w' hb => (hb.cell (p := ⟨nb, no + zn, none⟩) hnb3).trans hcy3)
                obtain ⟨ua, uc, rfl⟩ := (valRow_own hmk.own).shape
                rw [intVals_length] at HMK hmk hne
                have cu := hmk.var.get 1 rfl
                have hblq := hmk.var.lt
                have HBU := Lib.hid hne
                have HBL : Hid (Below wq.heap.size wq (wq.alloc (.cells #[.int .i64 y] 3)).drew) := Lib.hid (Below.drew (below_lit _ _))
                have HBD : Hid (Below w4.heap.size w4 wq.drew) := Lib.hid (Below.drew hbq)
                have HBL4 : Hid (Below w4.heap.size w4 (wq.alloc (.cells #[.int .i64 y] 3)).drew) := Lib.hid (Below.drew (hbq.alloc hbq.size _))
                have HFR : Hid (ValRow (wq.alloc (.cells #[.int .i64 y] 3)).drew (.slice (some ⟨wq.heap.size, 0, none⟩) 1 1) (intVals [y])) := Lib.hid (fresh_row wq (.int .i64 y) 3 _ rfl)
                have HBS : Hid (wy.heap.size ≤ ((wq.alloc (.cells #[.int .i64 y] 3)).drew).heap.size) := Lib.hid (by have := HBL.out.size; omega)
                have HLLN : Hid (l.length ≤ 1000) := Lib.hid (by omega)
                clear hmk hbq hcy hcy3 hne hy hll
                go_upto_region 11 with (fail)
                refine held_start (S := fun w' => w'.cell? ⟨nb, no + zn, none⟩ = some (.int .i64 y)) 10 (by rfl) (by kernel_rfl) ?_ (fun hS0 => ?_)
                · first | with_reducible exact SK.out _ HB9 | with_reducible exact SK.out _ HB8 | exact SK.out _ HBD.out | exact SK.out _ HBL4.out
                refine held_take 0 (some 51) ?_ 9 rfl rfl (by kernel_rfl) (by kernel_rfl) (by kernel_rfl) (fun _ _ _ h => h) (by rfl) ?_ hS0 ?_
                rotate_left
                · intro wz hSw
                  (try dsimp only at hSw)
                  go_simp
                  (try with_reducible rfl)
                (try simp only [Act.put, List.setIfInBounds_toArray, List.set_cons_zero, List.set_cons_succ])
                refine held_take 2 (some 53) ?_ 8 rfl rfl (by kernel_rfl) (by kernel_rfl) (by kernel_rfl) (fun _ _ _ h => h) (by rfl) ?_ hS0 ?_
                rotate_left
                · intro wz hSw
                  (try dsimp only at hSw)
                  go_simp
                  (try with_reducible rfl)
                (try simp only [Act.put, List.setIfInBounds_toArray, List.set_cons_zero, List.set_cons_succ])
                refine held_take 3 (some 54) ?_ 7 rfl rfl (by kernel_rfl) (by kernel_rfl) (by kernel_rfl) (fun _ _ _ h => h) (by rfl) ?_ hS0 ?_
                rotate_left
                · intro wz hSw
                  (try dsimp only at hSw)
                  go_simp
                  (try with_reducible rfl)
                (try simp only [Act.put, List.setIfInBounds_toArray, List.set_cons_zero, List.set_cons_succ])
                refine held_take 4 (some 55) ?_ 6 rfl rfl (by kernel_rfl) (by kernel_rfl) (by kernel_rfl) (fun _ _ _ h => h) (by rfl) ?_ hS0 ?_
                rotate_left
                · intro wz hSw
                  (try dsimp only at hSw)
                  go_simp
                  (try with_reducible rfl)
                (try simp only [Act.put, List.setIfInBounds_toArray, List.set_cons_zero, List.set_cons_succ])
                refine held_take 5 (some 56) ?_ 5 rfl rfl (by kernel_rfl) (by kernel_rfl) (by kernel_rfl) (fun _ _ _ h => h) (by rfl) ?_ hS0 ?_
                rotate_left
                · intro wz hSw
                  (try dsimp only at hSw)
                  go_simp
                  (try with_reducible rfl)
                (try simp only [Act.put, List.setIfInBounds_toArray, List.set_cons_zero, List.set_cons_succ])
                refine held_branch [1, 6] 4 (by kernel_rfl) ?_
                refine held_cons 1 4 rfl (by rfl) (fun K hK => ?_) ?_
                · skip
                  go_simp
                  refine hK.out _ _ ?_ (fun hS5 => ?_)
                  · first | with_reducible exact SK.out _ HB9 | with_reducible exact SK.out _ HB8 | exact SK.out _ HBD.out | exact SK.out _ HBL4.out
                  clear hK K
                  refine held_call 6 3 rfl (by kernel_rfl) (by rfl) (fun K hK => ?_)
                  go_simp
                  refine hK.out _ _ ?_ (fun hS6 => ?_)
                  · first | with_reducible exact SK.out _ HB9 | with_reducible exact SK.out _ HB8 | exact SK.out _ HBD.out | exact SK.out _ HBL4.out
                  clear hK K
                  refine held_call 7 2 rfl (by kernel_rfl) (by rfl) (fun K hK => ?_)
                  (refine wp_app _ _ _ 27 rfl wy.heap.size 3 ii (.int .i64 0) 8 Try.underlying27 HII.out HY0.out HY1.out HY2.out rfl (.slice ua l.length uc) l.length (intVals l) rfl (ownsRow_below HMK.out.own HBL.out) (.slice (some ⟨wq.heap.size, 0, none⟩) 1 1) (intVals [y]) rfl HFR.out (intVals_one _) (by rw [intVals_length]; have := HLLN.out; unfold maxLen; simp; omega) (by rw [intVals_length]; have := HLLN.out; simp; omega) HBS.out ?_; intro v8 w8 ha8; obtain ⟨a8, n8, c8, rfl⟩ := ha8.shape; have HM8 := Lib.hid (HMK.out.app HBL.out HBU.out ha8); have f8 := HM8.out.2.1; have f9 := HM8.out.2.2.1; have HB8 : Below w4.heap.size w4 w8 := HCP.out.be.trans (HM8.out.2.2.2.below HCP.out.be.size (fun c e => by omega)); have HB9 := HCP.out.be.trans (HM8.out.1.near.below HCP.out.be.size (fun c e => by omega)); clear ha8)
                  (try simp only [Act.put, List.setIfInBounds_toArray, List.set_cons_zero, List.set_cons_succ])
                  refine hK.out _ _ ?_ (fun hS7 => ?_)
                  · first | with_reducible exact SK.out _ HB9 | with_reducible exact SK.out _ HB8 | exact SK.out _ HBD.out | exact SK.out _ HBL4.out
                  clear hK K
                  refine held_take 8 (some 59) ?_ 1 rfl rfl (by kernel_rfl) (by kernel_rfl) (by kernel_rfl) (fun _ _ _ h => h) (by rfl) ?_ hS7 ?_
                  rotate_left
                  · intro wz hSw
                    (try dsimp only at hSw)
                    go_simp
                    (try with_reducible rfl)
                  (try simp only [Act.put, List.setIfInBounds_toArray, List.set_cons_zero, List.set_cons_succ])
                  refine held_call 9 0 rfl (by kernel_rfl) (by rfl) (fun K hK => ?_)
                  go_simp
                  refine hK.out _ _ ?_ (fun hS9 => ?_)
                  · first | with_reducible exact SK.out _ HB9 | with_reducible exact SK.out _ HB8 | exact SK.out _ HBD.out | exact SK.out _ HBL4.out
                  clear hK K
                  refine wpAnyH_done (by kernel_rfl) ?_ _
                  go_wp2_with fail
                  go_roundw
                  case rel => exact ⟨q + 1, _, by go_num, by omega, by rw [HNX2.out]; exact HM8.out.1⟩
                  case measure => simp [intOf]; omega
                refine held_cons 6 4 rfl (by rfl) (fun K hK => ?_) ?_
                · skip
                  go_simp
                  refine hK.out _ _ ?_ (fun hS5 => ?_)
                  · first | with_reducible exact SK.out _ HB9 | with_reducible exact SK.out _ HB8 | exact SK.out _ HBD.out | exact SK.out _ HBL4.out
                  clear hK K
                  refine held_call 1 3 rfl (by kernel_rfl) (by rfl) (fun K hK => ?_)
                  go_simp
                  refine hK.out _ _ ?_ (fun hS6 => ?_)
                  · first | with_reducible exact SK.out _ HB9 | with_reducible exact SK.out _ HB8 | exact SK.out _ HBD.out | exact SK.out _ HBL4.out
                  clear hK K
                  refine held_call 7 2 rfl (by kernel_rfl) (by rfl) (fun K hK => ?_)
                  (refine wp_app _ _ _ 27 rfl wy.heap.size 3 ii (.int .i64 0) 8 Try.underlying27 HII.out HY0.out HY1.out HY2.out rfl (.slice ua l.length uc) l.length (intVals l) rfl (ownsRow_below HMK.out.own HBL.out) (.slice (some ⟨wq.heap.size, 0, none⟩) 1 1) (intVals [y]) rfl HFR.out (intVals_one _) (by rw [intVals_length]; have := HLLN.out; unfold maxLen; simp; omega) (by rw [intVals_length]; have := HLLN.out; simp; omega) HBS.out ?_; intro v8 w8 ha8; obtain ⟨a8, n8, c8, rfl⟩ := ha8.shape; have HM8 := Lib.hid (HMK.out.app HBL.out HBU.out ha8); have f8 := HM8.out.2.1; have f9 := HM8.out.2.2.1; have HB8 : Below w4.heap.size w4 w8 := HCP.out.be.trans (HM8.out.2.2.2.below HCP.out.be.size (fun c e => by omega)); have HB9 := HCP.out.be.trans (HM8.out.1.near.below HCP.out.be.size (fun c e => by omega)); clear ha8)
                  (try simp only [Act.put, List.setIfInBounds_toArray, List.set_cons_zero, List.set_cons_succ])
                  refine hK.out _ _ ?_ (fun hS7 => ?_)
                  · first | with_reducible exact SK.out _ HB9 | with_reducible exact SK.out _ HB8 | exact SK.out _ HBD.out | exact SK.out _ HBL4.out
                  clear hK K
                  refine held_take 8 (some 59) ?_ 1 rfl rfl (by kernel_rfl) (by kernel_rfl) (by kernel_rfl) (fun _ _ _ h => h) (by rfl) ?_ hS7 ?_
                  rotate_left
                  · intro wz hSw
                    (try dsimp only at hSw)
                    go_simp
                    (try with_reducible rfl)
                  (try simp only [Act.put, List.setIfInBounds_toArray, List.set_cons_zero, List.set_cons_succ])
                  refine held_call 9 0 rfl (by kernel_rfl) (by rfl) (fun K hK => ?_)
                  go_simp
                  refine hK.out _ _ ?_ (fun hS9 => ?_)
                  · first | with_reducible exact SK.out _ HB9 | with_reducible exact SK.out _ HB8 | exact SK.out _ HBD.out | exact SK.out _ HBL4.out
                  clear hK K
                  refine wpAnyH_done (by kernel_rfl) ?_ _
                  go_wp2_with fail
                  go_roundw
                  case rel => exact ⟨q + 1, _, by go_num, by omega, by rw [HNX2.out]; exact HM8.out.1⟩
                  case measure => simp [intOf]; omega
                exact AllReadyH.nil

              · have HNX2 : Hid (frS many k nm (x.fr.take (q + 1)) = l ++ [0]) := Lib.hid (by rw [HNX.out, if_neg hok])
                have hz2 : ¬ (1 ≤ z ∧ z ≤ ((many + k : Nat) : Int)) := fun h => hok (okFrom_iff.2 h)
                obtain ⟨ua, uc, rfl⟩ := (valRow_own hmk.own).shape
                rw [intVals_length] at HMK hmk hne
                have cu := hmk.var.get 1 rfl
                have hblq := hmk.var.lt
                have HBU := Lib.hid hne
                have HLLN : Hid (l.length ≤ 1000) := Lib.hid (by omega)
                have HBL := Lib.hid (below_lit wq (.cells #[.int .i64 0] 3))
                have HBS : Hid (wy.heap.size ≤ (wq.alloc (.cells #[.int .i64 0] 3)).heap.size) := Lib.hid (by have := HBL.out.size; omega)
                clear hmk hbq hne hll hok
                by_cases hz1 : 1 ≤ z
                · have d1 : decide ((1 : Int) ≤ z) = true := decide_eq_true hz1
                  have d2 : decide (z ≤ (many : Int) + (k : Int)) = false := decide_eq_false (by omega)
                  clear hz1 hz2
                  go_wp2_with (at_builtin; refine wpList_app _ rfl _ _ 27 rfl wy.heap.size 3 ii (.int .i64 0) 8 Try.underlying27 HII.out HY0.out HY1.out HY2.out rfl (.slice ua l.length uc) l.length (intVals l) rfl (ownsRow_below HMK.out.own HBL.out) (.slice (some ⟨wq.heap.size, 0, none⟩) 1 1) (intVals [0]) rfl (fresh_row _ _ _ _ rfl) (intVals_one _) (by rw [intVals_length]; have := HLLN.out; unfold maxLen; simp; omega) (by rw [intVals_length]; have := HLLN.out; simp; omega) HBS.out ?_)
                  intro v8 w8 ha8
                  obtain ⟨a8, n8, c8, rfl⟩ := ha8.shape
                  have HM8 := Lib.hid (HMK.out.app HBL.out HBU.out ha8)
                  have f8 := HM8.out.2.1
                  have f9 := HM8.out.2.2.1
                  clear ha8
                  go_wp2_with fail
                  go_roundw
                  case rel => exact ⟨q + 1, _, by go_num, by omega, by rw [HNX2.out]; exact HM8.out.1⟩
                  case measure => simp [intOf]; omega
                · have d1 : decide ((1 : Int) ≤ z) = false := decide_eq_false hz1
                  clear hz1 hz2
                  go_wp2_with (at_builtin; refine wpList_app _ rfl _ _ 27 rfl wy.heap.size 3 ii (.int .i64 0) 8 Try.underlying27 HII.out HY0.out HY1.out HY2.out rfl (.slice ua l.length uc) l.length (intVals l) rfl (ownsRow_below HMK.out.own HBL.out) (.slice (some ⟨wq.heap.size, 0, none⟩) 1 1) (intVals [0]) rfl (fresh_row _ _ _ _ rfl) (intVals_one _) (by rw [intVals_length]; have := HLLN.out; unfold maxLen; simp; omega) (by rw [intVals_length]; have := HLLN.out; simp; omega) HBS.out ?_)
                  intro v8 w8 ha8
                  obtain ⟨a8, n8, c8, rfl⟩ := ha8.shape
                  have HM8 := Lib.hid (HMK.out.app HBL.out HBU.out ha8)
                  have f8 := HM8.out.2.1
                  have f9 := HM8.out.2.2.1
                  clear ha8
                  go_wp2_with fail
                  go_roundw
                  case rel => exact ⟨q + 1, _, by go_num, by omega, by rw [HNX2.out]; exact HM8.out.1⟩
                  case measure => simp [intOf]; omega
            · have hdq : decide (q < x.fr.length) = false := decide_eq_false hqt
              have HFE : Hid (l = frS many k nm x.fr) := Lib.hid (by rw [← hfl, List.take_of_length_le (by omega)])
              have r1 := HCP.out.r1 wq (hmk.near.mono (fun _ _ e => .inl e))
              have r3 := HCP.out.r3 wq (hmk.near.mono (fun _ _ e => .inl e))
              obtain ⟨p1, q1, rfl⟩ := r1.shape
              obtain ⟨p3, q3, rfl⟩ := r3.shape
              obtain ⟨ua, uc, rfl⟩ := (valRow_own hmk.own).shape
              simp only [intVals_length] at r1 r3 HMK hmk hne HCP
              have c0 := hmk.var.get 0 rfl
              have c1' := hmk.var.get 1 rfl
              have c2' := hmk.var.get 2 rfl
              have hrl := renTo_len many nm L k
              have HBWQ : Hid (Below w.heap.size w wq) := Lib.hid (HBW4.out.trans (hbq.mono HBW4.out.size))
              have HOQ : Hid (OwnOf 3 StepC (fun _ => False) wq w.heap.size 42 (.slice oa (renTo many nm L k).length oc) (renTo many nm L k)) := Lib.hid (HO4.out.below hbq)
              have HBA := Lib.hid (below_lit wq (.cells #[.slice p1 x.cl.length q1, .slice ua l.length uc, .slice p3 x.on.length q3] 42))
              have HBWA := Lib.hid (HBWQ.out.trans (HBA.out.mono HBWQ.out.size))
              have HIR : Hid (InR x.cl ∧ InR l ∧ InR x.on) := Lib.hid ⟨j1, fun y hy => by
                rw [HFE.out] at hy
                obtain ⟨z, _, rfl⟩ := List.mem_map.1 hy
                split
                · by_cases hzn : z.toNat < nm.length
                  · have e : nm.getD z.toNat 0 = nm[z.toNat] := by simp [hzn]
                    have := HNB.out _ (List.getElem_mem hzn)
                    rw [e]; omega
                  · have e : nm.getD z.toNat 0 = 0 := by simp [List.getD, List.getElem?_eq_none (Nat.le_of_not_lt hzn)]
                    rw [e]; omega
                · omega, j3⟩
              have HREN : Hid (renS many k nm x = ⟨x.cl, l, x.on⟩) := Lib.hid (by rw [HFE.out]; rfl)
              have HNEW : Hid (Robust StepC (wq.alloc (.cells #[.slice p1 x.cl.length q1, .slice ua l.length uc, .slice p3 x.on.length q3] 42)) (fun b => False ∨ (Value.slice oa (renTo many nm L k).length oc).ownBlock = some b) [.slice p1 x.cl.length q1, .slice ua l.length uc, .slice p3 x.on.length q3] (⟨x.cl, l, x.on⟩ : StepD)) := Lib.hid (fun w' hN => by
                have hfar : ∀ c, (False ∨ (Value.slice oa (renTo many nm L k).length oc).ownBlock = some c) → c < w4.heap.size := fun c e => e.elim False.elim (fun e => (HO4.out.atLeast e).2)
                have hnq : Near (fun c => c = b10 ∨ c < w4.heap.size) wq w' := (near_of_below _ HBA.out).trans (hN.mono (fun c _ e => .inr (hfar c e)))
                have hny : Near (fun c => c = b10 ∨ c < w4.heap.size) wy w' := (hmk.near.mono (fun _ _ e => .inl e)).trans hnq
                have hu : w'.ownsRow wy.heap.size 3 1 (.slice ua l.length uc) l.length (intVals l) := ownsRow_near hmk.own hnq (fun c e g => by
                  have := (row_block hmk.own e).1
                  have := hmk.lt
                  have := HCP.out.be.size
                  omega)
                exact ⟨_, _, _, rfl, HCP.out.r1 w' hny, valRow_own hu, HCP.out.r3 w' hny, HIR.out.1, HIR.out.2.1, HIR.out.2.2⟩)
              have HQT := Lib.hid hqt
              have HLL2 : Hid ((renTo many nm L k).length ≤ 1000) := Lib.hid (by omega)
              clear hqt hmk hbq r1 r3 hfl hll
              go_wp2_with (at_builtin; refine wpList_snoc (R := StepC) (F := fun _ => False) _ rfl _ _ 22 rfl w.heap.size 42 i0 _ 72 Try.underlying22 HI0.out HZ0.out HZ1.out HZ2.out rfl (by decide) (.slice oa (renTo many nm L k).length oc) (renTo many nm L k) rfl (HOQ.out.below HBA.out) ⟨wq.heap.size, 0, none⟩ 1 [.slice p1 x.cl.length q1, .slice ua l.length uc, .slice p3 x.on.length q3] (⟨x.cl, l, x.on⟩ : StepD) rfl rfl (lit_cells wq _ _ _ rfl) (by simp [Value.oneCell']) HNEW.out (by have := HLL2.out; unfold maxLen; omega) (by have := HLL2.out; omega) HBWA.out.size ?_)
              intro g cp wz hoz _ hbz
              have HOZ := Lib.hid hoz
              have HBZ := Lib.hid (HBWA.out.trans hbz)
              clear hoz hbz
              go_wp2_with fail
              go_roundw
              case rel => exact ⟨k + 1, by go_num, by omega, by rw [HNX.out, HREN.out]; exact HOZ.out, HBZ.out⟩
              case measure => simp [intOf]; omega
    · have hdk : decide (k < L.length) = false := decide_eq_false hlt
      have hkl : k = L.length := by omega
      have HRW : Hid (RowOf 3 StepC wr (.slice oa (renTo many nm L L.length).length oc) (renTo many nm L L.length)) := Lib.hid (by have := HO.out.row (by omega); rwa [hkl] at this)
      rw [hkl]
      have HLT := Lib.hid hlt
      clear hlt hkl
      go_wp2_with fail
      go_ret
      exact ⟨_, _, rfl, HRW.out, HBE0.out⟩
end Go.Proofs.Ytiimkhnngpfnbaa
/- What is left of right steps is right, and needs all of itself: plain. -/
namespace Go.Proofs.Ytiimkhnngpfnbaa
open Go.RowKit
set_option linter.unusedVariables false
set_option linter.unusedSimpArgs false
/-- two clauses, joined whichever has the variable -/
def joinR (A B : List Int) (w : Int) : Option (List Int) := if resB A B w = true then some (resL A B w) else if resB B A w = true then some (resL B A w) else none
theorem normL_eq {c d : List Int} (h : ∀ x, x ∈ c ↔ x ∈ d) : normL c = normL d := normL_of (normL_sorted c) (fun x => (normL_mem c x).trans (h x))
theorem hasB_eq {c d : List Int} (h : ∀ x, x ∈ c ↔ x ∈ d) (x : Int) : hasB c x = hasB d x := by
  rw [Bool.eq_iff_iff, hasB_iff, hasB_iff]; exact h x
theorem tautB_eq {c d : List Int} (h : ∀ x, x ∈ c ↔ x ∈ d) : tautB c = tautB d := by
  rw [Bool.eq_iff_iff, tautB_iff, tautB_iff]
  constructor
  · rintro ⟨x, h1, h2⟩; exact ⟨x, (h x).1 h1, (h _).1 h2⟩
  · rintro ⟨x, h1, h2⟩; exact ⟨x, (h x).2 h1, (h _).2 h2⟩
theorem bothL_mem (A B : List Int) (v x : Int) : x ∈ bothL A B v ↔ (x ∈ A ∧ x ≠ v) ∨ (x ∈ B ∧ x ≠ -v) := by
  unfold bothL withoutL
  rw [List.mem_append, List.mem_filter, List.mem_filter]
  simp
theorem res_eq {A A' B B' : List Int} (hA : ∀ x, x ∈ A ↔ x ∈ A') (hB : ∀ x, x ∈ B ↔ x ∈ B') (v : Int) : resB A B v = resB A' B' v ∧ resL A B v = resL A' B' v := by
  have hm : ∀ x, x ∈ bothL A B v ↔ x ∈ bothL A' B' v := fun x => by rw [bothL_mem, bothL_mem, hA, hB]
  constructor
  · unfold resB
    rw [hasB_eq hA, hasB_eq hB, tautB_eq hm]
  · unfold resL
    exact normL_eq hm
theorem joinR_norm (A B : List Int) (w : Int) : joinR (normL A) B w = joinR A B w := by
  obtain ⟨h1, h2⟩ := res_eq (fun x => normL_mem A x) (fun x => Iff.rfl : ∀ x, x ∈ B ↔ x ∈ B) w
  obtain ⟨h3, h4⟩ := res_eq (fun x => Iff.rfl : ∀ x, x ∈ B ↔ x ∈ B) (fun x => normL_mem A x) w
  unfold joinR
  rw [h1, h2, h3, h4]
/-- a step, followed by the reference -/
def rgtG (all : List (List Int)) : List Int → List Int → List Int → Option (List Int)
  | [], _, c => some c
  | k :: fr, on, c => if k < 1 ∨ k > all.length then none else
      match joinR c (all.getD (k - 1).toNat []) (on.headD 0) with
      | some d => rgtG all fr on.tail d
      | none => none
def rightB (all : List (List Int)) (s : StepD) : Bool :=
  if s.fr.length = 0 ∨ s.on.length ≠ s.fr.length - 1 then false else
    match s.fr with
    | [] => false
    | k :: fr => if k < 1 ∨ k > all.length then false else
        match rgtG all fr s.on (normL (all.getD (k - 1).toNat [])) with
        | some c => decide (c = s.cl)
        | none => false
def countV : List (List Int) → List StepD → Nat
  | _, [] => 0
  | all, s :: t => if rightB all s = true then 1 + countV (all ++ [s.cl]) t else 0
theorem right_two {all : List (List Int)} {p q : Nat} {c : List Int} {w : Int} (hp : p < all.length) (hq : q < all.length) (h : joinR (all.getD p []) (all.getD q []) w = some c) : rightB all ⟨c, [(p : Int) + 1, (q : Int) + 1], [w]⟩ = true := by
  have e1 : ((p : Int) + 1 - 1).toNat = p := by omega
  have e2 : ((q : Int) + 1 - 1).toNat = q := by omega
  have n1 : ¬ ((p : Int) + 1 < 1 ∨ (p : Int) + 1 > all.length) := by omega
  have n2 : ¬ ((q : Int) + 1 < 1 ∨ (q : Int) + 1 > all.length) := by omega
  unfold rightB
  simp only [List.length_cons, List.length_nil]
  rw [if_neg (by omega), if_neg n1, e1]
  unfold rgtG
  rw [if_neg n2, e2]
  simp only [List.headD_cons, joinR_norm, h]
  unfold rgtG
  simp
theorem count_snoc {s : StepD} : ∀ (S : List StepD) (all : List (List Int)), countV all S = S.length → rightB (all ++ S.map (·.cl)) s = true → countV all (S ++ [s]) = (S ++ [s]).length := by
  intro S
  induction S with
  | nil =>
    intro all _ h
    simp at h
    simp [countV, h]
  | cons x t ih =>
    intro all h1 h2
    unfold countV at h1
    split at h1
    · rename_i hr
      have h3 : countV (all ++ [x.cl]) t = t.length := by simp at h1; omega
      have h4 := ih (all ++ [x.cl]) h3 (by simpa using h2)
      show (if rightB all x = true then 1 + countV (all ++ [x.cl]) (t ++ [s]) else 0) = _
      rw [if_pos hr, h4]
      simp; omega
    · simp at h1
/-- steps made of clauses, each of two ahead -/
def Der (l : List (List Int)) (S : List StepD) : Prop := ∀ i, i < S.length → ∃ (a b : Nat) (w : Int) (c : List Int), a < l.length + i ∧ b < l.length + i ∧ S.getD i default = ⟨c, [(a : Int) + 1, (b : Int) + 1], [w]⟩ ∧ joinR ((l ++ S.map (·.cl)).getD a []) ((l ++ S.map (·.cl)).getD b []) w = some c
/-- the numbers that are needed, up to N -/
def keepN (ns : List Bool) (N : Nat) : List Nat := (List.range N).filter fun k => ns.getD k false
theorem keepN_succ (ns : List Bool) (N : Nat) : keepN ns (N + 1) = keepN ns N ++ (if ns.getD N false = true then [N] else []) := by
  unfold keepN
  rw [List.range_succ, List.filter_append]
  congr 1
  by_cases h : ns.getD N false = true
  · rw [if_pos h]; simp only [List.filter_cons, List.filter_nil]; rw [if_pos h]
  · rw [if_neg h]; simp only [List.filter_cons, List.filter_nil]; rw [if_neg h]
theorem keepN_spec (ns : List Bool) : ∀ N, N ≤ ns.length → (keepN ns N).length = cntV ns N ∧ ∀ j (h : j < (keepN ns N).length), cntV ns ((keepN ns N)[j] + 1) = j + 1 ∧ ns.getD (keepN ns N)[j] false = true ∧ (keepN ns N)[j] < N := by
  intro N
  induction N with
  | zero => intro _; exact ⟨by simp [keepN, cntV], fun j h => by simp [keepN] at h⟩
  | succ N ih =>
    intro hN
    obtain ⟨h1, h2⟩ := ih (by omega)
    have hc := cntV_succ ns N (by omega)
    have hk := keepN_succ ns N
    by_cases hb : ns.getD N false = true
    · rw [if_pos hb] at hk hc
      refine ⟨by rw [hk, List.length_append, h1, hc]; rfl, fun j h => ?_⟩
      by_cases hj : j < (keepN ns N).length
      · have e : (keepN ns (N + 1))[j] = (keepN ns N)[j] := by simp only [hk]; rw [List.getElem_append_left hj]
        rw [e]
        obtain ⟨h3, h4, h5⟩ := h2 j hj
        exact ⟨h3, h4, by omega⟩
      · have hj2 : j = (keepN ns N).length := by
          have : (keepN ns (N + 1)).length = (keepN ns N).length + 1 := by rw [hk]; simp
          omega
        have e : (keepN ns (N + 1))[j] = N := by simp only [hk]; rw [List.getElem_append_right (by omega)]; simp
        rw [e]
        exact ⟨by omega, hb, by omega⟩
    · rw [if_neg hb] at hk hc
      rw [List.append_nil] at hk
      refine ⟨by rw [hk, h1]; omega, fun j h => ?_⟩
      have hj : j < (keepN ns N).length := by rw [hk] at h; exact h
      have e : (keepN ns (N + 1))[j] = (keepN ns N)[j] := by simp only [hk]
      rw [e]
      obtain ⟨h3, h4, h5⟩ := h2 j hj
      exact ⟨h3, h4, by omega⟩
theorem cntV_mono (ns : List Bool) (k : Nat) : ∀ d, k + d ≤ ns.length → cntV ns k ≤ cntV ns (k + d) := by
  intro d
  induction d with
  | zero => intro _; exact Nat.le_refl _
  | succ d ih =>
    intro h
    have h1 := ih (by omega)
    have h2 := cntV_succ ns (k + d) (by omega)
    rw [show k + (d + 1) = k + d + 1 by omega, h2]
    omega
theorem cntV_le (ns : List Bool) {k k' : Nat} (h : k ≤ k') (hl : k' ≤ ns.length) : cntV ns k ≤ cntV ns k' := by
  have := cntV_mono ns k (k' - k) (by omega)
  rwa [show k + (k' - k) = k' by omega] at this
theorem cntV_lt (ns : List Bool) {k k' : Nat} (h : k < k') (hl : k' < ns.length) (hn : ns.getD k' false = true) : cntV ns (k + 1) < cntV ns (k' + 1) := by
  have h1 := cntV_le ns (show k + 1 ≤ k' by omega) (by omega)
  have h2 := cntV_succ ns k' hl
  rw [hn, if_pos rfl] at h2
  omega
theorem cntV_pos (ns : List Bool) {k : Nat} (hl : k < ns.length) (hn : ns.getD k false = true) : 1 ≤ cntV ns (k + 1) := by
  have h2 := cntV_succ ns k hl
  rw [hn, if_pos rfl] at h2
  omega
/-- where a needed number stands -/
theorem keepN_at (ns : List Bool) (N : Nat) (hN : N ≤ ns.length) {k : Nat} (hk : k < N) (hn : ns.getD k false = true) : ∃ h : cntV ns (k + 1) - 1 < (keepN ns N).length, (keepN ns N)[cntV ns (k + 1) - 1] = k := by
  have hm : k ∈ keepN ns N := by unfold keepN; rw [List.mem_filter]; exact ⟨List.mem_range.2 hk, hn⟩
  obtain ⟨j, hj, e⟩ := List.mem_iff_getElem.1 hm
  obtain ⟨h1, _, _⟩ := (keepN_spec ns N hN).2 j hj
  rw [e] at h1
  have : cntV ns (k + 1) - 1 = j := by omega
  simp only [this]
  exact ⟨hj, e⟩
theorem usedV_keep (many : Nat) (ns : List Bool) (h : many < ns.length) : usedV many ns = (keepN ns (many + 1)).map fun k : Nat => (k : Int) := by
  have key : ∀ d, usedTo many ns (many + 1 + d) = (keepN ns (many + 1)).map fun k : Nat => (k : Int) := by
    intro d
    induction d with
    | zero =>
      unfold usedTo keepN
      congr 1
      apply List.filter_congr
      intro k hk
      have := List.mem_range.1 hk
      rw [decide_eq_true (show k ≤ many by omega), Bool.and_true]
    | succ d ih =>
      rw [show many + 1 + (d + 1) = (many + 1 + d) + 1 by omega, usedTo_succ, ih, decide_eq_false (show ¬ many + 1 + d ≤ many by omega)]
      simp
  have e := key (ns.length - (many + 1))
  rw [show many + 1 + (ns.length - (many + 1)) = ns.length by omega] at e
  exact e
theorem reach_pos {many : Nat} {L : List StepD} (h0 : 0 < L.length) {k : Nat} (h : Reach many L k) : 1 ≤ k := by
  cases h with
  | last => omega
  | from_ h hi hk h1 h2 => exact h1
end Go.Proofs.Ytiimkhnngpfnbaa
/- What is left of right steps is right, and needs all of itself: plain, the rest. -/
namespace Go.Proofs.Ytiimkhnngpfnbaa
open Go.RowKit
set_option linter.unusedVariables false
set_option linter.unusedSimpArgs false
section
variable {l : List (List Int)} {S : List StepD}
/-- all clauses, the steps' behind the others -/
def clsOf (l : List (List Int)) (S : List StepD) : List (List Int) := l ++ S.map (·.cl)
/-- what is marked -/
structure Ned (l : List (List Int)) (S : List StepD) (ns : List Bool) : Prop where
  len : ns.length = l.length + S.length + 1
  iff : ∀ k, ns.getD k false = true ↔ Reach l.length S k
  pos : 0 < S.length
theorem ned_of (h : 0 < S.length) : Ned l S (needV l.length S) := ⟨needV_len _ _, fun k => needV_iff _ _ k, h⟩
theorem Ned.zero {ns : List Bool} (h : Ned l S ns) : ns.getD 0 false = false := by
  cases e : ns.getD 0 false with
  | false => rfl
  | true => have := reach_pos h.pos ((h.iff 0).1 e); omega
theorem clsOf_len : (clsOf l S).length = l.length + S.length := by unfold clsOf; simp
theorem clsOf_at {i : Nat} (h : i < S.length) : (clsOf l S).getD (l.length + i) [] = (S.getD i default).cl := by
  unfold clsOf
  rw [List.getD_eq_getElem?_getD, List.getElem?_append_right (by omega), Nat.add_sub_cancel_left, List.getElem?_map, List.getD_eq_getElem?_getD]
  rw [List.getElem?_eq_getElem h]; rfl
/-- the clauses that are used -/
def someC (l : List (List Int)) (ns : List Bool) : List (List Int) := (usedV l.length ns).map fun u => l.getD (u - 1).toNat []
theorem someC_keep {ns : List Bool} (h : Ned l S ns) : someC l ns = (keepN ns (l.length + 1)).map fun k => (clsOf l S).getD (k - 1) [] := by
  unfold someC
  rw [usedV_keep _ _ (by have := h.len; omega), List.map_map]
  apply List.map_congr_left
  intro k hk
  unfold keepN at hk
  rw [List.mem_filter] at hk
  have h1 := List.mem_range.1 hk.1
  have h2 : k ≠ 0 := fun e => by subst e; rw [h.zero] at hk; cases hk.2
  show l.getD ((k : Int) - 1).toNat [] = _
  have e : ((k : Int) - 1).toNat = k - 1 := by omega
  rw [e]
  unfold clsOf
  rw [List.getD_eq_getElem?_getD, List.getD_eq_getElem?_getD, List.getElem?_append_left (by omega)]
/-- the first k steps, trimmed: which they are -/
structure Trd (l : List (List Int)) (S : List StepD) (ns : List Bool) (k : Nat) (R : List StepD) : Prop where
  cls : someC l ns ++ R.map (·.cl) = (keepN ns (l.length + k + 1)).map fun q => (clsOf l S).getD (q - 1) []
  len : R.length + cntV ns (l.length + 1) = cntV ns (l.length + k + 1)
  at_ : ∀ m, m < R.length → ∃ i, i < k ∧ ns.getD (l.length + i + 1) false = true ∧ cntV ns (l.length + i + 2) = cntV ns (l.length + 1) + m + 1 ∧ R.getD m default = renS l.length i (numV ns) (S.getD i default)
  right : countV (someC l ns) R = R.length
theorem renTo_succ (many : Nat) (nm : List Int) (L : List StepD) (k : Nat) : renTo many nm L (k + 1) = renTo many nm L k ++ (if nm.getD (many + k + 1) 0 = 0 then [] else [renS many k nm (L.getD k default)]) := rfl
theorem trd_all (hD : Der l S) {ns : List Bool} (h : Ned l S ns) : ∀ k, k ≤ S.length → Trd l S ns k (renTo l.length (numV ns) S k) := by
  intro k
  induction k with
  | zero =>
    intro _
    refine ⟨by rw [Nat.add_zero]; simp [renTo, someC_keep h], by simp [renTo], fun m hm => by simp [renTo] at hm, by simp [renTo, countV]⟩
  | succ k ih =>
    intro hk
    have hi := ih (by omega)
    have hl := h.len
    have hlt : l.length + k + 1 < ns.length := by omega
    have hc := cntV_succ ns (l.length + k + 1) hlt
    have hks := keepN_succ ns (l.length + k + 1)
    rw [renTo_succ]
    cases hb : ns.getD (l.length + k + 1) false with
    | false =>
      rw [if_pos ((numV_zero ns _ hlt).2 hb), List.append_nil]
      rw [hb] at hc hks
      simp only [Bool.false_eq_true, if_false, List.append_nil, Nat.add_zero] at hc hks
      refine ⟨?_, ?_, fun m hm => ?_, hi.right⟩
      · rw [show l.length + (k + 1) + 1 = l.length + k + 1 + 1 by omega, hks]; exact hi.cls
      · rw [show l.length + (k + 1) + 1 = l.length + k + 1 + 1 by omega, hc]; exact hi.len
      · obtain ⟨i, h1, h2⟩ := hi.at_ m hm
        exact ⟨i, by omega, h2⟩
    | true =>
      rw [if_neg (fun e => by rw [(numV_zero ns _ hlt).1 e] at hb; cases hb)]
      rw [hb] at hc hks
      simp only [if_true] at hc hks
      obtain ⟨R, hR⟩ : ∃ R, renTo l.length (numV ns) S k = R := ⟨_, rfl⟩
      rw [hR] at hi ⊢
      obtain ⟨a, b, w, c, ha, hbb, hs, hj⟩ := hD k (by omega)
      have hcl : (renS l.length k (numV ns) (S.getD k default)).cl = (clsOf l S).getD (l.length + k) [] := by rw [clsOf_at (by omega)]; rfl
      refine ⟨?_, ?_, fun m hm => ?_, ?_⟩
      · rw [show l.length + (k + 1) + 1 = l.length + k + 1 + 1 by omega, hks, List.map_append, List.map_append, ← List.append_assoc, hi.cls]
        congr 1
        show [(renS l.length k (numV ns) (S.getD k default)).cl] = [_]
        rw [hcl]; rfl
      · rw [show l.length + (k + 1) + 1 = l.length + k + 1 + 1 by omega, hc, List.length_append, List.length_singleton]
        have := hi.len
        omega
      · rw [List.length_append, List.length_singleton] at hm
        by_cases hm2 : m < R.length
        · obtain ⟨i, h1, h2, h3, h4⟩ := hi.at_ m hm2
          refine ⟨i, by omega, h2, h3, ?_⟩
          rw [List.getD_eq_getElem?_getD, List.getElem?_append_left hm2, ← List.getD_eq_getElem?_getD]; exact h4
        · obtain rfl : m = R.length := by omega
          refine ⟨k, by omega, hb, ?_, ?_⟩
          · rw [show l.length + k + 2 = l.length + k + 1 + 1 by omega, hc]
            have := hi.len
            omega
          · rw [List.getD_eq_getElem?_getD, List.getElem?_append_right (Nat.le_refl _)]
            simp
      · refine count_snoc R _ hi.right ?_
        rw [hi.cls]
        -- where the two clauses stand
        have hreach := (h.iff _).1 hb
        have pos : ∀ q, q < l.length + k → ((q : Int) + 1) ∈ (S.getD k default).fr → ns.getD (q + 1) false = true ∧ okFrom l.length k ((q : Int) + 1) = true ∧ (numV ns).getD ((q : Int) + 1).toNat 0 = ((cntV ns (q + 2) - 1 : Nat) : Int) + 1 ∧ cntV ns (q + 2) - 1 < (keepN ns (l.length + k + 1)).length ∧ ((keepN ns (l.length + k + 1)).map fun q => (clsOf l S).getD (q - 1) []).getD (cntV ns (q + 2) - 1) [] = (clsOf l S).getD q [] := by
          intro q hq hm
          have hn : ns.getD (q + 1) false = true := (h.iff _).2 (.from_ hreach (by omega) (by simpa using hm) (by omega) (by omega))
          have hlq : q + 1 < ns.length := by omega
          have hp := cntV_pos ns hlq hn
          have e1 : ((q : Int) + 1).toNat = q + 1 := by omega
          obtain ⟨g1, g2⟩ := keepN_at ns (l.length + k + 1) (by omega) (show q + 1 < l.length + k + 1 by omega) hn
          refine ⟨hn, okFrom_iff.2 ⟨by omega, by omega⟩, ?_, g1, ?_⟩
          · rw [e1, numV_get ns _ hlq, hn, if_pos rfl]
            show ((cntV ns (q + 1 + 1) : Nat) : Int) = ((cntV ns (q + 1 + 1) - 1 : Nat) : Int) + 1
            omega
          · rw [List.getD_eq_getElem?_getD, List.getElem?_map, List.getElem?_eq_getElem g1]
            show (clsOf l S).getD ((keepN ns (l.length + k + 1))[cntV ns (q + 1 + 1) - 1] - 1) [] = _
            rw [g2]; rfl
        obtain ⟨_, p1, p2, p3, p4⟩ := pos a ha (by rw [hs]; simp)
        obtain ⟨_, q1, q2, q3, q4⟩ := pos b hbb (by rw [hs]; simp)
        have er : renS l.length k (numV ns) (S.getD k default) = ⟨c, [((cntV ns (a + 2) - 1 : Nat) : Int) + 1, ((cntV ns (b + 2) - 1 : Nat) : Int) + 1], [w]⟩ := by
          rw [hs]
          unfold renS
          simp only [List.map_cons, List.map_nil, p1, q1, if_true, p2, q2]
        rw [er]
        refine right_two (by rw [List.length_map]; exact p3) (by rw [List.length_map]; exact q3) ?_
        rw [p4, q4]
        exact hj
/-- what is trimmed -/
theorem trim_short (hD : Der l S) (h0 : 0 < S.length) : Trd l S (needV l.length S) S.length (trimV l.length S).1 := by
  have := trd_all hD (ned_of (l := l) h0) S.length (Nat.le_refl _)
  rw [renV_all] at this
  exact this
theorem Trd.last {R : List StepD} (h : Ned l S (needV l.length S)) (hR : Trd l S (needV l.length S) S.length R) : 0 < R.length ∧ (R.getD (R.length - 1) default).cl = (S.getD (S.length - 1) default).cl ∧ R.length + cntV (needV l.length S) (l.length + 1) = cntV (needV l.length S) (l.length + S.length + 1) := by
  have hp := h.pos
  have hl := h.len
  have hlast : (needV l.length S).getD (l.length + S.length) false = true := (h.iff _).2 .last
  have hlt := cntV_le (needV l.length S) (show l.length + 1 ≤ l.length + S.length by omega) (by omega)
  have hs := cntV_succ (needV l.length S) (l.length + S.length) (by omega)
  rw [hlast, if_pos rfl] at hs
  have hlen := hR.len
  refine ⟨by omega, ?_, hlen⟩
  obtain ⟨i, h1, h2, h3, h4⟩ := hR.at_ (R.length - 1) (by omega)
  rw [h4]
  have hi : i = S.length - 1 := by
    apply Classical.byContradiction
    intro hne
    have := cntV_lt (needV l.length S) (k := l.length + i + 1) (k' := l.length + S.length) (by omega) (by omega) hlast
    rw [show l.length + i + 1 + 1 = l.length + i + 2 by omega] at this
    omega
  subst hi
  rfl
end
end Go.Proofs.Ytiimkhnngpfnbaa
/- Trimmed again, nothing goes: plain. -/
namespace Go.Proofs.Ytiimkhnngpfnbaa
open Go.RowKit
set_option linter.unusedVariables false
set_option linter.unusedSimpArgs false
section
variable {l : List (List Int)} {S R : List StepD} {ns : List Bool}
/-- a step's place among those that are left -/
theorem Trd.place (h : Ned l S ns) (hR : Trd l S ns S.length R) {i : Nat} (hi : i < S.length) (hn : ns.getD (l.length + i + 1) false = true) :
    ∃ m, m < R.length ∧ cntV ns (l.length + i + 2) = cntV ns (l.length + 1) + m + 1 ∧ R.getD m default = renS l.length i (numV ns) (S.getD i default) := by
  have hl := h.len
  have hs := cntV_succ ns (l.length + i + 1) (by omega)
  rw [hn, if_pos rfl] at hs
  have h1 := cntV_le ns (show l.length + 1 ≤ l.length + i + 1 by omega) (by omega)
  have h2 := cntV_le ns (show l.length + i + 1 + 1 ≤ l.length + S.length + 1 by omega) (by omega)
  have h3 := hR.len
  obtain ⟨m, hm⟩ : ∃ m, cntV ns (l.length + i + 2) = cntV ns (l.length + 1) + m + 1 := ⟨cntV ns (l.length + i + 2) - cntV ns (l.length + 1) - 1, by
    have e2 : cntV ns (l.length + i + 2) = cntV ns (l.length + i + 1 + 1) := rfl
    omega⟩
  have hm2 : m < R.length := by
    have : cntV ns (l.length + i + 1 + 1) = cntV ns (l.length + 1) + m + 1 := hm
    omega
  refine ⟨m, hm2, hm, ?_⟩
  obtain ⟨i', g1, g2, g3, g4⟩ := hR.at_ m hm2
  have e : i' = i := by
    rcases Nat.lt_trichotomy i' i with h5 | h5 | h5
    · have := cntV_lt ns (k := l.length + i' + 1) (k' := l.length + i + 1) (by omega) (by omega) hn
      have g3' : cntV ns (l.length + i' + 1 + 1) = _ := g3
      have hm' : cntV ns (l.length + i + 1 + 1) = _ := hm
      omega
    · exact h5
    · have := cntV_lt ns (k := l.length + i + 1) (k' := l.length + i' + 1) (by omega) (by omega) g2
      have g3' : cntV ns (l.length + i' + 1 + 1) = _ := g3
      have hm' : cntV ns (l.length + i + 1 + 1) = _ := hm
      omega
  rw [g4, e]
/-- what a step that is left comes from -/
theorem from_new (h : Ned l S ns) {i k : Nat} (hi : i < S.length) (hn : ns.getD (l.length + i + 1) false = true) (hk : (k : Int) ∈ (S.getD i default).fr) (h1 : 1 ≤ k) (h2 : k ≤ l.length + i) :
    ns.getD k false = true ∧ (if okFrom l.length i (k : Int) then (numV ns).getD (k : Int).toNat 0 else 0) = ((cntV ns (k + 1) : Nat) : Int) ∧ 1 ≤ cntV ns (k + 1) ∧ cntV ns (k + 1) < cntV ns (l.length + i + 2) := by
  have hl := h.len
  have hkn : ns.getD k false = true := (h.iff k).2 (.from_ ((h.iff _).1 hn) hi hk h1 h2)
  refine ⟨hkn, ?_, cntV_pos ns (by omega) hkn, cntV_lt ns (k := k) (k' := l.length + i + 1) (by omega) (by omega) hn⟩
  rw [if_pos (okFrom_iff.2 ⟨by omega, by omega⟩), Int.toNat_natCast, numV_get ns k (by omega), hkn, if_pos rfl]
theorem reach_new (h : Ned l S ns) (hR : Trd l S ns S.length R) {K : Nat} (hK : K = cntV ns (l.length + 1)) {k : Nat} (hr : Reach l.length S k) : Reach K R (cntV ns (k + 1)) := by
  subst hK
  induction hr with
  | last =>
    have := hR.len
    rw [show cntV ns (l.length + S.length + 1) = cntV ns (l.length + 1) + R.length by omega]
    exact .last
  | from_ h3 hi hk h1 h2 ih =>
    rename_i i k
    have hn := (h.iff _).2 h3
    obtain ⟨m, hm1, hm2, hm3⟩ := hR.place h hi hn
    obtain ⟨g1, g2, g3, g4⟩ := from_new h hi hn hk h1 h2
    have ih' : Reach (cntV ns (l.length + 1)) R (cntV ns (l.length + 1) + m + 1) := by rw [← hm2]; exact ih
    refine .from_ ih' hm1 ?_ g3 (by omega)
    rw [hm3]
    unfold renS
    simp only [List.mem_map]
    exact ⟨(k : Int), hk, g2⟩
theorem all_new (h : Ned l S ns) (hR : Trd l S ns S.length R) {K : Nat} (hK : K = cntV ns (l.length + 1)) {j : Nat} (h1 : 1 ≤ j) (h2 : j ≤ K + R.length) : Reach K R j := by
  have hl := h.len
  have hlen := hR.len
  obtain ⟨g1, g2⟩ := keepN_spec ns (l.length + S.length + 1) (by omega)
  have hj : j - 1 < (keepN ns (l.length + S.length + 1)).length := by omega
  obtain ⟨g3, g4, _⟩ := g2 (j - 1) hj
  have := reach_new h hR hK ((h.iff _).1 g4)
  rw [g3] at this
  rwa [show j - 1 + 1 = j by omega] at this
/-- the steps' numbers are what they are -/
theorem cnt_all {ns : List Bool} (h0 : ns.getD 0 false = false) {N : Nat} (hN : ns.length = N + 1) (ha : ∀ j, 1 ≤ j → j ≤ N → ns.getD j false = true) : ∀ k, k ≤ N → cntV ns (k + 1) = k := by
  intro k
  induction k with
  | zero =>
    intro _
    have := cntV_succ ns 0 (by omega)
    rw [h0] at this
    simpa [cntV] using this
  | succ k ih =>
    intro hk
    have h1 := cntV_succ ns (k + 1) (by omega)
    rw [ha (k + 1) (by omega) hk, if_pos rfl, ih (by omega)] at h1
    exact h1
theorem trim_again (hD : Der l S) (h : Ned l S ns) (hR : Trd l S ns S.length R) (hp : 0 < R.length) {K : Nat} (hK : K = cntV ns (l.length + 1)) : (trimV K R).1 = R ∧ (trimV K R).2.length = K := by
  have hl := h.len
  obtain ⟨ns', hns⟩ : ∃ ns', needV K R = ns' := ⟨_, rfl⟩
  have hlen' : ns'.length = K + R.length + 1 := by rw [← hns]; exact needV_len _ _
  have hiff : ∀ k, ns'.getD k false = true ↔ Reach K R k := fun k => by rw [← hns]; exact needV_iff K R k
  have h0 : ns'.getD 0 false = false := by
    cases e : ns'.getD 0 false with
    | false => rfl
    | true => have := reach_pos hp ((hiff 0).1 e); omega
  have ha : ∀ j, 1 ≤ j → j ≤ K + R.length → ns'.getD j false = true := fun j h1 h2 => (hiff j).2 (all_new h hR hK h1 h2)
  have hc := cnt_all h0 hlen' ha
  have hnum : ∀ j, 1 ≤ j → j ≤ K + R.length → (numV ns').getD j 0 = (j : Int) := fun j h1 h2 => by
    rw [numV_get ns' j (by omega), ha j h1 h2, if_pos rfl, hc j h2]
  unfold trimV
  rw [hns]
  constructor
  · show renV K (numV ns') R 0 = R
    rw [← renV_all]
    have key : ∀ k, k ≤ R.length → renTo K (numV ns') R k = R.take k := by
      intro k
      induction k with
      | zero => intro _; simp [renTo]
      | succ k ih =>
        intro hk
        have e0 : ¬ (numV ns').getD (K + k + 1) 0 = 0 := by rw [hnum (K + k + 1) (by omega) (by omega)]; omega
        have eg : R.getD k default = R[k] := by rw [List.getD_eq_getElem?_getD, List.getElem?_eq_getElem (by omega)]; rfl
        rw [renTo_succ, ih (by omega), if_neg e0, List.take_succ_eq_append_getElem (by omega)]
        congr 2
        rw [← eg]
        obtain ⟨i, g1, g2, g3, g4⟩ := hR.at_ k (by omega)
        have hfr : ∀ z ∈ (R.getD k default).fr, 1 ≤ z ∧ z ≤ ((K + k : Nat) : Int) := by
          rw [g4]
          unfold renS
          simp only [List.mem_map]
          rintro z ⟨y, hy, rfl⟩
          obtain ⟨a, b, w, c, ha', hb', hs, _⟩ := hD i g1
          have hy2 : ∃ q : Nat, y = (q : Int) ∧ 1 ≤ q ∧ q ≤ l.length + i := by
            rw [hs] at hy
            simp only [List.mem_cons, List.not_mem_nil, or_false] at hy
            rcases hy with rfl | rfl
            · exact ⟨a + 1, by omega, by omega, by omega⟩
            · exact ⟨b + 1, by omega, by omega, by omega⟩
          obtain ⟨q, rfl, q1, q2⟩ := hy2
          obtain ⟨_, p2, p3, p4⟩ := from_new h g1 g2 hy q1 q2
          rw [p2]
          omega
        obtain ⟨x, hx⟩ : ∃ x, R.getD k default = x := ⟨_, rfl⟩
        rw [hx] at hfr ⊢
        obtain ⟨cl, fr, on⟩ := x
        unfold renS
        simp only [StepD.mk.injEq, true_and, and_true]
        have : fr.map (fun z => if okFrom K k z then (numV ns').getD z.toNat 0 else 0) = fr.map id := by
          apply List.map_congr_left
          intro z hz
          obtain ⟨z1, z2⟩ := hfr z hz
          rw [if_pos (okFrom_iff.2 ⟨z1, z2⟩), hnum z.toNat (by omega) (by omega)]
          simp; omega
        rw [this, List.map_id]
    rw [key R.length (Nat.le_refl _), List.take_length]
  · show (usedV K ns').length = K
    rw [usedV_keep K ns' (by omega), List.length_map, (keepN_spec ns' (K + 1) (by omega)).1, hc K (by omega)]
/-- the law, plain -/
theorem short_law (hD : Der l S) (h0 : 0 < S.length) :
    (∀ u ∈ (trimV l.length S).2, 1 ≤ u ∧ u ≤ l.length) ∧ 0 < (trimV l.length S).1.length ∧
    countV ((trimV l.length S).2.map fun u => l.getD (u - 1).toNat []) (trimV l.length S).1 = (trimV l.length S).1.length ∧
    ((trimV l.length S).1.getD ((trimV l.length S).1.length - 1) default).cl = (S.getD (S.length - 1) default).cl ∧
    (trimV (trimV l.length S).2.length (trimV l.length S).1).1 = (trimV l.length S).1 ∧ (trimV (trimV l.length S).2.length (trimV l.length S).1).2.length = (trimV l.length S).2.length := by
  have hN := ned_of (l := l) h0
  have hT := trim_short hD h0
  obtain ⟨g1, g2, g3⟩ := hT.last hN
  have hlen : (trimV l.length S).2.length = cntV (needV l.length S) (l.length + 1) := by
    show (usedV l.length (needV l.length S)).length = _
    have hl := hN.len
    rw [usedV_keep _ _ (by omega), List.length_map, (keepN_spec _ (l.length + 1) (by omega)).1]
  refine ⟨fun u hu => ?_, g1, hT.right, g2, ?_⟩
  · have hu' : u ∈ usedV l.length (needV l.length S) := hu
    have hl := hN.len
    rw [usedV_keep _ _ (by omega), List.mem_map] at hu'
    obtain ⟨k, hk, rfl⟩ := hu'
    unfold keepN at hk
    rw [List.mem_filter] at hk
    have h1 := List.mem_range.1 hk.1
    have h2 : k ≠ 0 := fun e => by subst e; rw [hN.zero] at hk; cases hk.2
    omega
  · obtain ⟨a1, a2⟩ := trim_again hD hN hT g1 hlen
    exact ⟨a1, a2⟩
end
end Go.Proofs.Ytiimkhnngpfnbaa
