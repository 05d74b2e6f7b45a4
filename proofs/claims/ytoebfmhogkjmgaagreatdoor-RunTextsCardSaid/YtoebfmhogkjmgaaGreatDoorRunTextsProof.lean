/- PROVED: the Go function 'chandler/chandlerlaw23.RunTexts' returns true for every input, and leaves its argument as it was; the listed package-level variables hold what the program's text lays. The frame follows the kit's worked text Pinup, the walk is ours. -/
import Derived.Test.YtoebfmhogkjmgaaGreatDoorCards
import Derived.Test.YtoebfmhogkjmgaaGreatDoorTie
import Derived.Test.YtoebfmhogkjmgaaGreatDoorRtG
import Derived.Test.YtoebfmhogkjmgaaGreatDoorFaE
import Derived.ProofKit
import Derived.OpenShut
import Derived.LaidMore
import Derived.Lay
import Derived.SevenTiedAt
import Derived.Stop.Joined
namespace Go.Proofs.YtoebfmhogkjmgaaGreatDoor.runTexts
open Go.ChangeShapes Go.WideShapes Go.ChangeAt Go.RowKit
set_option linter.unusedVariables false

theorem own : ownKnob Tryz.prog.godebug = none := by kernel_rfl
theorem laidOut : laidOutB Tryz.prog = true := by kernel_rfl
theorem tab_of {W : World} (h : laidMetH Tryz.prog Rows.runTextsRow.laid W) : Lib.TabIs Tryz.prog W "internal/strconv.uint64pow10" .u64 Lib.pow10Tab := by
  rw [MakeChecks.laidMetH_plain _ _ _ (by kernel_rfl)] at h
  obtain ⟨ps, ⟨_, _, _, _, _, _, _, _, _, _, ⟨_, _, _, _, _, _, _, _, _, _, ⟨g, t, cs, fuel, p, q, hg, ht, hv, hd, _, _⟩, _⟩, _⟩, _, _⟩ := h
  obtain rfl := Option.some.inj ((show Tryz.prog.globalNamed "internal/strconv.uint64pow10" = some 0 by kernel_rfl).symm.trans hg)
  obtain rfl := Option.some.inj ((show (Tryz.prog.globals[0]?).map (·.type) = some 376 by kernel_rfl).symm.trans ht)
  unfold Lib.TabIs
  rw [hv, ← Lib.cells_of_tab (k := .u64) (zs := Lib.pow10Tab) Tryz.underlying376 Tryz.underlying134 (by kernel_rfl) (by kernel_rfl) hd]

theorem walk (tag inp code ln col st : Int) (ht : I64 tag) (hst : I64 st) (hi : I64 inp) (hc : I64 code) (hn : I64 ln) (hl : I64 col) (lk wy au : ByteArray) (k1 : lk.size ≤ 140737488355328) (k2 : wy.size ≤ 140737488355328) (k3 : au.size ≤ 140737488355328) (w : World) (htab : Lib.TabIs Tryz.prog w "internal/strconv.uint64pow10" .u64 Lib.pow10Tab) :
    Calls Tryz.prog 3 #[.agg #[.int .i64 tag, .int .i64 inp, .int .i64 code, .int .i64 ln, .int .i64 col, .int .i64 st, .string lk, .string wy, .string au]] w fun e w' => e = .returned (.bool true) ∧ Below w.heap.size w w' :=
  runTexts_walk tag inp code ln col st ht hst hi hc hn hl lk wy au k1 k2 k3 w htab

theorem str_in {H : Type} {ts : List TypeId} {ds : List (DataW H)} (hk : (DataW.weightsEach Tryz.prog ([26] ++ ts) ([.agg ds] ++ [])).all (· ≤ reachBytes) = true) {j : Nat} {bytes : List UInt8} (hd : ds[j]? = some (.lit (.string bytes))) {fs : Array Field} (hu : Tryz.prog.underlying 26 = some (.struct fs)) {f : TypeId} (hf : (fs.toList.map (·.type))[j]? = some f) : bytes.length ≤ 140737488355328 := by
  have h1 := List.all_eq_true.1 hk bytes.length (DataW.weights_mem_each (j := 0) (t := 26) (d := .agg ds) rfl rfl _ (by
    simp only [DataW.weights, hu]
    exact DataW.weights_mem_each hf hd _ (by simp [DataW.weights])))
  have h2 : bytes.length ≤ reachBytes := by simpa using h1
  have h3 : reachBytes ≤ 140737488355328 := by unfold reachBytes; omega
  exact Nat.le_trans h2 h3

set_option maxRecDepth 100000 in
theorem lifted (os : Os) (started : os.Started) (H : Type) (enc : TypeId × Value → H) :
    ReturnsInHanded {} Tryz.checked os 3 .any (fun w args => (Rows.runTextsSpec.pre enc Tryz.prog Tryz.f3 Rows.runTextsRow.domain false w args ∧ laidMetH Tryz.prog Rows.runTextsRow.laid w) ∧ sizedMet enc Tryz.prog Tryz.f3 (OpenSpec.ofChange Rows.runTextsSpec) false w args)
      (Rows.runTextsSpec.post enc Tryz.prog Tryz.f3 false true false false) := by
  refine returnsInHanded_of_change_and (C := Tryz.checked) (X := fun w _ => laidMetH Tryz.prog Rows.runTextsRow.laid w) (fun _ _ _ hh h => h.of_heap hh) own started (by kernel_rfl) Tryz.func3
    (ChangeSpec.witness_shaped (enc := enc) (C := Tryz.checked) (os := os) (X := fun w _ => laidMetH Tryz.prog Rows.runTextsRow.laid w) false (World.laidAll Tryz.prog os Rows.runTextsRow.laid) #[.agg #[.int .i64 0, .int .i64 0, .int .i64 0, .int .i64 0, .int .i64 0, .int .i64 0, .string ByteArray.empty, .string ByteArray.empty, .string ByteArray.empty]] 8 (World.laidAll_os _ _ _)
      (World.shaped_of_ZipB (by kernel_rfl) (by kernel_rfl)) (by kernel_rfl) (by kernel_rfl) (by kernel_rfl)
      (by rw [MakeChecks.laidMetH_plain _ _ _ (by kernel_rfl)]; exact laidMet_laidAll _ (by kernel_rfl) (by kernel_rfl))) ?_
  intro W base args ds gs before hval0 hW hc hk hL _
  have hval : ∀ (j : Nat) t v, Tryz.f3.params[j]? = some t → args[j]? = some v → Value.okWide Tryz.prog W .any base t v := hval0
  have hW' := hW
  obtain ⟨p, q, hA0, hV, rfl, _, _⟩ := hW
  have hA : DataW.TrodAll enc Tryz.prog W 0 (fun _ => true) true Tryz.f3.params.toList args.toList ds p := hA0
  rw [Tryz.params3] at hA hval
  obtain ⟨v0, d0, rfl, rfl, h0⟩ := trodAll_one hA
  obtain ⟨rfl, rfl⟩ := trodVars_none hV
  obtain ⟨cs, rfl, hsz⟩ := okWide_struct Tryz.underlying26 (hval 0 26 v0 rfl rfl)
  have lt0 : ∀ x ∈ p, x.block < W.heap.size := by obtain ⟨m, hm⟩ := h0; exact DataW.trod_lt m _ _ _ hm
  obtain ⟨tag, inp, code, ln, col, st, lk, wy, au, rfl, q1, q2, q3, q4, q5, q6, rfl⟩ := out_open h0
  have s1 : lk.size ≤ 140737488355328 := by
    have := str_in hk (j := 4) (bytes := lk.data.toList) rfl Tryz.underlying26 rfl
    simpa using this
  have s2 : wy.size ≤ 140737488355328 := by
    have := str_in hk (j := 5) (bytes := wy.data.toList) rfl Tryz.underlying26 rfl
    simpa using this
  have s3 : au.size ≤ 140737488355328 := by
    have := str_in hk (j := 6) (bytes := au.data.toList) rfl Tryz.underlying26 rfl
    simpa using this
  refine (walk tag inp code ln col st q1 q6 q2 q3 q4 q5 lk wy au s1 s2 s3 W (tab_of hL)).mono fun e W' ⟨he, bel⟩ => ?_
  subst he
  exact ⟨_, rfl, _, _, _, [], _, [], hW', trodAll_mk1 (shut_bool Tryz.underlying4 _), trodAll_mk1 (Below.trod laidOut (by kernel_rfl) (of_decide_eq_true (by kernel_rfl)) h0 bel lt0), rfl, bel.frame _, fun h => by cases h⟩

theorem over : Rows.RunTextsSaid :=
  OpenClaim.holds_of_wide 3 Tryz.f3 rfl rfl rfl rfl rfl rfl rfl ⟨rfl, rfl, rfl, rfl, rfl⟩ rfl rfl rfl rfl rfl (by kernel_rfl) Tryz.func3 facts
    (of_decide_eq_true (by kernel_rfl)) (by unfold Func.isWrapper; first | (rw [if_pos (by decide +kernel)]; kernel_rfl) | (rw [if_neg (by decide +kernel)]; exact ⟨rfl, rfl⟩))
    (fun os started H enc _ => lifted os started H enc)

theorem proved : Rows.RunTextsCardSaid :=
  Claim7.holds_tied_plain_at .later [] [.data, .data, .data, .data, .pinned] true (true, "76cab4f9f51f49d9c3bb5134777e6d7f792e5db7efecdd3b85bc910413752482") true
    over (fun _ h => by cases h) (by kernel_rfl) (fun _ h => by cases h) runTexts_row_tie rfl ⟨rfl, rfl⟩ (by kernel_rfl) rfl
    (fun f fn hf hfn => by
      obtain rfl : f = 3 := Option.some.inj ((show Tryz.prog.funcNamed "chandler/chandlerlaw23.RunTexts" = some 3 by kernel_rfl).symm.trans hf) |>.symm
      obtain rfl : fn = Tryz.f3 := (Option.some.inj (Tryz.func3.symm.trans hfn)).symm
      exact ⟨by kernel_rfl, fun j t ht => by
        rw [Tryz.params3] at ht
        have h3 : t = 26 := by
          rcases j with _ | j
          · simpa using ht.symm
          · simp at ht
        subst h3
        exact (show Tryz.prog.wantsStandIn 26 = false by kernel_rfl)⟩)
    fact_goes
#print axioms proved
end Go.Proofs.YtoebfmhogkjmgaaGreatDoor.runTexts
