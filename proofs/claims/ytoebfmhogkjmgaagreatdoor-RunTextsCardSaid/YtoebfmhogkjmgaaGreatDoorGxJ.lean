/- The runner is right: code and calls. No program in sight. -/
import Derived.Test.YtoebfmhogkjmgaaGreatDoorGxI
namespace Go.Proofs.YtoebfmhogkjmgaaGreatDoor.Gx
open Go.RowKit
open Fx (forceN forceN_eq sliB maskN bitN dstsOk)
set_option linter.unusedVariables false
set_option linter.unusedSimpArgs false
section
variable {P : Program} {call : CallF}
theorem edges_spec {n : Nat} : ∀ (l : List Oper) (i : Nat), edgesOk i l = true → ∀ j o, l[j]? = some o → ∀ e ∈ o.after, Region.binds .any e = true → e.on < i + j := by
  intro l
  induction l with
  | nil => intro i _ j o h; cases h
  | cons q t ih =>
    intro i h j o hj e he hb
    simp only [edgesOk, Bool.and_eq_true, List.all_eq_true] at h
    cases j with
    | zero =>
      simp only [List.getElem?_cons_zero, Option.some.injEq] at hj
      subst hj
      have := h.1 e (Array.mem_toList_iff.2 he)
      rw [hb] at this
      simp only [Bool.not_true, Bool.false_or] at this
      have := blt_iff.1 this
      omega
    | succ j =>
      have := ih (i + 1) h.2 j o (by simpa using hj) e he hb
      omega
theorem apart1_spec {ops : Array Oper} {M i : Nat} {o : Oper} : ∀ (l : List Oper) (j : Nat), apart1 ops M i o j l = true → ∀ k q, l[k]? = some q → j + k < i → bitN M i (j + k) = true ∨ q.apart ops o = true := by
  intro l
  induction l with
  | nil => intro j _ k q h; cases h
  | cons x t ih =>
    intro j h k q hk hlt
    unfold apart1 at h
    have hb : Nat.blt j i = true := blt_iff.2 (by omega)
    rw [hb] at h
    simp only [cond_true, Bool.and_eq_true, Bool.or_eq_true] at h
    cases k with
    | zero =>
      simp only [List.getElem?_cons_zero, Option.some.injEq] at hk
      subst hk
      exact h.1
    | succ k =>
      have := ih (j + 1) h.2 k q (by simpa using hk) (by omega)
      rw [show j + (k + 1) = j + 1 + k by omega]
      exact this
theorem apartA_spec {ops : Array Oper} {M : Nat} {all : List Oper} : ∀ (l : List Oper) (i : Nat), apartA ops M all i l = true → ∀ k o, l[k]? = some o → apart1 ops M (i + k) o 0 all = true := by
  intro l
  induction l with
  | nil => intro i _ k o h; cases h
  | cons x t ih =>
    intro i h k o hk
    simp only [apartA, Bool.and_eq_true] at h
    cases k with
    | zero =>
      simp only [List.getElem?_cons_zero, Option.some.injEq] at hk
      subst hk
      exact h.1
    | succ k =>
      have := ih (i + 1) h.2 k o (by simpa using hk)
      rw [show i + (k + 1) = i + 1 + k by omega]
      exact this
theorem range'_mem {kinds : List (Nat × Kd)} {i n : Nat} (h : kinds.map (·.1) = List.range' i n) : ∀ x ∈ kinds, i ≤ x.1 ∧ x.1 < i + n := fun x hx => by
  have : x.1 ∈ kinds.map (·.1) := List.mem_map.2 ⟨x, hx, rfl⟩
  rw [h, List.mem_range'] at this
  obtain ⟨j, h1, h2⟩ := this
  omega
theorem pairs_of {ops : Array Oper} (hr : edgesOk 0 ops.toList = true) (ha : apartA ops (maskN ops.toList 0 0) ops.toList 0 ops.toList = true) : ∀ (kinds : List (Nat × Kd)) (i n : Nat), kinds.map (·.1) = List.range' i n → i + n ≤ ops.size → PwD (maskN ops.toList 0 0) kinds → PairsOk ops (maskN ops.toList 0 0) kinds := by
  intro kinds
  induction kinds with
  | nil => intro i n _ _ _; trivial
  | cons x t ih =>
    intro i n h1 h2 h3
    obtain ⟨p1, p2⟩ := h3
    cases n with
    | zero => simp at h1
    | succ n =>
      rw [List.map_cons, List.range'_succ, List.cons.injEq] at h1
      obtain ⟨e1, e2⟩ := h1
      refine ⟨fun y hy => ?_, ih (i + 1) n e2 (by omega) p2⟩
      obtain ⟨r1, r2⟩ := range'_mem e2 y hy
      have hxl : x.1 < ops.size := by omega
      have hyl : y.1 < ops.size := by omega
      have hxo : ops.toList[x.1]? = some ops[x.1] := by simp [hxl]
      have hyo : ops.toList[y.1]? = some ops[y.1] := by simp [hyl]
      refine ⟨ops[x.1], ops[y.1], by simp [hxl], by simp [hyl], by omega, fun e he hb hc => ?_, ?_⟩
      · have := edges_spec (n := 0) ops.toList 0 hr x.1 _ hxo e he hb
        omega
      · have h4 := apart1_spec ops.toList 0 (apartA_spec ops.toList 0 ha y.1 _ hyo) x.1 _ hxo (by omega)
        rw [Nat.zero_add, Nat.zero_add] at h4
        rcases h4 with h4 | h4
        · exact .inr h4
        · rcases p1 y hy with h5 | h5
          · exact .inr h5
          · exact .inl ⟨h4, h5⟩
theorem self_of {ops : Array Oper} (hr : edgesOk 0 ops.toList = true) (x : Nat) (hx : x < ops.size) : SelfOk ops x := by
  have hxo : ops.toList[x]? = some ops[x] := by simp [hx]
  refine ⟨ops[x], by simp [hx], fun e he hb => ?_⟩
  have := edges_spec (n := 0) ops.toList 0 hr x _ hxo e he hb
  omega
theorem dsts_all {ops : Array Oper} {n : Nat} (h : dstsOk n ops = true) : ∀ o ∈ ops.toList, ∀ x, o.dst = some x → x < n := fun o ho x hx => by
  obtain ⟨j, hj⟩ := List.mem_iff_getElem?.1 ho
  have : ops[j]? = some o := by simpa using hj
  exact dsts_spec h this x hx
/-- one outcome -/
def At (e : GEx) (t : GSt) : GEx → GSt → Prop := fun e' t' => e' = e ∧ t' = t
structure RunOk (P : Program) (n : Nat) (c : Code) (s : St) (e : GEx) (s' : St) (D : Nat → Prop) : Prop where
  mv : Mv s.nx s.hp.obj s'.nx s'.hp.obj D
  wp : ∀ (N : Nat) (X : GH), s'.nx ≤ N → Free X s.nx N → awp P n c (At e (den (goneD D X) s')) (den X s)
theorem region_ok (hcall : CallOk P call) (hm : P.follows .mixedOrders = true) {n : Nat} (hn : n ≤ 1000000000) {id : Nat} {ops : Array Oper} {s s' : St} {rs : List (Nat × Rec)} (hd : dstsOk n ops = true) (hreg : regOk ops = true) (h : runOps call P ops ops.toList 0 s [] = .ok (s', rs)) (hI : Inv s)
    (hp : (forceN (maskN ops.toList 0 0) fun M => pairsT M rs) = true) : ∃ D, RunOk P n (.region id ops true) s .normal s' D := by
  obtain ⟨kinds, D, g1, g2, g3, g4, g5⟩ := runOps_ok hcall hn (ops := ops) (maskN ops.toList 0 0) ops.toList 0 s [] s' rs (fun j => by simp) (dsts_all hd) h hI
  refine ⟨D, g2, fun N X hN hX => ?_⟩
  have hops : ops = ops.toList.toArray := by simp
  have hrun := g5 N X hN hX (fun t => At .normal (den (goneD D X) s') .normal t) ⟨rfl, rfl⟩
  unfold regOk at hreg
  rw [forceN_eq] at hreg hp
  rw [Bool.and_eq_true] at hreg
  obtain ⟨_, p2⟩ := g4 hp
  have hlen : kinds.length = ops.toList.length := by
    have := congrArg List.length g1
    simpa using this
  have hps := pairs_of hreg.1 hreg.2 kinds 0 _ g1 (by simp) p2
  have hself : ∀ x ∈ kinds, SelfOk ops x.1 := fun x hx => by
    obtain ⟨r1, r2⟩ := range'_mem g1 x hx
    exact self_of hreg.1 x.1 (by simpa using r2)
  rw [hops] at hd hrun hps hself ⊢
  refine awp_region_any kinds hm hlen (fun j hj => ?_) (by simpa using hps) hself hd hrun
  have : j ∈ kinds.map (·.1) := by
    rw [g1, List.mem_range']
    exact ⟨j, hj, by omega⟩
  obtain ⟨y, hy, e⟩ := List.mem_map.1 this
  exact ⟨y.2, by rw [← e]; exact hy⟩
theorem regionT_ok (hcall : CallOk P call) {n : Nat} (hn : n ≤ 1000000000) {id : Nat} {ops : Array Oper} {s s' : St} (hd : dstsOk n ops = true) (h : runT call P ops false ops.toList s = .ok s') (hI : Inv s) : ∃ D, RunOk P n (.region id ops false) s .normal s' D := by
  obtain ⟨D, g2, g5⟩ := runT_ok hcall hn (ops := ops) false ops.toList 0 s s' (fun j => by simp) (dsts_all hd) h hI
  refine ⟨D, g2, fun N X hN hX => awp_region hd ?_⟩
  have := g5 N X hN hX (fun t => At .normal (den (goneD D X) s') .normal t) ⟨rfl, rfl⟩
  rw [List.range_eq_range']
  simpa using this
theorem wp_at {n : Nat} {c : Code} {e : GEx} {t s : GSt} {Q : GEx → GSt → Prop} (h : awp P n c (At e t) s) (hq : Q e t) : awp P n c Q s := awp_mono h (fun e' t' ht => by
  obtain ⟨rfl, rfl⟩ := ht; exact hq)
theorem iter_ok {n : Nat} {c : Code} {f : St → Rs (GEx × St)} (hf : ∀ s e s', f s = .ok (e, s') → Inv s → ∃ D, RunOk P n c s e s' D) : ∀ (F : Nat) (s : St) (e : GEx) (s' : St), iter f F s = .ok (e, s') → Inv s →
    ∃ D, Mv s.nx s.hp.obj s'.nx s'.hp.obj D ∧ ∀ (N : Nat) (X : GH), s'.nx ≤ N → Free X s.nx N → ∃ k, Rounds P n c (At e (den (goneD D X) s')) k (den X s) := by
  intro F
  induction F with
  | zero =>
    intro s e s' h
    have h2 : (Rs.bad [0] : Rs (GEx × St)) = .ok (e, s') := h
    cases h2
  | succ F ih =>
    intro s e s' h hI
    have h2 : iterS f (iter f F) s = .ok (e, s') := h
    unfold iterS at h2
    split at h2
    · rename_i s1 hs
      obtain ⟨D1, a1⟩ := hf s _ s1 hs hI
      obtain ⟨D, b1, b2⟩ := ih s1 e s' h2 a1.mv.inv
      refine ⟨fun k => D1 k ∨ D k, a1.mv.trans b1, fun N X hN hX => ?_⟩
      have hfr : Free (goneD D1 X) s1.nx N := Free.gone hX a1.mv.le (fun k hk => (a1.mv.dd k hk).2.1)
      obtain ⟨k, b4⟩ := b2 N (goneD D1 X) hN hfr
      rw [goneD_or] at b4
      exact ⟨k + 1, .next (wp_at (a1.wp N X (Nat.le_trans b1.le hN) hX) rfl) b4⟩
    · rename_i hne
      obtain ⟨D, a1⟩ := hf s e s' h2 hI
      refine ⟨D, a1.mv, fun N X hN hX => ⟨0, .last (wp_at (a1.wp N X hN hX) ?_)⟩⟩
      cases e with
      | normal => exact (hne s' h2).elim
      | exit id => exact ⟨rfl, rfl⟩
      | ret => exact ⟨rfl, rfl⟩
theorem RunOk.stay {n : Nat} {c : Code} {s : St} {e : GEx} (hI : Inv s) (h : ∀ X : GH, awp P n c (At e (den X s)) (den X s)) : ∃ D, RunOk P n c s e s D :=
  ⟨fun _ => False, Mv.refl hI, fun N X _ _ => by rw [goneD_false]; exact h X⟩
theorem seq_ok {n : Nat} {a b : Code} {s s1 s' : St} {e : GEx} {D1 D : Nat → Prop} (h1 : RunOk P n a s .normal s1 D1) (h2 : RunOk P n b s1 e s' D) : RunOk P n (.seq a b) s e s' (fun k => D1 k ∨ D k) :=
  ⟨h1.mv.trans h2.mv, fun N X hN hX => awp_seq (wp_at (h1.wp N X (Nat.le_trans h2.mv.le hN) hX) (by
    have hfr : Free (goneD D1 X) s1.nx N := Free.gone hX h1.mv.le (fun k hk => (h1.mv.dd k hk).2.1)
    have := h2.wp N (goneD D1 X) hN hfr
    rw [goneD_or] at this
    exact this))⟩
theorem run_ok (hcall : CallOk P call) (hm : P.follows .mixedOrders = true) {n : Nat} (hn : n ≤ 1000000000) (F : Nat) : ∀ (c : Code) (s : St) (e : GEx) (s' : St), codeOk n c = true → run call P F c s = .ok (e, s') → Inv s → ∃ D, RunOk P n c s e s' D := by
  intro c
  induction c with
  | skip =>
    intro s e s' _ h hI
    have h2 : (Rs.ok (.normal, s) : Rs (GEx × St)) = .ok (e, s') := h
    injection h2 with h2; injection h2 with h3 h4; subst h3; subst h4
    exact RunOk.stay hI (fun X => awp_skip ⟨rfl, rfl⟩)
  | region id ops draw =>
    intro s e s' hc h hI
    simp only [codeOk, Bool.and_eq_true] at hc
    have h2 : regionR call P id ops draw s = .ok (e, s') := h
    unfold regionR at h2
    cases draw with
    | false =>
      simp only at h2
      cases hr : runT call P ops false ops.toList s with
      | ok s1 =>
        rw [hr] at h2
        simp only [plainS] at h2
        injection h2 with h2; injection h2 with h3 h4; subst h3; subst h4
        exact regionT_ok hcall hn hc.1 hr hI
      | bad l => rw [hr] at h2; cases h2
    | true =>
      simp only at h2
      cases hr : runOps call P ops ops.toList 0 s [] with
      | ok y =>
        obtain ⟨s1, rs⟩ := y
        rw [hr] at h2
        simp only [drawR] at h2
        cases hp : (forceN (maskN ops.toList 0 0) fun M => pairsT M rs) with
        | false => rw [hp] at h2; cases h2
        | true =>
          rw [hp] at h2
          simp only [cond_true] at h2
          injection h2 with h2; injection h2 with h3 h4; subst h3; subst h4
          exact region_ok hcall hm hn hc.1 (by simpa using hc.2) hr hI hp
      | bad l => rw [hr] at h2; cases h2
  | seq a b iha ihb =>
    intro s e s' hc h hI
    simp only [codeOk, Bool.and_eq_true] at hc
    have h2 : seqR (run call P F a) (run call P F b) s = .ok (e, s') := h
    unfold seqR at h2
    split at h2
    · rename_i s1 h1
      obtain ⟨D1, a1⟩ := iha s _ s1 hc.1 h1 hI
      obtain ⟨D, b1⟩ := ihb s1 e s' hc.2 h2 a1.mv.inv
      exact ⟨_, seq_ok a1 b1⟩
    · rename_i hne
      obtain ⟨D, a1⟩ := iha s e s' hc.1 h2 hI
      refine ⟨D, a1.mv, fun N X hN hX => awp_seq (wp_at (a1.wp N X hN hX) ?_)⟩
      cases e with
      | normal => exact (hne s' h2).elim
      | exit id => exact ⟨rfl, rfl⟩
      | ret => exact ⟨rfl, rfl⟩
  | cond x a b iha ihb =>
    intro s e s' hc h hI
    simp only [codeOk, Bool.and_eq_true] at hc
    have h2 : condR x (run call P F a) (run call P F b) s = .ok (e, s') := h
    unfold condR at h2
    split at h2
    · rename_i hx
      obtain ⟨D, a1⟩ := iha s e s' hc.1 h2 hI
      exact ⟨D, a1.mv, fun N X hN hX => awp_cond (b := true) hx (a1.wp N X hN hX)⟩
    · rename_i hx
      obtain ⟨D, a1⟩ := ihb s e s' hc.2 h2 hI
      exact ⟨D, a1.mv, fun N X hN hX => awp_cond (b := false) hx (a1.wp N X hN hX)⟩
    · cases h2
  | block id c ih =>
    intro s e s' hc h hI
    simp only [codeOk] at hc
    have h2 : blockR id (run call P F c) s = .ok (e, s') := h
    unfold blockR at h2
    split at h2
    · rename_i id' s1 h1
      obtain ⟨D, a1⟩ := ih s _ s1 hc h1 hI
      cases he : Nat.beq id' id with
      | true =>
        rw [he, cond_true] at h2
        injection h2 with h2; injection h2 with h3 h4; subst h3; subst h4
        refine ⟨D, a1.mv, fun N X hN hX => awp_block (wp_at (a1.wp N X hN hX) ?_)⟩
        show if id' = id then _ else _
        rw [if_pos (Nat.eq_of_beq_eq_true he)]; exact ⟨rfl, rfl⟩
      | false =>
        rw [he, cond_false] at h2
        injection h2 with h2; injection h2 with h3 h4; subst h3; subst h4
        refine ⟨D, a1.mv, fun N X hN hX => awp_block (wp_at (a1.wp N X hN hX) ?_)⟩
        show if id' = id then _ else _
        rw [if_neg (fun e => by rw [e] at he; rw [Nat.beq_refl] at he; cases he)]; exact ⟨rfl, rfl⟩
    · rename_i hne
      obtain ⟨D, a1⟩ := ih s e s' hc h2 hI
      refine ⟨D, a1.mv, fun N X hN hX => awp_block (wp_at (a1.wp N X hN hX) ?_)⟩
      cases e with
      | normal => exact ⟨rfl, rfl⟩
      | exit id' => exact (hne id' s' h2).elim
      | ret => exact ⟨rfl, rfl⟩
  | loop c ih =>
    intro s e s' hc h hI
    simp only [codeOk] at hc
    have h2 : iter (run call P F c) F s = .ok (e, s') := h
    obtain ⟨D, a1, a2⟩ := iter_ok (P := P) (n := n) (c := c) (fun s e s' h hI => ih s e s' hc h hI) F s e s' h2 hI
    exact ⟨D, a1, fun N X hN hX => by obtain ⟨k, a4⟩ := a2 N X hN hX; exact awp_rounds a4⟩
  | exit id =>
    intro s e s' _ h hI
    have h2 : (Rs.ok (.exit id, s) : Rs (GEx × St)) = .ok (e, s') := h
    injection h2 with h2; injection h2 with h3 h4; subst h3; subst h4
    exact RunOk.stay hI (fun X => awp_exit ⟨rfl, rfl⟩)
  | ret =>
    intro s e s' _ h hI
    have h2 : (Rs.ok (.ret, s) : Rs (GEx × St)) = .ok (e, s') := h
    injection h2 with h2; injection h2 with h3 h4; subst h3; subst h4
    exact RunOk.stay hI (fun X => awp_ret ⟨rfl, rfl⟩)
  | _ =>
    intro s e s' _ h
    have h2 : (Rs.bad [1000002] : Rs (GEx × St)) = .ok (e, s') := h
    cases h2
theorem resR_ok {s : St} {H : GH} (hH : ∀ k o, s.hp.obj k = some o → H k = some o) {w0 w : World} {m : GM} {a : Act} (hC : Conc w0 m H w) (hS : SlotsRep m a (evT s.sl)) {r : ResultVar} {x : GA} (h : resR P s r = some x) :
    ∃ v, ((match r with | .tmp t => pure (a.tmps.getD t undef) | .cell b t => do loadVar t (← asAddr (a.tmps.getD b undef)) : Sem Value)).run P w = .ok v w ∧ VRep m v x := by
  unfold resR at h
  split at h
  · rename_i t
    injection h with h; subst h
    exact ⟨_, rfl, hS t⟩
  · rename_i b ty
    split at h
    · rename_i agg n k hs hk
      split at h
      · rename_i vt cs ver ho
        split at h
        · rename_i hc
          injection h with h; subst h
          have hv := hS b
          rw [hk] at hv
          obtain ⟨bb, base, size, hm, e⟩ := rep_p hv
          have hcell : ∀ j, j < n → w.cell? ⟨bb, base + 0 + j, none⟩ = some ((mapR (fun j => cellOr w bb (base + 0 + j)) n).getD j undef) := fun j hj => by
            obtain ⟨y, h1, _⟩ := obj_cell hC (hH _ _ ho) hm (i := 0 + j) (by omega)
            rw [← Nat.add_assoc] at h1
            rw [mapR_get _ _ _ hj, cellOr_eq h1]; exact h1
          have hrun := Fx.run_loadVar_cells (Fx.shp_ok hs) hc.1 w bb (base + 0) _ (mapR_len _ _) hcell
          refine ⟨_, ?_, take_rep (l := cs) (i := 0) (cs := mapR (fun j => cellOr w bb (base + 0 + j)) n) (mapR_len _ _) hc.1 (by omega) (fun j hj => ?_)⟩
          · simp only [e, asAddr, Sem.run_bind, Sem.run_pure, Result.andThen_ok, hrun]
          · obtain ⟨y, h1, h2⟩ := obj_cell hC (hH _ _ ho) hm (i := 0 + j) (by omega)
            rw [← Nat.add_assoc] at h1
            rw [mapR_get _ _ _ hj, cellOr_eq h1]; exact h2
        · cases h
      · cases h
    · cases h
theorem resL_ok {s : St} {H : GH} (hH : ∀ k o, s.hp.obj k = some o → H k = some o) {w0 w : World} {m : GM} {a : Act} (hC : Conc w0 m H w) (hS : SlotsRep m a (evT s.sl)) : ∀ (rs : List ResultVar) (xs : List GA), resL P s rs = some xs →
    ∃ vs : List Value, (rs.mapM fun r => (match r with | .tmp t => pure (a.tmps.getD t undef) | .cell b t => do loadVar t (← asAddr (a.tmps.getD b undef)) : Sem Value)).run P w = .ok vs w ∧ vs.length = xs.length ∧ ∀ i, i < xs.length → VRep m (vs.getD i undef) (xs.getD i .dead) := by
  intro rs
  induction rs with
  | nil => intro xs h; injection h with h; subst h; exact ⟨[], by simp, rfl, fun i hi => absurd hi (Nat.not_lt_zero _)⟩
  | cons r t ih =>
    intro xs h
    unfold resL at h
    split at h
    · rename_i x l hr hl
      injection h with h; subst h
      obtain ⟨v, h1, h2⟩ := resR_ok hH hC hS hr
      obtain ⟨vs, h3, h4, h5⟩ := ih l hl
      refine ⟨v :: vs, ?_, by simp [h4], fun i hi => ?_⟩
      · rw [List.mapM_cons]
        simp only [Sem.run_bind, h1, Result.andThen_ok, h3, Sem.run_pure]
      · cases i with
        | zero => simpa using h2
        | succ i => simpa using h5 i (by simpa using hi)
    · cases h
theorem results_ok {s : St} {H : GH} (hH : ∀ k o, s.hp.obj k = some o → H k = some o) {w0 w : World} {m : GM} {a : Act} {fn : Func} (hC : Conc w0 m H w) (hS : SlotsRep m a (evT s.sl)) {xs : List GA} (h : resL P s fn.results.toList = some xs) : ∃ v, (results fn a.tmps).run P w = .ok v w ∧ VRep m v (resOf xs) := by
  obtain ⟨vs, h1, h2, h3⟩ := resL_ok hH hC hS _ _ h
  refine ⟨if h : vs.toArray.size = 1 then vs.toArray[0] else .tuple vs.toArray, ?_, ?_⟩
  · unfold results
    rw [Array.mapM_eq_mapM_toList]
    simp only [map_eq_pure_bind, Sem.run_bind]
    erw [h1]
    simp only [Result.andThen_ok, Sem.run_pure]
  · by_cases h : vs.toArray.size = 1
    · rw [dif_pos h]
      have hx1 : xs.length = 1 := by rw [← h2]; simpa using h
      obtain ⟨x, hx2⟩ := List.length_eq_one_iff.1 hx1
      have hv1 : vs.length = 1 := by simpa using h
      have := h3 0 (by omega)
      rw [hx2] at this ⊢
      simpa [resOf, List.getD_eq_getElem?_getD, hv1] using this
    · rw [dif_neg h]
      have hx1 : xs.length ≠ 1 := by rw [← h2]; simpa using h
      have e : resOf xs = .tup xs := by
        rcases xs with _ | ⟨x, _ | ⟨y, t⟩⟩
        · rfl
        · exact absurd rfl hx1
        · rfl
      rw [e]
      exact .tup vs xs h2 h3
theorem slotsT_get : ∀ (l : List GA) (k : Nat) (t : Tr GA) (j : Nat), k + l.length ≤ 1000000000 → evT (slotsT k l t) j = if k ≤ j ∧ j < k + l.length then l.getD (j - k) .dead else evT t j := by
  intro l
  induction l with
  | nil => intro k t j _; rw [if_neg (by simp), slotsT]
  | cons x u ih =>
    intro k t j hb
    simp only [List.length_cons] at hb ⊢
    unfold slotsT
    rw [forceA_eq, Tr.seq_eq, ih (k + 1) _ j (by omega), evT_ins (by omega)]
    by_cases h : k + 1 ≤ j ∧ j < k + 1 + u.length
    · rw [if_pos h, if_pos (by omega)]
      have e : j - k = (j - (k + 1)) + 1 := by omega
      rw [e]; simp
    · rw [if_neg h]
      unfold us
      by_cases h2 : j = k
      · subst h2; rw [if_pos rfl, if_pos (by omega)]; simp
      · rw [if_neg h2, if_neg (by omega)]
theorem leaf_dead (t : Nat) : evT (.leaf : Tr GA) t = .dead := by
  unfold evT Tr.get
  cases Nat.blt t 1000000000
  · rfl
  · exact Tr.getP_leaf _ _
theorem leaf_none : (Tr.leaf : HT).obj = fun _ => none := by
  funext t
  unfold Tr.obj Tr.get
  cases Nat.blt t 1000000000
  · rfl
  · exact Tr.getP_leaf _ _
theorem start_told {w0 w : World} {m : GM} {X : GH} {hp : HT} {nx : Nat} (hC : Conc w0 m (ovr X hp.obj) w) {vals : List Value} {args : List GA} {fn : Func} (hl : vals.length = args.length) (hv : ∀ i, i < args.length → VRep m (vals.getD i undef) (args.getD i .dead)) (hk : args.length ≤ fn.ntmps) (hlim : fn.ntmps ≤ 1000000000) :
    Told fn.ntmps w0 m (den X ⟨slotsT 0 args .leaf, hp, nx, []⟩) { tmps := vals.toArray ++ Array.replicate (fn.ntmps - vals.toArray.size) undef, defers := [] } w := by
  refine ⟨⟨m, Ext.refl _, hC, fun t => ?_, rfl, fun i hi => absurd hi (Nat.not_lt_zero _)⟩, by simp [hl]; try omega⟩
  show VRep m _ (evT (slotsT 0 args .leaf) t)
  rw [slotsT_get args 0 .leaf t (by omega)]
  by_cases ht : t < args.length
  · rw [if_pos (by omega), Nat.sub_zero]
    have := hv t ht
    have e : (vals.toArray ++ Array.replicate (fn.ntmps - vals.toArray.size) undef).getD t undef = vals.getD t undef := by
      have ht' : t < vals.length := by omega
      simp [List.getD_eq_getElem?_getD, Array.getElem?_append, ht']
    rw [e]; exact this
  · rw [if_neg (by omega), leaf_dead]; exact .dead _
/-- a deferred call's code, where nobody panics -/
theorem runD_ok (hcall : CallOk P call) (hm : P.follows .mixedOrders = true) {n : Nat} (hn : n ≤ 1000000000) (F : Nat) : ∀ (c : Code) (s : St) (e : GEx) (s' : St), codeOk n c = true → runD call P F c s = .ok (e, s') → Inv s →
    ∃ D, Mv s.nx s.hp.obj s'.nx s'.hp.obj D ∧ ∀ (N : Nat) (X : GH), s'.nx ≤ N → Free X s.nx N → ∀ (w0 : World) (m0 : GM) (a : Act) (w : World) (c₀ : Frame) (fr : List Frame) (Q : Exit → Act → List Frame → World → Prop), c₀.mode = .returning → Told n w0 m0 (den X s) a w →
      (∀ e' a' w', lift n w0 m0 (At e (den (goneD D X) s')) e' a' w' → Q e' a' (c₀ :: fr) w') → c.wpS P Q a (c₀ :: fr) w := by
  intro c
  have plain : ∀ (c : Code) (s : St) (e : GEx) (s' : St), codeOk n c = true → run call P F c s = .ok (e, s') → Inv s →
    ∃ D, Mv s.nx s.hp.obj s'.nx s'.hp.obj D ∧ ∀ (N : Nat) (X : GH), s'.nx ≤ N → Free X s.nx N → ∀ (w0 : World) (m0 : GM) (a : Act) (w : World) (c₀ : Frame) (fr : List Frame) (Q : Exit → Act → List Frame → World → Prop), c₀.mode = .returning → Told n w0 m0 (den X s) a w →
      (∀ e' a' w', lift n w0 m0 (At e (den (goneD D X) s')) e' a' w' → Q e' a' (c₀ :: fr) w') → c.wpS P Q a (c₀ :: fr) w := fun c s e s' hc h hI => by
    obtain ⟨D, a1⟩ := run_ok hcall hm hn F c s e s' hc h hI
    refine ⟨D, a1.mv, fun N X hN hX w0 m0 a w c₀ fr Q hc₀ ht hQ => wpS_of_wp (Code.wp_mono (fun e' a' w' hq => hQ e' a' w' hq) (a1.wp N X hN hX w0 m0 a w ht))⟩
  induction c with
  | region id ops draw =>
    cases draw with
    | true => intro s e s' hc h hI; exact plain _ s e s' hc h hI
    | false =>
      intro s e s' hc h hI
      have hd : dstsOk n ops = true := by simp only [codeOk, Bool.and_eq_true] at hc; exact hc.1
      have h2 : plainS id (runT call P ops true ops.toList s) = .ok (e, s') := h
      cases hr : runT call P ops true ops.toList s with
      | bad l => rw [hr] at h2; cases h2
      | ok s1 =>
        rw [hr] at h2
        simp only [plainS] at h2
        injection h2 with h2; injection h2 with h3 h4; subst h3; subst h4
        obtain ⟨D, g2, g5⟩ := runT_ok hcall hn (ops := ops) true ops.toList 0 s s1 (fun j => by simp) (dsts_all hd) hr hI
        refine ⟨D, g2, fun N X hN hX w0 m0 a w c₀ fr Q hc₀ ht hQ => wpS_region ?_⟩
        have hrt := g5 N X hN hX (fun t => t = den (goneD D X) s1) rfl
        rw [show List.range ops.size = List.range' 0 ops.toList.length by rw [List.range_eq_range']; simp]
        exact run_textS hc₀ hd (K := fun t => t = den (goneD D X) s1) (fun t a' w' ht hs => hQ .normal a' w' ⟨t, ht, rfl, hs⟩) _ _ a w ht hrt
  | seq a b iha ihb =>
    intro s e s' hc h hI
    simp only [codeOk, Bool.and_eq_true] at hc
    have h2 : seqR (runD call P F a) (run call P F b) s = .ok (e, s') := h
    unfold seqR at h2
    split at h2
    · rename_i s1 h1
      obtain ⟨D1, a1, a2⟩ := iha s _ s1 hc.1 h1 hI
      obtain ⟨D, b1⟩ := run_ok hcall hm hn F b s1 e s' hc.2 h2 a1.inv
      refine ⟨fun k => D1 k ∨ D k, a1.trans b1.mv, fun N X hN hX w0 m0 a w c₀ fr Q hc₀ ht hQ => wpS_seq ?_⟩
      refine a2 N X (Nat.le_trans b1.mv.le hN) hX w0 m0 a w c₀ fr _ hc₀ ht (fun e' a' w' hl => ?_)
      cases e' <;> first | exact hl.elim | skip
      · obtain ⟨t, k1, k2, k3⟩ := hl
        subst k3
        have hfr : Free (goneD D1 X) s1.nx N := Free.gone hX a1.le (fun k hk => (a1.dd k hk).2.1)
        refine wpS_of_wp (Code.wp_mono (fun e' a' w' hq => hQ e' a' w' ?_) (b1.wp N (goneD D1 X) hN hfr w0 m0 a' w' k1))
        rw [goneD_or] at hq
        exact hq
      · obtain ⟨t, k1, k2, k3⟩ := hl; cases k2
      · obtain ⟨t, k1, k2, k3⟩ := hl; cases k2
    · rename_i hne
      obtain ⟨D, a1, a2⟩ := iha s e s' hc.1 h2 hI
      refine ⟨D, a1, fun N X hN hX w0 m0 a w c₀ fr Q hc₀ ht hQ => wpS_seq ?_⟩
      refine a2 N X hN hX w0 m0 a w c₀ fr _ hc₀ ht (fun e' a' w' hl => ?_)
      cases e' <;> first | exact hl.elim | skip
      · obtain ⟨t, k1, k2, k3⟩ := hl
        subst k2
        exact (hne s' h2).elim
      · exact hQ _ a' w' hl
      · exact hQ _ a' w' hl
  | _ => intro s e s' hc h hI; exact plain _ s e s' hc h hI
/-- the functions that were looked at -/
def RegsOk (P : Program) (regs : Nat) : Prop := ∀ f, Nat.testBit regs f = true → funOk P f = true
theorem codeOf_spec {regs f k : Nat} {fn : Func} {c : Code} (hr : RegsOk P regs) (h : codeOf P regs f k = some (fn, c)) : P.funcs[f]? = some fn ∧ fn.body = some c ∧ k ≤ fn.ntmps ∧ codeOk fn.ntmps c = true ∧ fn.ntmps ≤ 1000000000 := by
  unfold codeOf at h
  split at h
  · rename_i fn' hf
    split at h
    · rename_i c' hb
      cases hcnd : (Nat.testBit regs f && Nat.ble k fn'.ntmps) with
      | false => rw [hcnd] at h; cases h
      | true =>
        rw [hcnd, cond_true] at h
        injection h with h; injection h with h1 h2; subst h1; subst h2
        rw [Bool.and_eq_true] at hcnd
        have hfo := hr f hcnd.1
        unfold funOk at hfo
        rw [hf] at hfo
        simp only [hb, Bool.and_eq_true] at hfo
        exact ⟨hf, hb, Nat.le_of_ble_eq_true hcnd.2, hfo.1, Nat.le_of_ble_eq_true hfo.2⟩
    · cases h
  · cases h
theorem lives {X : GH} {hp : HT} : ∀ k o, hp.obj k = some o → ovr X hp.obj k = some o := fun k o h => by
  rw [ovr_live (by rw [h]; simp)]; exact h
theorem callD_ok (hcall : CallOk P call) (hm : P.follows .mixedOrders = true) {regs : Nat} (hregs : RegsOk P regs) (F : Nat) {x : GC} {hp hp' : HT} {nx nx' : Nat} (h : callD call P regs F x hp nx = .ok (hp', nx')) (hI : Clear nx hp.obj) :
    ∃ D, Mv nx hp.obj nx' hp'.obj D ∧ ∀ (N : Nat) (X : GH), nx' ≤ N → Free X nx N → ∀ (w0 : World) (m : GM) (w : World) (d : Deferred), Conc w0 m (ovr X hp.obj) w → DefRep m d x →
      ∃ fv cap f args, d.target = .fn fv cap ∧ (invoke d.target d.args).run P w = .ok (.enter f args) w ∧ CallsD P f args .returning w fun e u w' => u = .returning ∧ ∃ val m', e = .returned val ∧ Conc w0 m' (ovr (goneD D X) hp'.obj) w' ∧ Ext m m' := by
  unfold callD at h
  split at h
  · rename_i f fs cs
    split at h
    · rename_i fn code hcode
      obtain ⟨hf, hb, hk, hco, hlim⟩ := codeOf_spec hregs hcode
      cases hgo : Fx.goB P f with
      | false => rw [hgo] at h; cases h
      | true =>
        rw [hgo, cond_true] at h
        unfold endD at h
        split at h
        · cases h
        · rename_i e s hne hr
          split at h
          · rename_i hdf
            split at h
            · rename_i xs hres
              injection h with h; injection h with h1 h2
              subst h1; subst h2
              have hlen : (fs.map GA.c ++ cs.map GA.c).length = fs.length + cs.length := by simp
              obtain ⟨D, a1, a2⟩ := runD_ok hcall hm hlim F code ⟨slotsT 0 (fs.map .c ++ cs.map .c) .leaf, hp, nx, []⟩ e s hco hr hI
              refine ⟨D, a1, fun N X hN hX w0 m w d hC hx => ?_⟩
              obtain ⟨f', fs', cs', vs, us, e1, e2, e3, e4⟩ := hx
              injection e1 with e1 e5 e6; injection e1 with e1; subst e1; subst e5; subst e6
              refine ⟨_, _, f, vs ++ us, e2, ?_, ?_⟩
              · rw [e2, e3]
                have := Fx.run_callFunc (P := P) hgo (vs ++ us) w
                simpa [invoke] using this
              · refine callsD_of_wpS hf hb (fun c₀ frs hc₀ => ?_)
                have hstart : Told fn.ntmps w0 m (den X ⟨slotsT 0 (fs.map .c ++ cs.map .c) .leaf, hp, nx, []⟩) { tmps := (vs ++ us) ++ Array.replicate (fn.ntmps - (vs ++ us).size) undef, defers := [] } w := by
                  cases e4 with
                  | fn f fs cs vs us h1 h2 hf' hc' =>
                    obtain ⟨a1, a2⟩ := cells_args h1 hf'
                    obtain ⟨b1, b2⟩ := cells_args h2 hc'
                    obtain ⟨c1, c2⟩ := app_get a1 a2 b1 b2
                    have := start_told (nx := nx) (fn := fn) hC c1 c2 (by rw [hlen]; exact hk) hlim
                    simpa using this
                refine a2 N X hN hX w0 m _ w c₀ frs _ hc₀ hstart (fun e' a' w' hl => ?_)
                have hcc : c₀ :: frs = { c₀ with mode := .returning } :: frs := by rw [← hc₀]
                have fin : ∀ t, Told fn.ntmps w0 m t a' w' → t = den (goneD D X) s → a'.defers = [] ∧ ∃ v, (results fn a'.tmps).run P w' = .ok v w' ∧ ∃ m', Conc w0 m' (ovr (goneD D X) s.hp.obj) w' ∧ Ext m m' := by
                  rintro t ⟨⟨m', k0, k1, k2, k3⟩, _⟩ rfl
                  obtain ⟨v, r1, r2⟩ := results_ok (fn := fn) lives k1 k2 hres
                  refine ⟨?_, v, r1, m', k1, k0⟩
                  have := k3.1
                  unfold den at this
                  rw [hdf] at this
                  exact List.length_eq_zero_iff.1 this
                cases e' <;> first | exact hl.elim | skip
                · obtain ⟨t, k1, k2, k3⟩ := hl
                  obtain ⟨q1, v, q2, m', q3, q4⟩ := fin t k1 k3
                  exact ⟨q1, .returning, hcc, v, q2, rfl, v, m', rfl, q3, q4⟩
                · obtain ⟨t, k1, k2, k3⟩ := hl
                  exact (hne _ (by rw [k2])).elim
                · obtain ⟨t, k1, k2, k3⟩ := hl
                  obtain ⟨q1, v, q2, m', q3, q4⟩ := fin t k1 k3
                  exact ⟨q1, .returning, hcc, v, q2, rfl, v, m', rfl, q3, q4⟩
            · cases h
          · cases h
        · cases h
    · cases h
  · cases h
theorem callDs_ok (hcall : CallOk P call) (hm : P.follows .mixedOrders = true) {regs : Nat} (hregs : RegsOk P regs) (F : Nat) : ∀ (l : List GC) (hp hp' : HT) (nx nx' : Nat), callDs call P regs F l hp nx = .ok (hp', nx') → Clear nx hp.obj →
    ∃ D, Mv nx hp.obj nx' hp'.obj D ∧ ∀ (fn : Func) (tmps : Array Value) (R : Ending → World → Prop) (N : Nat) (X : GH), nx' ≤ N → Free X nx N → ∀ (w0 : World) (m : GM) (w : World) (ds : List Deferred), Conc w0 m (ovr X hp.obj) w → DefsRep m ds l →
      (∀ m' w', Conc w0 m' (ovr (goneD D X) hp'.obj) w' → Ext m m' → Leaves P fn tmps R [] .returning w') → Leaves P fn tmps R ds .returning w := by
  intro l
  induction l with
  | nil =>
    intro hp hp' nx nx' h hI
    unfold callDs at h
    injection h with h; injection h with h1 h2; subst h1; subst h2
    refine ⟨fun _ => False, Mv.refl hI, fun fn tmps R N X _ _ w0 m w ds hC hd hK => ?_⟩
    have : ds = [] := List.length_eq_zero_iff.1 (by simpa using hd.1)
    subst this
    rw [goneD_false] at hK
    exact hK m w hC (Ext.refl _)
  | cons x t ih =>
    intro hp hp' nx nx' h hI
    unfold callDs at h
    split at h
    · rename_i hp1 nx1 h1
      obtain ⟨D1, a1, a4⟩ := callD_ok hcall hm hregs F h1 hI
      obtain ⟨D, b1, b4⟩ := ih hp1 hp' nx1 nx' h a1.inv
      refine ⟨fun k => D1 k ∨ D k, a1.trans b1, fun fn tmps R N X hN hX w0 m w ds hC hd hK => ?_⟩
      cases ds with
      | nil => exact absurd hd.1 (by simp)
      | cons d ds =>
        have hd0 := hd.2 0 (by simp)
        obtain ⟨fv, cap, f, args, e1, e2, e3⟩ := a4 N X (Nat.le_trans b1.le hN) hX w0 m w d hC (by simpa using hd0)
        refine ⟨by simp, fv, cap, f, args, e1, e2, e3.mono (fun e u w' hr => ?_)⟩
        obtain ⟨rfl, val, m', rfl, k1, k2⟩ := hr
        have hfr : Free (goneD D1 X) nx1 N := Free.gone hX a1.le (fun k hk => (a1.dd k hk).2.1)
        refine b4 fn tmps R N (goneD D1 X) hN hfr w0 m' w' ds k1 ⟨by simpa using hd.1, fun i hi => ?_⟩ (fun m'' w'' q1 q2 => hK m'' w'' (by rw [goneD_or] at q1; exact q1) (k2.trans q2))
        have hdi := hd.2 (i + 1) (by simpa using hi)
        obtain ⟨f, fs, cs, vs, us, p1, p2, p3, p4⟩ := hdi
        exact ⟨f, fs, cs, vs, us, by simpa using p1, by simpa using p2, by simpa using p3, by simpa using p4.ext k2⟩
    · cases h
theorem callB_ok (hcall : CallOk P call) (hm : P.follows .mixedOrders = true) {regs : Nat} (hregs : RegsOk P regs) (F : Nat) : CallOk P (callB call P regs F) := by
  refine ⟨fun f args hp nx v hp' nx' h hI => ?_⟩
  unfold callB at h
  split at h
  · rename_i fn code hcode
    obtain ⟨hf, hb, hk, hco, hlim⟩ := codeOf_spec hregs hcode
    unfold endB at h
    split at h
    · cases h
    · rename_i e s hne hr
      obtain ⟨D1, a1⟩ := run_ok hcall hm hlim F code ⟨slotsT 0 args .leaf, hp, nx, []⟩ e s hco hr hI
      unfold callE at h
      split at h
      · rename_i hp1 nx1 hds
        split at h
        · rename_i xs hres
          injection h with h; injection h with h1 h2; injection h2 with h2 h3
          subst h1; subst h2; subst h3
          obtain ⟨D, b1, b4⟩ := callDs_ok hcall hm hregs F s.df s.hp hp1 s.nx nx1 hds a1.mv.inv
          have a1m : Mv nx hp.obj s.nx s.hp.obj D1 := a1.mv
          refine ⟨fun k => D1 k ∨ D k, a1m.trans b1, fun N X hN hX w0 m w vals hC hl hv => ?_⟩
          refine calls_of_wp_defers hf hb ?_
          refine Code.wp_mono (fun e' a' w' hq => ?_) (a1.wp N X (Nat.le_trans b1.le hN) hX w0 m _ w (start_told (nx := nx) hC hl hv hk hlim))
          have hfr : Free (goneD D1 X) s.nx N := Free.gone hX a1m.le (fun k hk => (a1m.dd k hk).2.1)
          have fin : ∀ t, Told fn.ntmps w0 m t a' w' → t = den (goneD D1 X) s → Leaves P fn a'.tmps (fun e w' => ∃ val m', e = .returned val ∧ Conc w0 m' (ovr (goneD (fun k => D1 k ∨ D k) X) hp1.obj) w' ∧ Ext m m' ∧ VRep m' val (resOf xs)) a'.defers .returning w' := by
            rintro t ⟨⟨m', k0, k1, k2, k3⟩, _⟩ rfl
            refine b4 fn a'.tmps _ N (goneD D1 X) hN hfr w0 m' w' a'.defers k1 k3 (fun m'' w'' q1 q2 => ?_)
            rw [goneD_or] at q1
            obtain ⟨v, r1, r2⟩ := results_ok (fn := fn) (s := ⟨s.sl, hp1, nx1, []⟩) lives q1 (fun t => (k2 t).ext q2) hres
            exact ⟨v, r1, v, m'', rfl, q1, k0.trans q2, r2⟩
          cases e' <;> first | exact hq.elim | skip
          · obtain ⟨t, k1, k2, k3⟩ := hq; exact fin t k1 k3
          · obtain ⟨t, k1, k2, k3⟩ := hq
            exact (hne _ (by rw [k2])).elim
          · obtain ⟨t, k1, k2, k3⟩ := hq; exact fin t k1 k3
        · cases h
      · cases h
    · cases h
  · cases h
theorem callN_ok (hm : P.follows .mixedOrders = true) {regs : Nat} (hregs : RegsOk P regs) (F : Nat) : ∀ d, CallOk P (callN P regs F d) := by
  intro d
  induction d with
  | zero => exact ⟨fun f args hp nx v hp' nx' h => by
      have h2 : (Rs.bad [1000003] : Rs (GA × HT × Nat)) = .ok (v, hp', nx') := h
      cases h2⟩
  | succ d ih => exact callB_ok ih hm hregs F
/-- a call without arguments, at the beginning -/
theorem closed_of {call : CallF} (hcall : CallOk P call) {f : FuncId} {v : Value} {hp : HT} {nx : Nat} (h : call f [] .leaf 0 = .ok (.c (.v v), hp, nx)) (w : World) :
    Calls P f #[] w fun e w' => e = .returned v ∧ w'.os = w.os ∧ w'.tape = w.tape ∧ w'.output = w.output ∧ w.heap.size ≤ w'.heap.size ∧ ∀ b, b < w.heap.size → w'.heap[b]? = w.heap[b]? := by
  obtain ⟨D, hmv, hg⟩ := hcall.ok f [] .leaf 0 _ hp nx h (fun _ _ => by rw [leaf_none])
  have hC : Conc w (fun _ => none) (ovr (fun _ => none) (Tr.leaf : HT).obj) w := by
    have e0 : ovr (fun _ => none) (Tr.leaf : HT).obj = fun _ => none := by
      funext k; rw [ovr_none (by rw [leaf_none])]
    rw [e0]
    exact ⟨fun k ty cs ver e => (by cases e), fun k es ver e => (by cases e), fun k r e => (by cases e), fun k k' r r' e => (by rcases e with ⟨_, _, _, e⟩ | ⟨_, _, e⟩ <;> cases e), fun k r e => (by cases e), fun k r e => (by cases e), fun b _ => rfl, rfl, rfl, rfl, Nat.le_refl _⟩
  refine (hg nx _ (Nat.le_refl _) (fun _ _ _ => rfl) w _ w [] hC rfl (fun i hi => absurd hi (Nat.not_lt_zero _))).mono ?_
  rintro e w' ⟨val, m', rfl, k1, k2, k3⟩
  have := gv_eq k3 (y := v) rfl
  subst this
  exact ⟨rfl, k1.os, k1.tape, k1.output, k1.size, k1.keep⟩
end
end Go.Proofs.YtoebfmhogkjmgaaGreatDoor.Gx
