/- The operations of a region, run in one order for all, on what slots and blocks hold. No program in sight. -/
import Derived.Test.YtoebfmhogkjmgaaGreatDoorGxA
import Derived.Test.YtoebfmhogkjmgaaGreatDoorFxC
namespace Go.Proofs.YtoebfmhogkjmgaaGreatDoor.Gx
open Go.RowKit
open Fx (forceN forceN_eq rowN maskE maskN bitN dstsOk Closed rowN_bit fold_mask maskN_spec put_getD put_size put_defers getD_two)
set_option linter.unusedVariables false
set_option linter.unusedSimpArgs false
abbrev GS := Nat → GA
def us (s : GS) (k : Nat) (o : GA) : GS := fun j => if j = k then o else s j
def uput (s : GS) (d : Option Tmp) (v : GA) : GS :=
  match d with
  | some d => us s d v
  | none => s
theorem uput_get (s : GS) (d : Option Tmp) (v : GA) (t : Nat) : uput s d v t = if d = some t then v else s t := by
  cases d with
  | none => simp [uput]
  | some d =>
    show (if t = d then v else s t) = _
    by_cases h : t = d
    · subst h; simp
    · rw [if_neg h, if_neg (fun e => h (by injection e with e; exact e.symm))]
/-- what a constant is -/
def natsOf (s : ByteArray) : List Nat := s.data.toList.map (·.toNat)
def constC : Value → GC
  | .string s => .s (natsOf s)
  | v => .v v
def constG : Value → GA
  | .agg cs => if cs.toList.all (·.oneCell') then .agg (cs.toList.map constC) else .dead
  | .tuple _ => .dead
  | v => .c (constC v)
theorem bytesOf_nats (s : ByteArray) : bytesOf (natsOf s) = s := by
  unfold bytesOf natsOf
  have : (s.data.toList.map (·.toNat)).map UInt8.ofNat = s.data.toList := by
    rw [List.map_map]
    conv => rhs; rw [← List.map_id s.data.toList]
    apply List.map_congr_left
    intro x _
    simp
  rw [this]
theorem natsOf_lt (s : ByteArray) : ∀ b ∈ natsOf s, b < 256 := by
  intro b hb
  unfold natsOf at hb
  obtain ⟨x, _, rfl⟩ := List.mem_map.1 hb
  exact x.toNat_lt
theorem constC_rep (m : GM) (v : Value) (h : v.oneCell' = true) : CRep m v (constC v) := by
  unfold constC
  split
  · rename_i s
    have := CRep.s (m := m) (natsOf s) (natsOf_lt s)
    rw [bytesOf_nats] at this
    exact this
  · exact .v _ h
theorem constG_rep (m : GM) (v : Value) : VRep m v (constG v) := by
  unfold constG
  split
  · rename_i cs
    split
    · rename_i h
      rw [List.all_eq_true] at h
      have e : Value.agg cs = .agg cs.toList.toArray := by simp
      rw [e]
      refine .agg _ _ (by simp) (fun i hi => ?_)
      have hi' : i < cs.toList.length := by simpa using hi
      have e1 : (cs.toList.map constC).getD i default = constC cs.toList[i] := by simp [List.getD_eq_getElem?_getD, List.getElem?_map, List.getElem?_eq_getElem hi']
      have e2 : cs.toList.getD i undef = cs.toList[i] := by simp [List.getD_eq_getElem?_getD, List.getElem?_eq_getElem hi']
      rw [e1, e2]
      exact constC_rep m _ (h _ (List.getElem_mem hi'))
    · exact .dead _
  · exact .dead _
  · rename_i h1 h2
    refine .c (constC_rep m _ ?_)
    cases v <;> first | rfl | (exfalso; first | exact h1 _ rfl | exact h2 _ rfl)
def ev (s : GS) : Operand → GA
  | .tmp t => s t
  | .const v => constG v
  | .global g => .dead
  | .func f => .c (.fn (.func f) [] [])
def SlotsRep (m : GM) (a : Act) (s : GS) : Prop := ∀ t, VRep m (a.tmps.getD t undef) (s t)
theorem ev_rep {m : GM} {a : Act} {s : GS} (h : SlotsRep m a s) (x : Operand) : VRep m (a.eval x) (ev s x) := by
  cases x with
  | tmp t => exact h t
  | const v => exact constG_rep m v
  | global g => exact .dead _
  | func f => exact .c (.fn (.func f) [] [] [] [] rfl rfl (fun i hi => absurd hi (Nat.not_lt_zero _)) (fun i hi => absurd hi (Nat.not_lt_zero _)))
/-- an operation, run: from the blocks H to H', and its value -/
def Step (P : Program) (o : Oper) (ρ : Operand → GA) (H H' : GH) (v : GA) : Prop :=
  ∀ (w0 : World) (m : GM) (a : Act) (w : World) (K : Act → World → Prop) (Q : Exit → Act → World → Prop), Conc w0 m H w → (∀ x ∈ o.op.operands, VRep m (a.eval x) (ρ x)) →
    (∀ val m' w', Conc w0 m' H' w' → Ext m m' → VRep m' val v → K (a.put o.dst val) w') → o.wp P a w K Q
/-- what an operation looks at (R), what must not be there yet (N), what it changes or makes (U) -/
structure Kd where
  R : Nat → Prop
  N : Nat → Prop
  U : Nat → Prop
open Classical in
noncomputable def mix (U : Nat → Prop) (H' H : GH) : GH := fun k => if U k then H' k else H k
def StepK (P : Program) (κ : Kd) (o : Oper) (ρ : Operand → GA) (H H' : GH) (v : GA) : Prop :=
  (∀ k, ¬ κ.U k → H' k = H k) ∧ (∀ k, κ.N k → H k = none) ∧ ∀ H2, (∀ k, κ.R k → H2 k = H k) → (∀ k, κ.N k → H2 k = none) → Step P o ρ H2 (mix κ.U H' H2) v
theorem mix_of {U : Nat → Prop} {H' H : GH} (h : ∀ k, ¬ U k → H' k = H k) : mix U H' H = H' := by
  funext k
  unfold mix
  split
  · rfl
  · rename_i e; exact (h k e).symm
theorem mix_at {U : Nat → Prop} {H' H : GH} {k : Nat} (h : U k) : mix U H' H k = H' k := if_pos h
theorem mix_off {U : Nat → Prop} {H' H : GH} {k : Nat} (h : ¬ U k) : mix U H' H k = H k := if_neg h
theorem StepK.step {P : Program} {κ : Kd} {o : Oper} {ρ : Operand → GA} {H H' : GH} {v : GA} (h : StepK P κ o ρ H H' v) : Step P o ρ H H' v := by
  have := h.2.2 H (fun _ _ => rfl) h.2.1
  rwa [mix_of h.1] at this
theorem Step.congr {P : Program} {o : Oper} {ρ ρ' : Operand → GA} {H H' : GH} {v : GA} (h : ∀ x ∈ o.op.operands, ρ x = ρ' x) (hs : Step P o ρ H H' v) : Step P o ρ' H H' v :=
  fun w0 m a w K Q hC hx hK => hs w0 m a w K Q hC (fun x hm => by rw [h x hm]; exact hx x hm) hK
theorem StepK.congr {P : Program} {k : Kd} {o : Oper} {ρ ρ' : Operand → GA} {H H' : GH} {v : GA} (h : ∀ x ∈ o.op.operands, ρ x = ρ' x) (hs : StepK P k o ρ H H' v) : StepK P k o ρ' H H' v :=
  ⟨hs.1, hs.2.1, fun H2 h1 h2 => (hs.2.2 H2 h1 h2).congr h⟩
/-- is the operation wanted? -/
def wanted1 (ops : Array Oper) (s : GS) (o : Oper) : Option Bool :=
  match o.guard with
  | none => some true
  | some (j, want) =>
    match (ops[j]?).bind (·.dst) with
    | none => some false
    | some d =>
      match s d with
      | .c (.v (.bool b)) => some (b == want)
      | .tup [] => some false
      | _ => none
theorem wanted1_rep {m : GM} {a : Act} {s : GS} {ops : Array Oper} {o : Oper} {b : Bool} (h : SlotsRep m a s) (hw : wanted1 ops s o = some b) : Region.wanted o (yielded ops a.tmps) = b := by
  unfold wanted1 at hw
  unfold Region.wanted
  split at hw
  · rename_i hg; rw [hg]; injection hw
  · rename_i j want hg
    rw [hg]
    simp only
    unfold yielded
    split at hw
    · rename_i hd; rw [hd]; simp only [Option.bind_none]; injection hw
    · rename_i d hd
      rw [hd]
      simp only [Option.bind_some]
      have hd2 := h d
      split at hw
      · rename_i b2 hb
        rw [hb] at hd2
        injection hw with hw
        generalize hq : a.tmps.getD d undef = q at hd2
        cases hd2 with
        | c h2 =>
          cases h2
          have : a.tmps[d]? = some (.bool b2) := by
            rw [Array.getD_eq_getD_getElem?] at hq
            cases e : a.tmps[d]? with
            | none => rw [e] at hq; cases hq
            | some u => rw [e] at hq; simp at hq; rw [hq]
          rw [this]
          simp only
          rw [← hw]; cases b2 <;> cases want <;> rfl
      · rename_i hb
        rw [hb] at hd2
        injection hw with hw
        generalize hq : a.tmps.getD d undef = q at hd2
        cases hd2 with
        | tup vs l hl _ =>
          have : a.tmps[d]? = none ∨ a.tmps[d]? = some (.tuple vs.toArray) := by
            rw [Array.getD_eq_getD_getElem?] at hq
            cases e : a.tmps[d]? with
            | none => exact .inl rfl
            | some u => rw [e] at hq; simp at hq; rw [hq]; exact .inr rfl
          rcases this with e | e <;> rw [e] <;> simp only <;> rw [← hw] <;> rfl
      · cases hw
structure GSt where
  sl : GS
  hp : GH
  df : List GC
/-- what is deferred -/
def DefRep (m : GM) (d : Deferred) (x : GC) : Prop := ∃ f fs cs vs us, x = .fn (.func f) fs cs ∧ d.target = .fn (.func f) us ∧ d.args = vs ∧ CRep m (.func (.func f) vs us) x
def DefsRep (m : GM) (ds : List Deferred) (l : List GC) : Prop := ds.length = l.length ∧ ∀ i, i < l.length → DefRep m (ds.getD i default) (l.getD i default)
theorem DefsRep.ext {m m' : GM} (hm : Ext m m') {ds : List Deferred} {l : List GC} (h : DefsRep m ds l) : DefsRep m' ds l :=
  ⟨h.1, fun i hi => by
    obtain ⟨f, fs, cs, vs, us, h1, h2, h3, h4⟩ := h.2 i hi
    exact ⟨f, fs, cs, vs, us, h1, h2, h3, h4.ext hm⟩⟩
/-- the operations, one behind the other -/
def RunL (P : Program) (ops : Array Oper) : List (Nat × Kd) → GSt → (GSt → Prop) → Prop
  | [], s, K => K s
  | (i, k) :: r, s, K => ∃ o, ops[i]? = some o ∧
      ((wanted1 ops s.sl o = some true ∧ ∃ v H', StepK P k o (ev s.sl) s.hp H' v ∧ RunL P ops r ⟨uput s.sl o.dst v, H', s.df⟩ K) ∨
       (wanted1 ops s.sl o = some false ∧ RunL P ops r ⟨uput s.sl o.dst (.tup []), s.hp, s.df⟩ K))
theorem RunL.mono {P : Program} {ops : Array Oper} {K K' : GSt → Prop} (hk : ∀ s, K s → K' s) : ∀ (L : List (Nat × Kd)) (s : GSt), RunL P ops L s K → RunL P ops L s K' := by
  intro L
  induction L with
  | nil => intro s h; exact hk s h
  | cons x r ih =>
    obtain ⟨i, k⟩ := x
    intro s h
    obtain ⟨o, ho, h⟩ := h
    refine ⟨o, ho, ?_⟩
    rcases h with ⟨hw, v, H', hs, h⟩ | ⟨hw, h⟩
    · exact .inl ⟨hw, v, H', hs, ih _ h⟩
    · exact .inr ⟨hw, ih _ h⟩
/-- may they come the other way about? -/
def kindOk (κ ι : Kd) : Prop := (∀ k, κ.U k → ¬ ι.R k ∧ ¬ ι.N k ∧ ¬ ι.U k) ∧ ∀ k, ι.U k → ¬ κ.R k ∧ ¬ κ.N k
theorem ev_put {ops : Array Oper} {s : GS} {d : Option Tmp} {v : GA} {o : Oper} (h : ∀ x, d = some x → x ∉ o.looksAt ops) : ∀ x ∈ o.op.operands, ev (uput s d v) x = ev s x := by
  intro x hx
  cases x with
  | tmp t =>
    show uput s d v t = s t
    rw [uput_get]
    split
    · rename_i e
      exact (h t e (List.mem_append_left _ (List.mem_filterMap.2 ⟨.tmp t, Array.mem_toList_iff.2 hx, rfl⟩))).elim
    · rfl
  | _ => rfl
theorem wanted_put1 {ops : Array Oper} {s : GS} {d : Option Tmp} {v : GA} {o : Oper} (h : ∀ x, d = some x → x ∉ o.looksAt ops) : wanted1 ops (uput s d v) o = wanted1 ops s o := by
  unfold wanted1
  split
  · rfl
  · rename_i j want hg
    cases hd : (ops[j]?).bind (·.dst) with
    | none => rfl
    | some e =>
      have e3 : (uput s d v) e = s e := by
        rw [uput_get, if_neg]
        intro e2
        refine h e e2 (List.mem_append_right _ ?_)
        rw [hg]; simp [hd]
      simp only [e3]
theorem uput_swap (s : GS) {d e : Option Tmp} (h : ∀ x, d = some x → e ≠ some x) (v u : GA) : uput (uput s d v) e u = uput (uput s e u) d v := by
  funext t
  simp only [uput_get]
  by_cases e1 : e = some t
  · rw [if_pos e1, if_neg (fun x => h t x e1), if_pos e1]
  · rw [if_neg e1]
    by_cases e2 : d = some t
    · rw [if_pos e2, if_pos e2]
    · rw [if_neg e2, if_neg e2, if_neg e1]
theorem RunL.swap {P : Program} {ops : Array Oper} {K : GSt → Prop} {x i : Nat} {κ ι : Kd} {R : List (Nat × Kd)} {s : GSt} {ox oi : Oper} (hx : ops[x]? = some ox) (hi : ops[i]? = some oi)
    (ha : ox.apart ops oi = true) (hk : kindOk κ ι) (h : RunL P ops ((x, κ) :: (i, ι) :: R) s K) : RunL P ops ((i, ι) :: (x, κ) :: R) s K := by
  obtain ⟨a1, a2, a3⟩ := Oper.apart_spec ha
  obtain ⟨k1, k2⟩ := hk
  obtain ⟨o, ho, h⟩ := h
  rw [hx] at ho; injection ho with ho; subst ho
  refine ⟨oi, hi, ?_⟩
  rcases h with ⟨hw, v, H1, hs, o2, ho2, h⟩ | ⟨hw, o2, ho2, h⟩ <;> (rw [hi] at ho2; injection ho2 with ho2; subst ho2; dsimp only at h; rw [wanted_put1 a1] at h)
  · rcases h with ⟨hw2, v2, H2, hs2, h⟩ | ⟨hw2, h⟩
    · have hs2' := hs2.congr (ev_put (s := s.sl) (d := ox.dst) (v := v) a1)
      obtain ⟨p1, p2, p3⟩ := hs
      obtain ⟨q1, q2, q3⟩ := hs2'
      have e1 : ∀ k, ι.R k → H1 k = s.hp k := fun k hr => p1 k (fun hu => (k1 k hu).1 hr)
      have eN : ∀ k, ι.N k → H1 k = s.hp k := fun k hr => p1 k (fun hu => (k1 k hu).2.1 hr)
      have g1 : StepK P ι oi (ev s.sl) s.hp (mix ι.U H2 s.hp) v2 := by
        refine ⟨fun k hk => mix_off hk, fun k hk => by rw [← eN k hk]; exact q2 k hk, fun H' h1 h2 => ?_⟩
        have := q3 H' (fun k hk => (h1 k hk).trans (e1 k hk).symm) h2
        have e : mix ι.U (mix ι.U H2 s.hp) H' = mix ι.U H2 H' := by
          funext k
          by_cases hu : ι.U k
          · rw [mix_at hu, mix_at hu, mix_at hu]
          · rw [mix_off hu, mix_off hu]
        rw [e]; exact this
      have g2 : StepK P κ ox (ev s.sl) (mix ι.U H2 s.hp) H2 v := by
        refine ⟨fun k hk => ?_, fun k hk => ?_, fun H' h1 h2 => ?_⟩
        · by_cases hu : ι.U k
          · rw [mix_at hu]
          · rw [mix_off hu, q1 k hu, p1 k hk]
        · have hu : ¬ ι.U k := fun hu => (k2 k hu).2 hk
          rw [mix_off hu]; exact p2 k hk
        · have := p3 H' (fun k hk => by
            have hu : ¬ ι.U k := fun hu => (k2 k hu).1 hk
            rw [h1 k hk, mix_off hu]) h2
          have e : mix κ.U H2 H' = mix κ.U H1 H' := by
            funext k
            by_cases hu : κ.U k
            · rw [mix_at hu, mix_at hu]; exact q1 k (k1 k hu).2.2
            · rw [mix_off hu, mix_off hu]
          rw [e]; exact this
      refine .inl ⟨hw2, v2, _, g1, ox, hx, .inl ⟨by dsimp only; rw [wanted_put1 a3]; exact hw, v, H2, ?_, ?_⟩⟩
      · exact g2.congr (fun y hy => (ev_put a3 y hy).symm)
      · dsimp only; rw [← uput_swap _ a2]; exact h
    · refine .inr ⟨hw2, ox, hx, .inl ⟨by dsimp only; rw [wanted_put1 a3]; exact hw, v, H1, ?_, ?_⟩⟩
      · exact hs.congr (fun y hy => (ev_put a3 y hy).symm)
      · dsimp only at h ⊢; rw [← uput_swap _ a2]; exact h
  · rcases h with ⟨hw2, v2, H2, hs2, h⟩ | ⟨hw2, h⟩
    · have hs2' := hs2.congr (ev_put (s := s.sl) (d := ox.dst) (v := .tup []) a1)
      refine .inl ⟨hw2, v2, H2, hs2', ox, hx, .inr ⟨by dsimp only; rw [wanted_put1 a3]; exact hw, ?_⟩⟩
      dsimp only at h ⊢; rw [← uput_swap _ a2]; exact h
    · refine .inr ⟨hw2, ox, hx, .inr ⟨by dsimp only; rw [wanted_put1 a3]; exact hw, ?_⟩⟩
      dsimp only at h ⊢; rw [← uput_swap _ a2]; exact h
/-- two operations, the one ahead of the other: may they change places, or can't the other one come first? -/
def PairOk (ops : Array Oper) (ms : Nat) (x i : Nat × Kd) : Prop :=
  ∃ ox oi, ops[x.1]? = some ox ∧ ops[i.1]? = some oi ∧ x.1 ≠ i.1 ∧ (∀ e ∈ ox.after, Region.binds .any e = true → e.on ≠ i.1) ∧ ((ox.apart ops oi = true ∧ kindOk x.2 i.2) ∨ bitN ms i.1 x.1 = true)
def PairsOk (ops : Array Oper) (ms : Nat) : List (Nat × Kd) → Prop
  | [] => True
  | x :: t => (∀ y ∈ t, PairOk ops ms x y) ∧ PairsOk ops ms t
def SelfOk (ops : Array Oper) (x : Nat) : Prop := ∃ o, ops[x]? = some o ∧ ∀ e ∈ o.after, Region.binds .any e = true → e.on ≠ x ∧ e.on < ops.size
section
variable {P : Program} {ops : Array Oper} {Q : Exit → Act → World → Prop}
theorem put_rep {m : GM} {a : Act} {s : GS} {d : Option Tmp} {val : Value} {v : GA} {n : Nat} (hn : a.tmps.size = n) (hd : ∀ x, d = some x → x < n) (h : SlotsRep m a s) (hv : VRep m val v) : SlotsRep m (a.put d val) (uput s d v) := by
  intro t
  rw [put_getD hn hd, uput_get]
  split
  · exact hv
  · exact h t
/-- a state, told: of n slots -/
structure Told (n : Nat) (w0 : World) (m0 : GM) (s : GSt) (a : Act) (w : World) : Prop where
  ex : ∃ m, Ext m0 m ∧ Conc w0 m s.hp w ∧ SlotsRep m a s.sl ∧ DefsRep m a.defers s.df
  size : a.tmps.size = n
theorem told_step {n : Nat} {w0 : World} {m0 : GM} {s : GSt} {a : Act} {w : World} {o : Oper} {H' : GH} {v : GA} (hd : ∀ x, o.dst = some x → x < n) (h : Told n w0 m0 s a w) (hs : Step P o (ev s.sl) s.hp H' v) {K : Act → World → Prop}
    (hK : ∀ a' w', Told n w0 m0 ⟨uput s.sl o.dst v, H', s.df⟩ a' w' → K a' w') : o.wp P a w K Q := by
  obtain ⟨⟨m, h0, h1, h2, h4⟩, h3⟩ := h
  refine hs w0 m a w K Q h1 (fun x _ => ev_rep h2 x) (fun val m' w' g1 g2 g3 => hK _ _ ⟨⟨m', h0.trans g2, g1, ?_, by rw [put_defers]; exact h4.ext g2⟩, by rw [put_size]; exact h3⟩)
  exact put_rep h3 hd (fun t => (h2 t).ext g2) g3
theorem told_skip {n : Nat} {w0 : World} {m0 : GM} {s : GSt} {a : Act} {w : World} {d : Option Tmp} (hd : ∀ x, d = some x → x < n) (h : Told n w0 m0 s a w) : Told n w0 m0 ⟨uput s.sl d (.tup []), s.hp, s.df⟩ (a.put d undef) w := by
  obtain ⟨⟨m, h0, h1, h2, h4⟩, h3⟩ := h
  exact ⟨⟨m, h0, h1, put_rep h3 hd h2 (.tup [] [] rfl (fun i hi => absurd hi (Nat.not_lt_zero _))), by rw [put_defers]; exact h4⟩, by rw [put_size]; exact h3⟩
theorem dsts_spec {n : Nat} (h : dstsOk n ops = true) {i : Nat} {o : Oper} (ho : ops[i]? = some o) : ∀ x, o.dst = some x → x < n := by
  intro x hx
  have := List.all_eq_true.1 h o (by simpa using Array.mem_of_getElem? ho)
  rw [hx] at this
  exact of_decide_eq_true this
/-- in the text's order -/
theorem run_text {n : Nat} (hd : dstsOk n ops = true) {w0 : World} {m0 : GM} {K : GSt → Prop} (hK : ∀ s a w, Told n w0 m0 s a w → K s → Q .normal a w) : ∀ (L : List (Nat × Kd)) (s : GSt) (a : Act) (w : World), Told n w0 m0 s a w → RunL P ops L s K → wpOps P ops Q (L.map (·.1)) a w := by
  intro L
  induction L with
  | nil => intro s a w h hr; exact hK s a w h hr
  | cons x r ih =>
    obtain ⟨i, k⟩ := x
    intro s a w h hr
    obtain ⟨o, ho, hr⟩ := hr
    rw [List.map_cons, wpOps_cons]
    unfold wpOp
    rw [ho]
    simp only
    rcases hr with ⟨hw, v, H', hs, hr⟩ | ⟨hw, hr⟩
    · obtain ⟨m, _, _, h2, _⟩ := h.ex
      rw [wanted1_rep h2 hw, if_pos rfl]
      exact .inl (told_step (dsts_spec hd ho) h hs.step (fun a' w' h' => ih _ a' w' h' hr))
    · obtain ⟨m, _, _, h2, _⟩ := h.ex
      rw [wanted1_rep h2 hw, if_neg (by simp)]
      exact ih _ _ _ (told_skip (dsts_spec hd ho) h) hr
/-- one that may come up now may come first -/
theorem RunL.front {K : GSt → Prop} {ms : Nat} {i : Nat} {ι : Kd} :
    ∀ (R1 R2 : List (Nat × Kd)) (s : GSt), (∀ x ∈ R1, PairOk ops ms x (i, ι)) → (∀ x ∈ R1, bitN ms i x.1 = false) → RunL P ops (R1 ++ (i, ι) :: R2) s K → RunL P ops ((i, ι) :: (R1 ++ R2)) s K := by
  intro R1
  induction R1 with
  | nil => intro R2 s _ _ h; exact h
  | cons x t ih =>
    obtain ⟨x, κ⟩ := x
    intro R2 s hp hm h
    have h2 : RunL P ops ((x, κ) :: (i, ι) :: (t ++ R2)) s K := by
      obtain ⟨o, ho, h⟩ := h
      refine ⟨o, ho, ?_⟩
      rcases h with ⟨hw, v, H', hs, h⟩ | ⟨hw, h⟩
      · exact .inl ⟨hw, v, H', hs, ih R2 _ (fun y hy => hp y (List.mem_cons_of_mem _ hy)) (fun y hy => hm y (List.mem_cons_of_mem _ hy)) h⟩
      · exact .inr ⟨hw, ih R2 _ (fun y hy => hp y (List.mem_cons_of_mem _ hy)) (fun y hy => hm y (List.mem_cons_of_mem _ hy)) h⟩
    obtain ⟨ox, oi, hox, hoi, _, _, hc⟩ := hp _ List.mem_cons_self
    have hmx := hm _ List.mem_cons_self
    rcases hc with ⟨c1, c2⟩ | hc
    · exact RunL.swap hox hoi c1 c2 h2
    · rw [hmx] at hc; cases hc
structure AnyInv (ops : Array Oper) (listed : Array Bool) (R : List (Nat × Kd)) : Prop where
  sz : listed.size = ops.size
  un : ∀ j, j < ops.size → (listed.getD j true = false ↔ ∃ k, (j, k) ∈ R)
  pairs : PairsOk ops (maskN ops.toList 0 0) R
  self : ∀ x ∈ R, SelfOk ops x.1
  closed : Closed ops (fun j => listed.getD j false = true)
theorem pairs_front {ms : Nat} : ∀ (R1 R2 : List (Nat × Kd)) (x : Nat × Kd), PairsOk ops ms (R1 ++ x :: R2) → (∀ y ∈ R1, PairOk ops ms y x) ∧ (∀ y ∈ R2, PairOk ops ms x y) ∧ PairsOk ops ms (R1 ++ R2) := by
  intro R1
  induction R1 with
  | nil => intro R2 x h; exact ⟨fun y hy => (by cases hy), h.1, h.2⟩
  | cons z t ih =>
    intro R2 x h
    obtain ⟨h1, h2⟩ := h
    obtain ⟨i1, i2, i3⟩ := ih R2 x h2
    refine ⟨fun y hy => ?_, i2, fun y hy => h1 y ?_, i3⟩
    · rcases List.mem_cons.1 hy with rfl | hy
      · exact h1 x (by simp)
      · exact i1 y hy
    · rcases List.mem_append.1 hy with hy | hy
      · exact List.mem_append_left _ hy
      · exact List.mem_append_right _ (List.mem_cons_of_mem _ hy)
theorem AnyInv.head {listed : Array Bool} {x : Nat × Kd} {R : List (Nat × Kd)} (h : AnyInv ops listed (x :: R)) : x.1 ∈ Region.ready .any ops listed := by
  obtain ⟨o, ho, hs⟩ := h.self x List.mem_cons_self
  have hp := h.pairs
  have hlt : x.1 < ops.size := (Array.getElem?_eq_some_iff.1 ho).1
  rw [mem_ready]
  refine ⟨(h.un _ hlt).2 ⟨x.2, List.mem_cons_self⟩, o, ho, fun e he hb => ?_⟩
  obtain ⟨e1, e2⟩ := hs e he hb
  rw [getD_two (by rw [h.sz]; exact e2)]
  apply Classical.byContradiction
  intro hn
  have hn' : listed.getD e.on true = false := by simpa using hn
  obtain ⟨k, hk⟩ := (h.un _ e2).1 hn'
  rcases List.mem_cons.1 hk with hk | hk
  · exact e1 (by rw [← hk])
  · obtain ⟨ox, oi, hox, _, _, hed, _⟩ := hp.1 _ hk
    rw [ho] at hox; injection hox with hox; subst hox
    exact hed e he hb rfl
theorem AnyInv.step {listed : Array Bool} {R1 R2 : List (Nat × Kd)} {i : Nat} {k : Kd} (h : AnyInv ops listed (R1 ++ (i, k) :: R2)) (hr : i ∈ Region.ready .any ops listed) : AnyInv ops (listed.setIfInBounds i true) (R1 ++ R2) := by
  obtain ⟨p1, p2, p3⟩ := pairs_front R1 R2 (i, k) h.pairs
  obtain ⟨h0, o, ho, hall⟩ := mem_ready.1 hr
  have hlt : i < ops.size := (Array.getElem?_eq_some_iff.1 ho).1
  have hne : ∀ {x y : Nat × Kd}, PairOk ops (maskN ops.toList 0 0) x y → x.1 ≠ y.1 := fun ⟨_, _, _, _, e, _⟩ => e
  refine ⟨by simp [h.sz], fun j hj => ?_, p3, fun x hx => h.self x ?_, fun j hj o' ho' e he hb => ?_⟩
  · by_cases hij : i = j
    · subst hij
      constructor
      · intro e
        rw [Array.getD_eq_getD_getElem?, Array.getElem?_setIfInBounds_self_of_lt (by rw [h.sz]; exact hlt)] at e
        cases e
      · rintro ⟨k', hk'⟩
        rcases List.mem_append.1 hk' with hk' | hk'
        · exact (hne (p1 (i, k') hk') rfl).elim
        · exact (hne (p2 (i, k') hk') rfl).elim
    · rw [getD_set_ne true hij, h.un j hj]
      constructor
      · rintro ⟨k', hk'⟩
        refine ⟨k', ?_⟩
        rcases List.mem_append.1 hk' with hk' | hk'
        · exact List.mem_append_left _ hk'
        · rcases List.mem_cons.1 hk' with hk' | hk'
          · injection hk' with e _; exact absurd e.symm hij
          · exact List.mem_append_right _ hk'
      · rintro ⟨k', hk'⟩
        refine ⟨k', ?_⟩
        rcases List.mem_append.1 hk' with hk' | hk'
        · exact List.mem_append_left _ hk'
        · exact List.mem_append_right _ (List.mem_cons_of_mem _ hk')
  · rcases List.mem_append.1 hx with hx | hx
    · exact List.mem_append_left _ hx
    · exact List.mem_append_right _ (List.mem_cons_of_mem _ hx)
  · by_cases hij : i = j
    · subst hij
      rw [ho] at ho'; injection ho' with ho'; subst ho'
      exact getD_set_true (hall e he hb)
    · have hj' : (listed.setIfInBounds i true).getD j false = true := hj
      rw [getD_set_ne false hij] at hj'
      exact getD_set_true (h.closed j hj' o' ho' e he hb)
/-- in whatever order -/
theorem run_any {n : Nat} (hd : dstsOk n ops = true) {w0 : World} {m0 : GM} {K : GSt → Prop} (hK : ∀ s a w, Told n w0 m0 s a w → K s → Q .normal a w) : ∀ (fuel : Nat) (listed : Array Bool) (R : List (Nat × Kd)) (s : GSt) (a : Act) (w : World),
    R.length ≤ fuel → AnyInv ops listed R → Told n w0 m0 s a w → RunL P ops R s K → wpAny P .any ops Q fuel listed a w := by
  intro fuel
  induction fuel with
  | zero =>
    intro listed R s a w hf hI h hr
    have hR : R = [] := List.length_eq_zero_iff.1 (by omega)
    subst hR
    refine ⟨?_, hK s a w h hr⟩
    cases hc : Region.ready .any ops listed with
    | nil => rfl
    | cons i t =>
      have hm : i ∈ Region.ready .any ops listed := by rw [hc]; exact List.mem_cons_self
      obtain ⟨h0, o, ho, _⟩ := mem_ready.1 hm
      obtain ⟨k, hk⟩ := (hI.un i (Array.getElem?_eq_some_iff.1 ho).1).1 h0
      cases hk
  | succ fuel ih =>
    intro listed R s a w hf hI h hr
    refine ⟨fun h0 => ?_, fun i hi => ?_⟩
    · cases R with
      | nil => exact hK s a w h hr
      | cons x R =>
        have := hI.head
        rw [h0] at this; cases this
    · obtain ⟨h0, o, ho, hall⟩ := mem_ready.1 hi
      obtain ⟨k, hk⟩ := (hI.un i (Array.getElem?_eq_some_iff.1 ho).1).1 h0
      obtain ⟨R1, R2, rfl⟩ := List.append_of_mem hk
      obtain ⟨p1, p2, p3⟩ := pairs_front R1 R2 (i, k) hI.pairs
      have hm : ∀ x ∈ R1, bitN (maskN ops.toList 0 0) i x.1 = false := by
        intro x hx
        apply Classical.byContradiction
        intro hb
        have hb' : bitN (maskN ops.toList 0 0) i x.1 = true := by simpa using hb
        unfold bitN at hb'
        rw [Bool.and_eq_true] at hb'
        have hl := maskN_spec hI.closed ops.toList 0 0 (fun j => by simp) (fun j _ k _ hk => by simp at hk) i (fun o' ho' e he hbi => by
          rw [ho] at ho'; injection ho' with ho'; subst ho'
          exact hall e he hbi) x.1 (of_decide_eq_true hb'.1) hb'.2
        obtain ⟨ox, hox, _⟩ := hI.self x (List.mem_append_left _ hx)
        have hlt : x.1 < ops.size := (Array.getElem?_eq_some_iff.1 hox).1
        have := (hI.un x.1 hlt).2 ⟨x.2, List.mem_append_left _ hx⟩
        rw [getD_two (by rw [hI.sz]; exact hlt), this] at hl
        cases hl
      have hr2 := RunL.front (ms := maskN ops.toList 0 0) R1 R2 s p1 hm hr
      have hI2 := hI.step hi
      obtain ⟨o2, ho2, hr2⟩ := hr2
      rw [ho] at ho2; injection ho2 with ho2; subst ho2
      unfold wpOp
      rw [ho]
      simp only
      have hlen : (R1 ++ R2).length ≤ fuel := by simp at hf ⊢; omega
      obtain ⟨m, _, _, h2, _⟩ := h.ex
      rcases hr2 with ⟨hw, v, H', hs, hr2⟩ | ⟨hw, hr2⟩
      · rw [wanted1_rep h2 hw, if_pos rfl]
        exact .inl (told_step (dsts_spec hd ho) h hs.step (fun a' w' h' => ih _ _ _ a' w' hlen hI2 h' hr2))
      · rw [wanted1_rep h2 hw, if_neg (by simp)]
        exact ih _ _ _ _ _ hlen hI2 (told_skip (dsts_spec hd ho) h) hr2
theorem Told.drew {n : Nat} {w0 : World} {m0 : GM} {s : GSt} {a : Act} {w : World} (h : Told n w0 m0 s a w) : Told n w0 m0 s a { w with drawn := w.drawn + 1 } := by
  obtain ⟨⟨m, h0, h1, h2, h4⟩, h3⟩ := h
  exact ⟨⟨m, h0, h1.drew rfl rfl rfl rfl, h2, h4⟩, h3⟩
end
end Go.Proofs.YtoebfmhogkjmgaaGreatDoor.Gx
