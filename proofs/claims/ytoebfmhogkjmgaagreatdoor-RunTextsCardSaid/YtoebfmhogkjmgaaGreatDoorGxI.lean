/- The runner is right: operations in a row. No program in sight. -/
import Derived.Test.YtoebfmhogkjmgaaGreatDoorGxH
namespace Go.Proofs.YtoebfmhogkjmgaaGreatDoor.Gx
open Go.RowKit
open Fx (forceN forceN_eq sliB maskN bitN dstsOk)
set_option linter.unusedVariables false
set_option linter.unusedSimpArgs false
theorem evT_ins {t : Tr GA} {d : Nat} {v : GA} (h : d < 1000000000) : evT (t.ins .dead d v) = us (evT t) d v := by
  funext k
  unfold evT us
  rw [Tr.get_ins .dead t d v k h]
theorem evT_set {t : Tr GA} {d : Option Tmp} {v : GA} {n : Nat} (hn : n ≤ 1000000000) (h : ∀ x, d = some x → x < n) : evT (sset t d v) = uput (evT t) d v := by
  cases d with
  | none => rfl
  | some d => exact evT_ins (Nat.lt_of_lt_of_le (h d rfl) hn)
noncomputable def hsetsD (t : HT) : List (Nat × GObj) → HT
  | [] => t
  | (i, o) :: u => hsetsD (t.ins none i (some o)) u
theorem hsets_eq {α : Type} (k : HT → α) : ∀ (U : List (Nat × GObj)) (t : HT), hsets t U k = k (hsetsD t U) := by
  intro U
  induction U with
  | nil => intro t; rfl
  | cons p u ih =>
    intro t
    obtain ⟨i, o⟩ := p
    cases o with
    | cells ty cs ver => unfold hsets hsetsD; simp only [forceN_eq, forceS_eq, Tr.seq_eq, ih]
    | gone ver => unfold hsets hsetsD; simp only [forceN_eq, Tr.seq_eq, ih]
    | mp es ver => unfold hsets hsetsD; simp only [forceN_eq, Tr.seq_eq, ih]
theorem obj_ins (t : HT) (i : Nat) (o : GObj) (hi : i < 1000000000) : (t.ins none i (some o)).obj = up t.obj i o := by
  funext k
  unfold Tr.obj up
  rw [Tr.get_ins none t i (some o) k hi]
theorem hsetsD_obj : ∀ (U : List (Nat × GObj)) (t : HT), (∀ p ∈ U, p.1 < 1000000000) → (hsetsD t U).obj = ups t.obj U := by
  intro U
  induction U with
  | nil => intro t _; rfl
  | cons p u ih =>
    intro t h
    obtain ⟨i, o⟩ := p
    rw [hsetsD, ups, ih _ (fun q hq => h q (List.mem_cons_of_mem _ hq)), obj_ins t i o (h (i, o) List.mem_cons_self)]
/-- the blocks that are told, and what lies beside them -/
def ovr (X H : GH) : GH := fun k => match H k with | some o => some o | none => X k
theorem ovr_live {X H : GH} {k : Nat} (h : H k ≠ none) : ovr X H k = H k := by
  unfold ovr
  cases e : H k with
  | none => exact absurd e h
  | some o => rfl
theorem ovr_none {X H : GH} {k : Nat} (h : H k = none) : ovr X H k = X k := by unfold ovr; rw [h]
theorem ovr_up (X H : GH) (k : Nat) (o : GObj) : ovr X (up H k o) = up (ovr X H) k o := by
  funext j
  by_cases e : j = k
  · subst e; rw [up_same, ovr_live (by rw [up_same]; simp), up_same]
  · rw [up_other _ _ e]; unfold ovr; rw [up_other _ _ e]
theorem ovr_ups : ∀ (U : List (Nat × GObj)) (X H : GH), ovr X (ups H U) = ups (ovr X H) U := by
  intro U
  induction U with
  | nil => intro X H; rfl
  | cons p u ih =>
    intro X H
    obtain ⟨i, o⟩ := p
    rw [ups, ups, ih, ovr_up]
open Classical in
noncomputable def goneD (D : Nat → Prop) (X : GH) : GH := fun k => if D k then some (.gone 0) else X k
theorem goneD_on {D : Nat → Prop} {X : GH} {k : Nat} (h : D k) : goneD D X k = some (.gone 0) := if_pos h
theorem goneD_off {D : Nat → Prop} {X : GH} {k : Nat} (h : ¬ D k) : goneD D X k = X k := if_neg h
theorem goneD_false (X : GH) : goneD (fun _ => False) X = X := by funext k; exact goneD_off (fun h => h)
theorem goneD_or (D E : Nat → Prop) (X : GH) : goneD E (goneD D X) = goneD (fun k => D k ∨ E k) X := by
  funext k
  by_cases h : E k
  · rw [goneD_on h, goneD_on (D := fun k => D k ∨ E k) (.inr h)]
  · rw [goneD_off h]
    by_cases h2 : D k
    · rw [goneD_on h2, goneD_on (D := fun k => D k ∨ E k) (.inl h2)]
    · rw [goneD_off h2, goneD_off (D := fun k => D k ∨ E k) (fun e => e.elim h2 h)]
def Clear (nx : Nat) (H : GH) : Prop := ∀ k, nx ≤ k → H k = none
def Inv (s : St) : Prop := Clear s.nx s.hp.obj
/-- nothing lies beside at these keys -/
def Free (X : GH) (a b : Nat) : Prop := ∀ k, a ≤ k → k < b → X k = none
theorem Free.sub {X : GH} {a b a' b' : Nat} (h : Free X a b) (h1 : a ≤ a') (h2 : b' ≤ b) : Free X a' b' := fun k e1 e2 => h k (Nat.le_trans h1 e1) (Nat.lt_of_lt_of_le e2 h2)
theorem Free.gone {X : GH} {D : Nat → Prop} {a b c : Nat} (h : Free X a c) (hab : a ≤ b) (hd : ∀ k, D k → k < b) : Free (goneD D X) b c := fun k e1 e2 => by
  rw [goneD_off (fun hk => by have := hd k hk; omega)]
  exact h k (Nat.le_trans hab e1) e2
noncomputable def den (X : GH) (s : St) : GSt := ⟨evT s.sl, ovr X s.hp.obj, s.df⟩
/-- how blocks went on; D: which are gone -/
structure Mv (nx : Nat) (H : GH) (nx' : Nat) (H' : GH) (D : Nat → Prop) : Prop where
  le : nx ≤ nx'
  inv : Clear nx' H'
  fr : ∀ k, H' k = H k ∨ ∃ o, H' k = some o ∧ nx ≤ o.ver
  old : ∀ k, k < nx → H k = none → H' k = none
  dd : ∀ k, D k → nx ≤ k ∧ k < nx' ∧ H' k = none
theorem Mv.refl {nx : Nat} {H : GH} (h : Clear nx H) : Mv nx H nx H (fun _ => False) := ⟨Nat.le_refl _, h, fun _ => .inl rfl, fun _ _ e => e, fun _ h => h.elim⟩
theorem Mv.trans {a b c : Nat} {H1 H2 H3 : GH} {D E : Nat → Prop} (h : Mv a H1 b H2 D) (g : Mv b H2 c H3 E) : Mv a H1 c H3 (fun k => D k ∨ E k) := by
  refine ⟨Nat.le_trans h.le g.le, g.inv, fun k => ?_, fun k e1 e2 => g.old k (Nat.lt_of_lt_of_le e1 h.le) (h.old k e1 e2), fun k hk => ?_⟩
  · rcases g.fr k with e | ⟨o, e1, e2⟩
    · rw [e]; exact h.fr k
    · exact .inr ⟨o, e1, Nat.le_trans h.le e2⟩
  · rcases hk with hk | hk
    · obtain ⟨p1, p2, p3⟩ := h.dd k hk
      exact ⟨p1, Nat.lt_of_lt_of_le p2 g.le, g.old k p2 p3⟩
    · obtain ⟨p1, p2, p3⟩ := g.dd k hk
      exact ⟨Nat.le_trans h.le p1, p2, p3⟩
def Triv (κ : Kd) : Prop := (∀ k, ¬ κ.R k) ∧ (∀ k, ¬ κ.N k) ∧ ∀ k, ¬ κ.U k
inductive KRec : Kd → Rec → Prop where
  | f (R N U : List Nat) : KRec ⟨(· ∈ R), (· ∈ N), (· ∈ U)⟩ (.f R N U)
  | c (H : GH) (c0 c1 : Nat) (hp : HT) (D : Nat → Prop) (h : ∀ k, hp.obj k = H k ∨ ∃ o, hp.obj k = some o ∧ c0 ≤ o.ver) (hd : ∀ k, D k → hp.obj k = none) : KRec ⟨(· < c1), fun _ => False, fun k => k < c1 ∧ (hp.obj k ≠ H k ∨ D k)⟩ (.c c0 c1 hp)
theorem ver_same {H : GH} {c0 : Nat} {hp : HT} {D : Nat → Prop} (h : ∀ k, hp.obj k = H k ∨ ∃ o, hp.obj k = some o ∧ c0 ≤ o.ver) (hd : ∀ k, D k → hp.obj k = none) {R : List Nat} (hR : freshAll c0 hp R = true) : ∀ k ∈ R, ¬ (hp.obj k ≠ H k ∨ D k) := fun k hk hu => by
  have h1 := List.all_eq_true.1 hR k hk
  cases e : hp.obj k with
  | none => rw [e] at h1; cases h1
  | some o =>
    rw [e] at h1
    have h2 := blt_iff.1 h1
    rcases hu with hu | hu
    · rcases h k with e1 | ⟨o', e1, e2⟩
      · exact hu e1
      · rw [e] at e1; injection e1 with e1; subst e1; omega
    · rw [hd k hu] at e; cases e
theorem all_ge {c1 : Nat} {l : List Nat} (h : l.all (Nat.ble c1) = true) : ∀ k ∈ l, ¬ k < c1 := fun k hk => by
  have := Nat.le_of_ble_eq_true (List.all_eq_true.1 h k hk)
  omega
theorem recOk_ok {κ ι : Kd} {r q : Rec} (h1 : KRec κ r) (h2 : KRec ι q) (h : recOk r q = true) : kindOk κ ι := by
  unfold recOk at h
  split at h
  · rename_i R N U R' N' U'
    cases h1
    cases h2
    rw [Bool.and_eq_true, List.all_eq_true, List.all_eq_true] at h
    refine ⟨fun k hk => ?_, fun k hk => ?_⟩
    · have := h.1 k hk
      simp only [Bool.and_eq_true, Bool.not_eq_true', List.contains_eq_mem, decide_eq_false_iff_not] at this
      exact ⟨this.1.1, this.1.2, this.2⟩
    · have := h.2 k hk
      simp only [Bool.and_eq_true, Bool.not_eq_true', List.contains_eq_mem, decide_eq_false_iff_not] at this
      exact this
  · rename_i R N U c0 c1 hp
    rw [Bool.and_eq_true, Bool.and_eq_true] at h
    obtain ⟨⟨g1, g2⟩, g3⟩ := h
    cases h1
    cases h2 with
    | c H c0 c1 hp D hh hd =>
      have p1 := ver_same hh hd g1
      have p2 := all_ge g2
      have p3 := all_ge g3
      exact ⟨fun k hk => ⟨p3 k hk, fun e => e, fun e => p3 k hk e.1⟩, fun k hk => ⟨fun e => p1 k e hk.2, fun e => p2 k e hk.1⟩⟩
  · rename_i c0 c1 hp R N U
    rw [Bool.and_eq_true, Bool.and_eq_true] at h
    obtain ⟨⟨g1, g2⟩, g3⟩ := h
    cases h2
    cases h1 with
    | c H c0 c1 hp D hh hd =>
      have p1 := ver_same hh hd g1
      have p2 := all_ge g2
      have p3 := all_ge g3
      exact ⟨fun k hk => ⟨fun e => p1 k e hk.2, fun e => p2 k e hk.1, fun e => p3 k e hk.1⟩, fun k hk => ⟨p3 k hk, fun e => e⟩⟩
  · cases h
theorem triv_left {κ ι : Kd} (h : Triv κ) : kindOk κ ι := ⟨fun k hk => absurd hk (h.2.2 k), fun k _ => ⟨h.1 k, h.2.1 k⟩⟩
theorem triv_right {κ ι : Kd} (h : Triv ι) : kindOk κ ι := ⟨fun k _ => ⟨h.1 k, h.2.1 k, h.2.2 k⟩, fun k hk => absurd hk (h.2.2 k)⟩
theorem pairsT_at {M : Nat} {i : Nat} {r : Rec} {rs : List (Nat × Rec)} : ∀ (a : List (Nat × Rec)), pairsT M (a ++ (i, r) :: rs) = true → rs.all (fun x => bitN M i x.1 || recOk x.2 r) = true := by
  intro a
  induction a with
  | nil => intro h; simp only [List.nil_append, pairsT, Bool.and_eq_true] at h; exact h.1
  | cons x t ih =>
    intro h
    obtain ⟨j, q⟩ := x
    simp only [List.cons_append, pairsT, Bool.and_eq_true] at h
    exact ih h.2
/-- each operation beside those that were noted ahead of it -/
def Beside (M : Nat) (rs : List (Nat × Rec)) (l : List (Nat × Kd)) : Prop := ∀ y ∈ l, ∀ x ∈ rs, bitN M y.1 x.1 = true ∨ ∀ κ, KRec κ x.2 → kindOk κ y.2
def PwD (M : Nat) : List (Nat × Kd) → Prop
  | [] => True
  | x :: t => (∀ y ∈ t, bitN M y.1 x.1 = true ∨ kindOk x.2 y.2) ∧ PwD M t
/-- what a call comes to, from blocks to blocks -/
def GCallH (P : Program) (f : FuncId) (args : List GA) (H H' : GH) (v : GA) : Prop :=
  ∀ (w0 : World) (m : GM) (w : World) (vals : List Value), Conc w0 m H w → vals.length = args.length → (∀ i, i < args.length → VRep m (vals.getD i undef) (args.getD i .dead)) →
    Calls P f vals.toArray w fun e w' => ∃ val m', e = .returned val ∧ Conc w0 m' H' w' ∧ Ext m m' ∧ VRep m' val v
/-- whatever lies beside -/
def GCall (P : Program) (f : FuncId) (args : List GA) (nx : Nat) (H : GH) (nx' : Nat) (H' : GH) (v : GA) (D : Nat → Prop) : Prop :=
  ∀ (N : Nat) (X : GH), nx' ≤ N → Free X nx N → GCallH P f args (ovr X H) (ovr (goneD D X) H') v
structure CallOk (P : Program) (call : CallF) : Prop where
  ok : ∀ f args hp nx v hp' nx', call f args hp nx = .ok (v, hp', nx') → Clear nx hp.obj → ∃ D, Mv nx hp.obj nx' hp'.obj D ∧ GCall P f args nx hp.obj nx' hp'.obj v D
theorem app_get {m : GM} {vs us : List Value} {l k : List GA} (h1 : vs.length = l.length) (h2 : ∀ i, i < l.length → VRep m (vs.getD i undef) (l.getD i .dead)) (h3 : us.length = k.length) (h4 : ∀ i, i < k.length → VRep m (us.getD i undef) (k.getD i .dead)) :
    (vs ++ us).length = (l ++ k).length ∧ ∀ i, i < (l ++ k).length → VRep m ((vs ++ us).getD i undef) ((l ++ k).getD i .dead) := by
  refine ⟨by simp [h1, h3], fun i hi => ?_⟩
  rw [List.length_append] at hi
  by_cases h : i < l.length
  · have e1 : (vs ++ us).getD i undef = vs.getD i undef := by simp only [List.getD_eq_getElem?_getD]; rw [List.getElem?_append_left (by omega)]
    have e2 : (l ++ k).getD i .dead = l.getD i .dead := by simp only [List.getD_eq_getElem?_getD]; rw [List.getElem?_append_left h]
    rw [e1, e2]; exact h2 i h
  · have e1 : (vs ++ us).getD i undef = us.getD (i - l.length) undef := by simp only [List.getD_eq_getElem?_getD]; rw [List.getElem?_append_right (by omega), h1]
    have e2 : (l ++ k).getD i .dead = k.getD (i - l.length) .dead := by simp only [List.getD_eq_getElem?_getD]; rw [List.getElem?_append_right (by omega)]
    rw [e1, e2]; exact h4 _ (by omega)
theorem cells_args {m : GM} {vs : List Value} {fs : List GC} (h1 : vs.length = fs.length) (h : ∀ i, i < fs.length → CRep m (vs.getD i undef) (fs.getD i default)) : vs.length = (fs.map GA.c).length ∧ ∀ i, i < (fs.map GA.c).length → VRep m (vs.getD i undef) ((fs.map GA.c).getD i .dead) := by
  refine ⟨by simpa using h1, fun i hi => ?_⟩
  have hi' : i < fs.length := by simpa using hi
  have e : (fs.map GA.c).getD i .dead = .c (fs.getD i default) := by simp [List.getD_eq_getElem?_getD, List.getElem?_map, List.getElem?_eq_getElem hi']
  rw [e]; exact .c (h i hi')
theorem call_step {P : Program} {ρ : Operand → GA} {o : Oper} {f : FuncId} {args : List GA} {H H' : GH} {v : GA} (hc : calleeR P ρ o = some (f, args)) (h : GCallH P f args H H' v) : Step P o ρ H H' v := by
  unfold calleeR at hc
  split at hc
  · rename_i c hop
    split at hc
    · rename_i fo hcal
      unfold calleeC at hc
      split at hc
      · rename_i id fs cs hf
        split at hc
        · rename_i hg
          simp only [Option.some.injEq, Prod.mk.injEq] at hc
          obtain ⟨rfl, rfl⟩ := hc
          intro w0 m a w K Q hC hx hK
          obtain ⟨dst, op, ty0, pos, af, g⟩ := o
          obtain ⟨callee, ⟨xs⟩, ats⟩ := c
          simp only at hop hcal h
          subst hop
          subst hcal
          have hfo := hx fo (by simp [Op.operands, Call.operands])
          rw [hf] at hfo
          generalize hval : a.eval fo = q at hfo
          cases hfo with
          | c hfo => cases hfo with
            | fn f fs cs vs us h1 h2 hf' hc' =>
              obtain ⟨a1, a2⟩ := cells_args h1 hf'
              obtain ⟨b1, b2⟩ := cells_args h2 hc'
              have x1 : (xs.map a.eval).length = (xs.map ρ).length := by simp
              have x2 : ∀ i, i < (xs.map ρ).length → VRep m ((xs.map a.eval).getD i undef) ((xs.map ρ).getD i .dead) := fun i hi => by
                have hi' : i < xs.length := by simpa using hi
                simp only [List.getD_eq_getElem?_getD, List.getElem?_map, List.getElem?_eq_getElem hi', Option.map_some, Option.getD_some]
                exact hx _ (by simp [Op.operands, Call.operands])
              obtain ⟨c1, c2⟩ := app_get a1 a2 x1 x2
              obtain ⟨d1, d2⟩ := app_get c1 c2 b1 b2
              have hcall := h w0 m w _ hC d1 d2
              unfold Oper.wp
              have hrun : (execOp a.eval ⟨dst, .call { callee := .value fo, args := ⟨xs⟩, argTypes := ats }, ty0, pos, af, g⟩).run P w = .ok (.enter id (vs ++ xs.map a.eval ++ us).toArray) w := by
                have hcf := Fx.run_callFunc (P := P) hg (vs ++ xs.map a.eval ++ us).toArray w
                simp only [execOp, resolve, hval, Deferred.ofValue, Sem.run_bind, Sem.run_pure, Result.andThen_ok, invoke]
                simpa using hcf
              rw [hrun]
              show Calls P id _ w _
              refine hcall.mono ?_
              rintro e w' ⟨val, m', rfl, k1, k2, k3⟩
              exact hK val m' w' k1 k2 k3
        · cases hc
      · cases hc
    · cases hc
  · cases hc
section
variable {P : Program} {call : CallF}
theorem ups_inv {H : GH} {nx : Nat} {r : Res} {ρ : Operand → GA} {o : Oper} (hI : Clear nx H) (hr : Okr P ρ H nx o r) : Clear r.nx (ups H r.U) := fun k hk => by
  rw [ups_off]
  · exact hI k (Nat.le_trans hr.le hk)
  · intro hm
    obtain ⟨p, hp, rfl⟩ := List.mem_map.1 hm
    have hne : r.U ≠ [] := fun e => by rw [e] at hp; cases hp
    have := hr.lt (.inr hne)
    rcases (hr.U p hp).1 with e | e
    · omega
    · exact e (hI p.1 (by omega))
theorem ups_ver : ∀ (U : List (Nat × GObj)) (H : GH) (c : Nat), (∀ p ∈ U, p.2.ver = c) → ∀ k, ups H U k = H k ∨ ∃ o, ups H U k = some o ∧ c ≤ o.ver := by
  intro U
  induction U with
  | nil => intro H c _ k; exact .inl rfl
  | cons p t ih =>
    intro H c h k
    obtain ⟨j, o⟩ := p
    rw [ups]
    rcases ih (up H j o) c (fun q hq => h q (List.mem_cons_of_mem _ hq)) k with e | e
    · by_cases hk : k = j
      · subst hk
        right
        rw [e, up_same]
        exact ⟨o, rfl, Nat.le_of_eq (h _ List.mem_cons_self).symm⟩
      · left; rw [e, up_other _ _ hk]
    · exact .inr e
theorem U_small {H : GH} {nx : Nat} {r : Res} {ρ : Operand → GA} {o : Oper} (hI : Clear nx H) (hr : Okr P ρ H nx o r) (hl : r.nx < 1000000000) : ∀ p ∈ r.U, p.1 < 1000000000 := fun p hp => by
  have hne : r.U ≠ [] := fun e => by rw [e] at hp; cases hp
  have := hr.lt (.inr hne)
  rcases (hr.U p hp).1 with e | e
  · omega
  · have h2 : p.1 < nx := by
      rcases Nat.lt_or_ge p.1 nx with h | h
      · exact h
      · exact absurd (hI p.1 h) e
    omega
/-- an operation that enters no function -/
theorem op_mv {s : St} {r : Res} {ρ : Operand → GA} {o : Oper} (hI : Inv s) (hok : Okr P ρ s.hp.obj s.nx o r) (hl : r.nx < 1000000000) : Mv s.nx s.hp.obj r.nx (hsetsD s.hp r.U).obj (fun _ => False) := by
  rw [hsetsD_obj r.U s.hp (U_small hI hok hl)]
  refine ⟨hok.le, ups_inv hI hok, ups_ver r.U s.hp.obj s.nx (fun p hp => (hok.U p hp).2), fun k e1 e2 => ?_, fun _ h => h.elim⟩
  rw [ups_off]
  · exact e2
  · intro hm
    obtain ⟨p, hp, rfl⟩ := List.mem_map.1 hm
    rcases (hok.U p hp).1 with e | e
    · omega
    · exact e e2
theorem op_step {s : St} {r : Res} {ρ : Operand → GA} {o : Oper} (hI : Inv s) (hok : Okr P ρ s.hp.obj s.nx o r) (hl : r.nx < 1000000000) {N : Nat} {X : GH} (hN : r.nx ≤ N) (hX : Free X s.nx N) :
    StepK P ⟨(· ∈ r.R), (· ∈ r.N), (· ∈ r.U.map (·.1))⟩ o ρ (ovr X s.hp.obj) (ovr X (hsetsD s.hp r.U).obj) r.val := by
  rw [hsetsD_obj r.U s.hp (U_small hI hok hl), ovr_ups]
  refine stepK_of r.R r.N r.U (fun k hk => ?_) (fun H2 h1 h2 => hok.step H2 (fun k hk => (h1 k hk).trans (ovr_live (hok.R k hk))) h2)
  have hne : r.N ≠ [] := fun e => by rw [e] at hk; cases hk
  have h1 := hok.lt (.inl hne)
  have h2 := hok.N k hk
  subst h2
  rw [ovr_none (hI _ (Nat.le_refl _))]
  exact hX _ (Nat.le_refl _) (by omega)
/-- a call, wherever it comes -/
theorem call_stepK {ρ : Operand → GA} {o : Oper} {f : FuncId} {args : List GA} {c0 c1 : Nat} {H H' : GH} {v : GA} {D : Nat → Prop} (hc : calleeR P ρ o = some (f, args)) (hI : Clear c0 H) (hm : Mv c0 H c1 H' D) (hg : GCall P f args c0 H c1 H' v D) {N : Nat} {X : GH} (hN : c1 ≤ N) (hX : Free X c0 N) :
    StepK P ⟨(· < c1), fun _ => False, fun k => k < c1 ∧ (H' k ≠ H k ∨ D k)⟩ o ρ (ovr X H) (ovr (goneD D X) H') v := by
  have off : ∀ k, ¬ (k < c1 ∧ (H' k ≠ H k ∨ D k)) → H' k = H k ∧ ¬ D k := fun k hk => by
    by_cases h : k < c1
    · refine ⟨Classical.byContradiction fun e => hk ⟨h, .inl e⟩, fun e => hk ⟨h, .inr e⟩⟩
    · refine ⟨?_, fun e => h (hm.dd k e).2.1⟩
      rw [hm.inv k (by omega), hI k (Nat.le_trans hm.le (by omega))]
  refine ⟨fun k hk => ?_, fun k hk => hk.elim, fun H2 h1 _ => ?_⟩
  · obtain ⟨e1, e2⟩ := off k hk
    unfold ovr
    rw [e1, goneD_off e2]
  · refine call_step hc ?_
    have hx2 : Free (fun k => if k < c1 then X k else H2 k) c0 c1 := fun k e1 e2 => by
      show (if k < c1 then X k else H2 k) = none
      rw [if_pos e2]; exact hX k e1 (Nat.lt_of_lt_of_le e2 hN)
    have h2 := hg c1 _ (Nat.le_refl _) hx2
    have e1 : ovr (fun k => if k < c1 then X k else H2 k) H = H2 := by
      funext k
      by_cases h : k < c1
      · rw [h1 k h]; unfold ovr; simp only [if_pos h]
      · rw [ovr_none (hI k (Nat.le_trans hm.le (by omega)))]; simp only [if_neg h]
    have e2 : ovr (goneD D (fun k => if k < c1 then X k else H2 k)) H' = mix (fun k => k < c1 ∧ (H' k ≠ H k ∨ D k)) (ovr (goneD D X) H') H2 := by
      funext k
      by_cases hu : k < c1 ∧ (H' k ≠ H k ∨ D k)
      · rw [mix_at hu]
        unfold ovr
        by_cases hd : D k
        · rw [goneD_on hd, goneD_on hd]
        · rw [goneD_off hd, goneD_off hd, if_pos hu.1]
      · rw [mix_off hu]
        obtain ⟨q1, q2⟩ := off k hu
        conv => rhs; rw [← e1]
        unfold ovr
        rw [q1, goneD_off q2]
    rw [e1, e2] at h2
    exact h2
theorem contT_eq (ih : St → Rs St) (dst : Option Tmp) (sl : Tr GA) (hp : HT) (nx : Nat) (df : List GC) (v : GA) : contT ih dst sl hp nx df v = ih ⟨sset sl dst v, hp, nx, df⟩ := by
  simp only [contT, forceA_eq, Tr.seq_eq, forceN_eq]
theorem contO_eq (ih : OpsF) (i : Nat) (dst : Option Tmp) (sl : Tr GA) (hp : HT) (nx : Nat) (df : List GC) (rs : List (Nat × Rec)) (v : GA) : contO ih i dst sl hp nx df rs v = ih (i + 1) ⟨sset sl dst v, hp, nx, df⟩ rs := by
  simp only [contO, forceA_eq, Tr.seq_eq, forceN_eq]
theorem plainT_spec {o : Oper} {ih : St → Rs St} {s s' : St} (h : plainT P o ih s = .ok s') : ∃ r, opR P (ev (evT s.sl)) s.hp.obj s.nx o = some r ∧ r.nx < 1000000000 ∧ ih ⟨sset s.sl o.dst r.val, hsetsD s.hp r.U, r.nx, s.df⟩ = .ok s' := by
  unfold plainT at h
  split at h
  · rename_i v R N U nx hop
    cases hb : Nat.blt nx 1000000000 with
    | false => rw [hb] at h; cases h
    | true =>
      rw [hb, cond_true, hsets_eq, contT_eq] at h
      exact ⟨_, hop, blt_iff.1 hb, h⟩
  · cases h
theorem plainO_spec {o : Oper} {ih : OpsF} {i : Nat} {s : St} {rs : List (Nat × Rec)} {y : St × List (Nat × Rec)} (h : plainO P o ih i s rs = .ok y) : ∃ r, opR P (ev (evT s.sl)) s.hp.obj s.nx o = some r ∧ r.nx < 1000000000 ∧ ih (i + 1) ⟨sset s.sl o.dst r.val, hsetsD s.hp r.U, r.nx, s.df⟩ (bif triv r.R r.N (r.U.map (·.1)) then rs else (i, .f r.R r.N (r.U.map (·.1))) :: rs) = .ok y := by
  unfold plainO at h
  split at h
  · rename_i v R N U nx hop
    cases hb : Nat.blt nx 1000000000 with
    | false => rw [hb] at h; cases h
    | true =>
      rw [hb, cond_true, hsets_eq, contO_eq] at h
      exact ⟨_, hop, blt_iff.1 hb, h⟩
  · cases h
/-- what an operation of a region in the text's order comes to -/
inductive OneT (P : Program) (call : CallF) (ops : Array Oper) (rc : Bool) (o : Oper) (ih : St → Rs St) (s s' : St) : Prop where
  | skip (hw : wanted1 ops (evT s.sl) o = some false) (h : ih ⟨sset s.sl o.dst (.tup []), s.hp, s.nx, s.df⟩ = .ok s')
  | op (r : Res) (hw : wanted1 ops (evT s.sl) o = some true) (hr : opR P (ev (evT s.sl)) s.hp.obj s.nx o = some r) (hl : r.nx < 1000000000) (h : ih ⟨sset s.sl o.dst r.val, hsetsD s.hp r.U, r.nx, s.df⟩ = .ok s')
  | call (f : FuncId) (args : List GA) (v : GA) (hp : HT) (nx : Nat) (hw : wanted1 ops (evT s.sl) o = some true) (hc : calleeR P (ev (evT s.sl)) o = some (f, args)) (hr : call f args s.hp s.nx = .ok (v, hp, nx)) (h : ih ⟨sset s.sl o.dst v, hp, nx, s.df⟩ = .ok s')
  | df (f : Operand) (ats : Array TypeId) (id : FuncId) (fs cs : List GC) (hw : wanted1 ops (evT s.sl) o = some true) (ho : o.op = .defer { callee := .value f, args := #[], argTypes := ats }) (hf : ev (evT s.sl) f = .c (.fn (.func id) fs cs)) (h : ih ⟨sset s.sl o.dst (.tup []), s.hp, s.nx, .fn (.func id) fs cs :: s.df⟩ = .ok s')
  | rcv (xs : Array Operand) (ats : Array TypeId) (hw : wanted1 ops (evT s.sl) o = some true) (hrc : rc = true) (ho : o.op = .call { callee := .builtin .recover, args := xs, argTypes := ats }) (h : ih ⟨sset s.sl o.dst (.c (.v .nilIface)), s.hp, s.nx, s.df⟩ = .ok s')
theorem stepT_spec {ops : Array Oper} {rc : Bool} {o : Oper} {ih : St → Rs St} {s s' : St} (h : stepT call P ops rc o ih s = .ok s') : OneT P call ops rc o ih s s' := by
  unfold stepT at h
  split at h
  · cases h
  · rename_i hw
    rw [contT_eq] at h
    exact .skip hw h
  · rename_i hw
    unfold kindT at h
    split at h
    · obtain ⟨r, h1, h2, h3⟩ := plainT_spec h
      exact .op r hw h1 h2 h3
    · unfold callT at h
      split at h
      · rename_i f args hc
        split at h
        · rename_i v hp nx hr
          rw [contT_eq] at h
          exact .call f args v hp nx hw hc hr h
        · cases h
      · obtain ⟨r, h1, h2, h3⟩ := plainT_spec h
        exact .op r hw h1 h2 h3
    · unfold deferT at h
      split at h
      · rename_i f ats hop
        split at h
        · rename_i id fs cs hf
          rw [contT_eq] at h
          exact .df f ats id fs cs hw hop hf h
        · cases h
      · cases h
    · unfold recT at h
      split at h
      · rename_i xs ats hop
        split at h
        · rw [contT_eq] at h
          exact .rcv xs ats hw rfl hop h
        · cases h
      · cases h
inductive OneO (P : Program) (call : CallF) (ops : Array Oper) (o : Oper) (ih : OpsF) (i : Nat) (s : St) (rs : List (Nat × Rec)) (y : St × List (Nat × Rec)) : Prop where
  | skip (hw : wanted1 ops (evT s.sl) o = some false) (h : ih (i + 1) ⟨sset s.sl o.dst (.tup []), s.hp, s.nx, s.df⟩ rs = .ok y)
  | op (r : Res) (hw : wanted1 ops (evT s.sl) o = some true) (hr : opR P (ev (evT s.sl)) s.hp.obj s.nx o = some r) (hl : r.nx < 1000000000) (h : ih (i + 1) ⟨sset s.sl o.dst r.val, hsetsD s.hp r.U, r.nx, s.df⟩ (bif triv r.R r.N (r.U.map (·.1)) then rs else (i, .f r.R r.N (r.U.map (·.1))) :: rs) = .ok y)
  | call (f : FuncId) (args : List GA) (v : GA) (hp : HT) (nx : Nat) (hw : wanted1 ops (evT s.sl) o = some true) (hc : calleeR P (ev (evT s.sl)) o = some (f, args)) (hr : call f args s.hp s.nx = .ok (v, hp, nx)) (h : ih (i + 1) ⟨sset s.sl o.dst v, hp, nx, s.df⟩ ((i, .c s.nx nx hp) :: rs) = .ok y)
theorem stepO_spec {ops : Array Oper} {o : Oper} {ih : OpsF} {i : Nat} {s : St} {rs : List (Nat × Rec)} {y : St × List (Nat × Rec)} (h : stepO call P ops o ih i s rs = .ok y) : OneO P call ops o ih i s rs y := by
  unfold stepO at h
  split at h
  · cases h
  · rename_i hw
    rw [contO_eq] at h
    exact .skip hw h
  · rename_i hw
    unfold kindP at h
    split at h
    · obtain ⟨r, h1, h2, h3⟩ := plainO_spec h
      exact .op r hw h1 h2 h3
    · unfold callO at h
      split at h
      · rename_i f args hc
        split at h
        · rename_i v hp nx hr
          rw [contO_eq] at h
          exact .call f args v hp nx hw hc hr h
        · cases h
      · obtain ⟨r, h1, h2, h3⟩ := plainO_spec h
        exact .op r hw h1 h2 h3
    · cases h
theorem RunL.of {ops : Array Oper} {l : List (Nat × Kd)} {s s' : GSt} {K : GSt → Prop} (e : s = s') (h : RunL P ops l s' K) : RunL P ops l s K := by rw [e]; exact h
theorem den_set {n : Nat} (hn : n ≤ 1000000000) {X : GH} {sl : Tr GA} {d : Option Tmp} {v : GA} {hp : HT} {nx : Nat} {df : List GC} (hd : ∀ x, d = some x → x < n) : den X ⟨sset sl d v, hp, nx, df⟩ = ⟨uput (evT sl) d v, ovr X hp.obj, df⟩ := by
  unfold den
  simp only
  rw [evT_set hn hd]
theorem pairs_head {M i : Nat} {r : Rec} {κ : Kd} {rs rs2 : List (Nat × Rec)} {kinds : List (Nat × Kd)} (hkr : KRec κ r) (hpp : pairsT M (rs2 ++ (i, r) :: rs) = true) (p1 : Beside M ((i, r) :: rs) kinds) (p2 : PwD M kinds) : Beside M rs ((i, κ) :: kinds) ∧ PwD M ((i, κ) :: kinds) := by
  have hat := List.all_eq_true.1 (pairsT_at rs2 hpp)
  refine ⟨fun y hy x hx => ?_, fun y hy => ?_, p2⟩
  · rcases List.mem_cons.1 hy with rfl | hy
    · have := hat x hx
      rw [Bool.or_eq_true] at this
      rcases this with h | h
      · exact .inl h
      · exact .inr (fun κ hκ => recOk_ok hκ hkr h)
    · exact p1 y hy x (List.mem_cons_of_mem _ hx)
  · rcases p1 y hy (i, r) List.mem_cons_self with h | h
    · exact .inl h
    · exact .inr (h _ hkr)
theorem pairs_triv {M i : Nat} {κ : Kd} (ht : Triv κ) {rs : List (Nat × Rec)} {kinds : List (Nat × Kd)} (p1 : Beside M rs kinds) (p2 : PwD M kinds) : Beside M rs ((i, κ) :: kinds) ∧ PwD M ((i, κ) :: kinds) := by
  refine ⟨fun y hy x hx => ?_, fun y hy => .inr (triv_left ht), p2⟩
  rcases List.mem_cons.1 hy with rfl | hy
  · exact .inr (fun κ _ => triv_right ht)
  · exact p1 y hy x hx
theorem triv_of {R N U : List Nat} (h : triv R N U = true) : Triv ⟨(· ∈ R), (· ∈ N), (· ∈ U)⟩ := by
  unfold triv at h
  split at h
  · exact ⟨fun k hk => (by cases hk), fun k hk => (by cases hk), fun k hk => (by cases hk)⟩
  · cases h
theorem runOps_ok (hcall : CallOk P call) {n : Nat} (hn : n ≤ 1000000000) {ops : Array Oper} (M : Nat) : ∀ (l : List Oper) (i : Nat) (s : St) (rs : List (Nat × Rec)) (s' : St) (rs' : List (Nat × Rec)), (∀ j, l[j]? = ops[i + j]?) → (∀ o ∈ l, ∀ x, o.dst = some x → x < n) → runOps call P ops l i s rs = .ok (s', rs') → Inv s →
    ∃ (kinds : List (Nat × Kd)) (D : Nat → Prop), kinds.map (·.1) = List.range' i l.length ∧ Mv s.nx s.hp.obj s'.nx s'.hp.obj D ∧ (∃ rs2, rs' = rs2 ++ rs) ∧ (pairsT M rs' = true → Beside M rs kinds ∧ PwD M kinds) ∧ ∀ (N : Nat) (X : GH), s'.nx ≤ N → Free X s.nx N → ∀ K : GSt → Prop, K (den (goneD D X) s') → RunL P ops kinds (den X s) K := by
  intro l
  induction l with
  | nil =>
    intro i s rs s' rs' _ _ h hI
    have h2 : (Rs.ok (s, rs) : Rs (St × List (Nat × Rec))) = .ok (s', rs') := h
    injection h2 with h2; injection h2 with h3 h4; subst h3; subst h4
    exact ⟨[], fun _ => False, rfl, Mv.refl hI, ⟨[], rfl⟩, fun _ => ⟨fun y hy => (by cases hy), trivial⟩, fun N X _ _ K hK => by rw [goneD_false] at hK; exact hK⟩
  | cons o t ih =>
    intro i s rs s' rs' hl hd h hI
    have ho : ops[i]? = some o := by have := hl 0; simpa using this.symm
    have hl' : ∀ j, t[j]? = ops[i + 1 + j]? := fun j => by
      have := hl (j + 1)
      rw [Nat.add_assoc, Nat.add_comm 1 j]
      simpa using this
    have hdo := hd o List.mem_cons_self
    have hdt : ∀ o ∈ t, ∀ x, o.dst = some x → x < n := fun o ho => hd o (List.mem_cons_of_mem _ ho)
    have h2 : stepO call P ops o (runOps call P ops t) i s rs = .ok (s', rs') := h
    cases stepO_spec h2 with
    | skip hw h =>
      obtain ⟨kinds, D, g1, g2, g3, g4, g5⟩ := ih (i + 1) _ rs s' rs' hl' hdt h hI
      refine ⟨(i, ⟨fun _ => False, fun _ => False, fun _ => False⟩) :: kinds, D, by simp [g1, List.range'_succ], g2, g3, fun hp => ?_, fun N X hN hX K hK => ⟨o, ho, .inr ⟨hw, ?_⟩⟩⟩
      · obtain ⟨p1, p2⟩ := g4 hp
        exact pairs_triv ⟨fun _ h => h, fun _ h => h, fun _ h => h⟩ p1 p2
      · exact RunL.of (den_set hn hdo).symm (g5 N X hN hX K hK)
    | op r hw hr hlim h =>
      have hok : Okr P (ev (evT s.sl)) s.hp.obj s.nx o r := opR_ok hr (hI _ (Nat.le_refl _))
      have hmv := op_mv hI hok hlim
      obtain ⟨kinds, D, g1, g2, g3, g4, g5⟩ := ih (i + 1) _ _ s' rs' hl' hdt h hmv.inv
      have g2' : Mv r.nx (hsetsD s.hp r.U).obj s'.nx s'.hp.obj D := g2
      refine ⟨(i, ⟨(· ∈ r.R), (· ∈ r.N), (· ∈ r.U.map (·.1))⟩) :: kinds, fun k => False ∨ D k, by simp [g1, List.range'_succ], hmv.trans g2', ?_, fun hp => ?_, fun N X hN hX K hK => ⟨o, ho, .inl ⟨hw, r.val, _, op_step hI hok hlim (Nat.le_trans g2'.le hN) hX, ?_⟩⟩⟩
      · obtain ⟨rs2, e⟩ := g3
        cases hb : triv r.R r.N (r.U.map (·.1)) <;> rw [hb] at e
        · exact ⟨rs2 ++ [(i, .f r.R r.N (r.U.map (·.1)))], by rw [e]; simp⟩
        · exact ⟨rs2, e⟩
      · obtain ⟨p1, p2⟩ := g4 hp
        cases hb : triv r.R r.N (r.U.map (·.1)) <;> rw [hb] at p1
        · obtain ⟨rs2, e⟩ := g3
          rw [hb] at e
          simp only [cond_false] at e p1
          rw [e] at hp
          exact pairs_head (.f r.R r.N (r.U.map (·.1))) hp p1 p2
        · exact pairs_triv (triv_of hb) p1 p2
      · have hfr : Free X r.nx N := hX.sub hok.le (Nat.le_refl _)
        have := g5 N X hN hfr K (by rw [← goneD_or, goneD_false] at hK; exact hK)
        exact RunL.of (den_set hn hdo).symm this
    | call f args v hp nx hw hc hr h =>
      obtain ⟨D1, hmv, hg⟩ := hcall.ok f args s.hp s.nx v hp nx hr hI
      obtain ⟨kinds, D, g1, g2, g3, g4, g5⟩ := ih (i + 1) _ _ s' rs' hl' hdt h hmv.inv
      have g2' : Mv nx hp.obj s'.nx s'.hp.obj D := g2
      refine ⟨(i, ⟨(· < nx), fun _ => False, fun k => k < nx ∧ (hp.obj k ≠ s.hp.obj k ∨ D1 k)⟩) :: kinds, fun k => D1 k ∨ D k, by simp [g1, List.range'_succ], hmv.trans g2', ?_, fun hpp => ?_, fun N X hN hX K hK => ⟨o, ho, .inl ⟨hw, v, _, call_stepK hc hI hmv hg (Nat.le_trans g2'.le hN) hX, ?_⟩⟩⟩
      · obtain ⟨rs2, e⟩ := g3
        exact ⟨rs2 ++ [(i, .c s.nx nx hp)], by rw [e]; simp⟩
      · obtain ⟨p1, p2⟩ := g4 hpp
        obtain ⟨rs2, e⟩ := g3
        rw [e] at hpp
        exact pairs_head (.c s.hp.obj s.nx nx hp D1 hmv.fr (fun k hk => (hmv.dd k hk).2.2)) hpp p1 p2
      · have hfr : Free (goneD D1 X) nx N := Free.gone hX hmv.le (fun k hk => (hmv.dd k hk).2.1)
        have := g5 N (goneD D1 X) hN hfr K (by rw [← goneD_or] at hK; exact hK)
        exact RunL.of (den_set hn hdo).symm this
theorem RunT.of {rc : Bool} {ops : Array Oper} {l : List Nat} {s s' : GSt} {K : GSt → Prop} (e : s = s') (h : RunT P rc ops l s' K) : RunT P rc ops l s K := by rw [e]; exact h
theorem runT_ok (hcall : CallOk P call) {n : Nat} (hn : n ≤ 1000000000) {ops : Array Oper} (rc : Bool) : ∀ (l : List Oper) (i : Nat) (s : St) (s' : St), (∀ j, l[j]? = ops[i + j]?) → (∀ o ∈ l, ∀ x, o.dst = some x → x < n) → runT call P ops rc l s = .ok s' → Inv s →
    ∃ D, Mv s.nx s.hp.obj s'.nx s'.hp.obj D ∧ ∀ (N : Nat) (X : GH), s'.nx ≤ N → Free X s.nx N → ∀ K : GSt → Prop, K (den (goneD D X) s') → RunT P rc ops (List.range' i l.length) (den X s) K := by
  intro l
  induction l with
  | nil =>
    intro i s s' _ _ h hI
    have h2 : (Rs.ok s : Rs St) = .ok s' := h
    injection h2 with h2; subst h2
    exact ⟨fun _ => False, Mv.refl hI, fun N X _ _ K hK => by rw [goneD_false] at hK; exact hK⟩
  | cons o t ih =>
    intro i s s' hl hd h hI
    have ho : ops[i]? = some o := by have := hl 0; simpa using this.symm
    have hl' : ∀ j, t[j]? = ops[i + 1 + j]? := fun j => by
      have := hl (j + 1)
      rw [Nat.add_assoc, Nat.add_comm 1 j]
      simpa using this
    have hdo := hd o List.mem_cons_self
    have hdt : ∀ o ∈ t, ∀ x, o.dst = some x → x < n := fun o ho => hd o (List.mem_cons_of_mem _ ho)
    rw [List.length_cons, List.range'_succ]
    have h2 : stepT call P ops rc o (runT call P ops rc t) s = .ok s' := h
    cases stepT_spec h2 with
    | skip hw h =>
      obtain ⟨D, g2, g5⟩ := ih (i + 1) _ s' hl' hdt h hI
      exact ⟨D, g2, fun N X hN hX K hK => ⟨o, ho, .inr (.inl ⟨hw, RunT.of (den_set hn hdo).symm (g5 N X hN hX K hK)⟩)⟩⟩
    | op r hw hr hlim h =>
      have hok : Okr P (ev (evT s.sl)) s.hp.obj s.nx o r := opR_ok hr (hI _ (Nat.le_refl _))
      have hmv := op_mv hI hok hlim
      obtain ⟨D, g2, g5⟩ := ih (i + 1) _ s' hl' hdt h hmv.inv
      have g2' : Mv r.nx (hsetsD s.hp r.U).obj s'.nx s'.hp.obj D := g2
      refine ⟨fun k => False ∨ D k, hmv.trans g2', fun N X hN hX K hK => ⟨o, ho, .inl ⟨hw, r.val, _, (op_step hI hok hlim (Nat.le_trans g2'.le hN) hX).step, ?_⟩⟩⟩
      have hfr : Free X r.nx N := hX.sub hok.le (Nat.le_refl _)
      have := g5 N X hN hfr K (by rw [← goneD_or, goneD_false] at hK; exact hK)
      exact RunT.of (den_set hn hdo).symm this
    | call f args v hp nx hw hc hr h =>
      obtain ⟨D1, hmv, hg⟩ := hcall.ok f args s.hp s.nx v hp nx hr hI
      obtain ⟨D, g2, g5⟩ := ih (i + 1) _ s' hl' hdt h hmv.inv
      have g2' : Mv nx hp.obj s'.nx s'.hp.obj D := g2
      refine ⟨fun k => D1 k ∨ D k, hmv.trans g2', fun N X hN hX K hK => ⟨o, ho, .inl ⟨hw, v, _, call_step hc (hg N X (Nat.le_trans g2'.le hN) hX), ?_⟩⟩⟩
      have hfr : Free (goneD D1 X) nx N := Free.gone hX hmv.le (fun k hk => (hmv.dd k hk).2.1)
      have := g5 N (goneD D1 X) hN hfr K (by rw [← goneD_or] at hK; exact hK)
      exact RunT.of (den_set hn hdo).symm this
    | df f ats id fs cs hw hop hf h =>
      obtain ⟨D, g2, g5⟩ := ih (i + 1) _ s' hl' hdt h hI
      exact ⟨D, g2, fun N X hN hX K hK => ⟨o, ho, .inr (.inr (.inl ⟨hw, f, ats, id, fs, cs, hop, hf, RunT.of (den_set hn hdo).symm (g5 N X hN hX K hK)⟩))⟩⟩
    | rcv xs ats hw hrc hop h =>
      obtain ⟨D, g2, g5⟩ := ih (i + 1) _ s' hl' hdt h hI
      exact ⟨D, g2, fun N X hN hX K hK => ⟨o, ho, .inr (.inr (.inr ⟨hw, hrc, xs, ats, hop, RunT.of (den_set hn hdo).symm (g5 N X hN hX K hK)⟩))⟩⟩
end
end Go.Proofs.YtoebfmhogkjmgaaGreatDoor.Gx
