/- Parts of the proofs, put together: FxN, FxT, FxU, FxO, PfJ, FxQ, PfI, PfK, PfL, PfS. -/
import Derived.Test.YtiimkhnngpfnbaaR19
import Derived.LoopN
/- Whole regions as a function on states, for go_simp. No program in sight. -/
namespace Go.Proofs.Ytiimkhnngpfnbaa.Fx
open Go.RowKit
set_option linter.unusedVariables false
set_option linter.unusedSimpArgs false
@[go_sem] def isMem (ow : List Nat) (op : Op) (dst : Option Tmp) : Bool :=
  match op with
  | .alloc _ => true
  | .box _ _ => true
  | .store _ _ _ => true
  | .makeSlice _ _ _ => true
  | .call { callee := .builtin .append, args := _, argTypes := _ } => match dst with | some d => !(ow.contains d) | none => true
  | .buildSlice _ _ _ => match dst with | some d => ow.contains d | none => false
  | .call { callee := .value (.func _), args := _, argTypes := _ } => match dst with | some d => ow.contains d | none => true
  | _ => false
@[go_sem] def storeV (P : Program) (s : ASt) (dst : Option Tmp) (ty : TypeId) (x y : AV) : Prop × ASt :=
  match shp P ty, x with
  | some (_, n), .c (.ptr k i) => match hget s.hp k, cellsAV y with
    | some (.var vt cells), some l => (l.length = n ∧ i + n ≤ cells.length, ⟨sput s.sl dst (.tup []), hset s.hp k (.var vt (splice cells i l))⟩)
    | _, _ => (False, s)
  | some (_, n), .c (.elo k len i j) => match hget s.hp k, treesAV y with
    | some (.row e m rows), some l => (len = rows.length ∧ l.length = n ∧ j + n ≤ m, ⟨sput s.sl dst (.tup []), hset s.hp k (.row e m (rows.set i (splice (rows.getD i []) j l)))⟩)
    | _, _ => (False, s)
  | _, _ => (False, s)
@[go_sem] def appendV (P : Program) (s : ASt) (dst : Option Tmp) (ty : TypeId) (x y : AV) : Prop × ASt :=
  match sli P ty, x, y with
  | some (e, n, b), .c (.own k len), .c (.t (.s more)) => match hget s.hp k with
    | some (.row e' m rows) => (e = e' ∧ n = m ∧ len = rows.length ∧ (∀ r ∈ more, r.length = n) ∧ rows.length + more.length ≤ 1000000000 ∧ b ≤ 1000, ⟨sput s.sl dst (.c (.own k (rows.length + more.length))), hset s.hp k (.row e' m (rows ++ more))⟩)
    | _ => (False, s)
  | some (e, n, b), .c (.own k len), .c (.t (.v (.slice none 0 0))) => match hget s.hp k with
    | some (.row e' m rows) => (e = e' ∧ n = m ∧ len = rows.length ∧ rows.length ≤ 1000000000 ∧ b ≤ 1000, ⟨sput s.sl dst (.c (.own k len)), hset s.hp k (.row e' m rows)⟩)
    | _ => (False, s)
  | some (e, n, b), x, .c (.t (.s more)) => match dst with
    | some d => (zB x = true ∧ hget s.hp d = none ∧ (∀ r ∈ more, r.length = n) ∧ more.length ≤ 1000000000 ∧ b ≤ 1000, ⟨sset s.sl d (.c (.own d more.length)), hset s.hp d (.row e n more)⟩)
    | none => (False, s)
  | some (e, n, b), x, .c (.t (.v (.slice none 0 0))) => match dst with
    | some d => (zB x = true ∧ hget s.hp d = none ∧ b ≤ 1000, ⟨sset s.sl d (.c (.own d 0)), hset s.hp d (.row e n [])⟩)
    | none => (False, s)
  | _, _, _ => (False, s)
@[go_sem] def makeV (P : Program) (s : ASt) (d : Tmp) (ty : TypeId) (x y : AV) : Prop × ASt :=
  match sli P ty, x, y with
  | some (e, n, b), .c (.t (.v (.int _ a))), .c (.t (.v (.int _ a'))) => match zro P e with
    | some z => (a = a' ∧ 0 ≤ a ∧ a ≤ 1000000000 ∧ b ≤ 1000 ∧ hget s.hp d = none, ⟨sset s.sl d (.c (.own d a.toNat)), hset s.hp d (.row e n (List.replicate a.toNat (z.map .v)))⟩)
    | none => (False, s)
  | _, _, _ => (False, s)
@[go_sem] def memV (P : Program) (s : ASt) (op : Op) (dst : Option Tmp) : Prop × ASt :=
  match op, dst with
  | .alloc ty, some d => match zro P ty with
    | some z => (hget s.hp d = none, ⟨sset s.sl d (.c (.ptr d 0)), hset s.hp d (.var ty (z.map fun x => .t (.v x)))⟩)
    | none => (False, s)
  | .box ty x, some d => match cellsAV (ev s.sl x) with
    | some l => (hget s.hp d = none, ⟨sset s.sl d (.c (.ptr d 0)), hset s.hp d (.var ty l)⟩)
    | none => (False, s)
  | .store ty x y, dst => storeV P s dst ty (ev s.sl x) (ev s.sl y)
  | .makeSlice ty x y, some d => makeV P s d ty (ev s.sl x) (ev s.sl y)
  | .buildSlice ty len ps, some d => match sli P ty, rowsOf 0 (ps.toList.map fun p => (p.1, ev s.sl p.2)) with
    | some (e, n, _), some rows => (rows.length = len ∧ (∀ r ∈ rows, r.length = n) ∧ len * n ≤ 16777216 ∧ hget s.hp d = none, ⟨sset s.sl d (.c (.own d rows.length)), hset s.hp d (.row e n rows)⟩)
    | _, _ => (False, s)
  | .call { callee := .builtin .append, args := ⟨[x, y]⟩, argTypes := ⟨[t, t']⟩ }, dst => ((appendV P s dst t (ev s.sl x) (ev s.sl y)).1 ∧ t = t', (appendV P s dst t (ev s.sl x) (ev s.sl y)).2)
  | _, _ => (False, s)
@[go_sem] def stepV (P : Program) (ow : List Nat) (o : Oper) (s : ASt) : Prop × ASt :=
  if isMem ow o.op o.dst = true then memV P s o.op o.dst else ((valV P s.hp s.sl o.op).1, ⟨sput s.sl o.dst (valV P s.hp s.sl o.op).2, s.hp⟩)
def kdV : Op → Kd
  | .load _ _ => .r
  | .fieldAddr _ _ _ => .r
  | .indexAddr _ _ _ => .r
  | .call { callee := .builtin .append, args := _, argTypes := _ } => .p
  | .call { callee := .builtin _, args := _, argTypes := _ } => .r
  | _ => .p
def kdM : Op → Kd
  | .alloc _ => .n
  | .box _ _ => .n
  | _ => .w
def kdOf (ow : List Nat) (o : Oper) : Kd := if isMem ow o.op o.dst = true then kdM o.op else kdV o.op
@[go_sem] def callOf : Op → Option (FuncId × List Operand)
  | .call { callee := .value (.func f), args := xs, argTypes := _ } => some (f, xs.toList)
  | _ => none
/-- a call: of what contract? -/
def CallV (P : Program) (f : FuncId) (args : List AV) (dst : Option Tmp) (m : Bool) (s : ASt) (rest : ASt → (ASt → Prop) → Prop) (K : ASt → Prop) : Prop :=
  (∃ args' r, goB P f = true ∧ FxPure P f args' r ∧ CoeA args args' ∧ okAL [] args' = true ∧ rest ⟨sput s.sl dst r, s.hp⟩ K) ∨
  (m = true ∧ ∃ ps args' r H0 H1, goB P f = true ∧ FxCall P f args' H0 r H1 ∧ one1 ps = true ∧ CoeA args (renAL ps args') ∧ okAL H0 args' = true ∧ HandW ps s.hp H0 ∧ H0.all (fun p => okObj H0 p.2) = true ∧ bigH H0 = true ∧ NewW H0 H1 s.hp ps ∧ rest ⟨sput s.sl dst (renAV ps r), hputs ps s.hp H1⟩ K)
def RunW (q : Prop × ASt) (rest : ASt → (ASt → Prop) → Prop) (K : ASt → Prop) : Prop := q.1 ∧ rest q.2 K
@[go_sem] theorem runW_eq (p : Prop) (s : ASt) (rest : ASt → (ASt → Prop) → Prop) (K : ASt → Prop) : RunW (p, s) rest K = (p ∧ rest s K) := Eq.trans rfl rfl
def OpV (P : Program) (m : Bool) (o : Oper) (s : ASt) (c : Option (FuncId × List Operand)) (q : Prop × ASt) (rest : ASt → (ASt → Prop) → Prop) (K : ASt → Prop) : Prop :=
  match c with
  | some (f, xs) => CallV P f (xs.map (ev s.sl)) o.dst m s rest K
  | none => RunW q rest K
@[go_sem] theorem opV_some (P : Program) (m : Bool) (o : Oper) (s : ASt) (f : FuncId) (xs : List Operand) (q : Prop × ASt) (rest : ASt → (ASt → Prop) → Prop) (K : ASt → Prop) : OpV P m o s (some (f, xs)) q rest K = CallV P f (xs.map (ev s.sl)) o.dst m s rest K := Eq.trans rfl rfl
@[go_sem] theorem opV_none (P : Program) (m : Bool) (o : Oper) (s : ASt) (q : Prop × ASt) (rest : ASt → (ASt → Prop) → Prop) (K : ASt → Prop) : OpV P m o s none q rest K = RunW q rest K := Eq.trans rfl rfl
def GuardV (P : Program) (m : Bool) (o : Oper) (s : ASt) (b : Option Bool) (c : Option (FuncId × List Operand)) (q : Prop × ASt) (rest : ASt → (ASt → Prop) → Prop) (K : ASt → Prop) : Prop :=
  match b with
  | some true => OpV P m o s c q rest K
  | some false => rest ⟨sput s.sl o.dst (.tup []), s.hp⟩ K
  | none => False
@[go_sem] theorem guardV_true (P : Program) (m : Bool) (o : Oper) (s : ASt) (c : Option (FuncId × List Operand)) (q : Prop × ASt) (rest : ASt → (ASt → Prop) → Prop) (K : ASt → Prop) : GuardV P m o s (some true) c q rest K = OpV P m o s c q rest K := Eq.trans rfl rfl
@[go_sem] theorem guardV_false (P : Program) (m : Bool) (o : Oper) (s : ASt) (c : Option (FuncId × List Operand)) (q : Prop × ASt) (rest : ASt → (ASt → Prop) → Prop) (K : ASt → Prop) : GuardV P m o s (some false) c q rest K = rest ⟨sput s.sl o.dst (.tup []), s.hp⟩ K := Eq.trans rfl rfl
def RunV (P : Program) (ow : List Nat) (ops : Array Oper) : List Oper → ASt → (ASt → Prop) → Prop
  | [], s, K => K s
  | o :: r, s, K => GuardV P (isMem ow o.op o.dst) o s (wanted1 ops s.sl o) (callOf o.op) (stepV P ow o s) (RunV P ow ops r) K
@[go_sem] theorem runV_nil (P : Program) (ow : List Nat) (ops : Array Oper) (s : ASt) (K : ASt → Prop) : RunV P ow ops [] s K = K s := rfl
@[go_sem] theorem runV_cons (P : Program) (ow : List Nat) (ops : Array Oper) (o : Oper) (r : List Oper) (s : ASt) (K : ASt → Prop) : RunV P ow ops (o :: r) s K = GuardV P (isMem ow o.op o.dst) o s (wanted1 ops s.sl o) (callOf o.op) (stepV P ow o s) (RunV P ow ops r) K := Eq.trans rfl rfl
section
variable {P : Program} {dst : Option Tmp} {ty0 : TypeId} {pos : String} {af : Array Edge} {g : Option (Nat × Bool)} {s : ASt}
theorem all_len {rows : List (List T)} {n : Nat} (h : ∀ r ∈ rows, r.length = n) : ∀ i, i < rows.length → (rows.getD i []).length = n := fun i hi => by
  have e : rows.getD i [] = rows[i] := by simp [List.getD_eq_getElem?_getD, List.getElem?_eq_getElem hi]
  rw [e]; exact h _ (List.getElem_mem hi)
theorem valV_ok (op : Op) (hm : ∀ ty len ps, op = .buildSlice ty len ps → True) : (valV P s.hp s.sl op).1 → StepK P (kdV op) ⟨dst, op, ty0, pos, af, g⟩ (ev s.sl) s.hp s.hp (valV P s.hp s.sl op).2 := by
  unfold valV
  split
  · intro _; exact step_move _ rfl
  · intro _; exact step_assign _ rfl
  · exact loadV_ok _ _
  · exact fieldAddrV_ok _ _ _
  · exact indexAddrV_ok _ _ _
  · exact binV_ok _ _ _ _ _
  · exact unV_ok _ _ _
  · exact convV_ok _ _ _
  · exact nilV_ok _
  · exact fieldV_ok _ _ _
  · exact extractV_ok _ _
  · rename_i ty ps
    obtain ⟨l⟩ := ps
    exact buildV_ok ty l
  · exact cutV_ok _ _ _ _
  · exact cut0V_ok _ _ _ _
  · exact indexV_ok _ _ _
  · exact pickV_ok _ _ _
  · exact lenV_ok _ _
  · exact copyV_ok _ _ _ _
  · rename_i ty
    intro h
    obtain ⟨⟨e, n, b⟩, hs⟩ := Option.isSome_iff_exists.1 h
    exact @step_lit0 P dst ty0 pos af g (ev s.sl) s.hp ty e n b ⟨sli_ok hs⟩
  · rename_i ty len ps _
    obtain ⟨l⟩ := ps
    split
    · rename_i e n b rows hs hr
      intro h
      exact @step_lit P dst ty0 pos af g (ev s.sl) s.hp ty len l e n b ⟨sli_ok hs⟩ rows hr h.1 (all_len h.2.1) h.2.2
    · intro h; exact h.elim
  · intro h; exact h.elim
open Classical in
theorem memV_ok (op : Op) : (memV P s op dst).1 → ∃ v H', StepK P (kdM op) ⟨dst, op, ty0, pos, af, g⟩ (ev s.sl) s.hp H' v ∧ (memV P s op dst).2 = ⟨sput s.sl dst v, H'⟩ := by
  unfold memV
  split
  · rename_i ty d
    split
    · rename_i z hz
      intro h
      exact ⟨_, _, ⟨d, _, h, rfl, fun H2 h2 => @step_alloc P (some d) ty0 pos af g (ev s.sl) H2 d ty z ⟨(zro_ok hz).1, (zro_ok hz).2⟩ h2⟩, rfl⟩
    · intro h; exact h.elim
  · rename_i ty x d
    split
    · rename_i l hl
      intro h
      exact ⟨_, _, ⟨d, _, h, rfl, fun H2 h2 => step_box (H := H2) d ty x h2 hl⟩, rfl⟩
    · intro h; exact h.elim
  · rename_i ty x y
    unfold storeV
    generalize hx : ev s.sl x = av
    split
    · rename_i agg n k i hs
      split
      · rename_i vt cells l ho hl
        intro h
        exact ⟨_, _, @step_store_ptr P dst ty0 pos af g (ev s.sl) s.hp ty x y agg n ⟨shp_ok hs⟩ k i vt cells l hx ho hl h.1 h.2, rfl⟩
      · intro h; exact h.elim
    · rename_i agg n k len i j hs
      split
      · rename_i e m rows l ho hl
        intro h
        exact ⟨_, _, @step_store_elo P dst ty0 pos af g (ev s.sl) s.hp ty x y agg n ⟨shp_ok hs⟩ k len i j e m rows l hx ho h.1 hl h.2.1 h.2.2, rfl⟩
      · intro h; exact h.elim
    · intro h; exact h.elim
  · rename_i ty x y d
    unfold makeV
    generalize hx : ev s.sl x = av
    generalize hy : ev s.sl y = bv
    split
    · rename_i e n b k1 a k2 a' hs
      split
      · rename_i z hz
        intro h
        obtain ⟨rfl, h1, h2, h3, h4⟩ := h
        obtain ⟨m, rfl⟩ : ∃ m : Nat, a = m := ⟨a.toNat, by omega⟩
        simp only [Int.toNat_natCast]
        exact ⟨_, _, @step_make P (some d) ty0 pos af g (ev s.sl) s.hp d ty x y e n b ⟨sli_ok hs⟩ z ⟨(zro_ok hz).1, (zro_ok hz).2⟩ h4 m k1 k2 hx hy (by omega) h3, rfl⟩
      · intro h; exact h.elim
    · intro h; exact h.elim
  · rename_i ty len ps d
    obtain ⟨l⟩ := ps
    split
    · rename_i e n b rows hs hr
      intro h
      exact ⟨_, _, @step_lit_own P (some d) ty0 pos af g (ev s.sl) s.hp d ty len l e n b ⟨sli_ok hs⟩ h.2.2.2 rows hr h.1 (all_len h.2.1) h.2.2.1, rfl⟩
    · intro h; exact h.elim
  · rename_i x y t t'
    intro h
    obtain ⟨h, rfl⟩ := h
    revert h
    unfold appendV
    generalize hx : ev s.sl x = av
    generalize hy : ev s.sl y = bv
    split
    · rename_i e n b k len more hs
      split
      · rename_i e' m rows ho
        intro h
        obtain ⟨rfl, rfl, h3, h4, h5, h6⟩ := h
        exact ⟨_, _, @step_append P dst ty0 pos af g (ev s.sl) s.hp x y t e n b ⟨sli_ok hs⟩ k len rows more hx ho h3 hy (all_len h4) h5 h6, rfl⟩
      · intro h; exact h.elim
    · rename_i e n b k len hs
      split
      · rename_i e' m rows ho
        intro h
        obtain ⟨rfl, rfl, h3, h5, h6⟩ := h
        have hst : StepK P .w ⟨dst, .call { callee := .builtin .append, args := #[x, y], argTypes := #[t, t] }, ty0, pos, af, g⟩ (fun q => if ev s.sl q = .c (.t (.v (.slice none 0 0))) then .c (.t (.s [])) else ev s.sl q) s.hp (hset s.hp k (.row e n (rows ++ []))) (.c (.own k (rows.length + 0))) := by
          refine @step_append P dst ty0 pos af g _ s.hp x y t e n b ⟨sli_ok hs⟩ k len rows [] ?_ ho h3 ?_ (fun i hi => absurd hi (Nat.not_lt_zero _)) (by simpa using h5) h6
          · rw [hx]; simp
          · rw [hy]; simp
        refine ⟨_, _, ?_, rfl⟩
        have hst2 : StepK P .w ⟨dst, .call { callee := .builtin .append, args := #[x, y], argTypes := #[t, t] }, ty0, pos, af, g⟩ (ev s.sl) s.hp (hset s.hp k (.row e n (rows ++ []))) (.c (.own k (rows.length + 0))) := by
          intro E c a w K Q hC hxx hK
          refine hst E c a w K Q hC (fun q hq => ?_) hK
          have h0 := hxx q hq
          by_cases e1 : ev s.sl q = .c (.t (.v (.slice none 0 0)))
          · simp only [e1, if_true] at h0 ⊢
            exact Coe.c CoeC.nil _ _ _ _ h0
          · simp only [if_neg e1]; exact h0
        simp only [List.append_nil, Nat.add_zero] at hst2
        rw [h3]; exact hst2
      · intro h; exact h.elim
    · rename_i e n b more hs _
      split
      · rename_i d
        intro h
        obtain ⟨h1, h2, h3, h4, h5⟩ := h
        exact ⟨_, _, @step_copy_own P (some d) ty0 pos af g (ev s.sl) s.hp d x y t e n b ⟨sli_ok hs⟩ more h2 (hx ▸ zB_coe h1) (by rw [hy]; exact Coe.refl _) (all_len h3) h4 h5, rfl⟩
      · intro h; exact h.elim
    · rename_i e n b hs _
      split
      · rename_i d
        intro h
        obtain ⟨h1, h2, h5⟩ := h
        exact ⟨_, _, @step_copy_own P (some d) ty0 pos af g (ev s.sl) s.hp d x y t e n b ⟨sli_ok hs⟩ [] h2 (hx ▸ zB_coe h1) (by rw [hy]; exact Coe.c CoeC.nil) (fun i hi => absurd hi (Nat.not_lt_zero _)) (by simp) h5, rfl⟩
      · intro h; exact h.elim
    · intro h; exact h.elim
  · intro h; exact h.elim
theorem kd_call {op : Op} {f : FuncId} {xs : List Operand} (h : callOf op = some (f, xs)) : ∃ ats, op = .call { callee := .value (.func f), args := xs.toArray, argTypes := ats } ∧ kdV op = .p := by
  unfold callOf at h
  split at h
  · rename_i f' ys ats
    simp only [Option.some.injEq, Prod.mk.injEq] at h
    obtain ⟨rfl, rfl⟩ := h
    exact ⟨ats, by simp, rfl⟩
  · cases h
/-- one operation of a run -/
theorem opV_ok {ow : List Nat} {ops : Array Oper} {o : Oper} {r : List Oper} {K : ASt → Prop} (h : RunV P ow ops (o :: r) s K) :
    (wanted1 ops s.sl o = some true ∧ ∃ v H', StepK P (kdOf ow o) o (ev s.sl) s.hp H' v ∧ RunV P ow ops r ⟨sput s.sl o.dst v, H'⟩ K) ∨ (wanted1 ops s.sl o = some false ∧ RunV P ow ops r ⟨sput s.sl o.dst (.tup []), s.hp⟩ K) := by
  rw [runV_cons] at h
  unfold GuardV at h
  split at h
  · rename_i hw
    refine .inl ⟨hw, ?_⟩
    unfold OpV at h
    split at h
    · rename_i f xs hc
      obtain ⟨ats, e1, e2⟩ := kd_call hc
      rcases h with ⟨args', res, h1, h2, h3, h4, h5⟩ | ⟨hm, ps, args', res, H0, H1, h1, h2, h3, h4, h5, h6, h7, h8, h9, h10⟩
      · refine ⟨res, s.hp, ?_, h5⟩
        obtain ⟨dst, op, ty, pos, af, g⟩ := o
        simp only at e1
        subst e1
        refine (@step_call P dst ty pos af g (ev s.sl) s.hp f xs args' res ats ⟨h1⟩ h2 h3 h4).up ?_
        unfold kdOf
        split <;> rfl
      · refine ⟨_, _, ?_, h10⟩
        unfold kdOf
        rw [if_pos hm]
        obtain ⟨dst, op, ty, pos, af, g⟩ := o
        simp only at e1
        subst e1
        show StepK P .w _ _ _ _ _
        exact step_callG f xs h1 h2 ps h3 h4 h5 h6 h7 h8 h9
    · rename_i hc
      obtain ⟨h1, h2⟩ := h
      unfold stepV at h1 h2
      unfold kdOf
      by_cases hm : isMem ow o.op o.dst = true
      · rw [if_pos hm] at h1 h2 ⊢
        obtain ⟨v, H', g1, g2⟩ := memV_ok (ty0 := o.type) (pos := o.pos) (af := o.after) (g := o.guard) o.op h1
        rw [g2] at h2
        exact ⟨v, H', g1, h2⟩
      · rw [if_neg hm] at h1 h2 ⊢
        exact ⟨_, _, valV_ok (dst := o.dst) (ty0 := o.type) (pos := o.pos) (af := o.after) (g := o.guard) o.op (fun _ _ _ _ => trivial) h1, h2⟩
  · rename_i hw; exact .inr ⟨hw, h⟩
  · exact h.elim
theorem runV_text {ow : List Nat} {ops : Array Oper} {K : ASt → Prop} : ∀ (l : List Oper) (s : ASt), RunV P ow ops l s K → RunT P ops l s K := by
  intro l
  induction l with
  | nil => intro s h; exact h
  | cons o r ih =>
    intro s h
    rcases opV_ok h with ⟨hw, v, H', h1, h2⟩ | ⟨hw, h2⟩
    · exact .inl ⟨hw, v, H', h1.step, ih _ h2⟩
    · exact .inr ⟨hw, ih _ h2⟩
theorem runV_list {ow : List Nat} {ops : List Oper} {K : ASt → Prop} : ∀ (l : List Oper) (k : Nat) (s : ASt), (∀ j, l[j]? = ops[k + j]?) → RunV P ow ops.toArray l s K → RunL P ops.toArray ((l.zipIdx k).map fun p => (p.2, kdOf ow p.1)) s K := by
  intro l
  induction l with
  | nil => intro k s _ h; exact h
  | cons o r ih =>
    intro k s hk h
    have h0 : ops[k]? = some o := by simpa using (hk 0).symm
    have ih' := fun s => ih (k + 1) s (fun j => by have := hk (j + 1); simpa [Nat.add_assoc, Nat.add_comm 1 j] using this)
    rw [List.zipIdx_cons, List.map_cons]
    refine ⟨o, by simpa using h0, ?_⟩
    rcases opV_ok h with ⟨hw, v, H', h1, h2⟩ | ⟨hw, h2⟩
    · exact .inl ⟨hw, v, H', h1, ih' _ h2⟩
    · exact .inr ⟨hw, ih' _ h2⟩
variable {n : Nat} {Q : AEx → ASt → Prop}
theorem awp_t {id : Nat} {ops : List Oper} (ow : List Nat) (hd : dstsOk n ops.toArray = true) (h : RunV P ow ops.toArray ops s (Q .normal)) : awp P n (.region id ops.toArray false) Q s := awp_text hd (runV_text ops s h)
theorem awp_d {id : Nat} {ops : List Oper} (ow : List Nat) (hm : P.follows .mixedOrders = true) (hc : calm ops.toArray ((ops.zipIdx 0).map fun p => (p.2, kdOf ow p.1)) = true) (hd : dstsOk n ops.toArray = true) (h : RunV P ow ops.toArray ops s (Q .normal)) : awp P n (.region id ops.toArray true) Q s :=
  awp_region_any _ hm (by simp) hc hd (runV_list ops 0 s (fun j => by simp) h)
theorem awp_seqk {x y : Code} (h : ∀ K : ASt → Prop, (∀ s, awp P n y Q s → K s) → awp P n x (thenA K Q) s) : awp P n (.seq x y) Q s := awp_seq (h _ fun _ h => h)
theorem thenA_K (K : ASt → Prop) (Q : AEx → ASt → Prop) : thenA K Q .normal = K := rfl
theorem awp_tk {id : Nat} {ops : List Oper} {y : Code} (ow : List Nat) (hd : dstsOk n ops.toArray = true) (h : ∀ K : ASt → Prop, (∀ s, awp P n y Q s → K s) → RunV P ow ops.toArray ops s K) : awp P n (.seq (.region id ops.toArray false) y) Q s :=
  awp_seqk fun K hK => awp_t ow hd (by rw [thenA_K]; exact h K hK)
theorem awp_dk {id : Nat} {ops : List Oper} {y : Code} (ow : List Nat) (hm : P.follows .mixedOrders = true) (hc : calm ops.toArray ((ops.zipIdx 0).map fun p => (p.2, kdOf ow p.1)) = true) (hd : dstsOk n ops.toArray = true) (h : ∀ K : ASt → Prop, (∀ s, awp P n y Q s → K s) → RunV P ow ops.toArray ops s K) : awp P n (.seq (.region id ops.toArray true) y) Q s :=
  awp_seqk fun K hK => awp_d ow hm hc hd (by rw [thenA_K]; exact h K hK)
theorem awp_ct {c : Operand} {x y : Code} (hc : ev s.sl c = .c (.t (.v (.bool true)))) (h : awp P n x Q s) : awp P n (.cond c x y) Q s := awp_cond hc (fun _ => h) (fun h => by cases h)
theorem awp_cf {c : Operand} {x y : Code} (hc : ev s.sl c = .c (.t (.v (.bool false)))) (h : awp P n y Q s) : awp P n (.cond c x y) Q s := awp_cond hc (fun h => by cases h) (fun _ => h)
theorem Weak.refl (s : ASt) : Weak s s := fun _ _ _ _ h => h
theorem Weak.trans {s1 s2 s3 : ASt} (h : Weak s1 s2) (k : Weak s2 s3) : Weak s1 s3 := fun n E a w ht => k n E a w (h n E a w ht)
def SlW (s : Slots) : Slots → Prop
  | [] => True
  | (t, x) :: r => Coe (sget s t) x ∧ SlW s r
def HpW (s : AHeap) : AHeap → Prop
  | [] => True
  | (t, x) :: r => hget s t = some x ∧ HpW s r
theorem slW_mem {s : Slots} : ∀ (l : Slots), SlW s l → ∀ p ∈ l, Coe (sget s p.1) p.2 := by
  intro l
  induction l with
  | nil => intro _ p hp; cases hp
  | cons q t ih =>
    obtain ⟨k, x⟩ := q
    intro h p hp
    rcases List.mem_cons.1 hp with rfl | hp
    · exact h.1
    · exact ih h.2 p hp
theorem hpW_mem {s : AHeap} : ∀ (l : AHeap), HpW s l → ∀ p ∈ l, hget s p.1 = some p.2 := by
  intro l
  induction l with
  | nil => intro _ p hp; cases hp
  | cons q t ih =>
    obtain ⟨k, x⟩ := q
    intro h p hp
    rcases List.mem_cons.1 hp with rfl | hp
    · exact h.1
    · exact ih h.2 p hp
/-- told with less: slot by slot, object by object -/
theorem weak_w {s s1 : ASt} (h1 : SlW s.sl s1.sl) (h2 : HpW s.hp s1.hp) (h3 : s1.sl.all (fun p => okAV s1.hp p.2) = true) (h4 : s1.hp.all (fun p => okObj s1.hp p.2) = true) (h5 : PinW s1.hp s.hp) : Weak s s1 := weak_of ⟨h5, slW_mem _ h1, hpW_mem _ h2, h3, h4⟩
/-- the end of a round -/
def LoopEnd (I : ASt → Prop) (μ : ASt → Nat) (s s' : ASt) : Prop := ∃ s2, Weak s' s2 ∧ I s2 ∧ μ s2 < μ s
/-- a loop, from a state told with less -/
theorem awp_lp {c : Code} (I : ASt → Prop) (μ : ASt → Nat) (s1 : ASt) (hw : Weak s s1) (h1 : I s1) (hr : ∀ (s : ASt) (R : ASt → Prop), I s → (∀ s' s2, Weak s' s2 → I s2 → μ s2 < μ s → R s') → awp P n c (thenA R Q) s) : awp P n (.loop c) Q s :=
  awp_loop (fun s => ∃ s2, Weak s s2 ∧ I s2) (fun s => leastOf fun m => ∃ s2, Weak s s2 ∧ I s2 ∧ μ s2 = m) ⟨s1, hw, h1⟩ (fun s hs => by
    have hex : ∃ m, ∃ s2, Weak s s2 ∧ I s2 ∧ μ s2 = m := by
      obtain ⟨s2, h1, h2⟩ := hs; exact ⟨_, s2, h1, h2, rfl⟩
    obtain ⟨⟨s2, h1, h2, h3⟩, _⟩ := leastOf_spec hex
    refine awp_weak h1 (awp_mono (hr s2 (LoopEnd I μ s2) h2 (fun s' s3 a1 a2 a3 => ⟨s3, a1, a2, a3⟩)) (fun e s' hq => ?_))
    cases e with
    | normal =>
      obtain ⟨s3, g1, g2, g3⟩ := hq
      refine ⟨⟨s3, g1, g2⟩, ?_⟩
      have := (leastOf_spec (p := fun m => ∃ s2, Weak s' s2 ∧ I s2 ∧ μ s2 = m) ⟨_, s3, g1, g2, rfl⟩).2 (μ s3) ⟨s3, g1, g2, rfl⟩
      rw [← h3]
      exact Nat.lt_of_le_of_lt this g3
    | exit i => exact hq
    | ret => exact hq)
/-- a loop of few rounds -/
def ARounds (P : Program) (n : Nat) (c : Code) (Q : AEx → ASt → Prop) : Nat → ASt → Prop
  | 0, _ => False
  | k + 1, s => awp P n c (thenA (ARounds P n c Q k) Q) s
theorem awp_rounds {c : Code} (k : Nat) (h : ARounds P n c Q k s) : awp P n (.loop c) Q s := fun E a w ht => by
  refine wp_loop_rounds k ?_
  induction k generalizing s a w with
  | zero => exact h.elim
  | succ k ih =>
    rw [rounds_succ]
    refine Code.wp_mono (fun e a' w' hq => ?_) (h E a w ht)
    cases e <;> first | exact hq.elim | skip
    · obtain ⟨s', h1, h2⟩ := hq; exact ih h2 a' w' h1
    · exact hq
    · exact hq
theorem awp_round {c : Code} {k : Nat} (h : ∀ K : ASt → Prop, (∀ s, ARounds P n c Q k s → K s) → awp P n c (thenA K Q) s) : ARounds P n c Q (k + 1) s := h _ fun _ h => h
/-- the head of a loop: its test -/
theorem awp_head {id e : Nat} {ops : List Oper} {c : Operand} {y : Code} (ow : List Nat) (hd : dstsOk n ops.toArray = true)
    (h : ∀ K : ASt → Prop, (∀ s, ev s.sl c = .c (.t (.v (.bool true))) → awp P n y Q s → K s) → (∀ s, ev s.sl c = .c (.t (.v (.bool false))) → Q (.exit e) s → K s) → RunV P ow ops.toArray ops s K) : awp P n (.seq (.seq (.region id ops.toArray false) (.cond c .skip (.exit e))) y) Q s :=
  awp_seqk fun K1 hK1 => awp_tk ow hd fun K hK => h K (fun s hc hs => hK s (awp_ct hc (awp_skip (hK1 s hs)))) (fun s hc hs => hK s (awp_cf hc (awp_exit hs)))
theorem awp_ite {id : Nat} {ops : List Oper} {c : Operand} {x y : Code} (ow : List Nat) (hd : dstsOk n ops.toArray = true)
    (h : ∀ K : ASt → Prop, (∀ s, ev s.sl c = .c (.t (.v (.bool true))) → awp P n x Q s → K s) → (∀ s, ev s.sl c = .c (.t (.v (.bool false))) → awp P n y Q s → K s) → RunV P ow ops.toArray ops s K) : awp P n (.seq (.region id ops.toArray false) (.cond c x y)) Q s :=
  awp_tk ow hd fun K hK => h K (fun s hc hs => hK s (awp_ct hc hs)) (fun s hc hs => hK s (awp_cf hc hs))
@[go_sem] theorem thenA_normal (K : ASt → Prop) (Q : AEx → ASt → Prop) (s : ASt) : thenA K Q .normal s = K s := rfl
@[go_sem] theorem thenA_ret (K : ASt → Prop) (Q : AEx → ASt → Prop) (s : ASt) : thenA K Q .ret s = Q .ret s := rfl
@[go_sem] theorem thenA_exit (K : ASt → Prop) (Q : AEx → ASt → Prop) (i : Nat) (s : ASt) : thenA K Q (.exit i) s = Q (.exit i) s := rfl
@[go_sem] theorem inBlk_normal (i : Nat) (Q : AEx → ASt → Prop) (s : ASt) : inBlk i Q .normal s = Q .normal s := rfl
@[go_sem] theorem inBlk_ret (i : Nat) (Q : AEx → ASt → Prop) (s : ASt) : inBlk i Q .ret s = Q .ret s := rfl
@[go_sem] theorem inBlk_exit (i j : Nat) (Q : AEx → ASt → Prop) (s : ASt) : inBlk i Q (.exit j) s = if j = i then Q .normal s else Q (.exit j) s := rfl
theorem CoeA.refl (l : List AV) : CoeA l l := by
  induction l with
  | nil => exact .nil
  | cons x t ih => exact .cons (Coe.refl x) ih
theorem callV {f : FuncId} {args : List AV} {dst : Option Tmp} {m : Bool} {rest : ASt → (ASt → Prop) → Prop} {K : ASt → Prop} {r : AV} [hG : Goes P f] (h : FxPure P f args r) (hok : okAL [] args = true) (hk : rest ⟨sput s.sl dst r, s.hp⟩ K) : CallV P f args dst m s rest K :=
  .inl ⟨args, r, hG.h, h, CoeA.refl _, hok, hk⟩
theorem callC {f : FuncId} {args args' : List AV} {dst : Option Tmp} {m : Bool} {rest : ASt → (ASt → Prop) → Prop} {K : ASt → Prop} {r : AV} [hG : Goes P f] (h : FxPure P f args' r) (hc : CoeA args args') (hok : okAL [] args' = true) (hk : rest ⟨sput s.sl dst r, s.hp⟩ K) : CallV P f args dst m s rest K := .inl ⟨args', r, hG.h, h, hc, hok, hk⟩
theorem callG {f : FuncId} {args args' : List AV} {dst : Option Tmp} {rest : ASt → (ASt → Prop) → Prop} {K : ASt → Prop} {r : AV} {H0 H1 : AHeap} [hG : Goes P f] (ps : List (Nat × Nat)) (h : FxCall P f args' H0 r H1) (h1 : one1 ps = true) (hc : CoeA args (renAL ps args')) (hok : okAL H0 args' = true) (hh : HandW ps s.hp H0) (hoo : H0.all (fun p => okObj H0 p.2) = true) (hbig : bigH H0 = true) (hn : NewW H0 H1 s.hp ps)
    (hk : rest ⟨sput s.sl dst (renAV ps r), hputs ps s.hp H1⟩ K) : CallV P f args dst true s rest K := .inr ⟨rfl, ps, args', r, H0, H1, hG.h, h, h1, hc, hok, hh, hoo, hbig, hn, hk⟩
attribute [go_sem] renAV renAL renC renL renO lk hputs
end
end Go.Proofs.Ytiimkhnngpfnbaa.Fx
/- What the types of the program are made of. Printed by mktypes.py. -/
namespace Go.Proofs.Ytiimkhnngpfnbaa.Fx
set_option maxRecDepth 100000
@[go_sem] theorem shp_2 : shp Try.prog 2 = some (false, 1) := by kernel_rfl
@[go_sem] theorem zro_2 : zro Try.prog 2 = some [.int .i64 0] := by kernel_rfl
@[go_sem] theorem intT_2 : intT Try.prog 2 = some .i64 := by kernel_rfl
@[go_sem] theorem shp_3 : shp Try.prog 3 = some (false, 1) := by kernel_rfl
@[go_sem] theorem zro_3 : zro Try.prog 3 = some [.int .i64 0] := by kernel_rfl
@[go_sem] theorem intT_3 : intT Try.prog 3 = some .i64 := by kernel_rfl
@[go_sem] theorem shp_4 : shp Try.prog 4 = some (false, 1) := by kernel_rfl
@[go_sem] theorem zro_4 : zro Try.prog 4 = some [.bool false] := by kernel_rfl
@[go_sem] theorem shp_5 : shp Try.prog 5 = some (false, 1) := by kernel_rfl
@[go_sem] theorem zro_5 : zro Try.prog 5 = some [.int .u8 0] := by kernel_rfl
@[go_sem] theorem intT_5 : intT Try.prog 5 = some .u8 := by kernel_rfl
@[go_sem] theorem shp_6 : shp Try.prog 6 = some (false, 1) := by kernel_rfl
@[go_sem] theorem zro_6 : zro Try.prog 6 = some [.int .u8 0] := by kernel_rfl
@[go_sem] theorem intT_6 : intT Try.prog 6 = some .u8 := by kernel_rfl
@[go_sem] theorem shp_7 : shp Try.prog 7 = some (true, 4) := by kernel_rfl
@[go_sem] theorem zro_7 : zro Try.prog 7 = some [.int .i64 0, .int .i64 0, .bool false, .int .u8 0] := by kernel_rfl
@[go_sem] theorem stc_7 : stc Try.prog 7 = some ([(0, 1), (1, 1), (2, 1), (3, 1)], [.int .i64 0, .int .i64 0, .bool false, .int .u8 0]) := by kernel_rfl
@[go_sem] theorem fld_7_0 : fld Try.prog 7 0 = some (0, 1, false) := by kernel_rfl
@[go_sem] theorem fld_7_1 : fld Try.prog 7 1 = some (1, 1, false) := by kernel_rfl
@[go_sem] theorem fld_7_2 : fld Try.prog 7 2 = some (2, 1, false) := by kernel_rfl
@[go_sem] theorem fld_7_3 : fld Try.prog 7 3 = some (3, 1, false) := by kernel_rfl
@[go_sem] theorem shp_8 : shp Try.prog 8 = some (true, 4) := by kernel_rfl
@[go_sem] theorem zro_8 : zro Try.prog 8 = some [.int .i64 0, .int .i64 0, .bool false, .int .u8 0] := by kernel_rfl
@[go_sem] theorem stc_8 : stc Try.prog 8 = some ([(0, 1), (1, 1), (2, 1), (3, 1)], [.int .i64 0, .int .i64 0, .bool false, .int .u8 0]) := by kernel_rfl
@[go_sem] theorem fld_8_0 : fld Try.prog 8 0 = some (0, 1, false) := by kernel_rfl
@[go_sem] theorem fld_8_1 : fld Try.prog 8 1 = some (1, 1, false) := by kernel_rfl
@[go_sem] theorem fld_8_2 : fld Try.prog 8 2 = some (2, 1, false) := by kernel_rfl
@[go_sem] theorem fld_8_3 : fld Try.prog 8 3 = some (3, 1, false) := by kernel_rfl
@[go_sem] theorem shp_9 : shp Try.prog 9 = some (false, 1) := by kernel_rfl
@[go_sem] theorem zro_9 : zro Try.prog 9 = some [.string ⟨#[]⟩] := by kernel_rfl
@[go_sem] theorem shp_10 : shp Try.prog 10 = some (false, 1) := by kernel_rfl
@[go_sem] theorem zro_10 : zro Try.prog 10 = some [.string ⟨#[]⟩] := by kernel_rfl
@[go_sem] theorem shp_11 : shp Try.prog 11 = some (false, 1) := by kernel_rfl
@[go_sem] theorem zro_11 : zro Try.prog 11 = some [.string ⟨#[]⟩] := by kernel_rfl
@[go_sem] theorem shp_12 : shp Try.prog 12 = some (false, 1) := by kernel_rfl
@[go_sem] theorem zro_12 : zro Try.prog 12 = some [.int .u64 0] := by kernel_rfl
@[go_sem] theorem intT_12 : intT Try.prog 12 = some .u64 := by kernel_rfl
@[go_sem] theorem shp_13 : shp Try.prog 13 = some (true, 2) := by kernel_rfl
@[go_sem] theorem zro_13 : zro Try.prog 13 = some [.string ⟨#[]⟩, .int .u64 0] := by kernel_rfl
@[go_sem] theorem stc_13 : stc Try.prog 13 = some ([(0, 1), (1, 1)], [.string ⟨#[]⟩, .int .u64 0]) := by kernel_rfl
@[go_sem] theorem fld_13_0 : fld Try.prog 13 0 = some (0, 1, false) := by kernel_rfl
@[go_sem] theorem fld_13_1 : fld Try.prog 13 1 = some (1, 1, false) := by kernel_rfl
@[go_sem] theorem shp_14 : shp Try.prog 14 = some (true, 2) := by kernel_rfl
@[go_sem] theorem zro_14 : zro Try.prog 14 = some [.string ⟨#[]⟩, .int .u64 0] := by kernel_rfl
@[go_sem] theorem stc_14 : stc Try.prog 14 = some ([(0, 1), (1, 1)], [.string ⟨#[]⟩, .int .u64 0]) := by kernel_rfl
@[go_sem] theorem fld_14_0 : fld Try.prog 14 0 = some (0, 1, false) := by kernel_rfl
@[go_sem] theorem fld_14_1 : fld Try.prog 14 1 = some (1, 1, false) := by kernel_rfl
@[go_sem] theorem shp_15 : shp Try.prog 15 = some (false, 1) := by kernel_rfl
@[go_sem] theorem zro_15 : zro Try.prog 15 = some [.pointer none] := by kernel_rfl
@[go_sem] theorem ptrT_15 : isPtrT Try.prog 15 = true := by kernel_rfl
@[go_sem] theorem shp_16 : shp Try.prog 16 = some (false, 1) := by kernel_rfl
@[go_sem] theorem zro_16 : zro Try.prog 16 = some [.pointer none] := by kernel_rfl
@[go_sem] theorem ptrT_16 : isPtrT Try.prog 16 = true := by kernel_rfl
@[go_sem] theorem shp_17 : shp Try.prog 17 = some (false, 1) := by kernel_rfl
@[go_sem] theorem zro_17 : zro Try.prog 17 = some [.pointer none] := by kernel_rfl
@[go_sem] theorem ptrT_17 : isPtrT Try.prog 17 = true := by kernel_rfl
@[go_sem] theorem shp_18 : shp Try.prog 18 = some (true, 1) := by kernel_rfl
@[go_sem] theorem zro_18 : zro Try.prog 18 = some [.pointer none] := by kernel_rfl
@[go_sem] theorem stc_18 : stc Try.prog 18 = some ([(0, 1)], [.pointer none]) := by kernel_rfl
@[go_sem] theorem fld_18_0 : fld Try.prog 18 0 = some (0, 1, false) := by kernel_rfl
@[go_sem] theorem shp_19 : shp Try.prog 19 = some (true, 1) := by kernel_rfl
@[go_sem] theorem zro_19 : zro Try.prog 19 = some [.pointer none] := by kernel_rfl
@[go_sem] theorem stc_19 : stc Try.prog 19 = some ([(0, 1)], [.pointer none]) := by kernel_rfl
@[go_sem] theorem fld_19_0 : fld Try.prog 19 0 = some (0, 1, false) := by kernel_rfl
@[go_sem] theorem shp_21 : shp Try.prog 21 = some (false, 1) := by kernel_rfl
@[go_sem] theorem zro_21 : zro Try.prog 21 = some [.int .i32 0] := by kernel_rfl
@[go_sem] theorem intT_21 : intT Try.prog 21 = some .i32 := by kernel_rfl
@[go_sem] theorem shp_22 : shp Try.prog 22 = some (false, 1) := by kernel_rfl
@[go_sem] theorem zro_22 : zro Try.prog 22 = some [.slice none 0 0] := by kernel_rfl
@[go_sem] theorem sli_22 : sli Try.prog 22 = some (42, 3, 72) := by kernel_rfl
@[go_sem] theorem shp_25 : shp Try.prog 25 = some (false, 1) := by kernel_rfl
@[go_sem] theorem zro_25 : zro Try.prog 25 = some [.slice none 0 0] := by kernel_rfl
@[go_sem] theorem sli_25 : sli Try.prog 25 = some (43, 3, 72) := by kernel_rfl
@[go_sem] theorem shp_27 : shp Try.prog 27 = some (false, 1) := by kernel_rfl
@[go_sem] theorem zro_27 : zro Try.prog 27 = some [.slice none 0 0] := by kernel_rfl
@[go_sem] theorem sli_27 : sli Try.prog 27 = some (3, 1, 8) := by kernel_rfl
@[go_sem] theorem shp_35 : shp Try.prog 35 = some (false, 1) := by kernel_rfl
@[go_sem] theorem zro_35 : zro Try.prog 35 = some [.slice none 0 0] := by kernel_rfl
@[go_sem] theorem sli_35 : sli Try.prog 35 = some (27, 1, 24) := by kernel_rfl
@[go_sem] theorem shp_36 : shp Try.prog 36 = some (false, 1) := by kernel_rfl
@[go_sem] theorem zro_36 : zro Try.prog 36 = some [.slice none 0 0] := by kernel_rfl
@[go_sem] theorem sli_36 : sli Try.prog 36 = some (57, 3, 24) := by kernel_rfl
@[go_sem] theorem shp_41 : shp Try.prog 41 = some (true, 3) := by kernel_rfl
@[go_sem] theorem zro_41 : zro Try.prog 41 = some [.slice none 0 0, .slice none 0 0, .slice none 0 0] := by kernel_rfl
@[go_sem] theorem stc_41 : stc Try.prog 41 = some ([(0, 1), (1, 1), (2, 1)], [.slice none 0 0, .slice none 0 0, .slice none 0 0]) := by kernel_rfl
@[go_sem] theorem fld_41_0 : fld Try.prog 41 0 = some (0, 1, false) := by kernel_rfl
@[go_sem] theorem fld_41_1 : fld Try.prog 41 1 = some (1, 1, false) := by kernel_rfl
@[go_sem] theorem fld_41_2 : fld Try.prog 41 2 = some (2, 1, false) := by kernel_rfl
@[go_sem] theorem shp_42 : shp Try.prog 42 = some (true, 3) := by kernel_rfl
@[go_sem] theorem zro_42 : zro Try.prog 42 = some [.slice none 0 0, .slice none 0 0, .slice none 0 0] := by kernel_rfl
@[go_sem] theorem stc_42 : stc Try.prog 42 = some ([(0, 1), (1, 1), (2, 1)], [.slice none 0 0, .slice none 0 0, .slice none 0 0]) := by kernel_rfl
@[go_sem] theorem fld_42_0 : fld Try.prog 42 0 = some (0, 1, false) := by kernel_rfl
@[go_sem] theorem fld_42_1 : fld Try.prog 42 1 = some (1, 1, false) := by kernel_rfl
@[go_sem] theorem fld_42_2 : fld Try.prog 42 2 = some (2, 1, false) := by kernel_rfl
@[go_sem] theorem shp_43 : shp Try.prog 43 = some (true, 3) := by kernel_rfl
@[go_sem] theorem zro_43 : zro Try.prog 43 = some [.slice none 0 0, .slice none 0 0, .slice none 0 0] := by kernel_rfl
@[go_sem] theorem stc_43 : stc Try.prog 43 = some ([(0, 1), (1, 1), (2, 1)], [.slice none 0 0, .slice none 0 0, .slice none 0 0]) := by kernel_rfl
@[go_sem] theorem fld_43_0 : fld Try.prog 43 0 = some (0, 1, false) := by kernel_rfl
@[go_sem] theorem fld_43_1 : fld Try.prog 43 1 = some (1, 1, false) := by kernel_rfl
@[go_sem] theorem fld_43_2 : fld Try.prog 43 2 = some (2, 1, false) := by kernel_rfl
@[go_sem] theorem shp_45 : shp Try.prog 45 = some (true, 2) := by kernel_rfl
@[go_sem] theorem zro_45 : zro Try.prog 45 = some [.int .i64 0, .slice none 0 0] := by kernel_rfl
@[go_sem] theorem stc_45 : stc Try.prog 45 = some ([(0, 1), (1, 1)], [.int .i64 0, .slice none 0 0]) := by kernel_rfl
@[go_sem] theorem fld_45_0 : fld Try.prog 45 0 = some (0, 1, false) := by kernel_rfl
@[go_sem] theorem fld_45_1 : fld Try.prog 45 1 = some (1, 1, false) := by kernel_rfl
@[go_sem] theorem shp_46 : shp Try.prog 46 = some (true, 2) := by kernel_rfl
@[go_sem] theorem zro_46 : zro Try.prog 46 = some [.int .i64 0, .slice none 0 0] := by kernel_rfl
@[go_sem] theorem stc_46 : stc Try.prog 46 = some ([(0, 1), (1, 1)], [.int .i64 0, .slice none 0 0]) := by kernel_rfl
@[go_sem] theorem fld_46_0 : fld Try.prog 46 0 = some (0, 1, false) := by kernel_rfl
@[go_sem] theorem fld_46_1 : fld Try.prog 46 1 = some (1, 1, false) := by kernel_rfl
@[go_sem] theorem shp_47 : shp Try.prog 47 = some (false, 1) := by kernel_rfl
@[go_sem] theorem zro_47 : zro Try.prog 47 = some [.int .i64 0] := by kernel_rfl
@[go_sem] theorem intT_47 : intT Try.prog 47 = some .i64 := by kernel_rfl
@[go_sem] theorem shp_52 : shp Try.prog 52 = some (false, 1) := by kernel_rfl
@[go_sem] theorem zro_52 : zro Try.prog 52 = some [.slice none 0 0] := by kernel_rfl
@[go_sem] theorem sli_52 : sli Try.prog 52 = some (4, 1, 1) := by kernel_rfl
@[go_sem] theorem shp_56 : shp Try.prog 56 = some (false, 1) := by kernel_rfl
@[go_sem] theorem zro_56 : zro Try.prog 56 = some [.int .u64 0] := by kernel_rfl
@[go_sem] theorem intT_56 : intT Try.prog 56 = some .u64 := by kernel_rfl
@[go_sem] theorem shp_57 : shp Try.prog 57 = some (true, 3) := by kernel_rfl
@[go_sem] theorem zro_57 : zro Try.prog 57 = some [.int .i64 0, .int .i64 0, .int .i64 0] := by kernel_rfl
instance : Arr Try.prog 57 3 1 false := ⟨by kernel_rfl⟩
@[go_sem] theorem arr_57 : arr Try.prog 57 = some (3, 1) := by kernel_rfl
@[go_sem] theorem sli_57 : sli Try.prog 57 = none := by kernel_rfl
@[go_sem] theorem shp_78 : shp Try.prog 78 = some (false, 1) := by kernel_rfl
@[go_sem] theorem zro_78 : zro Try.prog 78 = some [.int .u64 0] := by kernel_rfl
@[go_sem] theorem intT_78 : intT Try.prog 78 = some .u64 := by kernel_rfl
@[go_sem] theorem shp_83 : shp Try.prog 83 = some (false, 1) := by kernel_rfl
@[go_sem] theorem zro_83 : zro Try.prog 83 = some [.int .i64 0] := by kernel_rfl
@[go_sem] theorem intT_83 : intT Try.prog 83 = some .i64 := by kernel_rfl
@[go_sem] theorem shp_91 : shp Try.prog 91 = some (false, 1) := by kernel_rfl
@[go_sem] theorem zro_91 : zro Try.prog 91 = some [.int .u32 0] := by kernel_rfl
@[go_sem] theorem intT_91 : intT Try.prog 91 = some .u32 := by kernel_rfl
@[go_sem] theorem shp_94 : shp Try.prog 94 = some (false, 1) := by kernel_rfl
@[go_sem] theorem zro_94 : zro Try.prog 94 = some [.int .u64 0] := by kernel_rfl
@[go_sem] theorem intT_94 : intT Try.prog 94 = some .u64 := by kernel_rfl
@[go_sem] theorem shp_98 : shp Try.prog 98 = some (false, 1) := by kernel_rfl
@[go_sem] theorem zro_98 : zro Try.prog 98 = some [.pointer none] := by kernel_rfl
@[go_sem] theorem ptrT_98 : isPtrT Try.prog 98 = true := by kernel_rfl
@[go_sem] theorem shp_100 : shp Try.prog 100 = some (false, 1) := by kernel_rfl
@[go_sem] theorem zro_100 : zro Try.prog 100 = some [.pointer none] := by kernel_rfl
@[go_sem] theorem ptrT_100 : isPtrT Try.prog 100 = true := by kernel_rfl
@[go_sem] theorem shp_104 : shp Try.prog 104 = some (true, 4) := by kernel_rfl
@[go_sem] theorem zro_104 : zro Try.prog 104 = some [.pointer none, .pointer none, .pointer none, .string ⟨#[]⟩] := by kernel_rfl
@[go_sem] theorem stc_104 : stc Try.prog 104 = some ([(0, 1), (1, 1), (2, 1), (3, 1)], [.pointer none, .pointer none, .pointer none, .string ⟨#[]⟩]) := by kernel_rfl
@[go_sem] theorem fld_104_0 : fld Try.prog 104 0 = some (0, 1, false) := by kernel_rfl
@[go_sem] theorem fld_104_1 : fld Try.prog 104 1 = some (1, 1, false) := by kernel_rfl
@[go_sem] theorem fld_104_2 : fld Try.prog 104 2 = some (2, 1, false) := by kernel_rfl
@[go_sem] theorem fld_104_3 : fld Try.prog 104 3 = some (3, 1, false) := by kernel_rfl
@[go_sem] theorem shp_105 : shp Try.prog 105 = some (true, 4) := by kernel_rfl
@[go_sem] theorem zro_105 : zro Try.prog 105 = some [.pointer none, .pointer none, .pointer none, .string ⟨#[]⟩] := by kernel_rfl
@[go_sem] theorem stc_105 : stc Try.prog 105 = some ([(0, 1), (1, 1), (2, 1), (3, 1)], [.pointer none, .pointer none, .pointer none, .string ⟨#[]⟩]) := by kernel_rfl
@[go_sem] theorem fld_105_0 : fld Try.prog 105 0 = some (0, 1, false) := by kernel_rfl
@[go_sem] theorem fld_105_1 : fld Try.prog 105 1 = some (1, 1, false) := by kernel_rfl
@[go_sem] theorem fld_105_2 : fld Try.prog 105 2 = some (2, 1, false) := by kernel_rfl
@[go_sem] theorem fld_105_3 : fld Try.prog 105 3 = some (3, 1, false) := by kernel_rfl
@[go_sem] theorem shp_106 : shp Try.prog 106 = some (true, 0) := by kernel_rfl
@[go_sem] theorem arr_106 : arr Try.prog 106 = some (0, 1) := by kernel_rfl
@[go_sem] theorem sli_106 : sli Try.prog 106 = none := by kernel_rfl
@[go_sem] theorem shp_107 : shp Try.prog 107 = some (true, 0) := by kernel_rfl
@[go_sem] theorem shp_108 : shp Try.prog 108 = some (true, 0) := by kernel_rfl
@[go_sem] theorem shp_110 : shp Try.prog 110 = some (false, 1) := by kernel_rfl
@[go_sem] theorem zro_110 : zro Try.prog 110 = some [.int .u8 0] := by kernel_rfl
@[go_sem] theorem intT_110 : intT Try.prog 110 = some .u8 := by kernel_rfl
@[go_sem] theorem shp_111 : shp Try.prog 111 = some (false, 1) := by kernel_rfl
@[go_sem] theorem zro_111 : zro Try.prog 111 = some [.int .u8 0] := by kernel_rfl
@[go_sem] theorem intT_111 : intT Try.prog 111 = some .u8 := by kernel_rfl
@[go_sem] theorem shp_113 : shp Try.prog 113 = some (false, 1) := by kernel_rfl
@[go_sem] theorem zro_113 : zro Try.prog 113 = some [.pointer none] := by kernel_rfl
@[go_sem] theorem ptrT_113 : isPtrT Try.prog 113 = true := by kernel_rfl
@[go_sem] theorem shp_114 : shp Try.prog 114 = some (false, 1) := by kernel_rfl
@[go_sem] theorem zro_114 : zro Try.prog 114 = some [.int .i32 0] := by kernel_rfl
@[go_sem] theorem intT_114 : intT Try.prog 114 = some .i32 := by kernel_rfl
@[go_sem] theorem shp_115 : shp Try.prog 115 = some (false, 1) := by kernel_rfl
@[go_sem] theorem zro_115 : zro Try.prog 115 = some [.int .i32 0] := by kernel_rfl
@[go_sem] theorem intT_115 : intT Try.prog 115 = some .i32 := by kernel_rfl
@[go_sem] theorem shp_116 : shp Try.prog 116 = some (true, 11) := by kernel_rfl
@[go_sem] theorem zro_116 : zro Try.prog 116 = some [.int .u64 0, .int .u64 0, .int .u32 0, .int .u8 0, .int .u8 0, .int .u8 0, .int .u8 0, .nilFunc, .pointer none, .int .i32 0, .int .i32 0] := by kernel_rfl
@[go_sem] theorem stc_116 : stc Try.prog 116 = some ([(0, 1), (1, 1), (2, 1), (3, 1), (4, 1), (5, 1), (6, 1), (7, 1), (8, 1), (9, 1), (10, 1)], [.int .u64 0, .int .u64 0, .int .u32 0, .int .u8 0, .int .u8 0, .int .u8 0, .int .u8 0, .nilFunc, .pointer none, .int .i32 0, .int .i32 0]) := by kernel_rfl
@[go_sem] theorem fld_116_0 : fld Try.prog 116 0 = some (0, 1, false) := by kernel_rfl
@[go_sem] theorem fld_116_1 : fld Try.prog 116 1 = some (1, 1, false) := by kernel_rfl
@[go_sem] theorem fld_116_2 : fld Try.prog 116 2 = some (2, 1, false) := by kernel_rfl
@[go_sem] theorem fld_116_3 : fld Try.prog 116 3 = some (3, 1, false) := by kernel_rfl
@[go_sem] theorem fld_116_4 : fld Try.prog 116 4 = some (4, 1, false) := by kernel_rfl
@[go_sem] theorem fld_116_5 : fld Try.prog 116 5 = some (5, 1, false) := by kernel_rfl
@[go_sem] theorem fld_116_6 : fld Try.prog 116 6 = some (6, 1, false) := by kernel_rfl
@[go_sem] theorem fld_116_7 : fld Try.prog 116 7 = some (7, 1, false) := by kernel_rfl
@[go_sem] theorem fld_116_8 : fld Try.prog 116 8 = some (8, 1, false) := by kernel_rfl
@[go_sem] theorem fld_116_9 : fld Try.prog 116 9 = some (9, 1, false) := by kernel_rfl
@[go_sem] theorem fld_116_10 : fld Try.prog 116 10 = some (10, 1, false) := by kernel_rfl
@[go_sem] theorem shp_117 : shp Try.prog 117 = some (true, 11) := by kernel_rfl
@[go_sem] theorem zro_117 : zro Try.prog 117 = some [.int .u64 0, .int .u64 0, .int .u32 0, .int .u8 0, .int .u8 0, .int .u8 0, .int .u8 0, .nilFunc, .pointer none, .int .i32 0, .int .i32 0] := by kernel_rfl
@[go_sem] theorem stc_117 : stc Try.prog 117 = some ([(0, 1), (1, 1), (2, 1), (3, 1), (4, 1), (5, 1), (6, 1), (7, 1), (8, 1), (9, 1), (10, 1)], [.int .u64 0, .int .u64 0, .int .u32 0, .int .u8 0, .int .u8 0, .int .u8 0, .int .u8 0, .nilFunc, .pointer none, .int .i32 0, .int .i32 0]) := by kernel_rfl
@[go_sem] theorem fld_117_0 : fld Try.prog 117 0 = some (0, 1, false) := by kernel_rfl
@[go_sem] theorem fld_117_1 : fld Try.prog 117 1 = some (1, 1, false) := by kernel_rfl
@[go_sem] theorem fld_117_2 : fld Try.prog 117 2 = some (2, 1, false) := by kernel_rfl
@[go_sem] theorem fld_117_3 : fld Try.prog 117 3 = some (3, 1, false) := by kernel_rfl
@[go_sem] theorem fld_117_4 : fld Try.prog 117 4 = some (4, 1, false) := by kernel_rfl
@[go_sem] theorem fld_117_5 : fld Try.prog 117 5 = some (5, 1, false) := by kernel_rfl
@[go_sem] theorem fld_117_6 : fld Try.prog 117 6 = some (6, 1, false) := by kernel_rfl
@[go_sem] theorem fld_117_7 : fld Try.prog 117 7 = some (7, 1, false) := by kernel_rfl
@[go_sem] theorem fld_117_8 : fld Try.prog 117 8 = some (8, 1, false) := by kernel_rfl
@[go_sem] theorem fld_117_9 : fld Try.prog 117 9 = some (9, 1, false) := by kernel_rfl
@[go_sem] theorem fld_117_10 : fld Try.prog 117 10 = some (10, 1, false) := by kernel_rfl
@[go_sem] theorem shp_118 : shp Try.prog 118 = some (false, 1) := by kernel_rfl
@[go_sem] theorem zro_118 : zro Try.prog 118 = some [.pointer none] := by kernel_rfl
instance : Goes Try.prog 2 := ⟨by kernel_rfl⟩
instance : Goes Try.prog 3 := ⟨by kernel_rfl⟩
instance : Goes Try.prog 4 := ⟨by kernel_rfl⟩
instance : Goes Try.prog 5 := ⟨by kernel_rfl⟩
instance : Goes Try.prog 6 := ⟨by kernel_rfl⟩
instance : Goes Try.prog 7 := ⟨by kernel_rfl⟩
instance : Goes Try.prog 8 := ⟨by kernel_rfl⟩
instance : Goes Try.prog 9 := ⟨by kernel_rfl⟩
instance : Goes Try.prog 10 := ⟨by kernel_rfl⟩
instance : Goes Try.prog 11 := ⟨by kernel_rfl⟩
instance : Goes Try.prog 12 := ⟨by kernel_rfl⟩
instance : Goes Try.prog 13 := ⟨by kernel_rfl⟩
instance : Goes Try.prog 14 := ⟨by kernel_rfl⟩
instance : Goes Try.prog 15 := ⟨by kernel_rfl⟩
instance : Goes Try.prog 16 := ⟨by kernel_rfl⟩
instance : Goes Try.prog 17 := ⟨by kernel_rfl⟩
instance : Goes Try.prog 18 := ⟨by kernel_rfl⟩
instance : Goes Try.prog 19 := ⟨by kernel_rfl⟩
instance : Goes Try.prog 20 := ⟨by kernel_rfl⟩
instance : Goes Try.prog 21 := ⟨by kernel_rfl⟩
instance : Goes Try.prog 22 := ⟨by kernel_rfl⟩
instance : Goes Try.prog 23 := ⟨by kernel_rfl⟩
instance : Goes Try.prog 24 := ⟨by kernel_rfl⟩
instance : Goes Try.prog 25 := ⟨by kernel_rfl⟩
instance : Goes Try.prog 26 := ⟨by kernel_rfl⟩
instance : Goes Try.prog 27 := ⟨by kernel_rfl⟩
instance : Goes Try.prog 28 := ⟨by kernel_rfl⟩
instance : Goes Try.prog 29 := ⟨by kernel_rfl⟩
instance : Goes Try.prog 30 := ⟨by kernel_rfl⟩
instance : Goes Try.prog 31 := ⟨by kernel_rfl⟩
instance : Goes Try.prog 32 := ⟨by kernel_rfl⟩
instance : Goes Try.prog 33 := ⟨by kernel_rfl⟩
instance : Goes Try.prog 34 := ⟨by kernel_rfl⟩
instance : Goes Try.prog 35 := ⟨by kernel_rfl⟩
instance : Goes Try.prog 36 := ⟨by kernel_rfl⟩
instance : Goes Try.prog 37 := ⟨by kernel_rfl⟩
instance : Goes Try.prog 38 := ⟨by kernel_rfl⟩
instance : Goes Try.prog 39 := ⟨by kernel_rfl⟩
instance : Goes Try.prog 40 := ⟨by kernel_rfl⟩
instance : Goes Try.prog 41 := ⟨by kernel_rfl⟩
instance : Goes Try.prog 42 := ⟨by kernel_rfl⟩
instance : Goes Try.prog 43 := ⟨by kernel_rfl⟩
instance : Goes Try.prog 44 := ⟨by kernel_rfl⟩
instance : Goes Try.prog 45 := ⟨by kernel_rfl⟩
instance : Goes Try.prog 46 := ⟨by kernel_rfl⟩
instance : Goes Try.prog 47 := ⟨by kernel_rfl⟩
instance : Goes Try.prog 48 := ⟨by kernel_rfl⟩
instance : Goes Try.prog 49 := ⟨by kernel_rfl⟩
instance : Goes Try.prog 50 := ⟨by kernel_rfl⟩
instance : Goes Try.prog 51 := ⟨by kernel_rfl⟩
instance : Goes Try.prog 52 := ⟨by kernel_rfl⟩
instance : Goes Try.prog 53 := ⟨by kernel_rfl⟩
instance : Goes Try.prog 54 := ⟨by kernel_rfl⟩
instance : Goes Try.prog 55 := ⟨by kernel_rfl⟩
instance : Goes Try.prog 56 := ⟨by kernel_rfl⟩
instance : Goes Try.prog 57 := ⟨by kernel_rfl⟩
instance : Goes Try.prog 58 := ⟨by kernel_rfl⟩
instance : Goes Try.prog 59 := ⟨by kernel_rfl⟩
instance : Goes Try.prog 60 := ⟨by kernel_rfl⟩
instance : Goes Try.prog 61 := ⟨by kernel_rfl⟩
instance : Goes Try.prog 62 := ⟨by kernel_rfl⟩
instance : Goes Try.prog 63 := ⟨by kernel_rfl⟩
instance : Goes Try.prog 64 := ⟨by kernel_rfl⟩
instance : Goes Try.prog 65 := ⟨by kernel_rfl⟩
instance : Goes Try.prog 66 := ⟨by kernel_rfl⟩
instance : Goes Try.prog 67 := ⟨by kernel_rfl⟩
instance : Goes Try.prog 68 := ⟨by kernel_rfl⟩
instance : Goes Try.prog 69 := ⟨by kernel_rfl⟩
instance : Goes Try.prog 70 := ⟨by kernel_rfl⟩
instance : Goes Try.prog 71 := ⟨by kernel_rfl⟩
instance : Goes Try.prog 72 := ⟨by kernel_rfl⟩
instance : Goes Try.prog 73 := ⟨by kernel_rfl⟩
instance : Goes Try.prog 74 := ⟨by kernel_rfl⟩
instance : Goes Try.prog 75 := ⟨by kernel_rfl⟩
theorem mixed : Try.prog.follows .mixedOrders = true := by kernel_rfl
end Go.Proofs.Ytiimkhnngpfnbaa.Fx
/- Plain data as trees. -/
namespace Go.Proofs.Ytiimkhnngpfnbaa.Fx
open Go.RowKit
set_option linter.unusedVariables false
def int (n : Int) : T := .v (.int .i64 n)
def bool (b : Bool) : T := .v (.bool b)
@[go_sem] def intR (x : Int) : List T := [.v (.int .i64 x)]
def ints (l : List Int) : T := .s (l.map intR)
@[go_sem] def intsR (x : List Int) : List T := [.s (x.map intR)]
@[go_sem] def boolR (x : Bool) : List T := [.v (.bool x)]
@[go_sem] def strR (x : List UInt8) : List T := [.v (.string ⟨x.toArray⟩)]
/-- a number in a slot -/
def nat (t : Nat) (s : ASt) : Nat := match sget s.sl t with | .c (.t (.v (.int _ k))) => k.toNat | _ => 0
theorem map_len {α : Type} (f : α → List T) (n : Nat) (h : ∀ x, (f x).length = n) (l : List α) : ∀ r ∈ l.map f, r.length = n := by
  intro r hr
  obtain ⟨x, _, rfl⟩ := List.mem_map.1 hr
  exact h x
theorem take_map_len {α : Type} (f : α → List T) (l : List α) (k : Nat) (h : k ≤ l.length) : ((l.take k).map f).length = k := by simp; omega
theorem take_map_snoc {α : Type} (f : α → List T) (l : List α) (k : Nat) (h : k < l.length) : (l.take (k + 1)).map f = (l.take k).map f ++ [f l[k]] := by
  rw [List.take_succ_eq_append_getElem h, List.map_append]; rfl
end Go.Proofs.Ytiimkhnngpfnbaa.Fx
/- From contracts on worlds to contracts on trees, and back. -/
namespace Go.Proofs.Ytiimkhnngpfnbaa.Fx
open Go.RowKit
set_option linter.unusedVariables false
set_option linter.unusedSimpArgs false
/-- all that is there may be looked at -/
def All (w : World) : Nat → Nat → Prop := fun b _ => b < w.heap.size
theorem rowOf_trep {α : Type} [Inhabited α] {n : Nat} {R : World → List Value → α → Prop} {f : α → List T} {A : Nat → Nat → Prop} {w : World} {v : Value} {L : List α} (h : RowOf n R w v L) (hA : ∀ b i v, w.cell? ⟨b, i, none⟩ = some v → A b i) (hf : ∀ x, (f x).length = n)
    (hR : ∀ cs x, cs.length = n → R w cs x → ∀ j, j < n → TRep A w (cs.getD j undef) ((f x).getD j default)) : TRep A w v (.s (L.map f)) := by
  rcases h with ⟨a, cap, rfl, rfl, _⟩ | ⟨b, off, cap, rfl, h1, h2, h3, h4⟩
  · exact .e a cap
  · have hex : ∀ i, ∃ cs : List Value, i < L.length → (Cells w b (off + i * n) n cs ∧ ∀ h : i < L.length, R w cs L[i]) := fun i => by
      by_cases hi : i < L.length
      · obtain ⟨cs, g1, g2⟩ := h4 i hi
        exact ⟨cs, fun _ => ⟨g1, fun _ => g2⟩⟩
      · exact ⟨[], fun h => absurd h hi⟩
    have hlen : (L.map f).length = L.length := by simp
    have hget : ∀ i, (h : i < L.length) → (L.map f).getD i [] = f L[i] := fun i hi => by simp [List.getD_eq_getElem?_getD, hi]
    have := TRep.s (A := A) (w := w) b off cap n (L.map f) (fun i j => (Classical.choose (hex i)).getD j undef) (by rw [hlen]; exact h1) h2 (fun i hi => by rw [hget i (by rw [hlen] at hi; exact hi)]; exact hf _) (fun i j hi hj => by
      rw [hlen] at hi
      obtain ⟨⟨g1, g2⟩, _⟩ := Classical.choose_spec (hex i) hi
      have hc := g2 j hj
      rw [List.getElem?_eq_getElem (by rw [g1]; exact hj)] at hc
      have e : (Classical.choose (hex i)).getD j undef = (Classical.choose (hex i))[j]'(by rw [g1]; exact hj) := by simp [List.getD_eq_getElem?_getD, g1, hj]
      rw [e]
      exact ⟨hA _ _ _ hc, hc⟩) (fun i j hi hj => by
      rw [hlen] at hi
      obtain ⟨⟨g1, g2⟩, g3⟩ := Classical.choose_spec (hex i) hi
      rw [hget i hi]
      exact hR _ _ g1 (g3 hi) j hj)
    rw [hlen] at this
    exact this
theorem ints_trep {A : Nat → Nat → Prop} {w : World} {v : Value} {l : List Int} (h : ValRow w v (intVals l)) (hA : ∀ b i v, w.cell? ⟨b, i, none⟩ = some v → A b i) : TRep A w v (.s (l.map intR)) := by
  rcases h with ⟨a, cap, rfl, h0⟩ | ⟨b, off, cap, rfl, h1, h2, h3, h4⟩
  · have : l = [] := by unfold intVals at h0; simpa using h0
    subst this; exact .e a cap
  · rw [intVals_length] at h1 h4 ⊢
    have hlen : (l.map intR).length = l.length := by simp
    have := TRep.s (A := A) (w := w) b off cap 1 (l.map intR) (fun i j => .int .i64 (l.getD i 0)) (by rw [hlen]; exact h1.2) h2 (fun i hi => by rw [hlen] at hi; simp [List.getD_eq_getElem?_getD, hi, intR]) (fun i j hi hj => by
      rw [hlen] at hi
      have hj0 : j = 0 := by omega
      subst hj0
      have hc := h4 i hi
      rw [intVals_get _ _ hi] at hc
      rw [Nat.mul_one, Nat.add_zero]
      exact ⟨hA _ _ _ hc, hc⟩) (fun i j hi hj => by
      rw [hlen] at hi
      have hj0 : j = 0 := by omega
      subst hj0
      have e : ((l.map intR).getD i []).getD 0 default = .v (.int .i64 (l.getD i 0)) := by simp [List.getD_eq_getElem?_getD, hi, intR]
      rw [e]
      exact .v _ rfl)
    rw [hlen] at this
    exact this
theorem trep_ints {A : Nat → Nat → Prop} {w : World} {v : Value} {l : List Int} (h : TRep A w v (.s (l.map intR))) (hlt : ∀ b i, A b i → b < w.heap.size) : ∃ a cap, v = .slice a l.length cap ∧ ValRow w (.slice a l.length cap) (intVals l) := by
  generalize hr : (T.s (l.map intR)) = x at h
  cases h with
  | v x h => cases hr
  | p b off row vs hc hr' => cases hr
  | e a cap =>
    injection hr with hr
    have : l = [] := by simpa using hr
    subst this
    exact ⟨a, cap, rfl, .inl ⟨a, cap, rfl, rfl⟩⟩
  | s b off cap n rows vs h1 h2 hn hc hrr =>
    injection hr with hr
    subst hr
    have hlen : (l.map intR).length = l.length := by simp
    rw [hlen] at h1 hn hc hrr ⊢
    refine ⟨some ⟨b, off, none⟩, cap, rfl, ?_⟩
    by_cases h0 : l.length = 0
    · have : l = [] := List.length_eq_zero_iff.1 h0
      subst this
      exact .inl ⟨_, _, rfl, rfl⟩
    · have hn1 : n = 1 := by
        have := hn 0 (by omega)
        rw [← this]
        have hp : 0 < l.length := by omega
        simp [List.getD_eq_getElem?_getD, hp, intR]
      subst hn1
      refine .inr ⟨b, off, cap, by rw [intVals_length], by rw [intVals_length]; omega, h2, hlt _ _ (hc 0 0 (by omega) (by omega)).1, fun i hi => ?_⟩
      rw [intVals_length] at hi
      have g1 := (hc i 0 hi (by omega)).2
      have g2 := hrr i 0 hi (by omega)
      have e : ((l.map intR).getD i []).getD 0 default = .v (.int .i64 (l.getD i 0)) := by simp [List.getD_eq_getElem?_getD, hi, intR]
      rw [e] at g2
      generalize hvs : vs i 0 = u at g2
      cases g2
      rw [Nat.mul_one, Nat.add_zero, hvs] at g1
      rw [g1, intVals_get _ _ hi]
/-- of a call that hands back a plain value -/
theorem fx_of {P : Program} {f : FuncId} {args : List AV} {y : Value} (h : ∀ (A : Nat → Nat → Prop) (w : World) (vals : List Value), (∀ b i, A b i → b < w.heap.size) → vals.length = args.length → (∀ i, i < args.length → VRep ⟨fun _ => undef, A⟩ [] w (vals.getD i undef) (args.getD i .dead)) → Calls P f vals.toArray w fun e w' => e = .returned y ∧ Below w.heap.size w w') : FxPure P f args (constAV y) := by
  intro A w vals hlt hvl hv
  refine (h A w vals hlt hvl hv).mono ?_
  rintro e w' ⟨rfl, hb⟩
  exact ⟨y, A, rfl, Grew.of_below hb, fun _ _ h => h, fun _ _ h => .inl h, constAV_rep _ _ _ _⟩
/-- back: of all that there is -/
theorem fx_to {P : Program} {f : FuncId} {args : List AV} {r : AV} (h : FxPure P f args r) (w : World) (vals : List Value) (hvl : vals.length = args.length) (hv : ∀ i, i < args.length → VRep ⟨fun _ => undef, All w⟩ [] w (vals.getD i undef) (args.getD i .dead)) :
    Calls P f vals.toArray w fun e w' => ∃ v A', e = .returned v ∧ Below w.heap.size w w' ∧ (∀ b i, A' b i → b < w'.heap.size) ∧ VRep ⟨fun _ => undef, A'⟩ [] w' v r := by
  refine (h (All w) w vals (fun b i h => h) hvl hv).mono ?_
  rintro e w' ⟨v, A', rfl, hg, h1, h2, h3⟩
  refine ⟨v, A', rfl, hg.below, fun b i hb => ?_, h3⟩
  rcases h2 b i hb with h | h
  · exact Nat.lt_of_lt_of_le h hg.size
  · exact h.2
end Go.Proofs.Ytiimkhnngpfnbaa.Fx
/- What the small functions on clauses come to, of trees. -/
namespace Go.Proofs.Ytiimkhnngpfnbaa.Fx
open Go.RowKit
set_option linter.unusedVariables false
set_option linter.unusedSimpArgs false
set_option maxRecDepth 100000
/-- of a call that hands back numbers that lie in memory of their own -/
theorem fx_slice {P : Program} {f : FuncId} {args : List AV} {l : List Int} (h : ∀ (A : Nat → Nat → Prop) (w : World) (vals : List Value), (∀ b i, A b i → b < w.heap.size) → vals.length = args.length → (∀ i, i < args.length → VRep ⟨fun _ => undef, A⟩ [] w (vals.getD i undef) (args.getD i .dead)) → Calls P f vals.toArray w (SliceFr w l)) : FxPure P f args (.c (.t (.s (l.map intR)))) := by
  intro A w vals hlt hvl hv
  refine (h A w vals hlt hvl hv).mono ?_
  rintro e w' ⟨a, cap, rfl, hrow, hb, hfr⟩
  refine ⟨_, fun b i => A b i ∨ (w.heap.size ≤ b ∧ b < w'.heap.size), rfl, Grew.of_below hb, fun b i h => .inl h, fun b i h => h, .c (.t ?_)⟩
  rcases hrow with ⟨a', cap', h1, h0⟩ | ⟨b, off, cap', h1, h2, h3, h4, h5⟩
  · have : l = [] := by unfold intVals at h0; simpa using h0
    subst this; exact .e a cap
  · simp only [Value.slice.injEq] at h1
    obtain ⟨rfl, _, rfl⟩ := h1
    have hge := hfr _ rfl
    rw [intVals_length] at h2 h5
    have hlen : (l.map intR).length = l.length := by simp
    have := TRep.s (A := fun b i => A b i ∨ (w.heap.size ≤ b ∧ b < w'.heap.size)) (w := w') b off cap 1 (l.map intR) (fun i j => .int .i64 (l.getD i 0)) (by rw [hlen]; exact h2.2) h3 (fun i hi => by rw [hlen] at hi; simp [List.getD_eq_getElem?_getD, hi, intR]) (fun i j hi hj => by
      rw [hlen] at hi
      have hj0 : j = 0 := by omega
      subst hj0
      have hc := h5 i hi
      rw [intVals_get _ _ hi] at hc
      rw [Nat.mul_one, Nat.add_zero]
      exact ⟨.inr ⟨hge, h4⟩, hc⟩) (fun i j hi hj => by
      rw [hlen] at hi
      have hj0 : j = 0 := by omega
      subst hj0
      have e : ((l.map intR).getD i []).getD 0 default = .v (.int .i64 (l.getD i 0)) := by simp [List.getD_eq_getElem?_getD, hi, intR]
      rw [e]
      exact .v _ rfl)
    rw [hlen] at this
    exact this
/-- one argument: numbers -/
theorem arg_ints {A : Nat → Nat → Prop} {w : World} {v : Value} {l : List Int} (h : VRep ⟨fun _ => undef, A⟩ [] w v (.c (.t (.s (l.map intR))))) (hlt : ∀ b i, A b i → b < w.heap.size) : ∃ a cap, v = .slice a l.length cap ∧ ValRow w (.slice a l.length cap) (intVals l) := by
  cases h with
  | c h => exact trep_ints (crep_t h) hlt
theorem arg_known {A : Nat → Nat → Prop} {w : World} {v y : Value} (h : VRep ⟨fun _ => undef, A⟩ [] w v (.c (.t (.v y)))) : v = y := exAV_eq h rfl
theorem vals1 {vals : List Value} (h : vals.length = 1) : vals = [vals.getD 0 undef] := by
  match vals, h with
  | [a], _ => rfl
theorem vals2 {vals : List Value} (h : vals.length = 2) : vals = [vals.getD 0 undef, vals.getD 1 undef] := by
  match vals, h with
  | [a, b], _ => rfl
theorem contains_fx (c : List Int) (x : Int) : FxPure Try.prog 34 [.c (.t (.s (c.map intR))), .c (.t (.v (.int .i64 x)))] (.c (.t (.v (.bool (hasB c x))))) :=
  fx_of (y := .bool (hasB c x)) fun A w vals hlt hvl hv => by
    obtain ⟨a, cap, e1, h1⟩ := arg_ints (hv 0 (by simp)) hlt
    have e2 := arg_known (hv 1 (by simp))
    rw [vals2 hvl, e1, e2]
    refine (contains_any a cap c x w h1 _ (Lib.hid rfl)).mono ?_
    rintro e w' ⟨rfl, rfl⟩
    exact ⟨rfl, Below.refl _ _⟩
theorem taut_fx (c : List Int) (hl : Lits c) : FxPure Try.prog 47 [.c (.t (.s (c.map intR)))] (.c (.t (.v (.bool (tautB c))))) :=
  fx_of (y := .bool (tautB c)) fun A w vals hlt hvl hv => by
    obtain ⟨a, cap, e1, h1⟩ := arg_ints (hv 0 (by simp)) hlt
    rw [vals1 hvl, e1]
    exact taut_any a cap c w h1 hl _ (Lib.hid rfl)
theorem norm_fx (c : List Int) (hlen : c.length ≤ 1000000) (hl : ∀ x ∈ c, -1000000 ≤ x ∧ x ≤ 1000000) : FxPure Try.prog 33 [.c (.t (.s (c.map intR)))] (.c (.t (.s ((normL c).map intR)))) :=
  fx_slice fun A w vals hlt hvl hv => by
    obtain ⟨a, cap, e1, h1⟩ := arg_ints (hv 0 (by simp)) hlt
    rw [vals1 hvl, e1]
    exact norm_anyF a cap c w h1 hlen hl
theorem without_fx (c : List Int) (v : Int) (h0 : c ≠ []) (hlen : c.length ≤ 1000000) : FxPure Try.prog 46 [.c (.t (.s (c.map intR))), .c (.t (.v (.int .i64 v)))] (.c (.t (.s ((withoutL c v).map intR)))) :=
  fx_slice fun A w vals hlt hvl hv => by
    obtain ⟨a, cap, e1, h1⟩ := arg_ints (hv 0 (by simp)) hlt
    have e2 := arg_known (hv 1 (by simp))
    rw [vals2 hvl, e1, e2]
    cases a with
    | none =>
      rcases h1 with ⟨_, _, _, h2⟩ | ⟨b, off, cap', h1, _⟩
      · exact absurd (by simpa [intVals] using h2) h0
      · simp at h1
    | some ad => exact without_anyF ad cap c v w h1 hlen
end Go.Proofs.Ytiimkhnngpfnbaa.Fx
/- Trees of rows back to slices of rows; Concat and Resolve on trees. -/
namespace Go.Proofs.Ytiimkhnngpfnbaa.Fx
open Go.RowKit
set_option linter.unusedVariables false
set_option linter.unusedSimpArgs false
set_option maxRecDepth 100000
def InR64 (l : List Int) : Prop := ∀ y ∈ l, -9223372036854775808 ≤ y ∧ y ≤ 9223372036854775807
theorem trep_rows {A : Nat → Nat → Prop} {w : World} {v : Value} {LL : List (List Int)} (h : TRep A w v (.s (LL.map intsR))) (h0 : LL ≠ []) (hlt : ∀ b i, A b i → b < w.heap.size) (hb : ∀ l ∈ LL, InR64 l) : ∃ a cap, v = .slice a LL.length cap ∧ RowOf 1 IntsC w (.slice a LL.length cap) LL := by
  generalize hr : (T.s (LL.map intsR)) = x at h
  cases h with
  | v x h => cases hr
  | p b off row vs hc hr' => cases hr
  | e a cap =>
    injection hr with hr
    exact absurd (by simpa using hr) h0
  | s b off cap n rows vs h1 h2 hn hc hrr =>
    injection hr with hr
    subst hr
    have hlen : (LL.map intsR).length = LL.length := by simp
    rw [hlen] at h1 hn hc hrr ⊢
    have hp : 0 < LL.length := List.length_pos_iff.2 h0
    have hn1 : n = 1 := by
      have := hn 0 hp
      rw [← this]
      simp [List.getD_eq_getElem?_getD, hp, intsR]
    subst hn1
    refine ⟨some ⟨b, off, none⟩, cap, rfl, .inr ⟨b, off, cap, rfl, h1, h2, hlt _ _ (hc 0 0 hp (by omega)).1, fun i hi => ⟨[vs i 0], ⟨rfl, fun j hj => ?_⟩, vs i 0, rfl, ?_, hb _ (List.getElem_mem hi)⟩⟩⟩
    · obtain rfl : j = 0 := by omega
      have := (hc i 0 hi (by omega)).2
      simpa using this
    · have g := hrr i 0 hi (by omega)
      have e : ((LL.map intsR).getD i []).getD 0 default = .s (LL[i].map intR) := by simp [List.getD_eq_getElem?_getD, hi, intsR]
      rw [e] at g
      obtain ⟨a, cap, e1, e2⟩ := trep_ints g hlt
      rw [e1]; exact e2
theorem concat_fx (LL : List (List Int)) (h0 : LL ≠ []) (hb : ∀ l ∈ LL, InR64 l) (hl : LL.length ≤ 1000000) (hs : LL.flatten.length ≤ 1000000) : FxPure Try.prog 45 [.c (.t (.s (LL.map intsR)))] (.c (.t (.s (LL.flatten.map intR)))) :=
  fx_slice fun A w vals hlt hvl hv => by
    have h1 := hv 0 (by simp)
    obtain ⟨a, cap, e1, e2⟩ : ∃ a cap, vals.getD 0 undef = .slice a LL.length cap ∧ RowOf 1 IntsC w (.slice a LL.length cap) LL := by
      generalize vals.getD 0 undef = q at h1
      cases h1 with
      | c h1 => exact trep_rows (crep_t h1) h0 hlt hb
    rw [vals1 hvl, e1]
    exact concat_anyF a cap LL w e2 hl hs
def InL (c : List Int) : Prop := c.length ≤ 100000 ∧ Lits c
theorem InL.r64 {c : List Int} (h : InL c) : InR64 c := fun y hy => by have := h.2 y hy; omega
theorem InL.big {c : List Int} (h : InL c) : ∀ x ∈ c, -1000000 ≤ x ∧ x ≤ 1000000 := fun y hy => by have := h.2 y hy; omega
def resP (A B : List Int) (v : Int) : List Int × Int := if resB A B v then (resL A B v, 0) else ([], 9)
@[go_sem] def pairV (p : List Int × Int) : AV := .tup [.c (.t (.s (p.1.map intR))), .c (.t (.v (.int .i64 p.2)))]
set_option maxHeartbeats 1000000 in
theorem resolve_fx (A B : List Int) (v : Int) (hA : InL A) (hB : InL B) (hv : -9223372036854775807 ≤ v ∧ v ≤ 9223372036854775807) : FxPure Try.prog 35 [.c (.t (.s (A.map intR))), .c (.t (.s (B.map intR))), .c (.t (.v (.int .i64 v)))] (pairV (resP A B v)) := by
  refine fx_pure 37 Try.func35 rfl rfl rfl rfl (fun hlen => ?_)
  clear hlen
  have HA := Lib.hid hA
  have HB := Lib.hid hB
  clear hA hB
  have HR : Hid (resB A B v = (decide (1 ≤ v) && hasB A v && hasB B (-v) && !tautB (bothL A B v))) := Lib.hid rfl
  have no : resB A B v = false → resP A B v = ([], 9) := fun h => by unfold resP; rw [h]; rfl
  have yes : resB A B v = true → resP A B v = (resL A B v, 0) := fun h => by unfold resP; rw [h]; rfl
  by_cases h1 : v < 1
  · have e := no (by rw [HR.out, decide_eq_false (show ¬ 1 ≤ v by omega)]; rfl)
    rw [e]
    clear no yes e
    refine awp_tk [] (by kernel_rfl) (fun K hK => ?_)
    go_simp
    (repeat (simp (disch := omega) only [dT, dF, nT, nF, wA, wB, wC, wD]; try go_simp))
    (repeat (refine ⟨by (repeat' apply And.intro) <;> first | omega | trivial | assumption | decide, ?_⟩))
    refine hK _ ?_
    clear hK K
    refine awp_seqk (fun K0 hK0 => ?_)
    refine awp_ite [] (by kernel_rfl) (fun K hT hF => ?_)
    go_simp
    (repeat (simp (disch := omega) only [dT, dF, nT, nF, wA, wB, wC, wD]; try go_simp))
    (repeat (refine ⟨by (repeat' apply And.intro) <;> first | omega | trivial | assumption | decide, ?_⟩))
    refine hT _ rfl ?_
    clear hT hF K
    refine awp_tk [] (by kernel_rfl) (fun K hK => ?_)
    go_simp
    (repeat (simp (disch := omega) only [dT, dF, nT, nF, wA, wB, wC, wD]; try go_simp))
    (repeat (refine ⟨by (repeat' apply And.intro) <;> first | omega | trivial | assumption | decide, ?_⟩))
    refine hK _ ?_
    clear hK K
    exact awp_ret ⟨_, (by repeat' (first | exact .nil | exact .tmp _ _ rfl | apply ResL.cons)), (by repeat' (first | exact Coe.refl _ | exact Coe.c CoeC.nil | exact Coe.c CoeC.z | exact .nil | apply Coe.tup | apply CoeA.cons)), rfl⟩
  · have v1 : decide (1 ≤ v) = true := decide_eq_true (by omega)
    cases e1 : hasB A v with
    | false =>
      have e := no (by rw [HR.out, e1]; simp)
      rw [e]
      clear no yes e
      refine awp_tk [] (by kernel_rfl) (fun K hK => ?_)
      go_simp
      (repeat (simp (disch := omega) only [dT, dF, nT, nF, wA, wB, wC, wD]; try go_simp))
      (repeat (refine ⟨by (repeat' apply And.intro) <;> first | omega | trivial | assumption | decide, ?_⟩))
      refine hK _ ?_
      clear hK K
      refine awp_seqk (fun K0 hK0 => ?_)
      refine awp_ite [] (by kernel_rfl) (fun K hT hF => ?_)
      go_simp
      (repeat (simp (disch := omega) only [dT, dF, nT, nF, wA, wB, wC, wD]; try go_simp))
      (repeat (refine ⟨by (repeat' apply And.intro) <;> first | omega | trivial | assumption | decide, ?_⟩))
      refine callV (contains_fx A v) rfl ?_
      go_simp
      (repeat (simp (disch := omega) only [dT, dF, nT, nF, wA, wB, wC, wD]; try go_simp))
      (repeat (refine ⟨by (repeat' apply And.intro) <;> first | omega | trivial | assumption | decide, ?_⟩))
      refine hT _ rfl ?_
      clear hT hF K
      refine awp_tk [] (by kernel_rfl) (fun K hK => ?_)
      go_simp
      (repeat (simp (disch := omega) only [dT, dF, nT, nF, wA, wB, wC, wD]; try go_simp))
      (repeat (refine ⟨by (repeat' apply And.intro) <;> first | omega | trivial | assumption | decide, ?_⟩))
      refine hK _ ?_
      clear hK K
      exact awp_ret ⟨_, (by repeat' (first | exact .nil | exact .tmp _ _ rfl | apply ResL.cons)), (by repeat' (first | exact Coe.refl _ | exact Coe.c CoeC.nil | exact Coe.c CoeC.z | exact .nil | apply Coe.tup | apply CoeA.cons)), rfl⟩
    | true =>
      cases e2 : hasB B (-v) with
      | false =>
        have e := no (by rw [HR.out, e2]; simp)
        rw [e]
        clear no yes e
        refine awp_tk [] (by kernel_rfl) (fun K hK => ?_)
        go_simp
        (repeat (simp (disch := omega) only [dT, dF, nT, nF, wA, wB, wC, wD]; try go_simp))
        (repeat (refine ⟨by (repeat' apply And.intro) <;> first | omega | trivial | assumption | decide, ?_⟩))
        refine hK _ ?_
        clear hK K
        refine awp_seqk (fun K0 hK0 => ?_)
        refine awp_ite [] (by kernel_rfl) (fun K hT hF => ?_)
        go_simp
        (repeat (simp (disch := omega) only [dT, dF, nT, nF, wA, wB, wC, wD]; try go_simp))
        (repeat (refine ⟨by (repeat' apply And.intro) <;> first | omega | trivial | assumption | decide, ?_⟩))
        refine callV (contains_fx A v) rfl ?_
        go_simp
        (repeat (simp (disch := omega) only [dT, dF, nT, nF, wA, wB, wC, wD]; try go_simp))
        (repeat (refine ⟨by (repeat' apply And.intro) <;> first | omega | trivial | assumption | decide, ?_⟩))
        refine callV (contains_fx B (-v)) rfl ?_
        go_simp
        (repeat (simp (disch := omega) only [dT, dF, nT, nF, wA, wB, wC, wD]; try go_simp))
        (repeat (refine ⟨by (repeat' apply And.intro) <;> first | omega | trivial | assumption | decide, ?_⟩))
        refine hT _ rfl ?_
        clear hT hF K
        refine awp_tk [] (by kernel_rfl) (fun K hK => ?_)
        go_simp
        (repeat (simp (disch := omega) only [dT, dF, nT, nF, wA, wB, wC, wD]; try go_simp))
        (repeat (refine ⟨by (repeat' apply And.intro) <;> first | omega | trivial | assumption | decide, ?_⟩))
        refine hK _ ?_
        clear hK K
        exact awp_ret ⟨_, (by repeat' (first | exact .nil | exact .tmp _ _ rfl | apply ResL.cons)), (by repeat' (first | exact Coe.refl _ | exact Coe.c CoeC.nil | exact Coe.c CoeC.z | exact .nil | apply Coe.tup | apply CoeA.cons)), rfl⟩
      | true =>
        have n1 : A ≠ [] := fun e => by rw [e] at e1; cases e1
        have n2 : B ≠ [] := fun e => by rw [e] at e2; cases e2
        have HN1 := Lib.hid n1
        have HN2 := Lib.hid n2
        have HB1 : Hid (∀ l ∈ [withoutL A v, withoutL B (-v)], InR64 l) := Lib.hid (by
          intro l hl
          simp only [List.mem_cons, List.not_mem_nil, or_false] at hl
          rcases hl with rfl | rfl
          · exact fun y hy => HA.out.r64 y (List.mem_filter.1 hy).1
          · exact fun y hy => HB.out.r64 y (List.mem_filter.1 hy).1)
        have hfl : [withoutL A v, withoutL B (-v)].flatten = bothL A B v := by simp [bothL]
        have HFL := Lib.hid hfl
        have HL3 : Hid ((bothL A B v).length ≤ 1000000) := Lib.hid (by
          have l1 : (withoutL A v).length ≤ A.length := List.length_filter_le _ _
          have l2 : (withoutL B (-v)).length ≤ B.length := List.length_filter_le _ _
          have := HA.out.1
          have := HB.out.1
          unfold bothL
          rw [List.length_append]; omega)
        have HT : Hid (tautB (normL (bothL A B v)) = tautB (bothL A B v)) := Lib.hid (tautB_norm _)
        have HLN : Hid (Lits (normL (bothL A B v))) := Lib.hid (lits_norm (lits_both v HA.out.2 HB.out.2))
        have hcat := concat_fx [withoutL A v, withoutL B (-v)] (by simp) HB1.out (by simp) (by rw [HFL.out]; exact HL3.out)
        rw [HFL.out] at hcat
        simp only [List.map_cons, List.map_nil, intsR] at hcat
        have HC := Lib.hid hcat
        clear n1 n2 hfl hcat
        cases e3 : tautB (bothL A B v) with
        | true =>
          have e := no (by rw [HR.out, e3]; simp)
          rw [e]
          clear no yes e
          have e4 : tautB (normL (bothL A B v)) = true := by rw [HT.out, e3]
          refine awp_tk [] (by kernel_rfl) (fun K hK => ?_)
          go_simp
          (repeat (simp (disch := omega) only [dT, dF, nT, nF, wA, wB, wC, wD]; try go_simp))
          (repeat (refine ⟨by (repeat' apply And.intro) <;> first | omega | trivial | assumption | decide, ?_⟩))
          refine hK _ ?_
          clear hK K
          refine awp_seqk (fun K0 hK0 => ?_)
          refine awp_ite [] (by kernel_rfl) (fun K hT hF => ?_)
          go_simp
          (repeat (simp (disch := omega) only [dT, dF, nT, nF, wA, wB, wC, wD]; try go_simp))
          (repeat (refine ⟨by (repeat' apply And.intro) <;> first | omega | trivial | assumption | decide, ?_⟩))
          refine callV (contains_fx A v) rfl ?_
          go_simp
          (repeat (simp (disch := omega) only [dT, dF, nT, nF, wA, wB, wC, wD]; try go_simp))
          (repeat (refine ⟨by (repeat' apply And.intro) <;> first | omega | trivial | assumption | decide, ?_⟩))
          refine callV (contains_fx B (-v)) rfl ?_
          go_simp
          (repeat (simp (disch := omega) only [dT, dF, nT, nF, wA, wB, wC, wD]; try go_simp))
          (repeat (refine ⟨by (repeat' apply And.intro) <;> first | omega | trivial | assumption | decide, ?_⟩))
          refine hF _ rfl ?_
          clear hT hF K
          refine awp_skip (hK0 _ ?_)
          clear hK0 K0
          refine awp_tk [] (by kernel_rfl) (fun K hK => ?_)
          go_simp
          (repeat (simp (disch := omega) only [dT, dF, nT, nF, wA, wB, wC, wD]; try go_simp))
          (repeat (refine ⟨by (repeat' apply And.intro) <;> first | omega | trivial | assumption | decide, ?_⟩))
          refine callV (without_fx A v HN1.out (by have := HA.out.1; omega)) rfl ?_
          go_simp
          (repeat (simp (disch := omega) only [dT, dF, nT, nF, wA, wB, wC, wD]; try go_simp))
          (repeat (refine ⟨by (repeat' apply And.intro) <;> first | omega | trivial | assumption | decide, ?_⟩))
          refine callV (without_fx B (-v) HN2.out (by have := HB.out.1; omega)) rfl ?_
          go_simp
          (repeat (simp (disch := omega) only [dT, dF, nT, nF, wA, wB, wC, wD]; try go_simp))
          (repeat (refine ⟨by (repeat' apply And.intro) <;> first | omega | trivial | assumption | decide, ?_⟩))
          refine callV (HC.out) rfl ?_
          go_simp
          (repeat (simp (disch := omega) only [dT, dF, nT, nF, wA, wB, wC, wD]; try go_simp))
          (repeat (refine ⟨by (repeat' apply And.intro) <;> first | omega | trivial | assumption | decide, ?_⟩))
          refine callV (norm_fx (bothL A B v) HL3.out (fun x hx => (lits_both v HA.out.2 HB.out.2 x hx).2)) rfl ?_
          go_simp
          (repeat (simp (disch := omega) only [dT, dF, nT, nF, wA, wB, wC, wD]; try go_simp))
          (repeat (refine ⟨by (repeat' apply And.intro) <;> first | omega | trivial | assumption | decide, ?_⟩))
          (first | (refine hK _ ?_; clear hK K) | (clear hK K; refine hK _ ?_; clear hK K) | (clear hK K; clear hK K; refine hK _ ?_; clear hK K) | (clear hK K; clear hK K; clear hK K; refine hK _ ?_; clear hK K))
          refine awp_seqk (fun K0 hK0 => ?_)
          refine awp_ite [] (by kernel_rfl) (fun K hT hF => ?_)
          go_simp
          (repeat (simp (disch := omega) only [dT, dF, nT, nF, wA, wB, wC, wD]; try go_simp))
          (repeat (refine ⟨by (repeat' apply And.intro) <;> first | omega | trivial | assumption | decide, ?_⟩))
          refine callV (taut_fx (normL (bothL A B v)) HLN.out) rfl ?_
          go_simp
          (repeat (simp (disch := omega) only [dT, dF, nT, nF, wA, wB, wC, wD]; try go_simp))
          (repeat (refine ⟨by (repeat' apply And.intro) <;> first | omega | trivial | assumption | decide, ?_⟩))
          refine hT _ rfl ?_
          clear hT hF K
          refine awp_tk [] (by kernel_rfl) (fun K hK => ?_)
          go_simp
          (repeat (simp (disch := omega) only [dT, dF, nT, nF, wA, wB, wC, wD]; try go_simp))
          (repeat (refine ⟨by (repeat' apply And.intro) <;> first | omega | trivial | assumption | decide, ?_⟩))
          refine hK _ ?_
          clear hK K
          exact awp_ret ⟨_, (by repeat' (first | exact .nil | exact .tmp _ _ rfl | apply ResL.cons)), (by repeat' (first | exact Coe.refl _ | exact Coe.c CoeC.nil | exact Coe.c CoeC.z | exact .nil | apply Coe.tup | apply CoeA.cons)), rfl⟩
        | false =>
          have e := yes (by rw [HR.out, e1, e2, e3, v1]; rfl)
          rw [e]
          clear no yes e
          have e4 : tautB (normL (bothL A B v)) = false := by rw [HT.out, e3]
          refine awp_tk [] (by kernel_rfl) (fun K hK => ?_)
          go_simp
          (repeat (simp (disch := omega) only [dT, dF, nT, nF, wA, wB, wC, wD]; try go_simp))
          (repeat (refine ⟨by (repeat' apply And.intro) <;> first | omega | trivial | assumption | decide, ?_⟩))
          refine hK _ ?_
          clear hK K
          refine awp_seqk (fun K0 hK0 => ?_)
          refine awp_ite [] (by kernel_rfl) (fun K hT hF => ?_)
          go_simp
          (repeat (simp (disch := omega) only [dT, dF, nT, nF, wA, wB, wC, wD]; try go_simp))
          (repeat (refine ⟨by (repeat' apply And.intro) <;> first | omega | trivial | assumption | decide, ?_⟩))
          refine callV (contains_fx A v) rfl ?_
          go_simp
          (repeat (simp (disch := omega) only [dT, dF, nT, nF, wA, wB, wC, wD]; try go_simp))
          (repeat (refine ⟨by (repeat' apply And.intro) <;> first | omega | trivial | assumption | decide, ?_⟩))
          refine callV (contains_fx B (-v)) rfl ?_
          go_simp
          (repeat (simp (disch := omega) only [dT, dF, nT, nF, wA, wB, wC, wD]; try go_simp))
          (repeat (refine ⟨by (repeat' apply And.intro) <;> first | omega | trivial | assumption | decide, ?_⟩))
          refine hF _ rfl ?_
          clear hT hF K
          refine awp_skip (hK0 _ ?_)
          clear hK0 K0
          refine awp_tk [] (by kernel_rfl) (fun K hK => ?_)
          go_simp
          (repeat (simp (disch := omega) only [dT, dF, nT, nF, wA, wB, wC, wD]; try go_simp))
          (repeat (refine ⟨by (repeat' apply And.intro) <;> first | omega | trivial | assumption | decide, ?_⟩))
          refine callV (without_fx A v HN1.out (by have := HA.out.1; omega)) rfl ?_
          go_simp
          (repeat (simp (disch := omega) only [dT, dF, nT, nF, wA, wB, wC, wD]; try go_simp))
          (repeat (refine ⟨by (repeat' apply And.intro) <;> first | omega | trivial | assumption | decide, ?_⟩))
          refine callV (without_fx B (-v) HN2.out (by have := HB.out.1; omega)) rfl ?_
          go_simp
          (repeat (simp (disch := omega) only [dT, dF, nT, nF, wA, wB, wC, wD]; try go_simp))
          (repeat (refine ⟨by (repeat' apply And.intro) <;> first | omega | trivial | assumption | decide, ?_⟩))
          refine callV (HC.out) rfl ?_
          go_simp
          (repeat (simp (disch := omega) only [dT, dF, nT, nF, wA, wB, wC, wD]; try go_simp))
          (repeat (refine ⟨by (repeat' apply And.intro) <;> first | omega | trivial | assumption | decide, ?_⟩))
          refine callV (norm_fx (bothL A B v) HL3.out (fun x hx => (lits_both v HA.out.2 HB.out.2 x hx).2)) rfl ?_
          go_simp
          (repeat (simp (disch := omega) only [dT, dF, nT, nF, wA, wB, wC, wD]; try go_simp))
          (repeat (refine ⟨by (repeat' apply And.intro) <;> first | omega | trivial | assumption | decide, ?_⟩))
          (first | (refine hK _ ?_; clear hK K) | (clear hK K; refine hK _ ?_; clear hK K) | (clear hK K; clear hK K; refine hK _ ?_; clear hK K) | (clear hK K; clear hK K; clear hK K; refine hK _ ?_; clear hK K))
          refine awp_seqk (fun K0 hK0 => ?_)
          refine awp_ite [] (by kernel_rfl) (fun K hT hF => ?_)
          go_simp
          (repeat (simp (disch := omega) only [dT, dF, nT, nF, wA, wB, wC, wD]; try go_simp))
          (repeat (refine ⟨by (repeat' apply And.intro) <;> first | omega | trivial | assumption | decide, ?_⟩))
          refine callV (taut_fx (normL (bothL A B v)) HLN.out) rfl ?_
          go_simp
          (repeat (simp (disch := omega) only [dT, dF, nT, nF, wA, wB, wC, wD]; try go_simp))
          (repeat (refine ⟨by (repeat' apply And.intro) <;> first | omega | trivial | assumption | decide, ?_⟩))
          refine hF _ rfl ?_
          clear hT hF K
          refine awp_skip (hK0 _ ?_)
          clear hK0 K0
          refine awp_tk [] (by kernel_rfl) (fun K hK => ?_)
          go_simp
          (repeat (simp (disch := omega) only [dT, dF, nT, nF, wA, wB, wC, wD]; try go_simp))
          (repeat (refine ⟨by (repeat' apply And.intro) <;> first | omega | trivial | assumption | decide, ?_⟩))
          refine hK _ ?_
          clear hK K
          exact awp_ret ⟨_, (by repeat' (first | exact .nil | exact .tmp _ _ rfl | apply ResL.cons)), (by repeat' (first | exact Coe.refl _ | exact Coe.c CoeC.nil | exact Coe.c CoeC.z | exact .nil | apply Coe.tup | apply CoeA.cons)), rfl⟩
end Go.Proofs.Ytiimkhnngpfnbaa.Fx
/- Steps as trees; the small functions on them once more. -/
namespace Go.Proofs.Ytiimkhnngpfnbaa.Fx
open Go.RowKit
set_option linter.unusedVariables false
set_option linter.unusedSimpArgs false
set_option maxRecDepth 100000
@[go_sem] def stepR (x : StepD) : List T := [.s (x.cl.map intR), .s (x.fr.map intR), .s (x.on.map intR)]
def steps (L : List StepD) : T := .s (L.map stepR)
set_option maxHeartbeats 1000000 in
theorem of_fx (L : List StepD) (hL : L.length ≤ 100000) : FxPure Try.prog 11 [.c (.t (.s (L.map stepR)))] (.c (.t (.s (L.map stepR)))) := by
  refine fx_pure 31 Try.func11 rfl rfl rfl rfl (fun hlen => ?_)
  clear hlen
  refine awp_tk [] (by kernel_rfl) (fun K hK => ?_)
  go_simp
  (repeat (simp (disch := omega) only [dT, dF, nT, nF, wA, wB, wC, wD]; try go_simp))
  (repeat (refine ⟨by (repeat' apply And.intro) <;> first | omega | trivial | assumption | decide, ?_⟩))
  refine hK _ ?_
  clear hK K
  refine awp_tk [] (by kernel_rfl) (fun K hK => ?_)
  go_simp
  (repeat (simp (disch := omega) only [dT, dF, nT, nF, wA, wB, wC, wD]; try go_simp))
  (repeat (refine ⟨by (repeat' apply And.intro) <;> first | omega | trivial | assumption | decide, ?_⟩))
  refine hK _ ?_
  clear hK K
  refine awp_seqk (fun K0 hK0 => ?_)
  refine awp_tk [] (by kernel_rfl) (fun K hK => ?_)
  go_simp
  (repeat (simp (disch := omega) only [dT, dF, nT, nF, wA, wB, wC, wD]; try go_simp))
  (repeat (refine ⟨by (repeat' apply And.intro) <;> first | omega | trivial | assumption | decide, ?_⟩))
  refine hK _ ?_
  clear hK K
  refine awp_weak (weak_adopt 3 3 43 3 (by decide) (.inl rfl) rfl) ?_
  refine awp_block ?_
  refine awp_lp (fun s => ∃ k : Nat, ∃ rows : List (List T), k ≤ L.length ∧ rows = (L.take k).map stepR ∧ s = ⟨[(0, .c (.t (.s (L.map stepR)))), (3, .c (.own 3 k)), (4, .c (.t (.v (.int .i64 k))))], [(3, .row 43 3 rows)]⟩) (fun s => L.length - nat 4 s) _ ?_ ⟨0, _, Nat.zero_le _, rfl, rfl⟩ ?_
  · refine weak_w (by repeat' (first | exact trivial | exact Coe.refl _ | exact Coe.c CoeC.nil | apply And.intro)) (by repeat' (first | exact trivial | rfl | apply And.intro)) rfl rfl (by repeat' (first | exact trivial | (intro h; first | rfl | (exfalso; omega)) | apply And.intro))
  · rintro s R ⟨k, rows, hk, hrows, rfl⟩ hR
    have hrl : rows.length = k := by rw [hrows]; exact take_map_len _ _ _ hk
    have HR := Lib.hid hrows
    have hr3 := map_len stepR 3 (fun _ => rfl) L
    clear hrows
    by_cases hlt : k < L.length
    · refine awp_head [] (by kernel_rfl) (fun K hT hF => ?_)
      go_simp
      (repeat (simp (disch := omega) only [dT, dF, nT, nF, wA, wB, wC, wD]; try go_simp))
      (repeat (refine ⟨by (repeat' apply And.intro) <;> first | omega | trivial | assumption | decide, ?_⟩))
      refine hT _ rfl ?_
      clear hT hF K
      refine awp_seqk (fun K1 hK1 => ?_)
      refine awp_block ?_
      refine awp_d [] mixed (by kernel_rfl) (by kernel_rfl) ?_
      go_simp
      (repeat (simp (disch := omega) only [dT, dF, nT, nF, wA, wB, wC, wD]; try go_simp))
      (repeat (refine ⟨by (repeat' apply And.intro) <;> first | omega | trivial | assumption | decide, ?_⟩))
      refine hK1 _ ?_
      clear hK1 K1
      refine awp_t [] (by kernel_rfl) ?_
      go_simp
      (repeat (simp (disch := omega) only [dT, dF, nT, nF, wA, wB, wC, wD]; try go_simp))
      (repeat (refine ⟨by (repeat' apply And.intro) <;> first | omega | trivial | assumption | decide, ?_⟩))
      refine hR _ _ ?_ ⟨k + 1, rows ++ [stepR L[k]], by omega, ?_, rfl⟩ ?_
      · refine weak_w (by repeat' (first | exact trivial | exact Coe.refl _ | exact Coe.c CoeC.nil | apply And.intro)) (by repeat' (first | exact trivial | rfl | apply And.intro)) rfl rfl (by repeat' (first | exact trivial | (intro h; first | rfl | (exfalso; omega)) | apply And.intro))
      · rw [HR.out, take_map_snoc _ _ _ hlt]
      · simp [nat, sget]; omega
    · have hR2 : Hid (rows = L.map stepR) := Lib.hid (by rw [HR.out, List.take_of_length_le (by omega)])
      refine awp_head [] (by kernel_rfl) (fun K hT hF => ?_)
      go_simp
      (repeat (simp (disch := omega) only [dT, dF, nT, nF, wA, wB, wC, wD]; try go_simp))
      (repeat (refine ⟨by (repeat' apply And.intro) <;> first | omega | trivial | assumption | decide, ?_⟩))
      refine hF _ rfl (hK0 _ ?_)
      clear hT hF K hK0 K0 hr3
      refine awp_weak (weak_freeze 3 (by decide) rfl) ?_
      simp only [hrl, frzS, frzAV, frzC, frzH, ↓reduceIte, Nat.reduceEqDiff]
      rw [hR2.out]
      refine awp_tk [] (by kernel_rfl) (fun K hK => ?_)
      go_simp
      (repeat (simp (disch := omega) only [dT, dF, nT, nF, wA, wB, wC, wD]; try go_simp))
      (repeat (refine ⟨by (repeat' apply And.intro) <;> first | omega | trivial | assumption | decide, ?_⟩))
      refine hK _ ?_
      clear hK K
      exact awp_ret ⟨_, .cons (.tmp _ _ rfl) .nil, Coe.refl _, rfl⟩
set_option maxHeartbeats 1000000 in
theorem copied_fx (L : List StepD) (hL : L.length ≤ 100000) (hsh : ∀ x ∈ L, x.cl.length ≤ 1000 ∧ x.fr.length ≤ 1000 ∧ x.on.length ≤ 1000) : FxPure Try.prog 7 [.c (.t (.s (L.map stepR)))] (.c (.t (.s (L.map stepR)))) := by
  refine fx_pure 37 Try.func7 rfl rfl rfl rfl (fun hlen => ?_)
  clear hlen
  refine awp_tk [] (by kernel_rfl) (fun K hK => ?_)
  go_simp
  (repeat (simp (disch := omega) only [dT, dF, nT, nF, wA, wB, wC, wD]; try go_simp))
  (repeat (refine ⟨by (repeat' apply And.intro) <;> first | omega | trivial | assumption | decide, ?_⟩))
  refine hK _ ?_
  clear hK K
  refine awp_tk [] (by kernel_rfl) (fun K hK => ?_)
  go_simp
  (repeat (simp (disch := omega) only [dT, dF, nT, nF, wA, wB, wC, wD]; try go_simp))
  (repeat (refine ⟨by (repeat' apply And.intro) <;> first | omega | trivial | assumption | decide, ?_⟩))
  refine hK _ ?_
  clear hK K
  refine awp_seqk (fun K0 hK0 => ?_)
  refine awp_tk [] (by kernel_rfl) (fun K hK => ?_)
  go_simp
  (repeat (simp (disch := omega) only [dT, dF, nT, nF, wA, wB, wC, wD]; try go_simp))
  (repeat (refine ⟨by (repeat' apply And.intro) <;> first | omega | trivial | assumption | decide, ?_⟩))
  refine hK _ ?_
  clear hK K
  refine awp_weak (weak_adopt 3 3 43 3 (by decide) (.inl rfl) rfl) ?_
  refine awp_block ?_
  refine awp_lp (fun s => ∃ k : Nat, ∃ rows : List (List T), k ≤ L.length ∧ rows = (L.take k).map stepR ∧ s = ⟨[(0, .c (.t (.s (L.map stepR)))), (3, .c (.own 3 k)), (4, .c (.t (.v (.int .i64 k))))], [(3, .row 43 3 rows)]⟩) (fun s => L.length - nat 4 s) _ ?_ ⟨0, _, Nat.zero_le _, rfl, rfl⟩ ?_
  · refine weak_w (by repeat' (first | exact trivial | exact Coe.refl _ | exact Coe.c CoeC.nil | apply And.intro)) (by repeat' (first | exact trivial | rfl | apply And.intro)) rfl rfl (by repeat' (first | exact trivial | (intro h; first | rfl | (exfalso; omega)) | apply And.intro))
  · rintro s R ⟨k, rows, hk, hrows, rfl⟩ hR
    have hrl : rows.length = k := by rw [hrows]; exact take_map_len _ _ _ hk
    have HR := Lib.hid hrows
    have hr3 := map_len stepR 3 (fun _ => rfl) L
    clear hrows
    by_cases hlt : k < L.length
    · refine awp_head [] (by kernel_rfl) (fun K hT hF => ?_)
      go_simp
      (repeat (simp (disch := omega) only [dT, dF, nT, nF, wA, wB, wC, wD]; try go_simp))
      (repeat (refine ⟨by (repeat' apply And.intro) <;> first | omega | trivial | assumption | decide, ?_⟩))
      refine hT _ rfl ?_
      clear hT hF K
      refine awp_seqk (fun K1 hK1 => ?_)
      refine awp_block ?_
      have hx := hsh L[k] (List.getElem_mem hlt)
      have hx1 := map_len intR 1 (fun _ => rfl) L[k].cl
      have hx2 := map_len intR 1 (fun _ => rfl) L[k].fr
      have hx3 := map_len intR 1 (fun _ => rfl) L[k].on
      refine awp_d [18, 25, 32] mixed (by kernel_rfl) (by kernel_rfl) ?_
      go_simp
      (repeat (simp (disch := omega) only [dT, dF, nT, nF, wA, wB, wC, wD]; try go_simp))
      (repeat (refine ⟨by (repeat' apply And.intro) <;> first | omega | trivial | assumption | decide, ?_⟩))
      refine hK1 _ ?_
      clear hK1 K1
      refine awp_t [] (by kernel_rfl) ?_
      go_simp
      (repeat (simp (disch := omega) only [dT, dF, nT, nF, wA, wB, wC, wD]; try go_simp))
      (repeat (refine ⟨by (repeat' apply And.intro) <;> first | omega | trivial | assumption | decide, ?_⟩))
      refine hR _ _ ?_ ⟨k + 1, rows ++ [stepR L[k]], by omega, ?_, rfl⟩ ?_
      · refine weak_w (by repeat' (first | exact trivial | exact Coe.refl _ | exact Coe.c CoeC.nil | apply And.intro)) (by repeat' (first | exact trivial | rfl | apply And.intro)) rfl rfl (by repeat' (first | exact trivial | (intro h; first | rfl | (exfalso; omega)) | apply And.intro))
      · rw [HR.out, take_map_snoc _ _ _ hlt]
      · simp [nat, sget]; omega
    · have hR2 : Hid (rows = L.map stepR) := Lib.hid (by rw [HR.out, List.take_of_length_le (by omega)])
      refine awp_head [] (by kernel_rfl) (fun K hT hF => ?_)
      go_simp
      (repeat (simp (disch := omega) only [dT, dF, nT, nF, wA, wB, wC, wD]; try go_simp))
      (repeat (refine ⟨by (repeat' apply And.intro) <;> first | omega | trivial | assumption | decide, ?_⟩))
      refine hF _ rfl (hK0 _ ?_)
      clear hT hF K hK0 K0 hr3
      refine awp_weak (weak_freeze 3 (by decide) rfl) ?_
      simp only [hrl, frzS, frzAV, frzC, frzH, ↓reduceIte, Nat.reduceEqDiff]
      rw [hR2.out]
      refine awp_tk [] (by kernel_rfl) (fun K hK => ?_)
      go_simp
      (repeat (simp (disch := omega) only [dT, dF, nT, nF, wA, wB, wC, wD]; try go_simp))
      (repeat (refine ⟨by (repeat' apply And.intro) <;> first | omega | trivial | assumption | decide, ?_⟩))
      refine hK _ ?_
      clear hK K
      exact awp_ret ⟨_, .cons (.tmp _ _ rfl) .nil, Coe.refl _, rfl⟩
end Go.Proofs.Ytiimkhnngpfnbaa.Fx
/- The program's join and follow, on trees. -/
namespace Go.Proofs.Ytiimkhnngpfnbaa.Fx
open Go.RowKit
set_option linter.unusedVariables false
set_option linter.unusedSimpArgs false
set_option maxRecDepth 100000
def joinP (A B : List Int) (v : Int) : List Int × Int := if (hasB A v && hasB B (-v)) = true then resP A B v else resP B A v
set_option maxHeartbeats 1000000 in
theorem join_fx (A B : List Int) (v : Int) (hA : InL A) (hB : InL B) (hv : -9223372036854775807 ≤ v ∧ v ≤ 9223372036854775807) : FxPure Try.prog 28 [.c (.t (.s (A.map intR))), .c (.t (.s (B.map intR))), .c (.t (.v (.int .i64 v)))] (pairV (joinP A B v)) := by
  refine fx_pure 29 Try.func28 rfl rfl rfl rfl (fun hlen => ?_)
  clear hlen
  have HA := Lib.hid hA
  have HB := Lib.hid hB
  have HV := Lib.hid hv
  clear hA hB
  have no : (hasB A v && hasB B (-v)) = false → joinP A B v = resP B A v := fun h => by unfold joinP; rw [h]; rfl
  have yes : (hasB A v && hasB B (-v)) = true → joinP A B v = resP A B v := fun h => by unfold joinP; rw [h]; rfl
  cases e1 : hasB A v with
  | false =>
    rw [no (by rw [e1]; rfl)]
    clear no yes
    refine awp_tk [] (by kernel_rfl) (fun K hK => ?_)
    go_simp
    (repeat (simp (disch := omega) only [dT, dF, nT, nF, wA, wB, wC, wD]; try go_simp))
    (repeat (refine ⟨by (repeat' apply And.intro) <;> first | omega | trivial | assumption | decide, ?_⟩))
    refine hK _ ?_
    clear hK K
    refine awp_seqk (fun K0 hK0 => ?_)
    refine awp_ite [] (by kernel_rfl) (fun K hT hF => ?_)
    go_simp
    (repeat (simp (disch := omega) only [dT, dF, nT, nF, wA, wB, wC, wD]; try go_simp))
    (repeat (refine ⟨by (repeat' apply And.intro) <;> first | omega | trivial | assumption | decide, ?_⟩))
    refine callV (contains_fx A v) rfl ?_
    go_simp
    (repeat (simp (disch := omega) only [dT, dF, nT, nF, wA, wB, wC, wD]; try go_simp))
    (repeat (refine ⟨by (repeat' apply And.intro) <;> first | omega | trivial | assumption | decide, ?_⟩))
    refine hF _ rfl ?_
    clear hT hF K
    refine awp_skip (hK0 _ ?_)
    clear hK0 K0
    refine awp_tk [] (by kernel_rfl) (fun K hK => ?_)
    go_simp
    (repeat (simp (disch := omega) only [dT, dF, nT, nF, wA, wB, wC, wD]; try go_simp))
    (repeat (refine ⟨by (repeat' apply And.intro) <;> first | omega | trivial | assumption | decide, ?_⟩))
    refine callV (resolve_fx B A v HB.out HA.out HV.out) rfl ?_
    go_simp
    (repeat (simp (disch := omega) only [dT, dF, nT, nF, wA, wB, wC, wD]; try go_simp))
    (repeat (refine ⟨by (repeat' apply And.intro) <;> first | omega | trivial | assumption | decide, ?_⟩))
    (first | (refine hK _ ?_; clear hK K) | (clear hK K; refine hK _ ?_; clear hK K) | (clear hK K; clear hK K; refine hK _ ?_; clear hK K) | (clear hK K; clear hK K; clear hK K; refine hK _ ?_; clear hK K))
    exact awp_ret ⟨_, (by repeat' (first | exact .nil | exact .tmp _ _ rfl | apply ResL.cons)), (by repeat' (first | exact Coe.refl _ | exact Coe.c CoeC.nil | exact Coe.c CoeC.z | exact .nil | apply Coe.tup | apply CoeA.cons)), rfl⟩
  | true =>
    cases e2 : hasB B (-v) with
    | false =>
      rw [no (by rw [e1, e2]; rfl)]
      clear no yes
      refine awp_tk [] (by kernel_rfl) (fun K hK => ?_)
      go_simp
      (repeat (simp (disch := omega) only [dT, dF, nT, nF, wA, wB, wC, wD]; try go_simp))
      (repeat (refine ⟨by (repeat' apply And.intro) <;> first | omega | trivial | assumption | decide, ?_⟩))
      refine hK _ ?_
      clear hK K
      refine awp_seqk (fun K0 hK0 => ?_)
      refine awp_ite [] (by kernel_rfl) (fun K hT hF => ?_)
      go_simp
      (repeat (simp (disch := omega) only [dT, dF, nT, nF, wA, wB, wC, wD]; try go_simp))
      (repeat (refine ⟨by (repeat' apply And.intro) <;> first | omega | trivial | assumption | decide, ?_⟩))
      refine callV (contains_fx A v) rfl ?_
      go_simp
      (repeat (simp (disch := omega) only [dT, dF, nT, nF, wA, wB, wC, wD]; try go_simp))
      (repeat (refine ⟨by (repeat' apply And.intro) <;> first | omega | trivial | assumption | decide, ?_⟩))
      refine callV (contains_fx B (-v)) rfl ?_
      go_simp
      (repeat (simp (disch := omega) only [dT, dF, nT, nF, wA, wB, wC, wD]; try go_simp))
      (repeat (refine ⟨by (repeat' apply And.intro) <;> first | omega | trivial | assumption | decide, ?_⟩))
      refine hF _ rfl ?_
      clear hT hF K
      refine awp_skip (hK0 _ ?_)
      clear hK0 K0
      refine awp_tk [] (by kernel_rfl) (fun K hK => ?_)
      go_simp
      (repeat (simp (disch := omega) only [dT, dF, nT, nF, wA, wB, wC, wD]; try go_simp))
      (repeat (refine ⟨by (repeat' apply And.intro) <;> first | omega | trivial | assumption | decide, ?_⟩))
      refine callV (resolve_fx B A v HB.out HA.out HV.out) rfl ?_
      go_simp
      (repeat (simp (disch := omega) only [dT, dF, nT, nF, wA, wB, wC, wD]; try go_simp))
      (repeat (refine ⟨by (repeat' apply And.intro) <;> first | omega | trivial | assumption | decide, ?_⟩))
      (first | (refine hK _ ?_; clear hK K) | (clear hK K; refine hK _ ?_; clear hK K) | (clear hK K; clear hK K; refine hK _ ?_; clear hK K) | (clear hK K; clear hK K; clear hK K; refine hK _ ?_; clear hK K))
      exact awp_ret ⟨_, (by repeat' (first | exact .nil | exact .tmp _ _ rfl | apply ResL.cons)), (by repeat' (first | exact Coe.refl _ | exact Coe.c CoeC.nil | exact Coe.c CoeC.z | exact .nil | apply Coe.tup | apply CoeA.cons)), rfl⟩
    | true =>
      rw [yes (by rw [e1, e2]; rfl)]
      clear no yes
      refine awp_tk [] (by kernel_rfl) (fun K hK => ?_)
      go_simp
      (repeat (simp (disch := omega) only [dT, dF, nT, nF, wA, wB, wC, wD]; try go_simp))
      (repeat (refine ⟨by (repeat' apply And.intro) <;> first | omega | trivial | assumption | decide, ?_⟩))
      refine hK _ ?_
      clear hK K
      refine awp_seqk (fun K0 hK0 => ?_)
      refine awp_ite [] (by kernel_rfl) (fun K hT hF => ?_)
      go_simp
      (repeat (simp (disch := omega) only [dT, dF, nT, nF, wA, wB, wC, wD]; try go_simp))
      (repeat (refine ⟨by (repeat' apply And.intro) <;> first | omega | trivial | assumption | decide, ?_⟩))
      refine callV (contains_fx A v) rfl ?_
      go_simp
      (repeat (simp (disch := omega) only [dT, dF, nT, nF, wA, wB, wC, wD]; try go_simp))
      (repeat (refine ⟨by (repeat' apply And.intro) <;> first | omega | trivial | assumption | decide, ?_⟩))
      refine callV (contains_fx B (-v)) rfl ?_
      go_simp
      (repeat (simp (disch := omega) only [dT, dF, nT, nF, wA, wB, wC, wD]; try go_simp))
      (repeat (refine ⟨by (repeat' apply And.intro) <;> first | omega | trivial | assumption | decide, ?_⟩))
      refine hT _ rfl ?_
      clear hT hF K
      refine awp_tk [] (by kernel_rfl) (fun K hK => ?_)
      go_simp
      (repeat (simp (disch := omega) only [dT, dF, nT, nF, wA, wB, wC, wD]; try go_simp))
      (repeat (refine ⟨by (repeat' apply And.intro) <;> first | omega | trivial | assumption | decide, ?_⟩))
      refine callV (resolve_fx A B v HA.out HB.out HV.out) rfl ?_
      go_simp
      (repeat (simp (disch := omega) only [dT, dF, nT, nF, wA, wB, wC, wD]; try go_simp))
      (repeat (refine ⟨by (repeat' apply And.intro) <;> first | omega | trivial | assumption | decide, ?_⟩))
      (first | (refine hK _ ?_; clear hK K) | (clear hK K; refine hK _ ?_; clear hK K) | (clear hK K; clear hK K; refine hK _ ?_; clear hK K) | (clear hK K; clear hK K; clear hK K; refine hK _ ?_; clear hK K))
      exact awp_ret ⟨_, (by repeat' (first | exact .nil | exact .tmp _ _ rfl | apply ResL.cons)), (by repeat' (first | exact Coe.refl _ | exact Coe.c CoeC.nil | exact Coe.c CoeC.z | exact .nil | apply Coe.tup | apply CoeA.cons)), rfl⟩
/-- a step's clauses, followed: from, on, so far -/
def folG (all : List (List Int)) : List Int → List Int → List Int → List Int × Int
  | [], _, c => (c, 0)
  | k :: fr, on, c => if k < 1 ∨ k > all.length then ([], 4) else
      if (joinP c (all.getD (k - 1).toNat []) (on.headD 0)).2 ≠ 0 then ([], (joinP c (all.getD (k - 1).toNat []) (on.headD 0)).2) else folG all fr on.tail (joinP c (all.getD (k - 1).toNat []) (on.headD 0)).1
def folP (all : List (List Int)) (s : StepD) : List Int × Int :=
  if s.fr.length < 1 ∨ s.on.length ≠ s.fr.length - 1 then ([], 9) else
    match s.fr with
    | [] => ([], 9)
    | k :: fr => if k < 1 ∨ k > all.length then ([], 4) else folG all fr s.on (normL (all.getD (k - 1).toNat []))
theorem folP_zero {all : List (List Int)} {s : StepD} (h : ¬ (s.fr.length < 1 ∨ s.on.length ≠ s.fr.length - 1)) (h0 : 0 < s.fr.length) : folP all s = if s.fr[0] < 1 ∨ s.fr[0] > all.length then ([], 4) else folG all (s.fr.drop 1) (s.on.drop 0) (normL (all.getD (s.fr[0] - 1).toNat [])) := by
  unfold folP
  rw [if_neg h]
  obtain ⟨cl, fr, on⟩ := s
  cases fr with
  | nil => simp at h0
  | cons k fr => simp
theorem folG_at {all : List (List Int)} {fr on c : List Int} {i : Nat} (hi : i + 1 < fr.length) (ho : i < on.length) : folG all (fr.drop (i + 1)) (on.drop i) c = if fr[i + 1] < 1 ∨ fr[i + 1] > all.length then ([], 4) else
      if (joinP c (all.getD (fr[i + 1] - 1).toNat []) on[i]).2 ≠ 0 then ([], (joinP c (all.getD (fr[i + 1] - 1).toNat []) on[i]).2) else folG all (fr.drop (i + 2)) (on.drop (i + 1)) (joinP c (all.getD (fr[i + 1] - 1).toNat []) on[i]).1 := by
  rw [List.drop_eq_getElem_cons hi]
  have e1 : (on.drop i).headD 0 = on[i] := by rw [List.drop_eq_getElem_cons ho]; rfl
  have e2 : (on.drop i).tail = on.drop (i + 1) := by rw [List.tail_drop]
  show (if _ then _ else if _ then _ else _) = _
  rw [e1, e2]
theorem folG_end (all : List (List Int)) (fr on c : List Int) (i : Nat) (h : fr.length ≤ i) : folG all (fr.drop i) on c = (c, 0) := by
  rw [List.drop_eq_nil_of_le h]; rfl
def InB (M : Nat) (c : List Int) : Prop := c.length ≤ M ∧ Lits c
theorem resP_in {A B : List Int} {v : Int} {m M : Nat} (hA : InB m A) (hB : InB M B) : InB (m + M) (resP A B v).1 := by
  unfold resP
  split
  · refine ⟨Nat.le_trans (normL_len _) ?_, lits_norm (lits_both v hA.2 hB.2)⟩
    unfold bothL
    rw [List.length_append]
    have l1 : (withoutL A v).length ≤ A.length := List.length_filter_le _ _
    have l2 : (withoutL B (-v)).length ≤ B.length := List.length_filter_le _ _
    have := hA.1
    have := hB.1
    omega
  · exact ⟨Nat.zero_le _, fun x hx => (by cases hx)⟩
theorem joinP_in {A B : List Int} {v : Int} {m M : Nat} (hA : InB m A) (hB : InB M B) : InB (m + M) (joinP A B v).1 := by
  unfold joinP
  split
  · exact resP_in hA hB
  · have := resP_in (v := v) hB hA
    rw [Nat.add_comm]; exact this
theorem joinP_range (A B : List Int) (v : Int) : -100 ≤ (joinP A B v).2 ∧ (joinP A B v).2 ≤ 100 := by
  unfold joinP resP
  split <;> split <;> simp
set_option maxHeartbeats 4000000 in
theorem follow_fx (M : Nat) (all : List (List Int)) (s : StepD) (hall : ∀ c ∈ all, InB M c) (hal : all.length ≤ 1000000) (hfr : InR64 s.fr) (hon : ∀ v ∈ s.on, -9223372036854775807 ≤ v ∧ v ≤ 9223372036854775807) (hM : (s.fr.length + 1) * M ≤ 100000) (hf1 : s.fr.length ≤ 1000000) (hf2 : s.on.length ≤ 1000000) (hM1 : M ≤ 1000) :
    FxPure Try.prog 26 [.c (.t (.s (all.map intsR))), .agg [.t (.s (s.cl.map intR)), .t (.s (s.fr.map intR)), .t (.s (s.on.map intR))]] (pairV (folP all s)) := by
  refine fx_pure 71 Try.func26 rfl rfl rfl rfl (fun hlen => ?_)
  clear hlen
  have HALL := Lib.hid hall
  have HM := Lib.hid hM
  have HON := Lib.hid hon
  have HFR := Lib.hid hfr
  clear hall hM hon hfr
  obtain ⟨cl, fr, on⟩ := s
  simp only at hf1 hf2 HM HON HFR ⊢
  by_cases h1 : fr.length < 1
  · have e : folP all ⟨cl, fr, on⟩ = ([], 9) := by unfold folP; rw [if_pos (.inl h1)]
    rw [e]
    (repeat' (first | refine awp_block ?_ | ((first | refine awp_tk [] (by kernel_rfl) (fun K hK => ?_) | refine awp_dk [] mixed (by kernel_rfl) (by kernel_rfl) (fun K hK => ?_)); go_simp; (repeat (simp (disch := omega) only [dT, dF, nT, nF, wA, wB, wC, wD]; try go_simp)); (repeat (refine ⟨by (repeat' apply And.intro) <;> first | omega | trivial | assumption | decide, ?_⟩)); (first | (refine hK _ ?_; clear hK K) | (clear hK K; refine hK _ ?_; clear hK K) | (clear hK K; clear hK K; refine hK _ ?_; clear hK K) | (clear hK K; clear hK K; clear hK K; refine hK _ ?_; clear hK K))) | refine awp_ct rfl ?_ | refine awp_cf rfl ?_ | (first | (refine awp_skip (hK _ ?_); clear hK K) | (clear hK K; refine awp_skip (hK _ ?_); clear hK K) | (clear hK K; clear hK K; refine awp_skip (hK _ ?_); clear hK K) | (clear hK K; clear hK K; clear hK K; refine awp_skip (hK _ ?_); clear hK K)) | refine awp_seqk (fun K hK => ?_) | ((first | refine awp_t [] (by kernel_rfl) ?_ | refine awp_d [] mixed (by kernel_rfl) (by kernel_rfl) ?_); go_simp; (repeat (simp (disch := omega) only [dT, dF, nT, nF, wA, wB, wC, wD]; try go_simp)); (repeat (refine ⟨by (repeat' apply And.intro) <;> first | omega | trivial | assumption | decide, ?_⟩))) | (first | (refine hK _ ?_; clear hK K) | (clear hK K; refine hK _ ?_; clear hK K) | (clear hK K; clear hK K; refine hK _ ?_; clear hK K) | (clear hK K; clear hK K; clear hK K; refine hK _ ?_; clear hK K)) | (refine awp_exit ?_; simp only [thenA_exit, inBlk_exit, thenA_normal, inBlk_normal, ↓reduceIte, Nat.reduceEqDiff])))
    exact awp_ret ⟨_, (by repeat' (first | exact .nil | exact .tmp _ _ rfl | apply ResL.cons)), (by repeat' (first | exact Coe.refl _ | exact Coe.c CoeC.nil | exact Coe.c CoeC.z | exact .nil | apply Coe.tup | apply CoeA.cons)), rfl⟩
  by_cases h2 : on.length ≠ fr.length - 1
  · have e : folP all ⟨cl, fr, on⟩ = ([], 9) := by unfold folP; rw [if_pos (.inr h2)]
    rw [e]
    (repeat' (first | refine awp_block ?_ | ((first | refine awp_tk [] (by kernel_rfl) (fun K hK => ?_) | refine awp_dk [] mixed (by kernel_rfl) (by kernel_rfl) (fun K hK => ?_)); go_simp; (repeat (simp (disch := omega) only [dT, dF, nT, nF, wA, wB, wC, wD]; try go_simp)); (repeat (refine ⟨by (repeat' apply And.intro) <;> first | omega | trivial | assumption | decide, ?_⟩)); (first | (refine hK _ ?_; clear hK K) | (clear hK K; refine hK _ ?_; clear hK K) | (clear hK K; clear hK K; refine hK _ ?_; clear hK K) | (clear hK K; clear hK K; clear hK K; refine hK _ ?_; clear hK K))) | refine awp_ct rfl ?_ | refine awp_cf rfl ?_ | (first | (refine awp_skip (hK _ ?_); clear hK K) | (clear hK K; refine awp_skip (hK _ ?_); clear hK K) | (clear hK K; clear hK K; refine awp_skip (hK _ ?_); clear hK K) | (clear hK K; clear hK K; clear hK K; refine awp_skip (hK _ ?_); clear hK K)) | refine awp_seqk (fun K hK => ?_) | ((first | refine awp_t [] (by kernel_rfl) ?_ | refine awp_d [] mixed (by kernel_rfl) (by kernel_rfl) ?_); go_simp; (repeat (simp (disch := omega) only [dT, dF, nT, nF, wA, wB, wC, wD]; try go_simp)); (repeat (refine ⟨by (repeat' apply And.intro) <;> first | omega | trivial | assumption | decide, ?_⟩))) | (first | (refine hK _ ?_; clear hK K) | (clear hK K; refine hK _ ?_; clear hK K) | (clear hK K; clear hK K; refine hK _ ?_; clear hK K) | (clear hK K; clear hK K; clear hK K; refine hK _ ?_; clear hK K)) | (refine awp_exit ?_; simp only [thenA_exit, inBlk_exit, thenA_normal, inBlk_normal, ↓reduceIte, Nat.reduceEqDiff])))
    exact awp_ret ⟨_, (by repeat' (first | exact .nil | exact .tmp _ _ rfl | apply ResL.cons)), (by repeat' (first | exact Coe.refl _ | exact Coe.c CoeC.nil | exact Coe.c CoeC.z | exact .nil | apply Coe.tup | apply CoeA.cons)), rfl⟩
  have h0 : 0 < fr.length := by omega
  have HZ : Hid (folP all ⟨cl, fr, on⟩ = if fr[0] < 1 ∨ fr[0] > all.length then ([], 4) else folG all (fr.drop 1) (on.drop 0) (normL (all.getD (fr[0] - 1).toNat []))) := Lib.hid (folP_zero (s := ⟨cl, fr, on⟩) (by simp only; omega) h0)
  (repeat' (first | refine awp_block ?_ | ((first | refine awp_tk [] (by kernel_rfl) (fun K hK => ?_) | refine awp_dk [] mixed (by kernel_rfl) (by kernel_rfl) (fun K hK => ?_)); go_simp; (repeat (simp (disch := omega) only [dT, dF, nT, nF, wA, wB, wC, wD]; try go_simp)); (repeat (refine ⟨by (repeat' apply And.intro) <;> first | omega | trivial | assumption | decide, ?_⟩)); (first | (refine hK _ ?_; clear hK K) | (clear hK K; refine hK _ ?_; clear hK K) | (clear hK K; clear hK K; refine hK _ ?_; clear hK K) | (clear hK K; clear hK K; clear hK K; refine hK _ ?_; clear hK K))) | refine awp_ct rfl ?_ | refine awp_cf rfl ?_ | (first | (refine awp_skip (hK _ ?_); clear hK K) | (clear hK K; refine awp_skip (hK _ ?_); clear hK K) | (clear hK K; clear hK K; refine awp_skip (hK _ ?_); clear hK K) | (clear hK K; clear hK K; clear hK K; refine awp_skip (hK _ ?_); clear hK K)) | refine awp_seqk (fun K hK => ?_) | ((first | refine awp_t [] (by kernel_rfl) ?_ | refine awp_d [] mixed (by kernel_rfl) (by kernel_rfl) ?_); go_simp; (repeat (simp (disch := omega) only [dT, dF, nT, nF, wA, wB, wC, wD]; try go_simp)); (repeat (refine ⟨by (repeat' apply And.intro) <;> first | omega | trivial | assumption | decide, ?_⟩))) | (first | (refine hK _ ?_; clear hK K) | (clear hK K; refine hK _ ?_; clear hK K) | (clear hK K; clear hK K; refine hK _ ?_; clear hK K) | (clear hK K; clear hK K; clear hK K; refine hK _ ?_; clear hK K)) | (refine awp_exit ?_; simp only [thenA_exit, inBlk_exit, thenA_normal, inBlk_normal, ↓reduceIte, Nat.reduceEqDiff])))
  refine awp_lp (fun s => ∃ i : Nat, ∃ c : List Int, i ≤ fr.length ∧ (i = 0 → c = []) ∧ (∀ j, i = j + 1 → folP all ⟨cl, fr, on⟩ = folG all (fr.drop (j + 1)) (on.drop j) c) ∧ InB (i * M) c ∧ s = ⟨[(0, .c (.t (.s (all.map intsR)))), (3, .c (.ptr 3 0)), (6, .c (.t (.s (c.map intR)))), (26, .c (.t (.s (fr.map intR)))), (27, .c (.t (.v (.int .i64 fr.length)))), (28, .c (.t (.v (.int .i64 i))))], [(3, .var 42 [.t (.s (cl.map intR)), .t (.s (fr.map intR)), .t (.s (on.map intR))])]⟩) (fun s => fr.length - nat 28 s) _ ?_ ⟨0, [], Nat.zero_le _, fun _ => rfl, fun j h => (by omega), ⟨Nat.zero_le _, fun x hx => (by cases hx)⟩, rfl⟩ ?_
  · refine weak_w (by repeat' (first | exact trivial | exact Coe.refl _ | exact Coe.c CoeC.nil | apply And.intro)) (by repeat' (first | exact trivial | rfl | apply And.intro)) rfl rfl (by repeat' (first | exact trivial | (intro h; first | rfl | (exfalso; omega)) | apply And.intro))
  · rintro s R ⟨i, c, hi, hc0, hc1, hcb, rfl⟩ hR
    have HC := Lib.hid hc1
    have HCB := Lib.hid hcb
    clear hc1 hcb
    by_cases hlt : i < fr.length
    · have hkr := HFR.out fr[i] (List.getElem_mem hlt)
      obtain ⟨k, hk⟩ : ∃ k, fr[i] = k := ⟨_, rfl⟩
      rw [hk] at hkr
      by_cases k1 : k < 1
      · have HE : Hid (folP all ⟨cl, fr, on⟩ = ([], 4)) := Lib.hid (by
          rcases Nat.eq_zero_or_pos i with h | h
          · subst h; rw [HZ.out, if_pos (.inl (by rw [hk]; exact k1))]
          · obtain ⟨j, rfl⟩ : ∃ j, i = j + 1 := ⟨i - 1, by omega⟩
            rw [HC.out j rfl, folG_at hlt (by omega), if_pos (.inl (by rw [hk]; exact k1))])
        rw [HE.out]
        (repeat' (first | refine awp_block ?_ | ((first | refine awp_tk [] (by kernel_rfl) (fun K hK => ?_) | refine awp_dk [] mixed (by kernel_rfl) (by kernel_rfl) (fun K hK => ?_)); go_simp; (repeat (simp (disch := omega) only [dT, dF, nT, nF, wA, wB, wC, wD]; try go_simp)); (repeat (refine ⟨by (repeat' apply And.intro) <;> first | omega | trivial | assumption | decide, ?_⟩)); (first | (refine hK _ ?_; clear hK K) | (clear hK K; refine hK _ ?_; clear hK K) | (clear hK K; clear hK K; refine hK _ ?_; clear hK K) | (clear hK K; clear hK K; clear hK K; refine hK _ ?_; clear hK K))) | refine awp_ct rfl ?_ | refine awp_cf rfl ?_ | (first | (refine awp_skip (hK _ ?_); clear hK K) | (clear hK K; refine awp_skip (hK _ ?_); clear hK K) | (clear hK K; clear hK K; refine awp_skip (hK _ ?_); clear hK K) | (clear hK K; clear hK K; clear hK K; refine awp_skip (hK _ ?_); clear hK K)) | refine awp_seqk (fun K hK => ?_) | ((first | refine awp_t [] (by kernel_rfl) ?_ | refine awp_d [] mixed (by kernel_rfl) (by kernel_rfl) ?_); go_simp; (repeat (simp (disch := omega) only [dT, dF, nT, nF, wA, wB, wC, wD]; try go_simp)); (repeat (refine ⟨by (repeat' apply And.intro) <;> first | omega | trivial | assumption | decide, ?_⟩))) | (first | (refine hK _ ?_; clear hK K) | (clear hK K; refine hK _ ?_; clear hK K) | (clear hK K; clear hK K; refine hK _ ?_; clear hK K) | (clear hK K; clear hK K; clear hK K; refine hK _ ?_; clear hK K)) | (refine awp_exit ?_; simp only [thenA_exit, inBlk_exit, thenA_normal, inBlk_normal, ↓reduceIte, Nat.reduceEqDiff])))
        exact awp_ret ⟨_, (by repeat' (first | exact .nil | exact .tmp _ _ rfl | apply ResL.cons)), (by repeat' (first | exact Coe.refl _ | exact Coe.c CoeC.nil | exact Coe.c CoeC.z | exact .nil | apply Coe.tup | apply CoeA.cons)), rfl⟩
      by_cases k2 : k > all.length
      · have HE : Hid (folP all ⟨cl, fr, on⟩ = ([], 4)) := Lib.hid (by
          rcases Nat.eq_zero_or_pos i with h | h
          · subst h; rw [HZ.out, if_pos (.inr (by rw [hk]; exact k2))]
          · obtain ⟨j, rfl⟩ : ∃ j, i = j + 1 := ⟨i - 1, by omega⟩
            rw [HC.out j rfl, folG_at hlt (by omega), if_pos (.inr (by rw [hk]; exact k2))])
        rw [HE.out]
        (repeat' (first | refine awp_block ?_ | ((first | refine awp_tk [] (by kernel_rfl) (fun K hK => ?_) | refine awp_dk [] mixed (by kernel_rfl) (by kernel_rfl) (fun K hK => ?_)); go_simp; (repeat (simp (disch := omega) only [dT, dF, nT, nF, wA, wB, wC, wD]; try go_simp)); (repeat (refine ⟨by (repeat' apply And.intro) <;> first | omega | trivial | assumption | decide, ?_⟩)); (first | (refine hK _ ?_; clear hK K) | (clear hK K; refine hK _ ?_; clear hK K) | (clear hK K; clear hK K; refine hK _ ?_; clear hK K) | (clear hK K; clear hK K; clear hK K; refine hK _ ?_; clear hK K))) | refine awp_ct rfl ?_ | refine awp_cf rfl ?_ | (first | (refine awp_skip (hK _ ?_); clear hK K) | (clear hK K; refine awp_skip (hK _ ?_); clear hK K) | (clear hK K; clear hK K; refine awp_skip (hK _ ?_); clear hK K) | (clear hK K; clear hK K; clear hK K; refine awp_skip (hK _ ?_); clear hK K)) | refine awp_seqk (fun K hK => ?_) | ((first | refine awp_t [] (by kernel_rfl) ?_ | refine awp_d [] mixed (by kernel_rfl) (by kernel_rfl) ?_); go_simp; (repeat (simp (disch := omega) only [dT, dF, nT, nF, wA, wB, wC, wD]; try go_simp)); (repeat (refine ⟨by (repeat' apply And.intro) <;> first | omega | trivial | assumption | decide, ?_⟩))) | (first | (refine hK _ ?_; clear hK K) | (clear hK K; refine hK _ ?_; clear hK K) | (clear hK K; clear hK K; refine hK _ ?_; clear hK K) | (clear hK K; clear hK K; clear hK K; refine hK _ ?_; clear hK K)) | (refine awp_exit ?_; simp only [thenA_exit, inBlk_exit, thenA_normal, inBlk_normal, ↓reduceIte, Nat.reduceEqDiff])))
        exact awp_ret ⟨_, (by repeat' (first | exact .nil | exact .tmp _ _ rfl | apply ResL.cons)), (by repeat' (first | exact Coe.refl _ | exact Coe.c CoeC.nil | exact Coe.c CoeC.z | exact .nil | apply Coe.tup | apply CoeA.cons)), rfl⟩
      obtain ⟨m, rfl⟩ : ∃ m : Nat, k = (m : Int) + 1 := ⟨(k - 1).toNat, by omega⟩
      have em : ((m : Int) + 1 - 1).toNat = m := by omega
      have hk3 : m < all.length := by omega
      have hin := HALL.out all[m] (List.getElem_mem hk3)
      have hge : all.getD ((m : Int) + 1 - 1).toNat [] = all[m] := by rw [em, List.getD_eq_getElem?_getD, List.getElem?_eq_getElem hk3]; rfl
      obtain ⟨B, hB⟩ : ∃ B, all[m] = B := ⟨_, rfl⟩
      rw [hB] at hin hge
      have HIN := Lib.hid hin
      have HGE := Lib.hid hge
      have HIL : Hid (InL B) := Lib.hid ⟨by have := HIN.out.1; omega, HIN.out.2⟩
      clear hin hge
      rcases Nat.eq_zero_or_pos i with h | h
      · subst h
        (repeat' (first | refine awp_block ?_ | ((first | refine awp_tk [] (by kernel_rfl) (fun K hK => ?_) | refine awp_dk [] mixed (by kernel_rfl) (by kernel_rfl) (fun K hK => ?_)); go_simp; (repeat (simp (disch := omega) only [dT, dF, nT, nF, wA, wB, wC, wD]; try go_simp)); (repeat (refine ⟨by (repeat' apply And.intro) <;> first | omega | trivial | assumption | decide, ?_⟩)); (first | (refine hK _ ?_; clear hK K) | (clear hK K; refine hK _ ?_; clear hK K) | (clear hK K; clear hK K; refine hK _ ?_; clear hK K) | (clear hK K; clear hK K; clear hK K; refine hK _ ?_; clear hK K))) | refine awp_ct rfl ?_ | refine awp_cf rfl ?_ | (first | (refine awp_skip (hK _ ?_); clear hK K) | (clear hK K; refine awp_skip (hK _ ?_); clear hK K) | (clear hK K; clear hK K; refine awp_skip (hK _ ?_); clear hK K) | (clear hK K; clear hK K; clear hK K; refine awp_skip (hK _ ?_); clear hK K)) | refine awp_seqk (fun K hK => ?_) | ((first | refine awp_t [] (by kernel_rfl) ?_ | refine awp_d [] mixed (by kernel_rfl) (by kernel_rfl) ?_); go_simp; (repeat (simp (disch := omega) only [dT, dF, nT, nF, wA, wB, wC, wD]; try go_simp)); (repeat (refine ⟨by (repeat' apply And.intro) <;> first | omega | trivial | assumption | decide, ?_⟩))) | (first | (refine hK _ ?_; clear hK K) | (clear hK K; refine hK _ ?_; clear hK K) | (clear hK K; clear hK K; refine hK _ ?_; clear hK K) | (clear hK K; clear hK K; clear hK K; refine hK _ ?_; clear hK K)) | (refine awp_exit ?_; simp only [thenA_exit, inBlk_exit, thenA_normal, inBlk_normal, ↓reduceIte, Nat.reduceEqDiff])))
        refine callV (norm_fx B (by have := HIL.out.1; omega) HIL.out.big) rfl ?_
        go_simp
        (repeat (simp (disch := omega) only [dT, dF, nT, nF, wA, wB, wC, wD]; try go_simp))
        (repeat (refine ⟨by (repeat' apply And.intro) <;> first | omega | trivial | assumption | decide, ?_⟩))
        (repeat' (first | refine awp_block ?_ | ((first | refine awp_tk [] (by kernel_rfl) (fun K hK => ?_) | refine awp_dk [] mixed (by kernel_rfl) (by kernel_rfl) (fun K hK => ?_)); go_simp; (repeat (simp (disch := omega) only [dT, dF, nT, nF, wA, wB, wC, wD]; try go_simp)); (repeat (refine ⟨by (repeat' apply And.intro) <;> first | omega | trivial | assumption | decide, ?_⟩)); (first | (refine hK _ ?_; clear hK K) | (clear hK K; refine hK _ ?_; clear hK K) | (clear hK K; clear hK K; refine hK _ ?_; clear hK K) | (clear hK K; clear hK K; clear hK K; refine hK _ ?_; clear hK K))) | refine awp_ct rfl ?_ | refine awp_cf rfl ?_ | (first | (refine awp_skip (hK _ ?_); clear hK K) | (clear hK K; refine awp_skip (hK _ ?_); clear hK K) | (clear hK K; clear hK K; refine awp_skip (hK _ ?_); clear hK K) | (clear hK K; clear hK K; clear hK K; refine awp_skip (hK _ ?_); clear hK K)) | refine awp_seqk (fun K hK => ?_) | ((first | refine awp_t [] (by kernel_rfl) ?_ | refine awp_d [] mixed (by kernel_rfl) (by kernel_rfl) ?_); go_simp; (repeat (simp (disch := omega) only [dT, dF, nT, nF, wA, wB, wC, wD]; try go_simp)); (repeat (refine ⟨by (repeat' apply And.intro) <;> first | omega | trivial | assumption | decide, ?_⟩))) | (first | (refine hK _ ?_; clear hK K) | (clear hK K; refine hK _ ?_; clear hK K) | (clear hK K; clear hK K; refine hK _ ?_; clear hK K) | (clear hK K; clear hK K; clear hK K; refine hK _ ?_; clear hK K)) | (refine awp_exit ?_; simp only [thenA_exit, inBlk_exit, thenA_normal, inBlk_normal, ↓reduceIte, Nat.reduceEqDiff])))
        refine hR _ _ ?_ ⟨1, normL B, by omega, fun h => (by omega), fun j hj => ?_, ?_, rfl⟩ ?_
        · refine weak_w (by repeat' (first | exact trivial | exact Coe.refl _ | exact Coe.c CoeC.nil | apply And.intro)) (by repeat' (first | exact trivial | rfl | apply And.intro)) rfl rfl (by repeat' (first | exact trivial | (intro h; first | rfl | (exfalso; omega)) | apply And.intro))
        · obtain rfl : j = 0 := by omega
          rw [HZ.out, if_neg (by rw [hk]; omega), hk, HGE.out]
        · exact ⟨by have := normL_len B; have := HIN.out.1; omega, lits_norm HIN.out.2⟩
        · simp [nat, sget]; omega
      · obtain ⟨j, rfl⟩ : ∃ j, i = j + 1 := ⟨i - 1, by omega⟩
        have hj : j < on.length := by omega
        have hv := HON.out on[j] (List.getElem_mem hj)
        obtain ⟨v, hvv⟩ : ∃ v, on[j] = v := ⟨_, rfl⟩
        rw [hvv] at hv
        have HV := Lib.hid hv
        have HST := Lib.hid (HC.out j rfl)
        have HG := Lib.hid (folG_at (all := all) (fr := fr) (on := on) (c := c) hlt hj)
        have HL : Hid (InL c) := Lib.hid ⟨by
          have h1 := HCB.out.1
          have h2 := HM.out
          have h3 : (j + 1) * M ≤ (fr.length + 1) * M := Nat.mul_le_mul_right _ (by omega)
          omega, HCB.out.2⟩
        have hjr := joinP_range c B v
        clear hv
        by_cases he : (joinP c B v).2 = 0
        · (repeat' (first | refine awp_block ?_ | ((first | refine awp_tk [] (by kernel_rfl) (fun K hK => ?_) | refine awp_dk [] mixed (by kernel_rfl) (by kernel_rfl) (fun K hK => ?_)); go_simp; (repeat (simp (disch := omega) only [dT, dF, nT, nF, wA, wB, wC, wD]; try go_simp)); (repeat (refine ⟨by (repeat' apply And.intro) <;> first | omega | trivial | assumption | decide, ?_⟩)); (first | (refine hK _ ?_; clear hK K) | (clear hK K; refine hK _ ?_; clear hK K) | (clear hK K; clear hK K; refine hK _ ?_; clear hK K) | (clear hK K; clear hK K; clear hK K; refine hK _ ?_; clear hK K))) | refine awp_ct rfl ?_ | refine awp_cf rfl ?_ | (first | (refine awp_skip (hK _ ?_); clear hK K) | (clear hK K; refine awp_skip (hK _ ?_); clear hK K) | (clear hK K; clear hK K; refine awp_skip (hK _ ?_); clear hK K) | (clear hK K; clear hK K; clear hK K; refine awp_skip (hK _ ?_); clear hK K)) | refine awp_seqk (fun K hK => ?_) | ((first | refine awp_t [] (by kernel_rfl) ?_ | refine awp_d [] mixed (by kernel_rfl) (by kernel_rfl) ?_); go_simp; (repeat (simp (disch := omega) only [dT, dF, nT, nF, wA, wB, wC, wD]; try go_simp)); (repeat (refine ⟨by (repeat' apply And.intro) <;> first | omega | trivial | assumption | decide, ?_⟩))) | (first | (refine hK _ ?_; clear hK K) | (clear hK K; refine hK _ ?_; clear hK K) | (clear hK K; clear hK K; refine hK _ ?_; clear hK K) | (clear hK K; clear hK K; clear hK K; refine hK _ ?_; clear hK K)) | (refine awp_exit ?_; simp only [thenA_exit, inBlk_exit, thenA_normal, inBlk_normal, ↓reduceIte, Nat.reduceEqDiff])))
          refine callV (join_fx c B v HL.out HIL.out HV.out) rfl ?_
          go_simp
          (repeat (simp (disch := omega) only [dT, dF, nT, nF, wA, wB, wC, wD]; try go_simp))
          (repeat (refine ⟨by (repeat' apply And.intro) <;> first | omega | trivial | assumption | decide, ?_⟩))
          (repeat' (first | refine awp_block ?_ | ((first | refine awp_tk [] (by kernel_rfl) (fun K hK => ?_) | refine awp_dk [] mixed (by kernel_rfl) (by kernel_rfl) (fun K hK => ?_)); go_simp; (repeat (simp (disch := omega) only [dT, dF, nT, nF, wA, wB, wC, wD]; try go_simp)); (repeat (refine ⟨by (repeat' apply And.intro) <;> first | omega | trivial | assumption | decide, ?_⟩)); (first | (refine hK _ ?_; clear hK K) | (clear hK K; refine hK _ ?_; clear hK K) | (clear hK K; clear hK K; refine hK _ ?_; clear hK K) | (clear hK K; clear hK K; clear hK K; refine hK _ ?_; clear hK K))) | refine awp_ct rfl ?_ | refine awp_cf rfl ?_ | (first | (refine awp_skip (hK _ ?_); clear hK K) | (clear hK K; refine awp_skip (hK _ ?_); clear hK K) | (clear hK K; clear hK K; refine awp_skip (hK _ ?_); clear hK K) | (clear hK K; clear hK K; clear hK K; refine awp_skip (hK _ ?_); clear hK K)) | refine awp_seqk (fun K hK => ?_) | ((first | refine awp_t [] (by kernel_rfl) ?_ | refine awp_d [] mixed (by kernel_rfl) (by kernel_rfl) ?_); go_simp; (repeat (simp (disch := omega) only [dT, dF, nT, nF, wA, wB, wC, wD]; try go_simp)); (repeat (refine ⟨by (repeat' apply And.intro) <;> first | omega | trivial | assumption | decide, ?_⟩))) | (first | (refine hK _ ?_; clear hK K) | (clear hK K; refine hK _ ?_; clear hK K) | (clear hK K; clear hK K; refine hK _ ?_; clear hK K) | (clear hK K; clear hK K; clear hK K; refine hK _ ?_; clear hK K)) | (refine awp_exit ?_; simp only [thenA_exit, inBlk_exit, thenA_normal, inBlk_normal, ↓reduceIte, Nat.reduceEqDiff])))
          refine hR _ _ ?_ ⟨j + 2, (joinP c B v).1, by omega, fun h => (by omega), fun q hq => ?_, ?_, rfl⟩ ?_
          · refine weak_w (by repeat' (first | exact trivial | exact Coe.refl _ | exact Coe.c CoeC.nil | apply And.intro)) (by repeat' (first | exact trivial | rfl | apply And.intro)) rfl rfl (by repeat' (first | exact trivial | (intro h; first | rfl | (exfalso; omega)) | apply And.intro))
          · obtain rfl : q = j + 1 := by omega
            rw [HST.out, HG.out, if_neg (by rw [hk]; omega), hk, HGE.out, hvv, if_neg (by omega)]
          · have h1 := joinP_in (v := v) HCB.out HIN.out
            have e1 : (j + 2) * M = (j + 1) * M + M := by rw [Nat.add_mul (j + 1) 1 M, Nat.one_mul]
            rw [e1]; exact h1
          · simp [nat, sget]; omega
        · (repeat' (first | refine awp_block ?_ | ((first | refine awp_tk [] (by kernel_rfl) (fun K hK => ?_) | refine awp_dk [] mixed (by kernel_rfl) (by kernel_rfl) (fun K hK => ?_)); go_simp; (repeat (simp (disch := omega) only [dT, dF, nT, nF, wA, wB, wC, wD]; try go_simp)); (repeat (refine ⟨by (repeat' apply And.intro) <;> first | omega | trivial | assumption | decide, ?_⟩)); (first | (refine hK _ ?_; clear hK K) | (clear hK K; refine hK _ ?_; clear hK K) | (clear hK K; clear hK K; refine hK _ ?_; clear hK K) | (clear hK K; clear hK K; clear hK K; refine hK _ ?_; clear hK K))) | refine awp_ct rfl ?_ | refine awp_cf rfl ?_ | (first | (refine awp_skip (hK _ ?_); clear hK K) | (clear hK K; refine awp_skip (hK _ ?_); clear hK K) | (clear hK K; clear hK K; refine awp_skip (hK _ ?_); clear hK K) | (clear hK K; clear hK K; clear hK K; refine awp_skip (hK _ ?_); clear hK K)) | refine awp_seqk (fun K hK => ?_) | ((first | refine awp_t [] (by kernel_rfl) ?_ | refine awp_d [] mixed (by kernel_rfl) (by kernel_rfl) ?_); go_simp; (repeat (simp (disch := omega) only [dT, dF, nT, nF, wA, wB, wC, wD]; try go_simp)); (repeat (refine ⟨by (repeat' apply And.intro) <;> first | omega | trivial | assumption | decide, ?_⟩))) | (first | (refine hK _ ?_; clear hK K) | (clear hK K; refine hK _ ?_; clear hK K) | (clear hK K; clear hK K; refine hK _ ?_; clear hK K) | (clear hK K; clear hK K; clear hK K; refine hK _ ?_; clear hK K)) | (refine awp_exit ?_; simp only [thenA_exit, inBlk_exit, thenA_normal, inBlk_normal, ↓reduceIte, Nat.reduceEqDiff])))
          refine callV (join_fx c B v HL.out HIL.out HV.out) rfl ?_
          go_simp
          (repeat (simp (disch := omega) only [dT, dF, nT, nF, wA, wB, wC, wD]; try go_simp))
          (repeat (refine ⟨by (repeat' apply And.intro) <;> first | omega | trivial | assumption | decide, ?_⟩))
          (repeat' (first | refine awp_block ?_ | ((first | refine awp_tk [] (by kernel_rfl) (fun K hK => ?_) | refine awp_dk [] mixed (by kernel_rfl) (by kernel_rfl) (fun K hK => ?_)); go_simp; (repeat (simp (disch := omega) only [dT, dF, nT, nF, wA, wB, wC, wD]; try go_simp)); (repeat (refine ⟨by (repeat' apply And.intro) <;> first | omega | trivial | assumption | decide, ?_⟩)); (first | (refine hK _ ?_; clear hK K) | (clear hK K; refine hK _ ?_; clear hK K) | (clear hK K; clear hK K; refine hK _ ?_; clear hK K) | (clear hK K; clear hK K; clear hK K; refine hK _ ?_; clear hK K))) | refine awp_ct rfl ?_ | refine awp_cf rfl ?_ | (first | (refine awp_skip (hK _ ?_); clear hK K) | (clear hK K; refine awp_skip (hK _ ?_); clear hK K) | (clear hK K; clear hK K; refine awp_skip (hK _ ?_); clear hK K) | (clear hK K; clear hK K; clear hK K; refine awp_skip (hK _ ?_); clear hK K)) | refine awp_seqk (fun K hK => ?_) | ((first | refine awp_t [] (by kernel_rfl) ?_ | refine awp_d [] mixed (by kernel_rfl) (by kernel_rfl) ?_); go_simp; (repeat (simp (disch := omega) only [dT, dF, nT, nF, wA, wB, wC, wD]; try go_simp)); (repeat (refine ⟨by (repeat' apply And.intro) <;> first | omega | trivial | assumption | decide, ?_⟩))) | (first | (refine hK _ ?_; clear hK K) | (clear hK K; refine hK _ ?_; clear hK K) | (clear hK K; clear hK K; refine hK _ ?_; clear hK K) | (clear hK K; clear hK K; clear hK K; refine hK _ ?_; clear hK K)) | (refine awp_exit ?_; simp only [thenA_exit, inBlk_exit, thenA_normal, inBlk_normal, ↓reduceIte, Nat.reduceEqDiff])))
          have HE : Hid (folP all ⟨cl, fr, on⟩ = ([], (joinP c B v).2)) := Lib.hid (by rw [HST.out, HG.out, if_neg (by rw [hk]; omega), hk, HGE.out, hvv, if_pos he])
          rw [HE.out]
          exact awp_ret ⟨_, (by repeat' (first | exact .nil | exact .tmp _ _ rfl | apply ResL.cons)), (by repeat' (first | exact Coe.refl _ | exact Coe.c CoeC.nil | exact Coe.c CoeC.z | exact .nil | apply Coe.tup | apply CoeA.cons)), rfl⟩
    · have hi2 : i = fr.length := by omega
      subst hi2
      obtain ⟨j, hj⟩ : ∃ j, fr.length = j + 1 := ⟨fr.length - 1, by omega⟩
      have HE : Hid (folP all ⟨cl, fr, on⟩ = (c, 0)) := Lib.hid (by rw [HC.out j hj, folG_end _ _ _ _ _ (by omega)])
      clear hj
      (repeat' (first | refine awp_block ?_ | ((first | refine awp_tk [] (by kernel_rfl) (fun K hK => ?_) | refine awp_dk [] mixed (by kernel_rfl) (by kernel_rfl) (fun K hK => ?_)); go_simp; (repeat (simp (disch := omega) only [dT, dF, nT, nF, wA, wB, wC, wD]; try go_simp)); (repeat (refine ⟨by (repeat' apply And.intro) <;> first | omega | trivial | assumption | decide, ?_⟩)); (first | (refine hK _ ?_; clear hK K) | (clear hK K; refine hK _ ?_; clear hK K) | (clear hK K; clear hK K; refine hK _ ?_; clear hK K) | (clear hK K; clear hK K; clear hK K; refine hK _ ?_; clear hK K))) | refine awp_ct rfl ?_ | refine awp_cf rfl ?_ | (first | (refine awp_skip (hK _ ?_); clear hK K) | (clear hK K; refine awp_skip (hK _ ?_); clear hK K) | (clear hK K; clear hK K; refine awp_skip (hK _ ?_); clear hK K) | (clear hK K; clear hK K; clear hK K; refine awp_skip (hK _ ?_); clear hK K)) | refine awp_seqk (fun K hK => ?_) | ((first | refine awp_t [] (by kernel_rfl) ?_ | refine awp_d [] mixed (by kernel_rfl) (by kernel_rfl) ?_); go_simp; (repeat (simp (disch := omega) only [dT, dF, nT, nF, wA, wB, wC, wD]; try go_simp)); (repeat (refine ⟨by (repeat' apply And.intro) <;> first | omega | trivial | assumption | decide, ?_⟩))) | (first | (refine hK _ ?_; clear hK K) | (clear hK K; refine hK _ ?_; clear hK K) | (clear hK K; clear hK K; refine hK _ ?_; clear hK K) | (clear hK K; clear hK K; clear hK K; refine hK _ ?_; clear hK K)) | (refine awp_exit ?_; simp only [thenA_exit, inBlk_exit, thenA_normal, inBlk_normal, ↓reduceIte, Nat.reduceEqDiff])))
      rw [HE.out]
      exact awp_ret ⟨_, (by repeat' (first | exact .nil | exact .tmp _ _ rfl | apply ResL.cons)), (by repeat' (first | exact Coe.refl _ | exact Coe.c CoeC.nil | exact Coe.c CoeC.z | exact .nil | apply Coe.tup | apply CoeA.cons)), rfl⟩
set_option maxHeartbeats 4000000 in
theorem follow_fo (M : Nat) (all : List (List Int)) (s : StepD) (hall : ∀ c ∈ all, InB M c) (hal : all.length ≤ 1000000) (hfr : InR64 s.fr) (hon : ∀ v ∈ s.on, -9223372036854775807 ≤ v ∧ v ≤ 9223372036854775807) (hM : (s.fr.length + 1) * M ≤ 100000) (hf1 : s.fr.length ≤ 1000000) (hf2 : s.on.length ≤ 1000000) (hM1 : M ≤ 1000) :
    FxCall Try.prog 26 [.c (.own 1000 all.length), .agg [.t (.s (s.cl.map intR)), .t (.s (s.fr.map intR)), .t (.s (s.on.map intR))]] [(1000, .row 27 1 (all.map intsR))] (pairV (folP all s)) [(1000, .row 27 1 (all.map intsR))] := by
  refine fx_call 71 Try.func26 rfl rfl rfl (fun hlen => ?_)
  clear hlen
  have HALL := Lib.hid hall
  have HM := Lib.hid hM
  have HON := Lib.hid hon
  have HFR := Lib.hid hfr
  clear hall hM hon hfr
  obtain ⟨cl, fr, on⟩ := s
  simp only at hf1 hf2 HM HON HFR ⊢
  by_cases h1 : fr.length < 1
  · have e : folP all ⟨cl, fr, on⟩ = ([], 9) := by unfold folP; rw [if_pos (.inl h1)]
    rw [e]
    (repeat' (first | refine awp_block ?_ | ((first | refine awp_tk [] (by kernel_rfl) (fun K hK => ?_) | refine awp_dk [] mixed (by kernel_rfl) (by kernel_rfl) (fun K hK => ?_)); go_simp; (repeat (simp (disch := omega) only [dT, dF, nT, nF, wA, wB, wC, wD]; try go_simp)); (repeat (refine ⟨by (repeat' apply And.intro) <;> first | omega | trivial | assumption | decide, ?_⟩)); (first | (refine hK _ ?_; clear hK K) | (clear hK K; refine hK _ ?_; clear hK K) | (clear hK K; clear hK K; refine hK _ ?_; clear hK K) | (clear hK K; clear hK K; clear hK K; refine hK _ ?_; clear hK K))) | refine awp_ct rfl ?_ | refine awp_cf rfl ?_ | (first | (refine awp_skip (hK _ ?_); clear hK K) | (clear hK K; refine awp_skip (hK _ ?_); clear hK K) | (clear hK K; clear hK K; refine awp_skip (hK _ ?_); clear hK K) | (clear hK K; clear hK K; clear hK K; refine awp_skip (hK _ ?_); clear hK K)) | refine awp_seqk (fun K hK => ?_) | ((first | refine awp_t [] (by kernel_rfl) ?_ | refine awp_d [] mixed (by kernel_rfl) (by kernel_rfl) ?_); go_simp; (repeat (simp (disch := omega) only [dT, dF, nT, nF, wA, wB, wC, wD]; try go_simp)); (repeat (refine ⟨by (repeat' apply And.intro) <;> first | omega | trivial | assumption | decide, ?_⟩))) | (first | (refine hK _ ?_; clear hK K) | (clear hK K; refine hK _ ?_; clear hK K) | (clear hK K; clear hK K; refine hK _ ?_; clear hK K) | (clear hK K; clear hK K; clear hK K; refine hK _ ?_; clear hK K)) | (refine awp_exit ?_; simp only [thenA_exit, inBlk_exit, thenA_normal, inBlk_normal, ↓reduceIte, Nat.reduceEqDiff])))
    exact awp_ret ⟨_, (by repeat' (first | exact .nil | exact .tmp _ _ rfl | apply ResL.cons)), (by repeat' (first | exact Coe.refl _ | exact Coe.c CoeC.nil | exact Coe.c CoeC.z | exact .nil | apply Coe.tup | apply CoeA.cons)), rfl, (by repeat' (first | exact List.forall_mem_nil _ | (refine List.forall_mem_cons.2 ⟨rfl, ?_⟩))), rfl, (by repeat' (first | exact trivial | (intro h; first | rfl | (exfalso; omega)) | apply And.intro))⟩
  by_cases h2 : on.length ≠ fr.length - 1
  · have e : folP all ⟨cl, fr, on⟩ = ([], 9) := by unfold folP; rw [if_pos (.inr h2)]
    rw [e]
    (repeat' (first | refine awp_block ?_ | ((first | refine awp_tk [] (by kernel_rfl) (fun K hK => ?_) | refine awp_dk [] mixed (by kernel_rfl) (by kernel_rfl) (fun K hK => ?_)); go_simp; (repeat (simp (disch := omega) only [dT, dF, nT, nF, wA, wB, wC, wD]; try go_simp)); (repeat (refine ⟨by (repeat' apply And.intro) <;> first | omega | trivial | assumption | decide, ?_⟩)); (first | (refine hK _ ?_; clear hK K) | (clear hK K; refine hK _ ?_; clear hK K) | (clear hK K; clear hK K; refine hK _ ?_; clear hK K) | (clear hK K; clear hK K; clear hK K; refine hK _ ?_; clear hK K))) | refine awp_ct rfl ?_ | refine awp_cf rfl ?_ | (first | (refine awp_skip (hK _ ?_); clear hK K) | (clear hK K; refine awp_skip (hK _ ?_); clear hK K) | (clear hK K; clear hK K; refine awp_skip (hK _ ?_); clear hK K) | (clear hK K; clear hK K; clear hK K; refine awp_skip (hK _ ?_); clear hK K)) | refine awp_seqk (fun K hK => ?_) | ((first | refine awp_t [] (by kernel_rfl) ?_ | refine awp_d [] mixed (by kernel_rfl) (by kernel_rfl) ?_); go_simp; (repeat (simp (disch := omega) only [dT, dF, nT, nF, wA, wB, wC, wD]; try go_simp)); (repeat (refine ⟨by (repeat' apply And.intro) <;> first | omega | trivial | assumption | decide, ?_⟩))) | (first | (refine hK _ ?_; clear hK K) | (clear hK K; refine hK _ ?_; clear hK K) | (clear hK K; clear hK K; refine hK _ ?_; clear hK K) | (clear hK K; clear hK K; clear hK K; refine hK _ ?_; clear hK K)) | (refine awp_exit ?_; simp only [thenA_exit, inBlk_exit, thenA_normal, inBlk_normal, ↓reduceIte, Nat.reduceEqDiff])))
    exact awp_ret ⟨_, (by repeat' (first | exact .nil | exact .tmp _ _ rfl | apply ResL.cons)), (by repeat' (first | exact Coe.refl _ | exact Coe.c CoeC.nil | exact Coe.c CoeC.z | exact .nil | apply Coe.tup | apply CoeA.cons)), rfl, (by repeat' (first | exact List.forall_mem_nil _ | (refine List.forall_mem_cons.2 ⟨rfl, ?_⟩))), rfl, (by repeat' (first | exact trivial | (intro h; first | rfl | (exfalso; omega)) | apply And.intro))⟩
  have h0 : 0 < fr.length := by omega
  have HZ : Hid (folP all ⟨cl, fr, on⟩ = if fr[0] < 1 ∨ fr[0] > all.length then ([], 4) else folG all (fr.drop 1) (on.drop 0) (normL (all.getD (fr[0] - 1).toNat []))) := Lib.hid (folP_zero (s := ⟨cl, fr, on⟩) (by simp only; omega) h0)
  (repeat' (first | refine awp_block ?_ | ((first | refine awp_tk [] (by kernel_rfl) (fun K hK => ?_) | refine awp_dk [] mixed (by kernel_rfl) (by kernel_rfl) (fun K hK => ?_)); go_simp; (repeat (simp (disch := omega) only [dT, dF, nT, nF, wA, wB, wC, wD]; try go_simp)); (repeat (refine ⟨by (repeat' apply And.intro) <;> first | omega | trivial | assumption | decide, ?_⟩)); (first | (refine hK _ ?_; clear hK K) | (clear hK K; refine hK _ ?_; clear hK K) | (clear hK K; clear hK K; refine hK _ ?_; clear hK K) | (clear hK K; clear hK K; clear hK K; refine hK _ ?_; clear hK K))) | refine awp_ct rfl ?_ | refine awp_cf rfl ?_ | (first | (refine awp_skip (hK _ ?_); clear hK K) | (clear hK K; refine awp_skip (hK _ ?_); clear hK K) | (clear hK K; clear hK K; refine awp_skip (hK _ ?_); clear hK K) | (clear hK K; clear hK K; clear hK K; refine awp_skip (hK _ ?_); clear hK K)) | refine awp_seqk (fun K hK => ?_) | ((first | refine awp_t [] (by kernel_rfl) ?_ | refine awp_d [] mixed (by kernel_rfl) (by kernel_rfl) ?_); go_simp; (repeat (simp (disch := omega) only [dT, dF, nT, nF, wA, wB, wC, wD]; try go_simp)); (repeat (refine ⟨by (repeat' apply And.intro) <;> first | omega | trivial | assumption | decide, ?_⟩))) | (first | (refine hK _ ?_; clear hK K) | (clear hK K; refine hK _ ?_; clear hK K) | (clear hK K; clear hK K; refine hK _ ?_; clear hK K) | (clear hK K; clear hK K; clear hK K; refine hK _ ?_; clear hK K)) | (refine awp_exit ?_; simp only [thenA_exit, inBlk_exit, thenA_normal, inBlk_normal, ↓reduceIte, Nat.reduceEqDiff])))
  refine awp_lp (fun s => ∃ i : Nat, ∃ c : List Int, i ≤ fr.length ∧ (i = 0 → c = []) ∧ (∀ j, i = j + 1 → folP all ⟨cl, fr, on⟩ = folG all (fr.drop (j + 1)) (on.drop j) c) ∧ InB (i * M) c ∧ s = ⟨[(0, .c (.own 1000 all.length)), (3, .c (.ptr 3 0)), (6, .c (.t (.s (c.map intR)))), (26, .c (.t (.s (fr.map intR)))), (27, .c (.t (.v (.int .i64 fr.length)))), (28, .c (.t (.v (.int .i64 i))))], [(3, .var 42 [.t (.s (cl.map intR)), .t (.s (fr.map intR)), .t (.s (on.map intR))]), (1000, .row 27 1 (all.map intsR))]⟩) (fun s => fr.length - nat 28 s) _ ?_ ⟨0, [], Nat.zero_le _, fun _ => rfl, fun j h => (by omega), ⟨Nat.zero_le _, fun x hx => (by cases hx)⟩, rfl⟩ ?_
  · refine weak_w (by repeat' (first | exact trivial | exact Coe.refl _ | exact Coe.c CoeC.nil | apply And.intro)) (by repeat' (first | exact trivial | rfl | apply And.intro)) rfl rfl (by repeat' (first | exact trivial | (intro h; first | rfl | (exfalso; omega)) | apply And.intro))
  · rintro s R ⟨i, c, hi, hc0, hc1, hcb, rfl⟩ hR
    have HC := Lib.hid hc1
    have HCB := Lib.hid hcb
    clear hc1 hcb
    by_cases hlt : i < fr.length
    · have hkr := HFR.out fr[i] (List.getElem_mem hlt)
      obtain ⟨k, hk⟩ : ∃ k, fr[i] = k := ⟨_, rfl⟩
      rw [hk] at hkr
      by_cases k1 : k < 1
      · have HE : Hid (folP all ⟨cl, fr, on⟩ = ([], 4)) := Lib.hid (by
          rcases Nat.eq_zero_or_pos i with h | h
          · subst h; rw [HZ.out, if_pos (.inl (by rw [hk]; exact k1))]
          · obtain ⟨j, rfl⟩ : ∃ j, i = j + 1 := ⟨i - 1, by omega⟩
            rw [HC.out j rfl, folG_at hlt (by omega), if_pos (.inl (by rw [hk]; exact k1))])
        rw [HE.out]
        (repeat' (first | refine awp_block ?_ | ((first | refine awp_tk [] (by kernel_rfl) (fun K hK => ?_) | refine awp_dk [] mixed (by kernel_rfl) (by kernel_rfl) (fun K hK => ?_)); go_simp; (repeat (simp (disch := omega) only [dT, dF, nT, nF, wA, wB, wC, wD]; try go_simp)); (repeat (refine ⟨by (repeat' apply And.intro) <;> first | omega | trivial | assumption | decide, ?_⟩)); (first | (refine hK _ ?_; clear hK K) | (clear hK K; refine hK _ ?_; clear hK K) | (clear hK K; clear hK K; refine hK _ ?_; clear hK K) | (clear hK K; clear hK K; clear hK K; refine hK _ ?_; clear hK K))) | refine awp_ct rfl ?_ | refine awp_cf rfl ?_ | (first | (refine awp_skip (hK _ ?_); clear hK K) | (clear hK K; refine awp_skip (hK _ ?_); clear hK K) | (clear hK K; clear hK K; refine awp_skip (hK _ ?_); clear hK K) | (clear hK K; clear hK K; clear hK K; refine awp_skip (hK _ ?_); clear hK K)) | refine awp_seqk (fun K hK => ?_) | ((first | refine awp_t [] (by kernel_rfl) ?_ | refine awp_d [] mixed (by kernel_rfl) (by kernel_rfl) ?_); go_simp; (repeat (simp (disch := omega) only [dT, dF, nT, nF, wA, wB, wC, wD]; try go_simp)); (repeat (refine ⟨by (repeat' apply And.intro) <;> first | omega | trivial | assumption | decide, ?_⟩))) | (first | (refine hK _ ?_; clear hK K) | (clear hK K; refine hK _ ?_; clear hK K) | (clear hK K; clear hK K; refine hK _ ?_; clear hK K) | (clear hK K; clear hK K; clear hK K; refine hK _ ?_; clear hK K)) | (refine awp_exit ?_; simp only [thenA_exit, inBlk_exit, thenA_normal, inBlk_normal, ↓reduceIte, Nat.reduceEqDiff])))
        exact awp_ret ⟨_, (by repeat' (first | exact .nil | exact .tmp _ _ rfl | apply ResL.cons)), (by repeat' (first | exact Coe.refl _ | exact Coe.c CoeC.nil | exact Coe.c CoeC.z | exact .nil | apply Coe.tup | apply CoeA.cons)), rfl, (by repeat' (first | exact List.forall_mem_nil _ | (refine List.forall_mem_cons.2 ⟨rfl, ?_⟩))), rfl, (by repeat' (first | exact trivial | (intro h; first | rfl | (exfalso; omega)) | apply And.intro))⟩
      by_cases k2 : k > all.length
      · have HE : Hid (folP all ⟨cl, fr, on⟩ = ([], 4)) := Lib.hid (by
          rcases Nat.eq_zero_or_pos i with h | h
          · subst h; rw [HZ.out, if_pos (.inr (by rw [hk]; exact k2))]
          · obtain ⟨j, rfl⟩ : ∃ j, i = j + 1 := ⟨i - 1, by omega⟩
            rw [HC.out j rfl, folG_at hlt (by omega), if_pos (.inr (by rw [hk]; exact k2))])
        rw [HE.out]
        (repeat' (first | refine awp_block ?_ | ((first | refine awp_tk [] (by kernel_rfl) (fun K hK => ?_) | refine awp_dk [] mixed (by kernel_rfl) (by kernel_rfl) (fun K hK => ?_)); go_simp; (repeat (simp (disch := omega) only [dT, dF, nT, nF, wA, wB, wC, wD]; try go_simp)); (repeat (refine ⟨by (repeat' apply And.intro) <;> first | omega | trivial | assumption | decide, ?_⟩)); (first | (refine hK _ ?_; clear hK K) | (clear hK K; refine hK _ ?_; clear hK K) | (clear hK K; clear hK K; refine hK _ ?_; clear hK K) | (clear hK K; clear hK K; clear hK K; refine hK _ ?_; clear hK K))) | refine awp_ct rfl ?_ | refine awp_cf rfl ?_ | (first | (refine awp_skip (hK _ ?_); clear hK K) | (clear hK K; refine awp_skip (hK _ ?_); clear hK K) | (clear hK K; clear hK K; refine awp_skip (hK _ ?_); clear hK K) | (clear hK K; clear hK K; clear hK K; refine awp_skip (hK _ ?_); clear hK K)) | refine awp_seqk (fun K hK => ?_) | ((first | refine awp_t [] (by kernel_rfl) ?_ | refine awp_d [] mixed (by kernel_rfl) (by kernel_rfl) ?_); go_simp; (repeat (simp (disch := omega) only [dT, dF, nT, nF, wA, wB, wC, wD]; try go_simp)); (repeat (refine ⟨by (repeat' apply And.intro) <;> first | omega | trivial | assumption | decide, ?_⟩))) | (first | (refine hK _ ?_; clear hK K) | (clear hK K; refine hK _ ?_; clear hK K) | (clear hK K; clear hK K; refine hK _ ?_; clear hK K) | (clear hK K; clear hK K; clear hK K; refine hK _ ?_; clear hK K)) | (refine awp_exit ?_; simp only [thenA_exit, inBlk_exit, thenA_normal, inBlk_normal, ↓reduceIte, Nat.reduceEqDiff])))
        exact awp_ret ⟨_, (by repeat' (first | exact .nil | exact .tmp _ _ rfl | apply ResL.cons)), (by repeat' (first | exact Coe.refl _ | exact Coe.c CoeC.nil | exact Coe.c CoeC.z | exact .nil | apply Coe.tup | apply CoeA.cons)), rfl, (by repeat' (first | exact List.forall_mem_nil _ | (refine List.forall_mem_cons.2 ⟨rfl, ?_⟩))), rfl, (by repeat' (first | exact trivial | (intro h; first | rfl | (exfalso; omega)) | apply And.intro))⟩
      obtain ⟨m, rfl⟩ : ∃ m : Nat, k = (m : Int) + 1 := ⟨(k - 1).toNat, by omega⟩
      have em : ((m : Int) + 1 - 1).toNat = m := by omega
      have hk3 : m < all.length := by omega
      have hin := HALL.out all[m] (List.getElem_mem hk3)
      have hge : all.getD ((m : Int) + 1 - 1).toNat [] = all[m] := by rw [em, List.getD_eq_getElem?_getD, List.getElem?_eq_getElem hk3]; rfl
      obtain ⟨B, hB⟩ : ∃ B, all[m] = B := ⟨_, rfl⟩
      rw [hB] at hin hge
      have HIN := Lib.hid hin
      have HGE := Lib.hid hge
      have HIL : Hid (InL B) := Lib.hid ⟨by have := HIN.out.1; omega, HIN.out.2⟩
      clear hin hge
      rcases Nat.eq_zero_or_pos i with h | h
      · subst h
        (repeat' (first | refine awp_block ?_ | ((first | refine awp_tk [] (by kernel_rfl) (fun K hK => ?_) | refine awp_dk [] mixed (by kernel_rfl) (by kernel_rfl) (fun K hK => ?_)); go_simp; (repeat (simp (disch := omega) only [dT, dF, nT, nF, wA, wB, wC, wD]; try go_simp)); (repeat (refine ⟨by (repeat' apply And.intro) <;> first | omega | trivial | assumption | decide, ?_⟩)); (first | (refine hK _ ?_; clear hK K) | (clear hK K; refine hK _ ?_; clear hK K) | (clear hK K; clear hK K; refine hK _ ?_; clear hK K) | (clear hK K; clear hK K; clear hK K; refine hK _ ?_; clear hK K))) | refine awp_ct rfl ?_ | refine awp_cf rfl ?_ | (first | (refine awp_skip (hK _ ?_); clear hK K) | (clear hK K; refine awp_skip (hK _ ?_); clear hK K) | (clear hK K; clear hK K; refine awp_skip (hK _ ?_); clear hK K) | (clear hK K; clear hK K; clear hK K; refine awp_skip (hK _ ?_); clear hK K)) | refine awp_seqk (fun K hK => ?_) | ((first | refine awp_t [] (by kernel_rfl) ?_ | refine awp_d [] mixed (by kernel_rfl) (by kernel_rfl) ?_); go_simp; (repeat (simp (disch := omega) only [dT, dF, nT, nF, wA, wB, wC, wD]; try go_simp)); (repeat (refine ⟨by (repeat' apply And.intro) <;> first | omega | trivial | assumption | decide, ?_⟩))) | (first | (refine hK _ ?_; clear hK K) | (clear hK K; refine hK _ ?_; clear hK K) | (clear hK K; clear hK K; refine hK _ ?_; clear hK K) | (clear hK K; clear hK K; clear hK K; refine hK _ ?_; clear hK K)) | (refine awp_exit ?_; simp only [thenA_exit, inBlk_exit, thenA_normal, inBlk_normal, ↓reduceIte, Nat.reduceEqDiff])))
        refine callV (norm_fx B (by have := HIL.out.1; omega) HIL.out.big) rfl ?_
        go_simp
        (repeat (simp (disch := omega) only [dT, dF, nT, nF, wA, wB, wC, wD]; try go_simp))
        (repeat (refine ⟨by (repeat' apply And.intro) <;> first | omega | trivial | assumption | decide, ?_⟩))
        (repeat' (first | refine awp_block ?_ | ((first | refine awp_tk [] (by kernel_rfl) (fun K hK => ?_) | refine awp_dk [] mixed (by kernel_rfl) (by kernel_rfl) (fun K hK => ?_)); go_simp; (repeat (simp (disch := omega) only [dT, dF, nT, nF, wA, wB, wC, wD]; try go_simp)); (repeat (refine ⟨by (repeat' apply And.intro) <;> first | omega | trivial | assumption | decide, ?_⟩)); (first | (refine hK _ ?_; clear hK K) | (clear hK K; refine hK _ ?_; clear hK K) | (clear hK K; clear hK K; refine hK _ ?_; clear hK K) | (clear hK K; clear hK K; clear hK K; refine hK _ ?_; clear hK K))) | refine awp_ct rfl ?_ | refine awp_cf rfl ?_ | (first | (refine awp_skip (hK _ ?_); clear hK K) | (clear hK K; refine awp_skip (hK _ ?_); clear hK K) | (clear hK K; clear hK K; refine awp_skip (hK _ ?_); clear hK K) | (clear hK K; clear hK K; clear hK K; refine awp_skip (hK _ ?_); clear hK K)) | refine awp_seqk (fun K hK => ?_) | ((first | refine awp_t [] (by kernel_rfl) ?_ | refine awp_d [] mixed (by kernel_rfl) (by kernel_rfl) ?_); go_simp; (repeat (simp (disch := omega) only [dT, dF, nT, nF, wA, wB, wC, wD]; try go_simp)); (repeat (refine ⟨by (repeat' apply And.intro) <;> first | omega | trivial | assumption | decide, ?_⟩))) | (first | (refine hK _ ?_; clear hK K) | (clear hK K; refine hK _ ?_; clear hK K) | (clear hK K; clear hK K; refine hK _ ?_; clear hK K) | (clear hK K; clear hK K; clear hK K; refine hK _ ?_; clear hK K)) | (refine awp_exit ?_; simp only [thenA_exit, inBlk_exit, thenA_normal, inBlk_normal, ↓reduceIte, Nat.reduceEqDiff])))
        refine hR _ _ ?_ ⟨1, normL B, by omega, fun h => (by omega), fun j hj => ?_, ?_, rfl⟩ ?_
        · refine weak_w (by repeat' (first | exact trivial | exact Coe.refl _ | exact Coe.c CoeC.nil | apply And.intro)) (by repeat' (first | exact trivial | rfl | apply And.intro)) rfl rfl (by repeat' (first | exact trivial | (intro h; first | rfl | (exfalso; omega)) | apply And.intro))
        · obtain rfl : j = 0 := by omega
          rw [HZ.out, if_neg (by rw [hk]; omega), hk, HGE.out]
        · exact ⟨by have := normL_len B; have := HIN.out.1; omega, lits_norm HIN.out.2⟩
        · simp [nat, sget]; omega
      · obtain ⟨j, rfl⟩ : ∃ j, i = j + 1 := ⟨i - 1, by omega⟩
        have hj : j < on.length := by omega
        have hv := HON.out on[j] (List.getElem_mem hj)
        obtain ⟨v, hvv⟩ : ∃ v, on[j] = v := ⟨_, rfl⟩
        rw [hvv] at hv
        have HV := Lib.hid hv
        have HST := Lib.hid (HC.out j rfl)
        have HG := Lib.hid (folG_at (all := all) (fr := fr) (on := on) (c := c) hlt hj)
        have HL : Hid (InL c) := Lib.hid ⟨by
          have h1 := HCB.out.1
          have h2 := HM.out
          have h3 : (j + 1) * M ≤ (fr.length + 1) * M := Nat.mul_le_mul_right _ (by omega)
          omega, HCB.out.2⟩
        have hjr := joinP_range c B v
        clear hv
        by_cases he : (joinP c B v).2 = 0
        · (repeat' (first | refine awp_block ?_ | ((first | refine awp_tk [] (by kernel_rfl) (fun K hK => ?_) | refine awp_dk [] mixed (by kernel_rfl) (by kernel_rfl) (fun K hK => ?_)); go_simp; (repeat (simp (disch := omega) only [dT, dF, nT, nF, wA, wB, wC, wD]; try go_simp)); (repeat (refine ⟨by (repeat' apply And.intro) <;> first | omega | trivial | assumption | decide, ?_⟩)); (first | (refine hK _ ?_; clear hK K) | (clear hK K; refine hK _ ?_; clear hK K) | (clear hK K; clear hK K; refine hK _ ?_; clear hK K) | (clear hK K; clear hK K; clear hK K; refine hK _ ?_; clear hK K))) | refine awp_ct rfl ?_ | refine awp_cf rfl ?_ | (first | (refine awp_skip (hK _ ?_); clear hK K) | (clear hK K; refine awp_skip (hK _ ?_); clear hK K) | (clear hK K; clear hK K; refine awp_skip (hK _ ?_); clear hK K) | (clear hK K; clear hK K; clear hK K; refine awp_skip (hK _ ?_); clear hK K)) | refine awp_seqk (fun K hK => ?_) | ((first | refine awp_t [] (by kernel_rfl) ?_ | refine awp_d [] mixed (by kernel_rfl) (by kernel_rfl) ?_); go_simp; (repeat (simp (disch := omega) only [dT, dF, nT, nF, wA, wB, wC, wD]; try go_simp)); (repeat (refine ⟨by (repeat' apply And.intro) <;> first | omega | trivial | assumption | decide, ?_⟩))) | (first | (refine hK _ ?_; clear hK K) | (clear hK K; refine hK _ ?_; clear hK K) | (clear hK K; clear hK K; refine hK _ ?_; clear hK K) | (clear hK K; clear hK K; clear hK K; refine hK _ ?_; clear hK K)) | (refine awp_exit ?_; simp only [thenA_exit, inBlk_exit, thenA_normal, inBlk_normal, ↓reduceIte, Nat.reduceEqDiff])))
          refine callV (join_fx c B v HL.out HIL.out HV.out) rfl ?_
          go_simp
          (repeat (simp (disch := omega) only [dT, dF, nT, nF, wA, wB, wC, wD]; try go_simp))
          (repeat (refine ⟨by (repeat' apply And.intro) <;> first | omega | trivial | assumption | decide, ?_⟩))
          (repeat' (first | refine awp_block ?_ | ((first | refine awp_tk [] (by kernel_rfl) (fun K hK => ?_) | refine awp_dk [] mixed (by kernel_rfl) (by kernel_rfl) (fun K hK => ?_)); go_simp; (repeat (simp (disch := omega) only [dT, dF, nT, nF, wA, wB, wC, wD]; try go_simp)); (repeat (refine ⟨by (repeat' apply And.intro) <;> first | omega | trivial | assumption | decide, ?_⟩)); (first | (refine hK _ ?_; clear hK K) | (clear hK K; refine hK _ ?_; clear hK K) | (clear hK K; clear hK K; refine hK _ ?_; clear hK K) | (clear hK K; clear hK K; clear hK K; refine hK _ ?_; clear hK K))) | refine awp_ct rfl ?_ | refine awp_cf rfl ?_ | (first | (refine awp_skip (hK _ ?_); clear hK K) | (clear hK K; refine awp_skip (hK _ ?_); clear hK K) | (clear hK K; clear hK K; refine awp_skip (hK _ ?_); clear hK K) | (clear hK K; clear hK K; clear hK K; refine awp_skip (hK _ ?_); clear hK K)) | refine awp_seqk (fun K hK => ?_) | ((first | refine awp_t [] (by kernel_rfl) ?_ | refine awp_d [] mixed (by kernel_rfl) (by kernel_rfl) ?_); go_simp; (repeat (simp (disch := omega) only [dT, dF, nT, nF, wA, wB, wC, wD]; try go_simp)); (repeat (refine ⟨by (repeat' apply And.intro) <;> first | omega | trivial | assumption | decide, ?_⟩))) | (first | (refine hK _ ?_; clear hK K) | (clear hK K; refine hK _ ?_; clear hK K) | (clear hK K; clear hK K; refine hK _ ?_; clear hK K) | (clear hK K; clear hK K; clear hK K; refine hK _ ?_; clear hK K)) | (refine awp_exit ?_; simp only [thenA_exit, inBlk_exit, thenA_normal, inBlk_normal, ↓reduceIte, Nat.reduceEqDiff])))
          refine hR _ _ ?_ ⟨j + 2, (joinP c B v).1, by omega, fun h => (by omega), fun q hq => ?_, ?_, rfl⟩ ?_
          · refine weak_w (by repeat' (first | exact trivial | exact Coe.refl _ | exact Coe.c CoeC.nil | apply And.intro)) (by repeat' (first | exact trivial | rfl | apply And.intro)) rfl rfl (by repeat' (first | exact trivial | (intro h; first | rfl | (exfalso; omega)) | apply And.intro))
          · obtain rfl : q = j + 1 := by omega
            rw [HST.out, HG.out, if_neg (by rw [hk]; omega), hk, HGE.out, hvv, if_neg (by omega)]
          · have h1 := joinP_in (v := v) HCB.out HIN.out
            have e1 : (j + 2) * M = (j + 1) * M + M := by rw [Nat.add_mul (j + 1) 1 M, Nat.one_mul]
            rw [e1]; exact h1
          · simp [nat, sget]; omega
        · (repeat' (first | refine awp_block ?_ | ((first | refine awp_tk [] (by kernel_rfl) (fun K hK => ?_) | refine awp_dk [] mixed (by kernel_rfl) (by kernel_rfl) (fun K hK => ?_)); go_simp; (repeat (simp (disch := omega) only [dT, dF, nT, nF, wA, wB, wC, wD]; try go_simp)); (repeat (refine ⟨by (repeat' apply And.intro) <;> first | omega | trivial | assumption | decide, ?_⟩)); (first | (refine hK _ ?_; clear hK K) | (clear hK K; refine hK _ ?_; clear hK K) | (clear hK K; clear hK K; refine hK _ ?_; clear hK K) | (clear hK K; clear hK K; clear hK K; refine hK _ ?_; clear hK K))) | refine awp_ct rfl ?_ | refine awp_cf rfl ?_ | (first | (refine awp_skip (hK _ ?_); clear hK K) | (clear hK K; refine awp_skip (hK _ ?_); clear hK K) | (clear hK K; clear hK K; refine awp_skip (hK _ ?_); clear hK K) | (clear hK K; clear hK K; clear hK K; refine awp_skip (hK _ ?_); clear hK K)) | refine awp_seqk (fun K hK => ?_) | ((first | refine awp_t [] (by kernel_rfl) ?_ | refine awp_d [] mixed (by kernel_rfl) (by kernel_rfl) ?_); go_simp; (repeat (simp (disch := omega) only [dT, dF, nT, nF, wA, wB, wC, wD]; try go_simp)); (repeat (refine ⟨by (repeat' apply And.intro) <;> first | omega | trivial | assumption | decide, ?_⟩))) | (first | (refine hK _ ?_; clear hK K) | (clear hK K; refine hK _ ?_; clear hK K) | (clear hK K; clear hK K; refine hK _ ?_; clear hK K) | (clear hK K; clear hK K; clear hK K; refine hK _ ?_; clear hK K)) | (refine awp_exit ?_; simp only [thenA_exit, inBlk_exit, thenA_normal, inBlk_normal, ↓reduceIte, Nat.reduceEqDiff])))
          refine callV (join_fx c B v HL.out HIL.out HV.out) rfl ?_
          go_simp
          (repeat (simp (disch := omega) only [dT, dF, nT, nF, wA, wB, wC, wD]; try go_simp))
          (repeat (refine ⟨by (repeat' apply And.intro) <;> first | omega | trivial | assumption | decide, ?_⟩))
          (repeat' (first | refine awp_block ?_ | ((first | refine awp_tk [] (by kernel_rfl) (fun K hK => ?_) | refine awp_dk [] mixed (by kernel_rfl) (by kernel_rfl) (fun K hK => ?_)); go_simp; (repeat (simp (disch := omega) only [dT, dF, nT, nF, wA, wB, wC, wD]; try go_simp)); (repeat (refine ⟨by (repeat' apply And.intro) <;> first | omega | trivial | assumption | decide, ?_⟩)); (first | (refine hK _ ?_; clear hK K) | (clear hK K; refine hK _ ?_; clear hK K) | (clear hK K; clear hK K; refine hK _ ?_; clear hK K) | (clear hK K; clear hK K; clear hK K; refine hK _ ?_; clear hK K))) | refine awp_ct rfl ?_ | refine awp_cf rfl ?_ | (first | (refine awp_skip (hK _ ?_); clear hK K) | (clear hK K; refine awp_skip (hK _ ?_); clear hK K) | (clear hK K; clear hK K; refine awp_skip (hK _ ?_); clear hK K) | (clear hK K; clear hK K; clear hK K; refine awp_skip (hK _ ?_); clear hK K)) | refine awp_seqk (fun K hK => ?_) | ((first | refine awp_t [] (by kernel_rfl) ?_ | refine awp_d [] mixed (by kernel_rfl) (by kernel_rfl) ?_); go_simp; (repeat (simp (disch := omega) only [dT, dF, nT, nF, wA, wB, wC, wD]; try go_simp)); (repeat (refine ⟨by (repeat' apply And.intro) <;> first | omega | trivial | assumption | decide, ?_⟩))) | (first | (refine hK _ ?_; clear hK K) | (clear hK K; refine hK _ ?_; clear hK K) | (clear hK K; clear hK K; refine hK _ ?_; clear hK K) | (clear hK K; clear hK K; clear hK K; refine hK _ ?_; clear hK K)) | (refine awp_exit ?_; simp only [thenA_exit, inBlk_exit, thenA_normal, inBlk_normal, ↓reduceIte, Nat.reduceEqDiff])))
          have HE : Hid (folP all ⟨cl, fr, on⟩ = ([], (joinP c B v).2)) := Lib.hid (by rw [HST.out, HG.out, if_neg (by rw [hk]; omega), hk, HGE.out, hvv, if_pos he])
          rw [HE.out]
          exact awp_ret ⟨_, (by repeat' (first | exact .nil | exact .tmp _ _ rfl | apply ResL.cons)), (by repeat' (first | exact Coe.refl _ | exact Coe.c CoeC.nil | exact Coe.c CoeC.z | exact .nil | apply Coe.tup | apply CoeA.cons)), rfl, (by repeat' (first | exact List.forall_mem_nil _ | (refine List.forall_mem_cons.2 ⟨rfl, ?_⟩))), rfl, (by repeat' (first | exact trivial | (intro h; first | rfl | (exfalso; omega)) | apply And.intro))⟩
    · have hi2 : i = fr.length := by omega
      subst hi2
      obtain ⟨j, hj⟩ : ∃ j, fr.length = j + 1 := ⟨fr.length - 1, by omega⟩
      have HE : Hid (folP all ⟨cl, fr, on⟩ = (c, 0)) := Lib.hid (by rw [HC.out j hj, folG_end _ _ _ _ _ (by omega)])
      clear hj
      (repeat' (first | refine awp_block ?_ | ((first | refine awp_tk [] (by kernel_rfl) (fun K hK => ?_) | refine awp_dk [] mixed (by kernel_rfl) (by kernel_rfl) (fun K hK => ?_)); go_simp; (repeat (simp (disch := omega) only [dT, dF, nT, nF, wA, wB, wC, wD]; try go_simp)); (repeat (refine ⟨by (repeat' apply And.intro) <;> first | omega | trivial | assumption | decide, ?_⟩)); (first | (refine hK _ ?_; clear hK K) | (clear hK K; refine hK _ ?_; clear hK K) | (clear hK K; clear hK K; refine hK _ ?_; clear hK K) | (clear hK K; clear hK K; clear hK K; refine hK _ ?_; clear hK K))) | refine awp_ct rfl ?_ | refine awp_cf rfl ?_ | (first | (refine awp_skip (hK _ ?_); clear hK K) | (clear hK K; refine awp_skip (hK _ ?_); clear hK K) | (clear hK K; clear hK K; refine awp_skip (hK _ ?_); clear hK K) | (clear hK K; clear hK K; clear hK K; refine awp_skip (hK _ ?_); clear hK K)) | refine awp_seqk (fun K hK => ?_) | ((first | refine awp_t [] (by kernel_rfl) ?_ | refine awp_d [] mixed (by kernel_rfl) (by kernel_rfl) ?_); go_simp; (repeat (simp (disch := omega) only [dT, dF, nT, nF, wA, wB, wC, wD]; try go_simp)); (repeat (refine ⟨by (repeat' apply And.intro) <;> first | omega | trivial | assumption | decide, ?_⟩))) | (first | (refine hK _ ?_; clear hK K) | (clear hK K; refine hK _ ?_; clear hK K) | (clear hK K; clear hK K; refine hK _ ?_; clear hK K) | (clear hK K; clear hK K; clear hK K; refine hK _ ?_; clear hK K)) | (refine awp_exit ?_; simp only [thenA_exit, inBlk_exit, thenA_normal, inBlk_normal, ↓reduceIte, Nat.reduceEqDiff])))
      rw [HE.out]
      exact awp_ret ⟨_, (by repeat' (first | exact .nil | exact .tmp _ _ rfl | apply ResL.cons)), (by repeat' (first | exact Coe.refl _ | exact Coe.c CoeC.nil | exact Coe.c CoeC.z | exact .nil | apply Coe.tup | apply CoeA.cons)), rfl, (by repeat' (first | exact List.forall_mem_nil _ | (refine List.forall_mem_cons.2 ⟨rfl, ?_⟩))), rfl, (by repeat' (first | exact trivial | (intro h; first | rfl | (exfalso; omega)) | apply And.intro))⟩
end Go.Proofs.Ytiimkhnngpfnbaa.Fx
/- Clone, Check, Equal, Ints on trees. -/
namespace Go.Proofs.Ytiimkhnngpfnbaa.Fx
open Go.RowKit
set_option linter.unusedVariables false
set_option linter.unusedSimpArgs false
set_option maxRecDepth 100000
theorem clone_call (rows : List (List T)) (h : ∀ r ∈ rows, r.length = 1) (hl : rows.length ≤ 1000000) : FxCall Try.prog 25 [.c (.t (.s rows))] [] (.c (.own 7 rows.length)) [(7, .row 27 1 rows)] := by
  refine fx_call 8 Try.func25 rfl rfl rfl (fun hlen => ?_)
  clear hlen
  cases rows with
  | nil =>
    (repeat' (first | refine awp_block ?_ | ((first | refine awp_tk [] (by kernel_rfl) (fun K hK => ?_) | refine awp_dk [] mixed (by kernel_rfl) (by kernel_rfl) (fun K hK => ?_)); go_simp; (repeat (simp (disch := omega) only [dT, dF, nT, nF, wA, wB, wC, wD]; try go_simp)); (repeat (refine ⟨by (repeat' apply And.intro) <;> first | omega | trivial | assumption | decide, ?_⟩)); (first | (refine hK _ ?_; clear hK K) | (clear hK K; refine hK _ ?_; clear hK K) | (clear hK K; clear hK K; refine hK _ ?_; clear hK K) | (clear hK K; clear hK K; clear hK K; refine hK _ ?_; clear hK K))) | refine awp_ct rfl ?_ | refine awp_cf rfl ?_ | (first | (refine awp_skip (hK _ ?_); clear hK K) | (clear hK K; refine awp_skip (hK _ ?_); clear hK K) | (clear hK K; clear hK K; refine awp_skip (hK _ ?_); clear hK K) | (clear hK K; clear hK K; clear hK K; refine awp_skip (hK _ ?_); clear hK K)) | refine awp_seqk (fun K hK => ?_) | ((first | refine awp_t [] (by kernel_rfl) ?_ | refine awp_d [] mixed (by kernel_rfl) (by kernel_rfl) ?_); go_simp; (repeat (simp (disch := omega) only [dT, dF, nT, nF, wA, wB, wC, wD]; try go_simp)); (repeat (refine ⟨by (repeat' apply And.intro) <;> first | omega | trivial | assumption | decide, ?_⟩))) | (first | (refine hK _ ?_; clear hK K) | (clear hK K; refine hK _ ?_; clear hK K) | (clear hK K; clear hK K; refine hK _ ?_; clear hK K) | (clear hK K; clear hK K; clear hK K; refine hK _ ?_; clear hK K)) | (refine awp_exit ?_; simp only [thenA_exit, inBlk_exit, thenA_normal, inBlk_normal, ↓reduceIte, Nat.reduceEqDiff])))
    refine awp_any2 rfl ?_ ?_
    · (repeat' (first | refine awp_block ?_ | ((first | refine awp_tk [] (by kernel_rfl) (fun K hK => ?_) | refine awp_dk [] mixed (by kernel_rfl) (by kernel_rfl) (fun K hK => ?_)); go_simp; (repeat (simp (disch := omega) only [dT, dF, nT, nF, wA, wB, wC, wD]; try go_simp)); (repeat (refine ⟨by (repeat' apply And.intro) <;> first | omega | trivial | assumption | decide, ?_⟩)); (first | (refine hK _ ?_; clear hK K) | (clear hK K; refine hK _ ?_; clear hK K) | (clear hK K; clear hK K; refine hK _ ?_; clear hK K) | (clear hK K; clear hK K; clear hK K; refine hK _ ?_; clear hK K))) | refine awp_ct rfl ?_ | refine awp_cf rfl ?_ | (first | (refine awp_skip (hK _ ?_); clear hK K) | (clear hK K; refine awp_skip (hK _ ?_); clear hK K) | (clear hK K; clear hK K; refine awp_skip (hK _ ?_); clear hK K) | (clear hK K; clear hK K; clear hK K; refine awp_skip (hK _ ?_); clear hK K)) | refine awp_seqk (fun K hK => ?_) | ((first | refine awp_t [] (by kernel_rfl) ?_ | refine awp_d [] mixed (by kernel_rfl) (by kernel_rfl) ?_); go_simp; (repeat (simp (disch := omega) only [dT, dF, nT, nF, wA, wB, wC, wD]; try go_simp)); (repeat (refine ⟨by (repeat' apply And.intro) <;> first | omega | trivial | assumption | decide, ?_⟩))) | (first | (refine hK _ ?_; clear hK K) | (clear hK K; refine hK _ ?_; clear hK K) | (clear hK K; clear hK K; refine hK _ ?_; clear hK K) | (clear hK K; clear hK K; clear hK K; refine hK _ ?_; clear hK K)) | (refine awp_exit ?_; simp only [thenA_exit, inBlk_exit, thenA_normal, inBlk_normal, ↓reduceIte, Nat.reduceEqDiff])))
      refine awp_weak (weak_adopt 2 7 27 1 (by decide) (.inl rfl) rfl) ?_
      exact awp_ret ⟨_, (by repeat' (first | exact .nil | exact .tmp _ _ rfl | apply ResL.cons)), (by repeat' (first | exact Coe.refl _ | exact Coe.c CoeC.nil | exact Coe.c CoeC.z | exact .nil | apply Coe.tup | apply CoeA.cons)), rfl, (by repeat' (first | exact List.forall_mem_nil _ | (refine List.forall_mem_cons.2 ⟨rfl, ?_⟩))), rfl, (by repeat' (first | exact trivial | (intro h; first | rfl | (exfalso; omega)) | apply And.intro))⟩
    · (repeat' (first | refine awp_block ?_ | ((first | refine awp_tk [] (by kernel_rfl) (fun K hK => ?_) | refine awp_dk [] mixed (by kernel_rfl) (by kernel_rfl) (fun K hK => ?_)); go_simp; (repeat (simp (disch := omega) only [dT, dF, nT, nF, wA, wB, wC, wD]; try go_simp)); (repeat (refine ⟨by (repeat' apply And.intro) <;> first | omega | trivial | assumption | decide, ?_⟩)); (first | (refine hK _ ?_; clear hK K) | (clear hK K; refine hK _ ?_; clear hK K) | (clear hK K; clear hK K; refine hK _ ?_; clear hK K) | (clear hK K; clear hK K; clear hK K; refine hK _ ?_; clear hK K))) | refine awp_ct rfl ?_ | refine awp_cf rfl ?_ | (first | (refine awp_skip (hK _ ?_); clear hK K) | (clear hK K; refine awp_skip (hK _ ?_); clear hK K) | (clear hK K; clear hK K; refine awp_skip (hK _ ?_); clear hK K) | (clear hK K; clear hK K; clear hK K; refine awp_skip (hK _ ?_); clear hK K)) | refine awp_seqk (fun K hK => ?_) | ((first | refine awp_t [] (by kernel_rfl) ?_ | refine awp_d [] mixed (by kernel_rfl) (by kernel_rfl) ?_); go_simp; (repeat (simp (disch := omega) only [dT, dF, nT, nF, wA, wB, wC, wD]; try go_simp)); (repeat (refine ⟨by (repeat' apply And.intro) <;> first | omega | trivial | assumption | decide, ?_⟩))) | (first | (refine hK _ ?_; clear hK K) | (clear hK K; refine hK _ ?_; clear hK K) | (clear hK K; clear hK K; refine hK _ ?_; clear hK K) | (clear hK K; clear hK K; clear hK K; refine hK _ ?_; clear hK K)) | (refine awp_exit ?_; simp only [thenA_exit, inBlk_exit, thenA_normal, inBlk_normal, ↓reduceIte, Nat.reduceEqDiff])))
      exact awp_ret ⟨_, (by repeat' (first | exact .nil | exact .tmp _ _ rfl | apply ResL.cons)), (by repeat' (first | exact Coe.refl _ | exact Coe.c CoeC.nil | exact Coe.c CoeC.z | exact .nil | apply Coe.tup | apply CoeA.cons)), rfl, (by repeat' (first | exact List.forall_mem_nil _ | (refine List.forall_mem_cons.2 ⟨rfl, ?_⟩))), rfl, (by repeat' (first | exact trivial | (intro h; first | rfl | (exfalso; omega)) | apply And.intro))⟩
  | cons x t =>
    simp only [List.length_cons] at hl ⊢
    obtain ⟨hx, ht⟩ := List.forall_mem_cons.1 h
    clear h
    (repeat' (first | refine awp_block ?_ | ((first | refine awp_tk [] (by kernel_rfl) (fun K hK => ?_) | refine awp_dk [] mixed (by kernel_rfl) (by kernel_rfl) (fun K hK => ?_)); go_simp; (repeat (simp (disch := omega) only [dT, dF, nT, nF, wA, wB, wC, wD]; try go_simp)); (repeat (refine ⟨by (repeat' apply And.intro) <;> first | omega | trivial | assumption | decide, ?_⟩)); (first | (refine hK _ ?_; clear hK K) | (clear hK K; refine hK _ ?_; clear hK K) | (clear hK K; clear hK K; refine hK _ ?_; clear hK K) | (clear hK K; clear hK K; clear hK K; refine hK _ ?_; clear hK K))) | refine awp_ct rfl ?_ | refine awp_cf rfl ?_ | (first | (refine awp_skip (hK _ ?_); clear hK K) | (clear hK K; refine awp_skip (hK _ ?_); clear hK K) | (clear hK K; clear hK K; refine awp_skip (hK _ ?_); clear hK K) | (clear hK K; clear hK K; clear hK K; refine awp_skip (hK _ ?_); clear hK K)) | refine awp_seqk (fun K hK => ?_) | ((first | refine awp_t [] (by kernel_rfl) ?_ | refine awp_d [] mixed (by kernel_rfl) (by kernel_rfl) ?_); go_simp; (repeat (simp (disch := omega) only [dT, dF, nT, nF, wA, wB, wC, wD]; try go_simp)); (repeat (refine ⟨by (repeat' apply And.intro) <;> first | omega | trivial | assumption | decide, ?_⟩))) | (first | (refine hK _ ?_; clear hK K) | (clear hK K; refine hK _ ?_; clear hK K) | (clear hK K; clear hK K; refine hK _ ?_; clear hK K) | (clear hK K; clear hK K; clear hK K; refine hK _ ?_; clear hK K)) | (refine awp_exit ?_; simp only [thenA_exit, inBlk_exit, thenA_normal, inBlk_normal, ↓reduceIte, Nat.reduceEqDiff])))
    exact awp_ret ⟨_, (by repeat' (first | exact .nil | exact .tmp _ _ rfl | apply ResL.cons)), (by repeat' (first | exact Coe.refl _ | exact Coe.c CoeC.nil | exact Coe.c CoeC.z | exact .nil | apply Coe.tup | apply CoeA.cons)), rfl, (by repeat' (first | exact List.forall_mem_nil _ | (refine List.forall_mem_cons.2 ⟨rfl, ?_⟩))), rfl, (by repeat' (first | exact trivial | (intro h; first | rfl | (exfalso; omega)) | apply And.intro))⟩
theorem checkClause_fx (c : List Int) (n : Int) (hn : n ≤ 9223372036854775807) : FxPure Try.prog 32 [.c (.t (.s (c.map intR))), .c (.t (.v (.int .i64 n)))] (.c (.t (.v (.int .i64 (if Go.Proofs.Ytiimkhnngpfnbaa.okC (max n 0) c = true then 0 else 8))))) :=
  fx_of (y := .int .i64 (if Go.Proofs.Ytiimkhnngpfnbaa.okC (max n 0) c = true then 0 else 8)) fun A w vals hlt hvl hv => by
    obtain ⟨a, cap, e1, h1⟩ := arg_ints (hv 0 (by simp)) hlt
    have e2 := arg_known (hv 1 (by simp))
    rw [vals2 hvl, e1, e2]
    refine (checkClause_any a cap c n w h1 hn _ (Lib.hid rfl)).mono ?_
    rintro e w' ⟨rfl, rfl⟩
    refine ⟨?_, Below.refl _ _⟩
    cases Go.Proofs.Ytiimkhnngpfnbaa.okC (max n 0) c <;> rfl
set_option maxHeartbeats 1000000 in
theorem fcheck_fx (n : Int) (LL : List (List Int)) (hn : -9223372036854775808 ≤ n ∧ n ≤ 9223372036854775807) (hl : LL.length ≤ 1000000) : FxPure Try.prog 24 [.agg [.t (.v (.int .i64 n)), .t (.s (LL.map intsR))]] (.c (.t (.v (.int .i64 (chkF n LL))))) := by
  refine fx_pure 35 Try.func24 rfl rfl rfl rfl (fun hlen => ?_)
  clear hlen
  by_cases h1 : n < 0
  · have e : chkF n LL = 8 := by unfold chkF; rw [if_pos (.inl h1)]
    rw [e]
    (repeat' (first | refine awp_block ?_ | ((first | refine awp_tk [] (by kernel_rfl) (fun K hK => ?_) | refine awp_dk [] mixed (by kernel_rfl) (by kernel_rfl) (fun K hK => ?_)); go_simp; (repeat (simp (disch := omega) only [dT, dF, nT, nF, wA, wB, wC, wD]; try go_simp)); (repeat (refine ⟨by (repeat' apply And.intro) <;> first | omega | trivial | assumption | decide, ?_⟩)); (first | (refine hK _ ?_; clear hK K) | (clear hK K; refine hK _ ?_; clear hK K) | (clear hK K; clear hK K; refine hK _ ?_; clear hK K) | (clear hK K; clear hK K; clear hK K; refine hK _ ?_; clear hK K))) | refine awp_ct rfl ?_ | refine awp_cf rfl ?_ | (first | (refine awp_skip (hK _ ?_); clear hK K) | (clear hK K; refine awp_skip (hK _ ?_); clear hK K) | (clear hK K; clear hK K; refine awp_skip (hK _ ?_); clear hK K) | (clear hK K; clear hK K; clear hK K; refine awp_skip (hK _ ?_); clear hK K)) | refine awp_seqk (fun K hK => ?_) | ((first | refine awp_t [] (by kernel_rfl) ?_ | refine awp_d [] mixed (by kernel_rfl) (by kernel_rfl) ?_); go_simp; (repeat (simp (disch := omega) only [dT, dF, nT, nF, wA, wB, wC, wD]; try go_simp)); (repeat (refine ⟨by (repeat' apply And.intro) <;> first | omega | trivial | assumption | decide, ?_⟩))) | (first | (refine hK _ ?_; clear hK K) | (clear hK K; refine hK _ ?_; clear hK K) | (clear hK K; clear hK K; refine hK _ ?_; clear hK K) | (clear hK K; clear hK K; clear hK K; refine hK _ ?_; clear hK K)) | (refine awp_exit ?_; simp only [thenA_exit, inBlk_exit, thenA_normal, inBlk_normal, ↓reduceIte, Nat.reduceEqDiff])))
    exact awp_ret ⟨_, (by repeat' (first | exact .nil | exact .tmp _ _ rfl | apply ResL.cons)), (by repeat' (first | exact Coe.refl _ | exact Coe.c CoeC.nil | exact Coe.c CoeC.z | exact .nil | apply Coe.tup | apply CoeA.cons)), rfl⟩
  by_cases h2 : 400 < n
  · have e : chkF n LL = 8 := by unfold chkF; rw [if_pos (.inr h2)]
    rw [e]
    (repeat' (first | refine awp_block ?_ | ((first | refine awp_tk [] (by kernel_rfl) (fun K hK => ?_) | refine awp_dk [] mixed (by kernel_rfl) (by kernel_rfl) (fun K hK => ?_)); go_simp; (repeat (simp (disch := omega) only [dT, dF, nT, nF, wA, wB, wC, wD]; try go_simp)); (repeat (refine ⟨by (repeat' apply And.intro) <;> first | omega | trivial | assumption | decide, ?_⟩)); (first | (refine hK _ ?_; clear hK K) | (clear hK K; refine hK _ ?_; clear hK K) | (clear hK K; clear hK K; refine hK _ ?_; clear hK K) | (clear hK K; clear hK K; clear hK K; refine hK _ ?_; clear hK K))) | refine awp_ct rfl ?_ | refine awp_cf rfl ?_ | (first | (refine awp_skip (hK _ ?_); clear hK K) | (clear hK K; refine awp_skip (hK _ ?_); clear hK K) | (clear hK K; clear hK K; refine awp_skip (hK _ ?_); clear hK K) | (clear hK K; clear hK K; clear hK K; refine awp_skip (hK _ ?_); clear hK K)) | refine awp_seqk (fun K hK => ?_) | ((first | refine awp_t [] (by kernel_rfl) ?_ | refine awp_d [] mixed (by kernel_rfl) (by kernel_rfl) ?_); go_simp; (repeat (simp (disch := omega) only [dT, dF, nT, nF, wA, wB, wC, wD]; try go_simp)); (repeat (refine ⟨by (repeat' apply And.intro) <;> first | omega | trivial | assumption | decide, ?_⟩))) | (first | (refine hK _ ?_; clear hK K) | (clear hK K; refine hK _ ?_; clear hK K) | (clear hK K; clear hK K; refine hK _ ?_; clear hK K) | (clear hK K; clear hK K; clear hK K; refine hK _ ?_; clear hK K)) | (refine awp_exit ?_; simp only [thenA_exit, inBlk_exit, thenA_normal, inBlk_normal, ↓reduceIte, Nat.reduceEqDiff])))
    exact awp_ret ⟨_, (by repeat' (first | exact .nil | exact .tmp _ _ rfl | apply ResL.cons)), (by repeat' (first | exact Coe.refl _ | exact Coe.c CoeC.nil | exact Coe.c CoeC.z | exact .nil | apply Coe.tup | apply CoeA.cons)), rfl⟩
  by_cases h3 : 8000 < LL.length
  · have e : chkF n LL = 2 := by unfold chkF; rw [if_neg (by omega), if_pos h3]
    rw [e]
    (repeat' (first | refine awp_block ?_ | ((first | refine awp_tk [] (by kernel_rfl) (fun K hK => ?_) | refine awp_dk [] mixed (by kernel_rfl) (by kernel_rfl) (fun K hK => ?_)); go_simp; (repeat (simp (disch := omega) only [dT, dF, nT, nF, wA, wB, wC, wD]; try go_simp)); (repeat (refine ⟨by (repeat' apply And.intro) <;> first | omega | trivial | assumption | decide, ?_⟩)); (first | (refine hK _ ?_; clear hK K) | (clear hK K; refine hK _ ?_; clear hK K) | (clear hK K; clear hK K; refine hK _ ?_; clear hK K) | (clear hK K; clear hK K; clear hK K; refine hK _ ?_; clear hK K))) | refine awp_ct rfl ?_ | refine awp_cf rfl ?_ | (first | (refine awp_skip (hK _ ?_); clear hK K) | (clear hK K; refine awp_skip (hK _ ?_); clear hK K) | (clear hK K; clear hK K; refine awp_skip (hK _ ?_); clear hK K) | (clear hK K; clear hK K; clear hK K; refine awp_skip (hK _ ?_); clear hK K)) | refine awp_seqk (fun K hK => ?_) | ((first | refine awp_t [] (by kernel_rfl) ?_ | refine awp_d [] mixed (by kernel_rfl) (by kernel_rfl) ?_); go_simp; (repeat (simp (disch := omega) only [dT, dF, nT, nF, wA, wB, wC, wD]; try go_simp)); (repeat (refine ⟨by (repeat' apply And.intro) <;> first | omega | trivial | assumption | decide, ?_⟩))) | (first | (refine hK _ ?_; clear hK K) | (clear hK K; refine hK _ ?_; clear hK K) | (clear hK K; clear hK K; refine hK _ ?_; clear hK K) | (clear hK K; clear hK K; clear hK K; refine hK _ ?_; clear hK K)) | (refine awp_exit ?_; simp only [thenA_exit, inBlk_exit, thenA_normal, inBlk_normal, ↓reduceIte, Nat.reduceEqDiff])))
    exact awp_ret ⟨_, (by repeat' (first | exact .nil | exact .tmp _ _ rfl | apply ResL.cons)), (by repeat' (first | exact Coe.refl _ | exact Coe.c CoeC.nil | exact Coe.c CoeC.z | exact .nil | apply Coe.tup | apply CoeA.cons)), rfl⟩
  have HE : Hid (chkF n LL = if LL.all (Go.Proofs.Ytiimkhnngpfnbaa.okC n) = true then 0 else 8) := Lib.hid (by unfold chkF; rw [if_neg (by omega), if_neg h3])
  (repeat' (first | refine awp_block ?_ | ((first | refine awp_tk [] (by kernel_rfl) (fun K hK => ?_) | refine awp_dk [] mixed (by kernel_rfl) (by kernel_rfl) (fun K hK => ?_)); go_simp; (repeat (simp (disch := omega) only [dT, dF, nT, nF, wA, wB, wC, wD]; try go_simp)); (repeat (refine ⟨by (repeat' apply And.intro) <;> first | omega | trivial | assumption | decide, ?_⟩)); (first | (refine hK _ ?_; clear hK K) | (clear hK K; refine hK _ ?_; clear hK K) | (clear hK K; clear hK K; refine hK _ ?_; clear hK K) | (clear hK K; clear hK K; clear hK K; refine hK _ ?_; clear hK K))) | refine awp_ct rfl ?_ | refine awp_cf rfl ?_ | (first | (refine awp_skip (hK _ ?_); clear hK K) | (clear hK K; refine awp_skip (hK _ ?_); clear hK K) | (clear hK K; clear hK K; refine awp_skip (hK _ ?_); clear hK K) | (clear hK K; clear hK K; clear hK K; refine awp_skip (hK _ ?_); clear hK K)) | refine awp_seqk (fun K hK => ?_) | ((first | refine awp_t [] (by kernel_rfl) ?_ | refine awp_d [] mixed (by kernel_rfl) (by kernel_rfl) ?_); go_simp; (repeat (simp (disch := omega) only [dT, dF, nT, nF, wA, wB, wC, wD]; try go_simp)); (repeat (refine ⟨by (repeat' apply And.intro) <;> first | omega | trivial | assumption | decide, ?_⟩))) | (first | (refine hK _ ?_; clear hK K) | (clear hK K; refine hK _ ?_; clear hK K) | (clear hK K; clear hK K; refine hK _ ?_; clear hK K) | (clear hK K; clear hK K; clear hK K; refine hK _ ?_; clear hK K)) | (refine awp_exit ?_; simp only [thenA_exit, inBlk_exit, thenA_normal, inBlk_normal, ↓reduceIte, Nat.reduceEqDiff])))
  refine awp_lp (fun s => ∃ k : Nat, k ≤ LL.length ∧ (∀ j, j < k → Go.Proofs.Ytiimkhnngpfnbaa.okC n (LL.getD j []) = true) ∧ s = ⟨[(1, .c (.ptr 1 0)), (21, .c (.t (.s (LL.map intsR)))), (22, .c (.t (.v (.int .i64 LL.length)))), (23, .c (.t (.v (.int .i64 k))))], [(1, .var 46 [.t (.v (.int .i64 n)), .t (.s (LL.map intsR))])]⟩) (fun s => LL.length - nat 23 s) _ ?_ ⟨0, Nat.zero_le _, fun j h => (by omega), rfl⟩ ?_
  · refine weak_w (by repeat' (first | exact trivial | exact Coe.refl _ | exact Coe.c CoeC.nil | apply And.intro)) (by repeat' (first | exact trivial | rfl | apply And.intro)) rfl rfl (by repeat' (first | exact trivial | (intro h; first | rfl | (exfalso; omega)) | apply And.intro))
  · rintro s R ⟨k, hk, hall, rfl⟩ hR
    have HALL := Lib.hid hall
    clear hall
    by_cases hlt : k < LL.length
    · have hg : LL.getD k [] = LL[k] := by rw [List.getD_eq_getElem?_getD, List.getElem?_eq_getElem hlt]; rfl
      have HG := Lib.hid hg
      have hmx : max n 0 = n := by omega
      clear hg
      cases hc : Go.Proofs.Ytiimkhnngpfnbaa.okC n LL[k] with
      | true =>
        (repeat' (first | refine awp_block ?_ | ((first | refine awp_tk [] (by kernel_rfl) (fun K hK => ?_) | refine awp_dk [] mixed (by kernel_rfl) (by kernel_rfl) (fun K hK => ?_)); go_simp; (repeat (simp (disch := omega) only [dT, dF, nT, nF, wA, wB, wC, wD]; try go_simp)); (repeat (refine ⟨by (repeat' apply And.intro) <;> first | omega | trivial | assumption | decide, ?_⟩)); (first | (refine hK _ ?_; clear hK K) | (clear hK K; refine hK _ ?_; clear hK K) | (clear hK K; clear hK K; refine hK _ ?_; clear hK K) | (clear hK K; clear hK K; clear hK K; refine hK _ ?_; clear hK K))) | refine awp_ct rfl ?_ | refine awp_cf rfl ?_ | (first | (refine awp_skip (hK _ ?_); clear hK K) | (clear hK K; refine awp_skip (hK _ ?_); clear hK K) | (clear hK K; clear hK K; refine awp_skip (hK _ ?_); clear hK K) | (clear hK K; clear hK K; clear hK K; refine awp_skip (hK _ ?_); clear hK K)) | refine awp_seqk (fun K hK => ?_) | ((first | refine awp_t [] (by kernel_rfl) ?_ | refine awp_d [] mixed (by kernel_rfl) (by kernel_rfl) ?_); go_simp; (repeat (simp (disch := omega) only [dT, dF, nT, nF, wA, wB, wC, wD]; try go_simp)); (repeat (refine ⟨by (repeat' apply And.intro) <;> first | omega | trivial | assumption | decide, ?_⟩))) | (first | (refine hK _ ?_; clear hK K) | (clear hK K; refine hK _ ?_; clear hK K) | (clear hK K; clear hK K; refine hK _ ?_; clear hK K) | (clear hK K; clear hK K; clear hK K; refine hK _ ?_; clear hK K)) | (refine awp_exit ?_; simp only [thenA_exit, inBlk_exit, thenA_normal, inBlk_normal, ↓reduceIte, Nat.reduceEqDiff])))
        refine callV (checkClause_fx LL[k] n (by omega)) rfl ?_
        go_simp
        (repeat (simp (disch := omega) only [dT, dF, nT, nF, wA, wB, wC, wD]; try go_simp))
        (repeat (refine ⟨by (repeat' apply And.intro) <;> first | omega | trivial | assumption | decide, ?_⟩))
        (repeat' (first | refine awp_block ?_ | ((first | refine awp_tk [] (by kernel_rfl) (fun K hK => ?_) | refine awp_dk [] mixed (by kernel_rfl) (by kernel_rfl) (fun K hK => ?_)); go_simp; (repeat (simp (disch := omega) only [dT, dF, nT, nF, wA, wB, wC, wD]; try go_simp)); (repeat (refine ⟨by (repeat' apply And.intro) <;> first | omega | trivial | assumption | decide, ?_⟩)); (first | (refine hK _ ?_; clear hK K) | (clear hK K; refine hK _ ?_; clear hK K) | (clear hK K; clear hK K; refine hK _ ?_; clear hK K) | (clear hK K; clear hK K; clear hK K; refine hK _ ?_; clear hK K))) | refine awp_ct rfl ?_ | refine awp_cf rfl ?_ | (first | (refine awp_skip (hK _ ?_); clear hK K) | (clear hK K; refine awp_skip (hK _ ?_); clear hK K) | (clear hK K; clear hK K; refine awp_skip (hK _ ?_); clear hK K) | (clear hK K; clear hK K; clear hK K; refine awp_skip (hK _ ?_); clear hK K)) | refine awp_seqk (fun K hK => ?_) | ((first | refine awp_t [] (by kernel_rfl) ?_ | refine awp_d [] mixed (by kernel_rfl) (by kernel_rfl) ?_); go_simp; (repeat (simp (disch := omega) only [dT, dF, nT, nF, wA, wB, wC, wD]; try go_simp)); (repeat (refine ⟨by (repeat' apply And.intro) <;> first | omega | trivial | assumption | decide, ?_⟩))) | (first | (refine hK _ ?_; clear hK K) | (clear hK K; refine hK _ ?_; clear hK K) | (clear hK K; clear hK K; refine hK _ ?_; clear hK K) | (clear hK K; clear hK K; clear hK K; refine hK _ ?_; clear hK K)) | (refine awp_exit ?_; simp only [thenA_exit, inBlk_exit, thenA_normal, inBlk_normal, ↓reduceIte, Nat.reduceEqDiff])))
        refine hR _ _ ?_ ⟨k + 1, by omega, fun j hj => ?_, rfl⟩ ?_
        · refine weak_w (by repeat' (first | exact trivial | exact Coe.refl _ | exact Coe.c CoeC.nil | apply And.intro)) (by repeat' (first | exact trivial | rfl | apply And.intro)) rfl rfl (by repeat' (first | exact trivial | (intro h; first | rfl | (exfalso; omega)) | apply And.intro))
        · rcases Nat.lt_succ_iff_lt_or_eq.1 hj with h | rfl
          · exact HALL.out j h
          · rw [HG.out]; exact hc
        · simp [nat, sget]; omega
      | false =>
        have e : chkF n LL = 8 := by
          rw [HE.out, if_neg]
          intro h
          rw [List.all_eq_true.1 h _ (List.getElem_mem hlt)] at hc; cases hc
        (repeat' (first | refine awp_block ?_ | ((first | refine awp_tk [] (by kernel_rfl) (fun K hK => ?_) | refine awp_dk [] mixed (by kernel_rfl) (by kernel_rfl) (fun K hK => ?_)); go_simp; (repeat (simp (disch := omega) only [dT, dF, nT, nF, wA, wB, wC, wD]; try go_simp)); (repeat (refine ⟨by (repeat' apply And.intro) <;> first | omega | trivial | assumption | decide, ?_⟩)); (first | (refine hK _ ?_; clear hK K) | (clear hK K; refine hK _ ?_; clear hK K) | (clear hK K; clear hK K; refine hK _ ?_; clear hK K) | (clear hK K; clear hK K; clear hK K; refine hK _ ?_; clear hK K))) | refine awp_ct rfl ?_ | refine awp_cf rfl ?_ | (first | (refine awp_skip (hK _ ?_); clear hK K) | (clear hK K; refine awp_skip (hK _ ?_); clear hK K) | (clear hK K; clear hK K; refine awp_skip (hK _ ?_); clear hK K) | (clear hK K; clear hK K; clear hK K; refine awp_skip (hK _ ?_); clear hK K)) | refine awp_seqk (fun K hK => ?_) | ((first | refine awp_t [] (by kernel_rfl) ?_ | refine awp_d [] mixed (by kernel_rfl) (by kernel_rfl) ?_); go_simp; (repeat (simp (disch := omega) only [dT, dF, nT, nF, wA, wB, wC, wD]; try go_simp)); (repeat (refine ⟨by (repeat' apply And.intro) <;> first | omega | trivial | assumption | decide, ?_⟩))) | (first | (refine hK _ ?_; clear hK K) | (clear hK K; refine hK _ ?_; clear hK K) | (clear hK K; clear hK K; refine hK _ ?_; clear hK K) | (clear hK K; clear hK K; clear hK K; refine hK _ ?_; clear hK K)) | (refine awp_exit ?_; simp only [thenA_exit, inBlk_exit, thenA_normal, inBlk_normal, ↓reduceIte, Nat.reduceEqDiff])))
        refine callV (checkClause_fx LL[k] n (by omega)) rfl ?_
        go_simp
        (repeat (simp (disch := omega) only [dT, dF, nT, nF, wA, wB, wC, wD]; try go_simp))
        (repeat (refine ⟨by (repeat' apply And.intro) <;> first | omega | trivial | assumption | decide, ?_⟩))
        (repeat' (first | refine awp_block ?_ | ((first | refine awp_tk [] (by kernel_rfl) (fun K hK => ?_) | refine awp_dk [] mixed (by kernel_rfl) (by kernel_rfl) (fun K hK => ?_)); go_simp; (repeat (simp (disch := omega) only [dT, dF, nT, nF, wA, wB, wC, wD]; try go_simp)); (repeat (refine ⟨by (repeat' apply And.intro) <;> first | omega | trivial | assumption | decide, ?_⟩)); (first | (refine hK _ ?_; clear hK K) | (clear hK K; refine hK _ ?_; clear hK K) | (clear hK K; clear hK K; refine hK _ ?_; clear hK K) | (clear hK K; clear hK K; clear hK K; refine hK _ ?_; clear hK K))) | refine awp_ct rfl ?_ | refine awp_cf rfl ?_ | (first | (refine awp_skip (hK _ ?_); clear hK K) | (clear hK K; refine awp_skip (hK _ ?_); clear hK K) | (clear hK K; clear hK K; refine awp_skip (hK _ ?_); clear hK K) | (clear hK K; clear hK K; clear hK K; refine awp_skip (hK _ ?_); clear hK K)) | refine awp_seqk (fun K hK => ?_) | ((first | refine awp_t [] (by kernel_rfl) ?_ | refine awp_d [] mixed (by kernel_rfl) (by kernel_rfl) ?_); go_simp; (repeat (simp (disch := omega) only [dT, dF, nT, nF, wA, wB, wC, wD]; try go_simp)); (repeat (refine ⟨by (repeat' apply And.intro) <;> first | omega | trivial | assumption | decide, ?_⟩))) | (first | (refine hK _ ?_; clear hK K) | (clear hK K; refine hK _ ?_; clear hK K) | (clear hK K; clear hK K; refine hK _ ?_; clear hK K) | (clear hK K; clear hK K; clear hK K; refine hK _ ?_; clear hK K)) | (refine awp_exit ?_; simp only [thenA_exit, inBlk_exit, thenA_normal, inBlk_normal, ↓reduceIte, Nat.reduceEqDiff])))
        rw [e]
        exact awp_ret ⟨_, (by repeat' (first | exact .nil | exact .tmp _ _ rfl | apply ResL.cons)), (by repeat' (first | exact Coe.refl _ | exact Coe.c CoeC.nil | exact Coe.c CoeC.z | exact .nil | apply Coe.tup | apply CoeA.cons)), rfl⟩
    · have e : chkF n LL = 0 := by
        rw [HE.out, if_pos]
        rw [List.all_eq_true]
        intro c hc
        obtain ⟨j, hj, rfl⟩ := List.mem_iff_getElem.1 hc
        have := HALL.out j (by omega)
        rw [List.getD_eq_getElem?_getD, List.getElem?_eq_getElem hj] at this
        exact this
      (repeat' (first | refine awp_block ?_ | ((first | refine awp_tk [] (by kernel_rfl) (fun K hK => ?_) | refine awp_dk [] mixed (by kernel_rfl) (by kernel_rfl) (fun K hK => ?_)); go_simp; (repeat (simp (disch := omega) only [dT, dF, nT, nF, wA, wB, wC, wD]; try go_simp)); (repeat (refine ⟨by (repeat' apply And.intro) <;> first | omega | trivial | assumption | decide, ?_⟩)); (first | (refine hK _ ?_; clear hK K) | (clear hK K; refine hK _ ?_; clear hK K) | (clear hK K; clear hK K; refine hK _ ?_; clear hK K) | (clear hK K; clear hK K; clear hK K; refine hK _ ?_; clear hK K))) | refine awp_ct rfl ?_ | refine awp_cf rfl ?_ | (first | (refine awp_skip (hK _ ?_); clear hK K) | (clear hK K; refine awp_skip (hK _ ?_); clear hK K) | (clear hK K; clear hK K; refine awp_skip (hK _ ?_); clear hK K) | (clear hK K; clear hK K; clear hK K; refine awp_skip (hK _ ?_); clear hK K)) | refine awp_seqk (fun K hK => ?_) | ((first | refine awp_t [] (by kernel_rfl) ?_ | refine awp_d [] mixed (by kernel_rfl) (by kernel_rfl) ?_); go_simp; (repeat (simp (disch := omega) only [dT, dF, nT, nF, wA, wB, wC, wD]; try go_simp)); (repeat (refine ⟨by (repeat' apply And.intro) <;> first | omega | trivial | assumption | decide, ?_⟩))) | (first | (refine hK _ ?_; clear hK K) | (clear hK K; refine hK _ ?_; clear hK K) | (clear hK K; clear hK K; refine hK _ ?_; clear hK K) | (clear hK K; clear hK K; clear hK K; refine hK _ ?_; clear hK K)) | (refine awp_exit ?_; simp only [thenA_exit, inBlk_exit, thenA_normal, inBlk_normal, ↓reduceIte, Nat.reduceEqDiff])))
      rw [e]
      exact awp_ret ⟨_, (by repeat' (first | exact .nil | exact .tmp _ _ rfl | apply ResL.cons)), (by repeat' (first | exact Coe.refl _ | exact Coe.c CoeC.nil | exact Coe.c CoeC.z | exact .nil | apply Coe.tup | apply CoeA.cons)), rfl⟩
theorem take_eq_succ {a b : List Int} {k : Nat} (h : a.take k = b.take k) (ha : k < a.length) (hb : k < b.length) (he : a[k] = b[k]) : a.take (k + 1) = b.take (k + 1) := by
  rw [List.take_succ_eq_append_getElem ha, List.take_succ_eq_append_getElem hb, h, he]
set_option maxHeartbeats 1000000 in
theorem equal_fx (a b : List Int) (ha : a.length ≤ 1000000) (hb : b.length ≤ 1000000) : FxPure Try.prog 27 [.c (.t (.s (a.map intR))), .c (.t (.s (b.map intR)))] (.c (.t (.v (.bool (decide (a = b)))))) := by
  refine fx_pure 26 Try.func27 rfl rfl rfl rfl (fun hlen => ?_)
  clear hlen
  by_cases h1 : a.length = b.length
  · obtain ⟨n, hb1⟩ : ∃ n, b.length = n := ⟨_, rfl⟩
    have ha1 : a.length = n := h1.trans hb1
    have hb2 : n ≤ 1000000 := by omega
    clear h1 ha hb
    (repeat' (first | refine awp_block ?_ | ((first | refine awp_tk [] (by kernel_rfl) (fun K hK => ?_) | refine awp_dk [] mixed (by kernel_rfl) (by kernel_rfl) (fun K hK => ?_)); go_simp; (repeat (simp (disch := omega) only [dT, dF, nT, nF, wA, wB, wC, wD]; try go_simp)); (repeat (refine ⟨by (repeat' apply And.intro) <;> first | omega | trivial | assumption | decide, ?_⟩)); (first | (refine hK _ ?_; clear hK K) | (clear hK K; refine hK _ ?_; clear hK K) | (clear hK K; clear hK K; refine hK _ ?_; clear hK K) | (clear hK K; clear hK K; clear hK K; refine hK _ ?_; clear hK K))) | refine awp_ct rfl ?_ | refine awp_cf rfl ?_ | (first | (refine awp_skip (hK _ ?_); clear hK K) | (clear hK K; refine awp_skip (hK _ ?_); clear hK K) | (clear hK K; clear hK K; refine awp_skip (hK _ ?_); clear hK K) | (clear hK K; clear hK K; clear hK K; refine awp_skip (hK _ ?_); clear hK K)) | refine awp_seqk (fun K hK => ?_) | ((first | refine awp_t [] (by kernel_rfl) ?_ | refine awp_d [] mixed (by kernel_rfl) (by kernel_rfl) ?_); go_simp; (repeat (simp (disch := omega) only [dT, dF, nT, nF, wA, wB, wC, wD]; try go_simp)); (repeat (refine ⟨by (repeat' apply And.intro) <;> first | omega | trivial | assumption | decide, ?_⟩))) | (first | (refine hK _ ?_; clear hK K) | (clear hK K; refine hK _ ?_; clear hK K) | (clear hK K; clear hK K; refine hK _ ?_; clear hK K) | (clear hK K; clear hK K; clear hK K; refine hK _ ?_; clear hK K)) | (refine awp_exit ?_; simp only [thenA_exit, inBlk_exit, thenA_normal, inBlk_normal, ↓reduceIte, Nat.reduceEqDiff])))
    refine awp_lp (fun s => ∃ k : Nat, k ≤ n ∧ a.take k = b.take k ∧ s = ⟨[(0, .c (.t (.s (a.map intR)))), (1, .c (.t (.s (b.map intR)))), (12, .c (.t (.v (.int .i64 n)))), (13, .c (.t (.v (.int .i64 k))))], []⟩) (fun s => n - nat 13 s) _ ?_ ⟨0, Nat.zero_le _, rfl, rfl⟩ ?_
    · refine weak_w (by repeat' (first | exact trivial | exact Coe.refl _ | exact Coe.c CoeC.nil | apply And.intro)) (by repeat' (first | exact trivial | rfl | apply And.intro)) rfl rfl (by repeat' (first | exact trivial | (intro h; first | rfl | (exfalso; omega)) | apply And.intro))
    · rintro s R ⟨k, hk, htk, rfl⟩ hR
      have HT := Lib.hid htk
      clear htk
      by_cases hlt : k < n
      · have hla : k < a.length := by omega
        have hlb : k < b.length := by omega
        by_cases he : a[k] = b[k]
        · (repeat' (first | refine awp_block ?_ | ((first | refine awp_tk [] (by kernel_rfl) (fun K hK => ?_) | refine awp_dk [] mixed (by kernel_rfl) (by kernel_rfl) (fun K hK => ?_)); go_simp; (repeat (simp (disch := omega) only [dT, dF, nT, nF, wA, wB, wC, wD]; try go_simp)); (repeat (refine ⟨by (repeat' apply And.intro) <;> first | omega | trivial | assumption | decide, ?_⟩)); (first | (refine hK _ ?_; clear hK K) | (clear hK K; refine hK _ ?_; clear hK K) | (clear hK K; clear hK K; refine hK _ ?_; clear hK K) | (clear hK K; clear hK K; clear hK K; refine hK _ ?_; clear hK K))) | refine awp_ct rfl ?_ | refine awp_cf rfl ?_ | (first | (refine awp_skip (hK _ ?_); clear hK K) | (clear hK K; refine awp_skip (hK _ ?_); clear hK K) | (clear hK K; clear hK K; refine awp_skip (hK _ ?_); clear hK K) | (clear hK K; clear hK K; clear hK K; refine awp_skip (hK _ ?_); clear hK K)) | refine awp_seqk (fun K hK => ?_) | ((first | refine awp_t [] (by kernel_rfl) ?_ | refine awp_d [] mixed (by kernel_rfl) (by kernel_rfl) ?_); go_simp; (repeat (simp (disch := omega) only [dT, dF, nT, nF, wA, wB, wC, wD]; try go_simp)); (repeat (refine ⟨by (repeat' apply And.intro) <;> first | omega | trivial | assumption | decide, ?_⟩))) | (first | (refine hK _ ?_; clear hK K) | (clear hK K; refine hK _ ?_; clear hK K) | (clear hK K; clear hK K; refine hK _ ?_; clear hK K) | (clear hK K; clear hK K; clear hK K; refine hK _ ?_; clear hK K)) | (refine awp_exit ?_; simp only [thenA_exit, inBlk_exit, thenA_normal, inBlk_normal, ↓reduceIte, Nat.reduceEqDiff])))
          refine hR _ _ ?_ ⟨k + 1, by omega, take_eq_succ HT.out hla hlb he, rfl⟩ ?_
          · refine weak_w (by repeat' (first | exact trivial | exact Coe.refl _ | exact Coe.c CoeC.nil | apply And.intro)) (by repeat' (first | exact trivial | rfl | apply And.intro)) rfl rfl (by repeat' (first | exact trivial | (intro h; first | rfl | (exfalso; omega)) | apply And.intro))
          · simp [nat, sget]; omega
        · have e : decide (a = b) = false := decide_eq_false (fun h => he (by subst h; rfl))
          (repeat' (first | refine awp_block ?_ | ((first | refine awp_tk [] (by kernel_rfl) (fun K hK => ?_) | refine awp_dk [] mixed (by kernel_rfl) (by kernel_rfl) (fun K hK => ?_)); go_simp; (repeat (simp (disch := omega) only [dT, dF, nT, nF, wA, wB, wC, wD]; try go_simp)); (repeat (refine ⟨by (repeat' apply And.intro) <;> first | omega | trivial | assumption | decide, ?_⟩)); (first | (refine hK _ ?_; clear hK K) | (clear hK K; refine hK _ ?_; clear hK K) | (clear hK K; clear hK K; refine hK _ ?_; clear hK K) | (clear hK K; clear hK K; clear hK K; refine hK _ ?_; clear hK K))) | refine awp_ct rfl ?_ | refine awp_cf rfl ?_ | (first | (refine awp_skip (hK _ ?_); clear hK K) | (clear hK K; refine awp_skip (hK _ ?_); clear hK K) | (clear hK K; clear hK K; refine awp_skip (hK _ ?_); clear hK K) | (clear hK K; clear hK K; clear hK K; refine awp_skip (hK _ ?_); clear hK K)) | refine awp_seqk (fun K hK => ?_) | ((first | refine awp_t [] (by kernel_rfl) ?_ | refine awp_d [] mixed (by kernel_rfl) (by kernel_rfl) ?_); go_simp; (repeat (simp (disch := omega) only [dT, dF, nT, nF, wA, wB, wC, wD]; try go_simp)); (repeat (refine ⟨by (repeat' apply And.intro) <;> first | omega | trivial | assumption | decide, ?_⟩))) | (first | (refine hK _ ?_; clear hK K) | (clear hK K; refine hK _ ?_; clear hK K) | (clear hK K; clear hK K; refine hK _ ?_; clear hK K) | (clear hK K; clear hK K; clear hK K; refine hK _ ?_; clear hK K)) | (refine awp_exit ?_; simp only [thenA_exit, inBlk_exit, thenA_normal, inBlk_normal, ↓reduceIte, Nat.reduceEqDiff])))
          rw [e]
          exact awp_ret ⟨_, (by repeat' (first | exact .nil | exact .tmp _ _ rfl | apply ResL.cons)), (by repeat' (first | exact Coe.refl _ | exact Coe.c CoeC.nil | exact Coe.c CoeC.z | exact .nil | apply Coe.tup | apply CoeA.cons)), rfl⟩
      · have e : decide (a = b) = true := decide_eq_true (by
          have := HT.out
          rwa [List.take_of_length_le (by omega), List.take_of_length_le (by omega)] at this)
        (repeat' (first | refine awp_block ?_ | ((first | refine awp_tk [] (by kernel_rfl) (fun K hK => ?_) | refine awp_dk [] mixed (by kernel_rfl) (by kernel_rfl) (fun K hK => ?_)); go_simp; (repeat (simp (disch := omega) only [dT, dF, nT, nF, wA, wB, wC, wD]; try go_simp)); (repeat (refine ⟨by (repeat' apply And.intro) <;> first | omega | trivial | assumption | decide, ?_⟩)); (first | (refine hK _ ?_; clear hK K) | (clear hK K; refine hK _ ?_; clear hK K) | (clear hK K; clear hK K; refine hK _ ?_; clear hK K) | (clear hK K; clear hK K; clear hK K; refine hK _ ?_; clear hK K))) | refine awp_ct rfl ?_ | refine awp_cf rfl ?_ | (first | (refine awp_skip (hK _ ?_); clear hK K) | (clear hK K; refine awp_skip (hK _ ?_); clear hK K) | (clear hK K; clear hK K; refine awp_skip (hK _ ?_); clear hK K) | (clear hK K; clear hK K; clear hK K; refine awp_skip (hK _ ?_); clear hK K)) | refine awp_seqk (fun K hK => ?_) | ((first | refine awp_t [] (by kernel_rfl) ?_ | refine awp_d [] mixed (by kernel_rfl) (by kernel_rfl) ?_); go_simp; (repeat (simp (disch := omega) only [dT, dF, nT, nF, wA, wB, wC, wD]; try go_simp)); (repeat (refine ⟨by (repeat' apply And.intro) <;> first | omega | trivial | assumption | decide, ?_⟩))) | (first | (refine hK _ ?_; clear hK K) | (clear hK K; refine hK _ ?_; clear hK K) | (clear hK K; clear hK K; refine hK _ ?_; clear hK K) | (clear hK K; clear hK K; clear hK K; refine hK _ ?_; clear hK K)) | (refine awp_exit ?_; simp only [thenA_exit, inBlk_exit, thenA_normal, inBlk_normal, ↓reduceIte, Nat.reduceEqDiff])))
        rw [e]
        exact awp_ret ⟨_, (by repeat' (first | exact .nil | exact .tmp _ _ rfl | apply ResL.cons)), (by repeat' (first | exact Coe.refl _ | exact Coe.c CoeC.nil | exact Coe.c CoeC.z | exact .nil | apply Coe.tup | apply CoeA.cons)), rfl⟩
  · have e : decide (a = b) = false := decide_eq_false (fun h => h1 (by rw [h]))
    (repeat' (first | refine awp_block ?_ | ((first | refine awp_tk [] (by kernel_rfl) (fun K hK => ?_) | refine awp_dk [] mixed (by kernel_rfl) (by kernel_rfl) (fun K hK => ?_)); go_simp; (repeat (simp (disch := omega) only [dT, dF, nT, nF, wA, wB, wC, wD]; try go_simp)); (repeat (refine ⟨by (repeat' apply And.intro) <;> first | omega | trivial | assumption | decide, ?_⟩)); (first | (refine hK _ ?_; clear hK K) | (clear hK K; refine hK _ ?_; clear hK K) | (clear hK K; clear hK K; refine hK _ ?_; clear hK K) | (clear hK K; clear hK K; clear hK K; refine hK _ ?_; clear hK K))) | refine awp_ct rfl ?_ | refine awp_cf rfl ?_ | (first | (refine awp_skip (hK _ ?_); clear hK K) | (clear hK K; refine awp_skip (hK _ ?_); clear hK K) | (clear hK K; clear hK K; refine awp_skip (hK _ ?_); clear hK K) | (clear hK K; clear hK K; clear hK K; refine awp_skip (hK _ ?_); clear hK K)) | refine awp_seqk (fun K hK => ?_) | ((first | refine awp_t [] (by kernel_rfl) ?_ | refine awp_d [] mixed (by kernel_rfl) (by kernel_rfl) ?_); go_simp; (repeat (simp (disch := omega) only [dT, dF, nT, nF, wA, wB, wC, wD]; try go_simp)); (repeat (refine ⟨by (repeat' apply And.intro) <;> first | omega | trivial | assumption | decide, ?_⟩))) | (first | (refine hK _ ?_; clear hK K) | (clear hK K; refine hK _ ?_; clear hK K) | (clear hK K; clear hK K; refine hK _ ?_; clear hK K) | (clear hK K; clear hK K; clear hK K; refine hK _ ?_; clear hK K)) | (refine awp_exit ?_; simp only [thenA_exit, inBlk_exit, thenA_normal, inBlk_normal, ↓reduceIte, Nat.reduceEqDiff])))
    rw [e]
    exact awp_ret ⟨_, (by repeat' (first | exact .nil | exact .tmp _ _ rfl | apply ResL.cons)), (by repeat' (first | exact Coe.refl _ | exact Coe.c CoeC.nil | exact Coe.c CoeC.z | exact .nil | apply Coe.tup | apply CoeA.cons)), rfl⟩
set_option maxHeartbeats 1000000 in
theorem ints_fx (a b : List Int) (ha : a.length ≤ 1000000) (hb : b.length ≤ 1000000) : FxPure Try.prog 12 [.c (.t (.s (a.map intR))), .c (.t (.s (b.map intR)))] (.c (.t (.v (.bool (decide (a = b)))))) := by
  refine fx_pure 26 Try.func12 rfl rfl rfl rfl (fun hlen => ?_)
  clear hlen
  by_cases h1 : a.length = b.length
  · obtain ⟨n, hb1⟩ : ∃ n, b.length = n := ⟨_, rfl⟩
    have ha1 : a.length = n := h1.trans hb1
    have hb2 : n ≤ 1000000 := by omega
    clear h1 ha hb
    (repeat' (first | refine awp_block ?_ | ((first | refine awp_tk [] (by kernel_rfl) (fun K hK => ?_) | refine awp_dk [] mixed (by kernel_rfl) (by kernel_rfl) (fun K hK => ?_)); go_simp; (repeat (simp (disch := omega) only [dT, dF, nT, nF, wA, wB, wC, wD]; try go_simp)); (repeat (refine ⟨by (repeat' apply And.intro) <;> first | omega | trivial | assumption | decide, ?_⟩)); (first | (refine hK _ ?_; clear hK K) | (clear hK K; refine hK _ ?_; clear hK K) | (clear hK K; clear hK K; refine hK _ ?_; clear hK K) | (clear hK K; clear hK K; clear hK K; refine hK _ ?_; clear hK K))) | refine awp_ct rfl ?_ | refine awp_cf rfl ?_ | (first | (refine awp_skip (hK _ ?_); clear hK K) | (clear hK K; refine awp_skip (hK _ ?_); clear hK K) | (clear hK K; clear hK K; refine awp_skip (hK _ ?_); clear hK K) | (clear hK K; clear hK K; clear hK K; refine awp_skip (hK _ ?_); clear hK K)) | refine awp_seqk (fun K hK => ?_) | ((first | refine awp_t [] (by kernel_rfl) ?_ | refine awp_d [] mixed (by kernel_rfl) (by kernel_rfl) ?_); go_simp; (repeat (simp (disch := omega) only [dT, dF, nT, nF, wA, wB, wC, wD]; try go_simp)); (repeat (refine ⟨by (repeat' apply And.intro) <;> first | omega | trivial | assumption | decide, ?_⟩))) | (first | (refine hK _ ?_; clear hK K) | (clear hK K; refine hK _ ?_; clear hK K) | (clear hK K; clear hK K; refine hK _ ?_; clear hK K) | (clear hK K; clear hK K; clear hK K; refine hK _ ?_; clear hK K)) | (refine awp_exit ?_; simp only [thenA_exit, inBlk_exit, thenA_normal, inBlk_normal, ↓reduceIte, Nat.reduceEqDiff])))
    refine awp_lp (fun s => ∃ k : Nat, k ≤ n ∧ a.take k = b.take k ∧ s = ⟨[(0, .c (.t (.s (a.map intR)))), (1, .c (.t (.s (b.map intR)))), (5, .c (.t (.v (.int .i64 k))))], []⟩) (fun s => n - nat 5 s) _ ?_ ⟨0, Nat.zero_le _, rfl, rfl⟩ ?_
    · refine weak_w (by repeat' (first | exact trivial | exact Coe.refl _ | exact Coe.c CoeC.nil | apply And.intro)) (by repeat' (first | exact trivial | rfl | apply And.intro)) rfl rfl (by repeat' (first | exact trivial | (intro h; first | rfl | (exfalso; omega)) | apply And.intro))
    · rintro s R ⟨k, hk, htk, rfl⟩ hR
      have HT := Lib.hid htk
      clear htk
      by_cases hlt : k < n
      · have hla : k < a.length := by omega
        have hlb : k < b.length := by omega
        by_cases he : a[k] = b[k]
        · (repeat' (first | refine awp_block ?_ | ((first | refine awp_tk [] (by kernel_rfl) (fun K hK => ?_) | refine awp_dk [] mixed (by kernel_rfl) (by kernel_rfl) (fun K hK => ?_)); go_simp; (repeat (simp (disch := omega) only [dT, dF, nT, nF, wA, wB, wC, wD]; try go_simp)); (repeat (refine ⟨by (repeat' apply And.intro) <;> first | omega | trivial | assumption | decide, ?_⟩)); (first | (refine hK _ ?_; clear hK K) | (clear hK K; refine hK _ ?_; clear hK K) | (clear hK K; clear hK K; refine hK _ ?_; clear hK K) | (clear hK K; clear hK K; clear hK K; refine hK _ ?_; clear hK K))) | refine awp_ct rfl ?_ | refine awp_cf rfl ?_ | (first | (refine awp_skip (hK _ ?_); clear hK K) | (clear hK K; refine awp_skip (hK _ ?_); clear hK K) | (clear hK K; clear hK K; refine awp_skip (hK _ ?_); clear hK K) | (clear hK K; clear hK K; clear hK K; refine awp_skip (hK _ ?_); clear hK K)) | refine awp_seqk (fun K hK => ?_) | ((first | refine awp_t [] (by kernel_rfl) ?_ | refine awp_d [] mixed (by kernel_rfl) (by kernel_rfl) ?_); go_simp; (repeat (simp (disch := omega) only [dT, dF, nT, nF, wA, wB, wC, wD]; try go_simp)); (repeat (refine ⟨by (repeat' apply And.intro) <;> first | omega | trivial | assumption | decide, ?_⟩))) | (first | (refine hK _ ?_; clear hK K) | (clear hK K; refine hK _ ?_; clear hK K) | (clear hK K; clear hK K; refine hK _ ?_; clear hK K) | (clear hK K; clear hK K; clear hK K; refine hK _ ?_; clear hK K)) | (refine awp_exit ?_; simp only [thenA_exit, inBlk_exit, thenA_normal, inBlk_normal, ↓reduceIte, Nat.reduceEqDiff])))
          refine hR _ _ ?_ ⟨k + 1, by omega, take_eq_succ HT.out hla hlb he, rfl⟩ ?_
          · refine weak_w (by repeat' (first | exact trivial | exact Coe.refl _ | exact Coe.c CoeC.nil | apply And.intro)) (by repeat' (first | exact trivial | rfl | apply And.intro)) rfl rfl (by repeat' (first | exact trivial | (intro h; first | rfl | (exfalso; omega)) | apply And.intro))
          · simp [nat, sget]; omega
        · have e : decide (a = b) = false := decide_eq_false (fun h => he (by subst h; rfl))
          (repeat' (first | refine awp_block ?_ | ((first | refine awp_tk [] (by kernel_rfl) (fun K hK => ?_) | refine awp_dk [] mixed (by kernel_rfl) (by kernel_rfl) (fun K hK => ?_)); go_simp; (repeat (simp (disch := omega) only [dT, dF, nT, nF, wA, wB, wC, wD]; try go_simp)); (repeat (refine ⟨by (repeat' apply And.intro) <;> first | omega | trivial | assumption | decide, ?_⟩)); (first | (refine hK _ ?_; clear hK K) | (clear hK K; refine hK _ ?_; clear hK K) | (clear hK K; clear hK K; refine hK _ ?_; clear hK K) | (clear hK K; clear hK K; clear hK K; refine hK _ ?_; clear hK K))) | refine awp_ct rfl ?_ | refine awp_cf rfl ?_ | (first | (refine awp_skip (hK _ ?_); clear hK K) | (clear hK K; refine awp_skip (hK _ ?_); clear hK K) | (clear hK K; clear hK K; refine awp_skip (hK _ ?_); clear hK K) | (clear hK K; clear hK K; clear hK K; refine awp_skip (hK _ ?_); clear hK K)) | refine awp_seqk (fun K hK => ?_) | ((first | refine awp_t [] (by kernel_rfl) ?_ | refine awp_d [] mixed (by kernel_rfl) (by kernel_rfl) ?_); go_simp; (repeat (simp (disch := omega) only [dT, dF, nT, nF, wA, wB, wC, wD]; try go_simp)); (repeat (refine ⟨by (repeat' apply And.intro) <;> first | omega | trivial | assumption | decide, ?_⟩))) | (first | (refine hK _ ?_; clear hK K) | (clear hK K; refine hK _ ?_; clear hK K) | (clear hK K; clear hK K; refine hK _ ?_; clear hK K) | (clear hK K; clear hK K; clear hK K; refine hK _ ?_; clear hK K)) | (refine awp_exit ?_; simp only [thenA_exit, inBlk_exit, thenA_normal, inBlk_normal, ↓reduceIte, Nat.reduceEqDiff])))
          rw [e]
          exact awp_ret ⟨_, (by repeat' (first | exact .nil | exact .tmp _ _ rfl | apply ResL.cons)), (by repeat' (first | exact Coe.refl _ | exact Coe.c CoeC.nil | exact Coe.c CoeC.z | exact .nil | apply Coe.tup | apply CoeA.cons)), rfl⟩
      · have e : decide (a = b) = true := decide_eq_true (by
          have := HT.out
          rwa [List.take_of_length_le (by omega), List.take_of_length_le (by omega)] at this)
        (repeat' (first | refine awp_block ?_ | ((first | refine awp_tk [] (by kernel_rfl) (fun K hK => ?_) | refine awp_dk [] mixed (by kernel_rfl) (by kernel_rfl) (fun K hK => ?_)); go_simp; (repeat (simp (disch := omega) only [dT, dF, nT, nF, wA, wB, wC, wD]; try go_simp)); (repeat (refine ⟨by (repeat' apply And.intro) <;> first | omega | trivial | assumption | decide, ?_⟩)); (first | (refine hK _ ?_; clear hK K) | (clear hK K; refine hK _ ?_; clear hK K) | (clear hK K; clear hK K; refine hK _ ?_; clear hK K) | (clear hK K; clear hK K; clear hK K; refine hK _ ?_; clear hK K))) | refine awp_ct rfl ?_ | refine awp_cf rfl ?_ | (first | (refine awp_skip (hK _ ?_); clear hK K) | (clear hK K; refine awp_skip (hK _ ?_); clear hK K) | (clear hK K; clear hK K; refine awp_skip (hK _ ?_); clear hK K) | (clear hK K; clear hK K; clear hK K; refine awp_skip (hK _ ?_); clear hK K)) | refine awp_seqk (fun K hK => ?_) | ((first | refine awp_t [] (by kernel_rfl) ?_ | refine awp_d [] mixed (by kernel_rfl) (by kernel_rfl) ?_); go_simp; (repeat (simp (disch := omega) only [dT, dF, nT, nF, wA, wB, wC, wD]; try go_simp)); (repeat (refine ⟨by (repeat' apply And.intro) <;> first | omega | trivial | assumption | decide, ?_⟩))) | (first | (refine hK _ ?_; clear hK K) | (clear hK K; refine hK _ ?_; clear hK K) | (clear hK K; clear hK K; refine hK _ ?_; clear hK K) | (clear hK K; clear hK K; clear hK K; refine hK _ ?_; clear hK K)) | (refine awp_exit ?_; simp only [thenA_exit, inBlk_exit, thenA_normal, inBlk_normal, ↓reduceIte, Nat.reduceEqDiff])))
        rw [e]
        exact awp_ret ⟨_, (by repeat' (first | exact .nil | exact .tmp _ _ rfl | apply ResL.cons)), (by repeat' (first | exact Coe.refl _ | exact Coe.c CoeC.nil | exact Coe.c CoeC.z | exact .nil | apply Coe.tup | apply CoeA.cons)), rfl⟩
  · have e : decide (a = b) = false := decide_eq_false (fun h => h1 (by rw [h]))
    (repeat' (first | refine awp_block ?_ | ((first | refine awp_tk [] (by kernel_rfl) (fun K hK => ?_) | refine awp_dk [] mixed (by kernel_rfl) (by kernel_rfl) (fun K hK => ?_)); go_simp; (repeat (simp (disch := omega) only [dT, dF, nT, nF, wA, wB, wC, wD]; try go_simp)); (repeat (refine ⟨by (repeat' apply And.intro) <;> first | omega | trivial | assumption | decide, ?_⟩)); (first | (refine hK _ ?_; clear hK K) | (clear hK K; refine hK _ ?_; clear hK K) | (clear hK K; clear hK K; refine hK _ ?_; clear hK K) | (clear hK K; clear hK K; clear hK K; refine hK _ ?_; clear hK K))) | refine awp_ct rfl ?_ | refine awp_cf rfl ?_ | (first | (refine awp_skip (hK _ ?_); clear hK K) | (clear hK K; refine awp_skip (hK _ ?_); clear hK K) | (clear hK K; clear hK K; refine awp_skip (hK _ ?_); clear hK K) | (clear hK K; clear hK K; clear hK K; refine awp_skip (hK _ ?_); clear hK K)) | refine awp_seqk (fun K hK => ?_) | ((first | refine awp_t [] (by kernel_rfl) ?_ | refine awp_d [] mixed (by kernel_rfl) (by kernel_rfl) ?_); go_simp; (repeat (simp (disch := omega) only [dT, dF, nT, nF, wA, wB, wC, wD]; try go_simp)); (repeat (refine ⟨by (repeat' apply And.intro) <;> first | omega | trivial | assumption | decide, ?_⟩))) | (first | (refine hK _ ?_; clear hK K) | (clear hK K; refine hK _ ?_; clear hK K) | (clear hK K; clear hK K; refine hK _ ?_; clear hK K) | (clear hK K; clear hK K; clear hK K; refine hK _ ?_; clear hK K)) | (refine awp_exit ?_; simp only [thenA_exit, inBlk_exit, thenA_normal, inBlk_normal, ↓reduceIte, Nat.reduceEqDiff])))
    rw [e]
    exact awp_ret ⟨_, (by repeat' (first | exact .nil | exact .tmp _ _ rfl | apply ResL.cons)), (by repeat' (first | exact Coe.refl _ | exact Coe.c CoeC.nil | exact Coe.c CoeC.z | exact .nil | apply Coe.tup | apply CoeA.cons)), rfl⟩
end Go.Proofs.Ytiimkhnngpfnbaa.Fx
/- The reference's Has, Taut, Norm, Resolve, Join on trees. -/
namespace Go.Proofs.Ytiimkhnngpfnbaa.Fx
open Go.RowKit
set_option linter.unusedVariables false
set_option linter.unusedSimpArgs false
set_option maxRecDepth 100000
theorem rhas_fx (c : List Int) (x : Int) : FxPure Try.prog 36 [.c (.t (.s (c.map intR))), .c (.t (.v (.int .i64 x)))] (.c (.t (.v (.bool (hasB c x))))) :=
  fx_of (y := .bool (hasB c x)) fun A w vals hlt hvl hv => by
    obtain ⟨a, cap, e1, h1⟩ := arg_ints (hv 0 (by simp)) hlt
    have e2 := arg_known (hv 1 (by simp))
    rw [vals2 hvl, e1, e2]
    refine (has_any a cap c x w h1 _ (Lib.hid rfl)).mono ?_
    rintro e w' ⟨rfl, rfl⟩
    exact ⟨rfl, Below.refl _ _⟩
theorem rtaut_fx (c : List Int) (hl : Lits c) : FxPure Try.prog 37 [.c (.t (.s (c.map intR)))] (.c (.t (.v (.bool (tautB c))))) :=
  fx_of (y := .bool (tautB c)) fun A w vals hlt hvl hv => by
    obtain ⟨a, cap, e1, h1⟩ := arg_ints (hv 0 (by simp)) hlt
    rw [vals1 hvl, e1]
    refine (rtaut_any a cap c w h1 hl _ (Lib.hid rfl)).mono ?_
    rintro e w' ⟨rfl, rfl⟩
    exact ⟨rfl, Below.refl _ _⟩
theorem rnorm_fx (c : List Int) (hlen : c.length ≤ 1000000) (hl : ∀ x ∈ c, -1000000 ≤ x ∧ x ≤ 1000000) : FxPure Try.prog 31 [.c (.t (.s (c.map intR)))] (.c (.t (.s ((normL c).map intR)))) :=
  fx_slice fun A w vals hlt hvl hv => by
    obtain ⟨a, cap, e1, h1⟩ := arg_ints (hv 0 (by simp)) hlt
    rw [vals1 hvl, e1]
    exact rnorm_anyF a cap c w h1 hlen hl
theorem without_take {c : List Int} {v : Int} {k : Nat} (h : k < c.length) : withoutL (c.take (k + 1)) v = withoutL (c.take k) v ++ (if c[k] = v then [] else [c[k]]) := by
  rw [List.take_succ_eq_append_getElem h]
  unfold withoutL
  rw [List.filter_append]
  congr 1
  by_cases e : c[k] = v
  · rw [if_pos e]; simp [e]
  · rw [if_neg e]; simp [e]
@[go_sem] def pairB (p : Option (List Int)) : AV := .tup [.c (.t (.s ((p.getD []).map intR))), .c (.t (.v (.bool p.isSome)))]
def resO (A B : List Int) (v : Int) : Option (List Int) := if resB A B v = true then some (resL A B v) else none
set_option maxHeartbeats 4000000 in
theorem rresolve_fx (A B : List Int) (v : Int) (hA : InL A) (hB : InL B) (hv : -9223372036854775807 ≤ v ∧ v ≤ 9223372036854775807) : FxPure Try.prog 30 [.c (.t (.s (A.map intR))), .c (.t (.s (B.map intR))), .c (.t (.v (.int .i64 v)))] (pairB (resO A B v)) := by
  refine fx_pure 69 Try.func30 rfl rfl rfl rfl (fun hlen => ?_)
  clear hlen
  have HA := Lib.hid hA
  have HB := Lib.hid hB
  have la := hA.1
  have lb := hB.1
  clear hA hB
  have HR : Hid (resB A B v = (decide (1 ≤ v) && hasB A v && hasB B (-v) && !tautB (bothL A B v))) := Lib.hid rfl
  have no : resB A B v = false → resO A B v = none := fun h => by unfold resO; rw [h]; rfl
  have yes : resB A B v = true → resO A B v = some (resL A B v) := fun h => by unfold resO; rw [h]; rfl
  have NO := Lib.hid no
  have YES := Lib.hid yes
  clear no yes
  by_cases h1 : v < 1
  · have e := NO.out (by rw [HR.out, decide_eq_false (show ¬ 1 ≤ v by omega)]; rfl)
    rw [e]
    (repeat' (first | refine awp_block ?_ | ((first | refine awp_tk [] (by kernel_rfl) (fun K hK => ?_) | refine awp_dk [] mixed (by kernel_rfl) (by kernel_rfl) (fun K hK => ?_)); go_simp; (repeat (simp (disch := omega) only [dT, dF, nT, nF, wA, wB, wC, wD]; try go_simp)); (repeat (refine ⟨by (repeat' apply And.intro) <;> first | omega | trivial | assumption | decide, ?_⟩)); (first | (refine hK _ ?_; clear hK K) | (clear hK K; refine hK _ ?_; clear hK K) | (clear hK K; clear hK K; refine hK _ ?_; clear hK K) | (clear hK K; clear hK K; clear hK K; refine hK _ ?_; clear hK K))) | refine awp_ct rfl ?_ | refine awp_cf rfl ?_ | (first | (refine awp_skip (hK _ ?_); clear hK K) | (clear hK K; refine awp_skip (hK _ ?_); clear hK K) | (clear hK K; clear hK K; refine awp_skip (hK _ ?_); clear hK K) | (clear hK K; clear hK K; clear hK K; refine awp_skip (hK _ ?_); clear hK K)) | refine awp_seqk (fun K hK => ?_) | ((first | refine awp_t [] (by kernel_rfl) ?_ | refine awp_d [] mixed (by kernel_rfl) (by kernel_rfl) ?_); go_simp; (repeat (simp (disch := omega) only [dT, dF, nT, nF, wA, wB, wC, wD]; try go_simp)); (repeat (refine ⟨by (repeat' apply And.intro) <;> first | omega | trivial | assumption | decide, ?_⟩))) | (first | (refine hK _ ?_; clear hK K) | (clear hK K; refine hK _ ?_; clear hK K) | (clear hK K; clear hK K; refine hK _ ?_; clear hK K) | (clear hK K; clear hK K; clear hK K; refine hK _ ?_; clear hK K)) | (refine awp_exit ?_; simp only [thenA_exit, inBlk_exit, thenA_normal, inBlk_normal, ↓reduceIte, Nat.reduceEqDiff])))
    exact awp_ret ⟨_, (by repeat' (first | exact .nil | exact .tmp _ _ rfl | apply ResL.cons)), (by repeat' (first | exact Coe.refl _ | exact Coe.c CoeC.nil | exact Coe.c CoeC.z | exact .nil | apply Coe.tup | apply CoeA.cons)), rfl⟩
  have v1 : decide (1 ≤ v) = true := decide_eq_true (by omega)
  have HV1 := Lib.hid v1
  clear v1
  cases e1 : hasB A v with
  | false =>
    have e := NO.out (by rw [HR.out, e1]; simp)
    rw [e]
    (repeat' (first | refine awp_block ?_ | ((first | refine awp_tk [] (by kernel_rfl) (fun K hK => ?_) | refine awp_dk [] mixed (by kernel_rfl) (by kernel_rfl) (fun K hK => ?_)); go_simp; (repeat (simp (disch := omega) only [dT, dF, nT, nF, wA, wB, wC, wD]; try go_simp)); (repeat (refine ⟨by (repeat' apply And.intro) <;> first | omega | trivial | assumption | decide, ?_⟩)); (first | (refine hK _ ?_; clear hK K) | (clear hK K; refine hK _ ?_; clear hK K) | (clear hK K; clear hK K; refine hK _ ?_; clear hK K) | (clear hK K; clear hK K; clear hK K; refine hK _ ?_; clear hK K))) | refine awp_ct rfl ?_ | refine awp_cf rfl ?_ | (first | (refine awp_skip (hK _ ?_); clear hK K) | (clear hK K; refine awp_skip (hK _ ?_); clear hK K) | (clear hK K; clear hK K; refine awp_skip (hK _ ?_); clear hK K) | (clear hK K; clear hK K; clear hK K; refine awp_skip (hK _ ?_); clear hK K)) | refine awp_seqk (fun K hK => ?_) | ((first | refine awp_t [] (by kernel_rfl) ?_ | refine awp_d [] mixed (by kernel_rfl) (by kernel_rfl) ?_); go_simp; (repeat (simp (disch := omega) only [dT, dF, nT, nF, wA, wB, wC, wD]; try go_simp)); (repeat (refine ⟨by (repeat' apply And.intro) <;> first | omega | trivial | assumption | decide, ?_⟩))) | (first | (refine hK _ ?_; clear hK K) | (clear hK K; refine hK _ ?_; clear hK K) | (clear hK K; clear hK K; refine hK _ ?_; clear hK K) | (clear hK K; clear hK K; clear hK K; refine hK _ ?_; clear hK K)) | (refine awp_exit ?_; simp only [thenA_exit, inBlk_exit, thenA_normal, inBlk_normal, ↓reduceIte, Nat.reduceEqDiff])))
    refine callV (rhas_fx A v) rfl ?_
    go_simp
    (repeat (simp (disch := omega) only [dT, dF, nT, nF, wA, wB, wC, wD]; try go_simp))
    (repeat (refine ⟨by (repeat' apply And.intro) <;> first | omega | trivial | assumption | decide, ?_⟩))
    (repeat' (first | refine awp_block ?_ | ((first | refine awp_tk [] (by kernel_rfl) (fun K hK => ?_) | refine awp_dk [] mixed (by kernel_rfl) (by kernel_rfl) (fun K hK => ?_)); go_simp; (repeat (simp (disch := omega) only [dT, dF, nT, nF, wA, wB, wC, wD]; try go_simp)); (repeat (refine ⟨by (repeat' apply And.intro) <;> first | omega | trivial | assumption | decide, ?_⟩)); (first | (refine hK _ ?_; clear hK K) | (clear hK K; refine hK _ ?_; clear hK K) | (clear hK K; clear hK K; refine hK _ ?_; clear hK K) | (clear hK K; clear hK K; clear hK K; refine hK _ ?_; clear hK K))) | refine awp_ct rfl ?_ | refine awp_cf rfl ?_ | (first | (refine awp_skip (hK _ ?_); clear hK K) | (clear hK K; refine awp_skip (hK _ ?_); clear hK K) | (clear hK K; clear hK K; refine awp_skip (hK _ ?_); clear hK K) | (clear hK K; clear hK K; clear hK K; refine awp_skip (hK _ ?_); clear hK K)) | refine awp_seqk (fun K hK => ?_) | ((first | refine awp_t [] (by kernel_rfl) ?_ | refine awp_d [] mixed (by kernel_rfl) (by kernel_rfl) ?_); go_simp; (repeat (simp (disch := omega) only [dT, dF, nT, nF, wA, wB, wC, wD]; try go_simp)); (repeat (refine ⟨by (repeat' apply And.intro) <;> first | omega | trivial | assumption | decide, ?_⟩))) | (first | (refine hK _ ?_; clear hK K) | (clear hK K; refine hK _ ?_; clear hK K) | (clear hK K; clear hK K; refine hK _ ?_; clear hK K) | (clear hK K; clear hK K; clear hK K; refine hK _ ?_; clear hK K)) | (refine awp_exit ?_; simp only [thenA_exit, inBlk_exit, thenA_normal, inBlk_normal, ↓reduceIte, Nat.reduceEqDiff])))
    exact awp_ret ⟨_, (by repeat' (first | exact .nil | exact .tmp _ _ rfl | apply ResL.cons)), (by repeat' (first | exact Coe.refl _ | exact Coe.c CoeC.nil | exact Coe.c CoeC.z | exact .nil | apply Coe.tup | apply CoeA.cons)), rfl⟩
  | true =>
    cases e2 : hasB B (-v) with
    | false =>
      have e := NO.out (by rw [HR.out, e2]; simp)
      rw [e]
      (repeat' (first | refine awp_block ?_ | ((first | refine awp_tk [] (by kernel_rfl) (fun K hK => ?_) | refine awp_dk [] mixed (by kernel_rfl) (by kernel_rfl) (fun K hK => ?_)); go_simp; (repeat (simp (disch := omega) only [dT, dF, nT, nF, wA, wB, wC, wD]; try go_simp)); (repeat (refine ⟨by (repeat' apply And.intro) <;> first | omega | trivial | assumption | decide, ?_⟩)); (first | (refine hK _ ?_; clear hK K) | (clear hK K; refine hK _ ?_; clear hK K) | (clear hK K; clear hK K; refine hK _ ?_; clear hK K) | (clear hK K; clear hK K; clear hK K; refine hK _ ?_; clear hK K))) | refine awp_ct rfl ?_ | refine awp_cf rfl ?_ | (first | (refine awp_skip (hK _ ?_); clear hK K) | (clear hK K; refine awp_skip (hK _ ?_); clear hK K) | (clear hK K; clear hK K; refine awp_skip (hK _ ?_); clear hK K) | (clear hK K; clear hK K; clear hK K; refine awp_skip (hK _ ?_); clear hK K)) | refine awp_seqk (fun K hK => ?_) | ((first | refine awp_t [] (by kernel_rfl) ?_ | refine awp_d [] mixed (by kernel_rfl) (by kernel_rfl) ?_); go_simp; (repeat (simp (disch := omega) only [dT, dF, nT, nF, wA, wB, wC, wD]; try go_simp)); (repeat (refine ⟨by (repeat' apply And.intro) <;> first | omega | trivial | assumption | decide, ?_⟩))) | (first | (refine hK _ ?_; clear hK K) | (clear hK K; refine hK _ ?_; clear hK K) | (clear hK K; clear hK K; refine hK _ ?_; clear hK K) | (clear hK K; clear hK K; clear hK K; refine hK _ ?_; clear hK K)) | (refine awp_exit ?_; simp only [thenA_exit, inBlk_exit, thenA_normal, inBlk_normal, ↓reduceIte, Nat.reduceEqDiff])))
      refine callV (rhas_fx A v) rfl ?_
      go_simp
      (repeat (simp (disch := omega) only [dT, dF, nT, nF, wA, wB, wC, wD]; try go_simp))
      (repeat (refine ⟨by (repeat' apply And.intro) <;> first | omega | trivial | assumption | decide, ?_⟩))
      refine callV (rhas_fx B (-v)) rfl ?_
      go_simp
      (repeat (simp (disch := omega) only [dT, dF, nT, nF, wA, wB, wC, wD]; try go_simp))
      (repeat (refine ⟨by (repeat' apply And.intro) <;> first | omega | trivial | assumption | decide, ?_⟩))
      (repeat' (first | refine awp_block ?_ | ((first | refine awp_tk [] (by kernel_rfl) (fun K hK => ?_) | refine awp_dk [] mixed (by kernel_rfl) (by kernel_rfl) (fun K hK => ?_)); go_simp; (repeat (simp (disch := omega) only [dT, dF, nT, nF, wA, wB, wC, wD]; try go_simp)); (repeat (refine ⟨by (repeat' apply And.intro) <;> first | omega | trivial | assumption | decide, ?_⟩)); (first | (refine hK _ ?_; clear hK K) | (clear hK K; refine hK _ ?_; clear hK K) | (clear hK K; clear hK K; refine hK _ ?_; clear hK K) | (clear hK K; clear hK K; clear hK K; refine hK _ ?_; clear hK K))) | refine awp_ct rfl ?_ | refine awp_cf rfl ?_ | (first | (refine awp_skip (hK _ ?_); clear hK K) | (clear hK K; refine awp_skip (hK _ ?_); clear hK K) | (clear hK K; clear hK K; refine awp_skip (hK _ ?_); clear hK K) | (clear hK K; clear hK K; clear hK K; refine awp_skip (hK _ ?_); clear hK K)) | refine awp_seqk (fun K hK => ?_) | ((first | refine awp_t [] (by kernel_rfl) ?_ | refine awp_d [] mixed (by kernel_rfl) (by kernel_rfl) ?_); go_simp; (repeat (simp (disch := omega) only [dT, dF, nT, nF, wA, wB, wC, wD]; try go_simp)); (repeat (refine ⟨by (repeat' apply And.intro) <;> first | omega | trivial | assumption | decide, ?_⟩))) | (first | (refine hK _ ?_; clear hK K) | (clear hK K; refine hK _ ?_; clear hK K) | (clear hK K; clear hK K; refine hK _ ?_; clear hK K) | (clear hK K; clear hK K; clear hK K; refine hK _ ?_; clear hK K)) | (refine awp_exit ?_; simp only [thenA_exit, inBlk_exit, thenA_normal, inBlk_normal, ↓reduceIte, Nat.reduceEqDiff])))
      exact awp_ret ⟨_, (by repeat' (first | exact .nil | exact .tmp _ _ rfl | apply ResL.cons)), (by repeat' (first | exact Coe.refl _ | exact Coe.c CoeC.nil | exact Coe.c CoeC.z | exact .nil | apply Coe.tup | apply CoeA.cons)), rfl⟩
    | true =>
      have HE : Hid (resB A B v = !tautB (bothL A B v)) := Lib.hid (by rw [HR.out, e1, e2, HV1.out]; rfl)
      (repeat' (first | refine awp_block ?_ | ((first | refine awp_tk [] (by kernel_rfl) (fun K hK => ?_) | refine awp_dk [] mixed (by kernel_rfl) (by kernel_rfl) (fun K hK => ?_)); go_simp; (repeat (simp (disch := omega) only [dT, dF, nT, nF, wA, wB, wC, wD]; try go_simp)); (repeat (refine ⟨by (repeat' apply And.intro) <;> first | omega | trivial | assumption | decide, ?_⟩)); (first | (refine hK _ ?_; clear hK K) | (clear hK K; refine hK _ ?_; clear hK K) | (clear hK K; clear hK K; refine hK _ ?_; clear hK K) | (clear hK K; clear hK K; clear hK K; refine hK _ ?_; clear hK K))) | refine awp_ct rfl ?_ | refine awp_cf rfl ?_ | (first | (refine awp_skip (hK _ ?_); clear hK K) | (clear hK K; refine awp_skip (hK _ ?_); clear hK K) | (clear hK K; clear hK K; refine awp_skip (hK _ ?_); clear hK K) | (clear hK K; clear hK K; clear hK K; refine awp_skip (hK _ ?_); clear hK K)) | refine awp_seqk (fun K hK => ?_) | ((first | refine awp_t [] (by kernel_rfl) ?_ | refine awp_d [] mixed (by kernel_rfl) (by kernel_rfl) ?_); go_simp; (repeat (simp (disch := omega) only [dT, dF, nT, nF, wA, wB, wC, wD]; try go_simp)); (repeat (refine ⟨by (repeat' apply And.intro) <;> first | omega | trivial | assumption | decide, ?_⟩))) | (first | (refine hK _ ?_; clear hK K) | (clear hK K; refine hK _ ?_; clear hK K) | (clear hK K; clear hK K; refine hK _ ?_; clear hK K) | (clear hK K; clear hK K; clear hK K; refine hK _ ?_; clear hK K)) | (refine awp_exit ?_; simp only [thenA_exit, inBlk_exit, thenA_normal, inBlk_normal, ↓reduceIte, Nat.reduceEqDiff])))
      refine callV (rhas_fx A v) rfl ?_
      go_simp
      (repeat (simp (disch := omega) only [dT, dF, nT, nF, wA, wB, wC, wD]; try go_simp))
      (repeat (refine ⟨by (repeat' apply And.intro) <;> first | omega | trivial | assumption | decide, ?_⟩))
      refine callV (rhas_fx B (-v)) rfl ?_
      go_simp
      (repeat (simp (disch := omega) only [dT, dF, nT, nF, wA, wB, wC, wD]; try go_simp))
      (repeat (refine ⟨by (repeat' apply And.intro) <;> first | omega | trivial | assumption | decide, ?_⟩))
      (repeat' (first | refine awp_block ?_ | ((first | refine awp_tk [] (by kernel_rfl) (fun K hK => ?_) | refine awp_dk [] mixed (by kernel_rfl) (by kernel_rfl) (fun K hK => ?_)); go_simp; (repeat (simp (disch := omega) only [dT, dF, nT, nF, wA, wB, wC, wD]; try go_simp)); (repeat (refine ⟨by (repeat' apply And.intro) <;> first | omega | trivial | assumption | decide, ?_⟩)); (first | (refine hK _ ?_; clear hK K) | (clear hK K; refine hK _ ?_; clear hK K) | (clear hK K; clear hK K; refine hK _ ?_; clear hK K) | (clear hK K; clear hK K; clear hK K; refine hK _ ?_; clear hK K))) | refine awp_ct rfl ?_ | refine awp_cf rfl ?_ | (first | (refine awp_skip (hK _ ?_); clear hK K) | (clear hK K; refine awp_skip (hK _ ?_); clear hK K) | (clear hK K; clear hK K; refine awp_skip (hK _ ?_); clear hK K) | (clear hK K; clear hK K; clear hK K; refine awp_skip (hK _ ?_); clear hK K)) | refine awp_seqk (fun K hK => ?_) | ((first | refine awp_t [] (by kernel_rfl) ?_ | refine awp_d [] mixed (by kernel_rfl) (by kernel_rfl) ?_); go_simp; (repeat (simp (disch := omega) only [dT, dF, nT, nF, wA, wB, wC, wD]; try go_simp)); (repeat (refine ⟨by (repeat' apply And.intro) <;> first | omega | trivial | assumption | decide, ?_⟩))) | (first | (refine hK _ ?_; clear hK K) | (clear hK K; refine hK _ ?_; clear hK K) | (clear hK K; clear hK K; refine hK _ ?_; clear hK K) | (clear hK K; clear hK K; clear hK K; refine hK _ ?_; clear hK K)) | (refine awp_exit ?_; simp only [thenA_exit, inBlk_exit, thenA_normal, inBlk_normal, ↓reduceIte, Nat.reduceEqDiff])))
      clear e1 e2
      refine awp_weak (weak_adopt 8 8 3 1 (by decide) (.inl rfl) rfl) ?_
      refine awp_lp (fun s => ∃ k : Nat, ∃ C : List Int, k ≤ A.length ∧ C = withoutL (A.take k) v ∧ s = ⟨[(0, .c (.t (.s (A.map intR)))), (1, .c (.t (.s (B.map intR)))), (2, .c (.t (.v (.int .i64 v)))), (8, .c (.own 8 C.length)), (9, .c (.t (.v (.int .i64 k))))], [(8, .row 3 1 (C.map intR))]⟩) (fun s => A.length - nat 9 s) _ ?_ ⟨0, [], Nat.zero_le _, rfl, rfl⟩ ?_
      · refine weak_w (by repeat' (first | exact trivial | exact Coe.refl _ | exact Coe.c CoeC.nil | apply And.intro)) (by repeat' (first | exact trivial | rfl | apply And.intro)) rfl rfl (by repeat' (first | exact trivial | (intro h; first | rfl | (exfalso; omega)) | apply And.intro))
      · rintro s R ⟨k, C, hk, hC, rfl⟩ hR
        have HC := Lib.hid hC
        have hcl : C.length ≤ A.length := by rw [hC]; exact Nat.le_trans (List.length_filter_le _ _) (by rw [List.length_take]; omega)
        clear hC
        by_cases hlt : k < A.length
        · have HT := Lib.hid (without_take (v := v) hlt)
          by_cases hx : A[k] = v
          · (repeat' (first | refine awp_block ?_ | ((first | refine awp_tk [] (by kernel_rfl) (fun K hK => ?_) | refine awp_dk [] mixed (by kernel_rfl) (by kernel_rfl) (fun K hK => ?_)); go_simp; (repeat (simp (disch := omega) only [dT, dF, nT, nF, wA, wB, wC, wD]; try go_simp)); (repeat (refine ⟨by (repeat' apply And.intro) <;> first | omega | trivial | assumption | decide, ?_⟩)); (first | (refine hK _ ?_; clear hK K) | (clear hK K; refine hK _ ?_; clear hK K) | (clear hK K; clear hK K; refine hK _ ?_; clear hK K) | (clear hK K; clear hK K; clear hK K; refine hK _ ?_; clear hK K))) | refine awp_ct rfl ?_ | refine awp_cf rfl ?_ | (first | (refine awp_skip (hK _ ?_); clear hK K) | (clear hK K; refine awp_skip (hK _ ?_); clear hK K) | (clear hK K; clear hK K; refine awp_skip (hK _ ?_); clear hK K) | (clear hK K; clear hK K; clear hK K; refine awp_skip (hK _ ?_); clear hK K)) | refine awp_seqk (fun K hK => ?_) | ((first | refine awp_t [] (by kernel_rfl) ?_ | refine awp_d [] mixed (by kernel_rfl) (by kernel_rfl) ?_); go_simp; (repeat (simp (disch := omega) only [dT, dF, nT, nF, wA, wB, wC, wD]; try go_simp)); (repeat (refine ⟨by (repeat' apply And.intro) <;> first | omega | trivial | assumption | decide, ?_⟩))) | (first | (refine hK _ ?_; clear hK K) | (clear hK K; refine hK _ ?_; clear hK K) | (clear hK K; clear hK K; refine hK _ ?_; clear hK K) | (clear hK K; clear hK K; clear hK K; refine hK _ ?_; clear hK K)) | (refine awp_exit ?_; simp only [thenA_exit, inBlk_exit, thenA_normal, inBlk_normal, ↓reduceIte, Nat.reduceEqDiff])))
            refine hR _ _ ?_ ⟨k + 1, C, by omega, ?_, rfl⟩ ?_
            · refine weak_w (by repeat' (first | exact trivial | exact Coe.refl _ | exact Coe.c CoeC.nil | apply And.intro)) (by repeat' (first | exact trivial | rfl | apply And.intro)) rfl rfl (by repeat' (first | exact trivial | (intro h; first | rfl | (exfalso; omega)) | apply And.intro))
            · rw [HT.out, if_pos hx, List.append_nil]; exact HC.out
            · simp [nat, sget]; omega
          · (repeat' (first | refine awp_block ?_ | ((first | refine awp_tk [] (by kernel_rfl) (fun K hK => ?_) | refine awp_dk [] mixed (by kernel_rfl) (by kernel_rfl) (fun K hK => ?_)); go_simp; (repeat (simp (disch := omega) only [dT, dF, nT, nF, wA, wB, wC, wD]; try go_simp)); (repeat (refine ⟨by (repeat' apply And.intro) <;> first | omega | trivial | assumption | decide, ?_⟩)); (first | (refine hK _ ?_; clear hK K) | (clear hK K; refine hK _ ?_; clear hK K) | (clear hK K; clear hK K; refine hK _ ?_; clear hK K) | (clear hK K; clear hK K; clear hK K; refine hK _ ?_; clear hK K))) | refine awp_ct rfl ?_ | refine awp_cf rfl ?_ | (first | (refine awp_skip (hK _ ?_); clear hK K) | (clear hK K; refine awp_skip (hK _ ?_); clear hK K) | (clear hK K; clear hK K; refine awp_skip (hK _ ?_); clear hK K) | (clear hK K; clear hK K; clear hK K; refine awp_skip (hK _ ?_); clear hK K)) | refine awp_seqk (fun K hK => ?_) | ((first | refine awp_t [] (by kernel_rfl) ?_ | refine awp_d [] mixed (by kernel_rfl) (by kernel_rfl) ?_); go_simp; (repeat (simp (disch := omega) only [dT, dF, nT, nF, wA, wB, wC, wD]; try go_simp)); (repeat (refine ⟨by (repeat' apply And.intro) <;> first | omega | trivial | assumption | decide, ?_⟩))) | (first | (refine hK _ ?_; clear hK K) | (clear hK K; refine hK _ ?_; clear hK K) | (clear hK K; clear hK K; refine hK _ ?_; clear hK K) | (clear hK K; clear hK K; clear hK K; refine hK _ ?_; clear hK K)) | (refine awp_exit ?_; simp only [thenA_exit, inBlk_exit, thenA_normal, inBlk_normal, ↓reduceIte, Nat.reduceEqDiff])))
            refine hR _ _ ?_ ⟨k + 1, C ++ [A[k]], by omega, ?_, rfl⟩ ?_
            · simp only [List.length_append, List.length_singleton, List.map_append, List.map_cons, List.map_nil, intR]
              refine weak_w (by repeat' (first | exact trivial | exact Coe.refl _ | exact Coe.c CoeC.nil | apply And.intro)) (by repeat' (first | exact trivial | rfl | apply And.intro)) rfl rfl (by repeat' (first | exact trivial | (intro h; first | rfl | (exfalso; omega)) | apply And.intro))
            · rw [HT.out, if_neg hx, HC.out]
            · simp [nat, sget]; omega
        · have HC1 : Hid (C = withoutL A v) := Lib.hid (by rw [HC.out, List.take_of_length_le (by omega)])
          clear HC
          (repeat' (first | refine awp_block ?_ | ((first | refine awp_tk [] (by kernel_rfl) (fun K hK => ?_) | refine awp_dk [] mixed (by kernel_rfl) (by kernel_rfl) (fun K hK => ?_)); go_simp; (repeat (simp (disch := omega) only [dT, dF, nT, nF, wA, wB, wC, wD]; try go_simp)); (repeat (refine ⟨by (repeat' apply And.intro) <;> first | omega | trivial | assumption | decide, ?_⟩)); (first | (refine hK _ ?_; clear hK K) | (clear hK K; refine hK _ ?_; clear hK K) | (clear hK K; clear hK K; refine hK _ ?_; clear hK K) | (clear hK K; clear hK K; clear hK K; refine hK _ ?_; clear hK K))) | refine awp_ct rfl ?_ | refine awp_cf rfl ?_ | (first | (refine awp_skip (hK _ ?_); clear hK K) | (clear hK K; refine awp_skip (hK _ ?_); clear hK K) | (clear hK K; clear hK K; refine awp_skip (hK _ ?_); clear hK K) | (clear hK K; clear hK K; clear hK K; refine awp_skip (hK _ ?_); clear hK K)) | refine awp_seqk (fun K hK => ?_) | ((first | refine awp_t [] (by kernel_rfl) ?_ | refine awp_d [] mixed (by kernel_rfl) (by kernel_rfl) ?_); go_simp; (repeat (simp (disch := omega) only [dT, dF, nT, nF, wA, wB, wC, wD]; try go_simp)); (repeat (refine ⟨by (repeat' apply And.intro) <;> first | omega | trivial | assumption | decide, ?_⟩))) | (first | (refine hK _ ?_; clear hK K) | (clear hK K; refine hK _ ?_; clear hK K) | (clear hK K; clear hK K; refine hK _ ?_; clear hK K) | (clear hK K; clear hK K; clear hK K; refine hK _ ?_; clear hK K)) | (refine awp_exit ?_; simp only [thenA_exit, inBlk_exit, thenA_normal, inBlk_normal, ↓reduceIte, Nat.reduceEqDiff])))
          clear hR R
          refine awp_lp (fun s => ∃ k : Nat, ∃ D : List Int, k ≤ B.length ∧ D = withoutL A v ++ withoutL (B.take k) (-v) ∧ s = ⟨[(1, .c (.t (.s (B.map intR)))), (2, .c (.t (.v (.int .i64 v)))), (8, .c (.own 8 D.length)), (10, .c (.t (.v (.int .i64 k))))], [(8, .row 3 1 (D.map intR))]⟩) (fun s => B.length - nat 10 s) _ ?_ ⟨0, C, Nat.zero_le _, by rw [HC1.out]; simp [withoutL], rfl⟩ ?_
          · refine weak_w (by repeat' (first | exact trivial | exact Coe.refl _ | exact Coe.c CoeC.nil | apply And.intro)) (by repeat' (first | exact trivial | rfl | apply And.intro)) rfl rfl (by repeat' (first | exact trivial | (intro h; first | rfl | (exfalso; omega)) | apply And.intro))
          · rintro s R ⟨q, D, hq, hD, rfl⟩ hR
            have HD := Lib.hid hD
            have hdl : D.length ≤ A.length + B.length := by
              have l1 : (withoutL A v).length ≤ A.length := List.length_filter_le _ _
              have l2 : (withoutL (B.take q) (-v)).length ≤ B.length := Nat.le_trans (List.length_filter_le _ _) (by rw [List.length_take]; omega)
              rw [hD, List.length_append]; omega
            clear hD
            by_cases hql : q < B.length
            · have HT := Lib.hid (without_take (v := -v) hql)
              by_cases hx : B[q] = -v
              · (repeat' (first | refine awp_block ?_ | ((first | refine awp_tk [] (by kernel_rfl) (fun K hK => ?_) | refine awp_dk [] mixed (by kernel_rfl) (by kernel_rfl) (fun K hK => ?_)); go_simp; (repeat (simp (disch := omega) only [dT, dF, nT, nF, wA, wB, wC, wD]; try go_simp)); (repeat (refine ⟨by (repeat' apply And.intro) <;> first | omega | trivial | assumption | decide, ?_⟩)); (first | (refine hK _ ?_; clear hK K) | (clear hK K; refine hK _ ?_; clear hK K) | (clear hK K; clear hK K; refine hK _ ?_; clear hK K) | (clear hK K; clear hK K; clear hK K; refine hK _ ?_; clear hK K))) | refine awp_ct rfl ?_ | refine awp_cf rfl ?_ | (first | (refine awp_skip (hK _ ?_); clear hK K) | (clear hK K; refine awp_skip (hK _ ?_); clear hK K) | (clear hK K; clear hK K; refine awp_skip (hK _ ?_); clear hK K) | (clear hK K; clear hK K; clear hK K; refine awp_skip (hK _ ?_); clear hK K)) | refine awp_seqk (fun K hK => ?_) | ((first | refine awp_t [] (by kernel_rfl) ?_ | refine awp_d [] mixed (by kernel_rfl) (by kernel_rfl) ?_); go_simp; (repeat (simp (disch := omega) only [dT, dF, nT, nF, wA, wB, wC, wD]; try go_simp)); (repeat (refine ⟨by (repeat' apply And.intro) <;> first | omega | trivial | assumption | decide, ?_⟩))) | (first | (refine hK _ ?_; clear hK K) | (clear hK K; refine hK _ ?_; clear hK K) | (clear hK K; clear hK K; refine hK _ ?_; clear hK K) | (clear hK K; clear hK K; clear hK K; refine hK _ ?_; clear hK K)) | (refine awp_exit ?_; simp only [thenA_exit, inBlk_exit, thenA_normal, inBlk_normal, ↓reduceIte, Nat.reduceEqDiff])))
                refine hR _ _ ?_ ⟨q + 1, D, by omega, ?_, rfl⟩ ?_
                · refine weak_w (by repeat' (first | exact trivial | exact Coe.refl _ | exact Coe.c CoeC.nil | apply And.intro)) (by repeat' (first | exact trivial | rfl | apply And.intro)) rfl rfl (by repeat' (first | exact trivial | (intro h; first | rfl | (exfalso; omega)) | apply And.intro))
                · rw [HT.out, if_pos hx, List.append_nil]; exact HD.out
                · simp [nat, sget]; omega
              · (repeat' (first | refine awp_block ?_ | ((first | refine awp_tk [] (by kernel_rfl) (fun K hK => ?_) | refine awp_dk [] mixed (by kernel_rfl) (by kernel_rfl) (fun K hK => ?_)); go_simp; (repeat (simp (disch := omega) only [dT, dF, nT, nF, wA, wB, wC, wD]; try go_simp)); (repeat (refine ⟨by (repeat' apply And.intro) <;> first | omega | trivial | assumption | decide, ?_⟩)); (first | (refine hK _ ?_; clear hK K) | (clear hK K; refine hK _ ?_; clear hK K) | (clear hK K; clear hK K; refine hK _ ?_; clear hK K) | (clear hK K; clear hK K; clear hK K; refine hK _ ?_; clear hK K))) | refine awp_ct rfl ?_ | refine awp_cf rfl ?_ | (first | (refine awp_skip (hK _ ?_); clear hK K) | (clear hK K; refine awp_skip (hK _ ?_); clear hK K) | (clear hK K; clear hK K; refine awp_skip (hK _ ?_); clear hK K) | (clear hK K; clear hK K; clear hK K; refine awp_skip (hK _ ?_); clear hK K)) | refine awp_seqk (fun K hK => ?_) | ((first | refine awp_t [] (by kernel_rfl) ?_ | refine awp_d [] mixed (by kernel_rfl) (by kernel_rfl) ?_); go_simp; (repeat (simp (disch := omega) only [dT, dF, nT, nF, wA, wB, wC, wD]; try go_simp)); (repeat (refine ⟨by (repeat' apply And.intro) <;> first | omega | trivial | assumption | decide, ?_⟩))) | (first | (refine hK _ ?_; clear hK K) | (clear hK K; refine hK _ ?_; clear hK K) | (clear hK K; clear hK K; refine hK _ ?_; clear hK K) | (clear hK K; clear hK K; clear hK K; refine hK _ ?_; clear hK K)) | (refine awp_exit ?_; simp only [thenA_exit, inBlk_exit, thenA_normal, inBlk_normal, ↓reduceIte, Nat.reduceEqDiff])))
                refine hR _ _ ?_ ⟨q + 1, D ++ [B[q]], by omega, ?_, rfl⟩ ?_
                · simp only [List.length_append, List.length_singleton, List.map_append, List.map_cons, List.map_nil, intR]
                  refine weak_w (by repeat' (first | exact trivial | exact Coe.refl _ | exact Coe.c CoeC.nil | apply And.intro)) (by repeat' (first | exact trivial | rfl | apply And.intro)) rfl rfl (by repeat' (first | exact trivial | (intro h; first | rfl | (exfalso; omega)) | apply And.intro))
                · rw [HT.out, if_neg hx, HD.out, List.append_assoc]
                · simp [nat, sget]; omega
            · have HD1 : Hid (D = bothL A B v) := Lib.hid (by rw [HD.out, List.take_of_length_le (by omega)]; rfl)
              clear HD
              obtain ⟨n, hn⟩ : ∃ n, D.length = n := ⟨_, rfl⟩
              have HLI : Hid (Lits D) := Lib.hid (by rw [HD1.out]; exact lits_both v HA.out.2 HB.out.2)
              refine awp_weak (weak_freeze 8 (by decide) rfl) ?_
              simp only [frzS, frzAV, frzC, frzH, frzO, List.length_map, ↓reduceIte, Nat.reduceEqDiff]
              cases e3 : tautB D with
              | true =>
                have e := NO.out (by rw [HE.out, ← HD1.out, e3]; rfl)
                (repeat' (first | refine awp_block ?_ | ((first | refine awp_tk [] (by kernel_rfl) (fun K hK => ?_) | refine awp_dk [] mixed (by kernel_rfl) (by kernel_rfl) (fun K hK => ?_)); go_simp; (repeat (simp (disch := omega) only [dT, dF, nT, nF, wA, wB, wC, wD]; try go_simp)); (repeat (refine ⟨by (repeat' apply And.intro) <;> first | omega | trivial | assumption | decide, ?_⟩)); (first | (refine hK _ ?_; clear hK K) | (clear hK K; refine hK _ ?_; clear hK K) | (clear hK K; clear hK K; refine hK _ ?_; clear hK K) | (clear hK K; clear hK K; clear hK K; refine hK _ ?_; clear hK K))) | refine awp_ct rfl ?_ | refine awp_cf rfl ?_ | (first | (refine awp_skip (hK _ ?_); clear hK K) | (clear hK K; refine awp_skip (hK _ ?_); clear hK K) | (clear hK K; clear hK K; refine awp_skip (hK _ ?_); clear hK K) | (clear hK K; clear hK K; clear hK K; refine awp_skip (hK _ ?_); clear hK K)) | refine awp_seqk (fun K hK => ?_) | ((first | refine awp_t [] (by kernel_rfl) ?_ | refine awp_d [] mixed (by kernel_rfl) (by kernel_rfl) ?_); go_simp; (repeat (simp (disch := omega) only [dT, dF, nT, nF, wA, wB, wC, wD]; try go_simp)); (repeat (refine ⟨by (repeat' apply And.intro) <;> first | omega | trivial | assumption | decide, ?_⟩))) | (first | (refine hK _ ?_; clear hK K) | (clear hK K; refine hK _ ?_; clear hK K) | (clear hK K; clear hK K; refine hK _ ?_; clear hK K) | (clear hK K; clear hK K; clear hK K; refine hK _ ?_; clear hK K)) | (refine awp_exit ?_; simp only [thenA_exit, inBlk_exit, thenA_normal, inBlk_normal, ↓reduceIte, Nat.reduceEqDiff])))
                refine callV (rtaut_fx D HLI.out) rfl ?_
                go_simp
                (repeat (simp (disch := omega) only [dT, dF, nT, nF, wA, wB, wC, wD]; try go_simp))
                (repeat (refine ⟨by (repeat' apply And.intro) <;> first | omega | trivial | assumption | decide, ?_⟩))
                (repeat' (first | refine awp_block ?_ | ((first | refine awp_tk [] (by kernel_rfl) (fun K hK => ?_) | refine awp_dk [] mixed (by kernel_rfl) (by kernel_rfl) (fun K hK => ?_)); go_simp; (repeat (simp (disch := omega) only [dT, dF, nT, nF, wA, wB, wC, wD]; try go_simp)); (repeat (refine ⟨by (repeat' apply And.intro) <;> first | omega | trivial | assumption | decide, ?_⟩)); (first | (refine hK _ ?_; clear hK K) | (clear hK K; refine hK _ ?_; clear hK K) | (clear hK K; clear hK K; refine hK _ ?_; clear hK K) | (clear hK K; clear hK K; clear hK K; refine hK _ ?_; clear hK K))) | refine awp_ct rfl ?_ | refine awp_cf rfl ?_ | (first | (refine awp_skip (hK _ ?_); clear hK K) | (clear hK K; refine awp_skip (hK _ ?_); clear hK K) | (clear hK K; clear hK K; refine awp_skip (hK _ ?_); clear hK K) | (clear hK K; clear hK K; clear hK K; refine awp_skip (hK _ ?_); clear hK K)) | refine awp_seqk (fun K hK => ?_) | ((first | refine awp_t [] (by kernel_rfl) ?_ | refine awp_d [] mixed (by kernel_rfl) (by kernel_rfl) ?_); go_simp; (repeat (simp (disch := omega) only [dT, dF, nT, nF, wA, wB, wC, wD]; try go_simp)); (repeat (refine ⟨by (repeat' apply And.intro) <;> first | omega | trivial | assumption | decide, ?_⟩))) | (first | (refine hK _ ?_; clear hK K) | (clear hK K; refine hK _ ?_; clear hK K) | (clear hK K; clear hK K; refine hK _ ?_; clear hK K) | (clear hK K; clear hK K; clear hK K; refine hK _ ?_; clear hK K)) | (refine awp_exit ?_; simp only [thenA_exit, inBlk_exit, thenA_normal, inBlk_normal, ↓reduceIte, Nat.reduceEqDiff])))
                rw [e]
                exact awp_ret ⟨_, (by repeat' (first | exact .nil | exact .tmp _ _ rfl | apply ResL.cons)), (by repeat' (first | exact Coe.refl _ | exact Coe.c CoeC.nil | exact Coe.c CoeC.z | exact .nil | apply Coe.tup | apply CoeA.cons)), rfl⟩
              | false =>
                have e := YES.out (by rw [HE.out, ← HD1.out, e3]; rfl)
                (repeat' (first | refine awp_block ?_ | ((first | refine awp_tk [] (by kernel_rfl) (fun K hK => ?_) | refine awp_dk [] mixed (by kernel_rfl) (by kernel_rfl) (fun K hK => ?_)); go_simp; (repeat (simp (disch := omega) only [dT, dF, nT, nF, wA, wB, wC, wD]; try go_simp)); (repeat (refine ⟨by (repeat' apply And.intro) <;> first | omega | trivial | assumption | decide, ?_⟩)); (first | (refine hK _ ?_; clear hK K) | (clear hK K; refine hK _ ?_; clear hK K) | (clear hK K; clear hK K; refine hK _ ?_; clear hK K) | (clear hK K; clear hK K; clear hK K; refine hK _ ?_; clear hK K))) | refine awp_ct rfl ?_ | refine awp_cf rfl ?_ | (first | (refine awp_skip (hK _ ?_); clear hK K) | (clear hK K; refine awp_skip (hK _ ?_); clear hK K) | (clear hK K; clear hK K; refine awp_skip (hK _ ?_); clear hK K) | (clear hK K; clear hK K; clear hK K; refine awp_skip (hK _ ?_); clear hK K)) | refine awp_seqk (fun K hK => ?_) | ((first | refine awp_t [] (by kernel_rfl) ?_ | refine awp_d [] mixed (by kernel_rfl) (by kernel_rfl) ?_); go_simp; (repeat (simp (disch := omega) only [dT, dF, nT, nF, wA, wB, wC, wD]; try go_simp)); (repeat (refine ⟨by (repeat' apply And.intro) <;> first | omega | trivial | assumption | decide, ?_⟩))) | (first | (refine hK _ ?_; clear hK K) | (clear hK K; refine hK _ ?_; clear hK K) | (clear hK K; clear hK K; refine hK _ ?_; clear hK K) | (clear hK K; clear hK K; clear hK K; refine hK _ ?_; clear hK K)) | (refine awp_exit ?_; simp only [thenA_exit, inBlk_exit, thenA_normal, inBlk_normal, ↓reduceIte, Nat.reduceEqDiff])))
                refine callV (rtaut_fx D HLI.out) rfl ?_
                go_simp
                (repeat (simp (disch := omega) only [dT, dF, nT, nF, wA, wB, wC, wD]; try go_simp))
                (repeat (refine ⟨by (repeat' apply And.intro) <;> first | omega | trivial | assumption | decide, ?_⟩))
                (repeat' (first | refine awp_block ?_ | ((first | refine awp_tk [] (by kernel_rfl) (fun K hK => ?_) | refine awp_dk [] mixed (by kernel_rfl) (by kernel_rfl) (fun K hK => ?_)); go_simp; (repeat (simp (disch := omega) only [dT, dF, nT, nF, wA, wB, wC, wD]; try go_simp)); (repeat (refine ⟨by (repeat' apply And.intro) <;> first | omega | trivial | assumption | decide, ?_⟩)); (first | (refine hK _ ?_; clear hK K) | (clear hK K; refine hK _ ?_; clear hK K) | (clear hK K; clear hK K; refine hK _ ?_; clear hK K) | (clear hK K; clear hK K; clear hK K; refine hK _ ?_; clear hK K))) | refine awp_ct rfl ?_ | refine awp_cf rfl ?_ | (first | (refine awp_skip (hK _ ?_); clear hK K) | (clear hK K; refine awp_skip (hK _ ?_); clear hK K) | (clear hK K; clear hK K; refine awp_skip (hK _ ?_); clear hK K) | (clear hK K; clear hK K; clear hK K; refine awp_skip (hK _ ?_); clear hK K)) | refine awp_seqk (fun K hK => ?_) | ((first | refine awp_t [] (by kernel_rfl) ?_ | refine awp_d [] mixed (by kernel_rfl) (by kernel_rfl) ?_); go_simp; (repeat (simp (disch := omega) only [dT, dF, nT, nF, wA, wB, wC, wD]; try go_simp)); (repeat (refine ⟨by (repeat' apply And.intro) <;> first | omega | trivial | assumption | decide, ?_⟩))) | (first | (refine hK _ ?_; clear hK K) | (clear hK K; refine hK _ ?_; clear hK K) | (clear hK K; clear hK K; refine hK _ ?_; clear hK K) | (clear hK K; clear hK K; clear hK K; refine hK _ ?_; clear hK K)) | (refine awp_exit ?_; simp only [thenA_exit, inBlk_exit, thenA_normal, inBlk_normal, ↓reduceIte, Nat.reduceEqDiff])))
                refine callV (rnorm_fx D (by omega) (fun x hx => (HLI.out x hx).2)) rfl ?_
                go_simp
                (repeat (simp (disch := omega) only [dT, dF, nT, nF, wA, wB, wC, wD]; try go_simp))
                (repeat (refine ⟨by (repeat' apply And.intro) <;> first | omega | trivial | assumption | decide, ?_⟩))
                (repeat' (first | refine awp_block ?_ | ((first | refine awp_tk [] (by kernel_rfl) (fun K hK => ?_) | refine awp_dk [] mixed (by kernel_rfl) (by kernel_rfl) (fun K hK => ?_)); go_simp; (repeat (simp (disch := omega) only [dT, dF, nT, nF, wA, wB, wC, wD]; try go_simp)); (repeat (refine ⟨by (repeat' apply And.intro) <;> first | omega | trivial | assumption | decide, ?_⟩)); (first | (refine hK _ ?_; clear hK K) | (clear hK K; refine hK _ ?_; clear hK K) | (clear hK K; clear hK K; refine hK _ ?_; clear hK K) | (clear hK K; clear hK K; clear hK K; refine hK _ ?_; clear hK K))) | refine awp_ct rfl ?_ | refine awp_cf rfl ?_ | (first | (refine awp_skip (hK _ ?_); clear hK K) | (clear hK K; refine awp_skip (hK _ ?_); clear hK K) | (clear hK K; clear hK K; refine awp_skip (hK _ ?_); clear hK K) | (clear hK K; clear hK K; clear hK K; refine awp_skip (hK _ ?_); clear hK K)) | refine awp_seqk (fun K hK => ?_) | ((first | refine awp_t [] (by kernel_rfl) ?_ | refine awp_d [] mixed (by kernel_rfl) (by kernel_rfl) ?_); go_simp; (repeat (simp (disch := omega) only [dT, dF, nT, nF, wA, wB, wC, wD]; try go_simp)); (repeat (refine ⟨by (repeat' apply And.intro) <;> first | omega | trivial | assumption | decide, ?_⟩))) | (first | (refine hK _ ?_; clear hK K) | (clear hK K; refine hK _ ?_; clear hK K) | (clear hK K; clear hK K; refine hK _ ?_; clear hK K) | (clear hK K; clear hK K; clear hK K; refine hK _ ?_; clear hK K)) | (refine awp_exit ?_; simp only [thenA_exit, inBlk_exit, thenA_normal, inBlk_normal, ↓reduceIte, Nat.reduceEqDiff])))
                rw [e]
                unfold resL
                rw [← HD1.out]
                exact awp_ret ⟨_, (by repeat' (first | exact .nil | exact .tmp _ _ rfl | apply ResL.cons)), (by repeat' (first | exact Coe.refl _ | exact Coe.c CoeC.nil | exact Coe.c CoeC.z | exact .nil | apply Coe.tup | apply CoeA.cons)), rfl⟩
set_option maxHeartbeats 1000000 in
theorem rjoin_fx (A B : List Int) (v : Int) (hA : InL A) (hB : InL B) (hv : -9223372036854775807 ≤ v ∧ v ≤ 9223372036854775807) : FxPure Try.prog 22 [.c (.t (.s (A.map intR))), .c (.t (.s (B.map intR))), .c (.t (.v (.int .i64 v)))] (pairB (joinR A B v)) := by
  refine fx_pure 25 Try.func22 rfl rfl rfl rfl (fun hlen => ?_)
  clear hlen
  have HA := Lib.hid hA
  have HB := Lib.hid hB
  have HV := Lib.hid hv
  clear hA hB
  cases e1 : resB A B v with
  | true =>
    have e : joinR A B v = some (resL A B v) := by unfold joinR; rw [if_pos e1]
    have f : resO A B v = some (resL A B v) := by unfold resO; rw [if_pos e1]
    rw [e]
    (repeat' (first | refine awp_block ?_ | ((first | refine awp_tk [] (by kernel_rfl) (fun K hK => ?_) | refine awp_dk [] mixed (by kernel_rfl) (by kernel_rfl) (fun K hK => ?_)); go_simp; (repeat (simp (disch := omega) only [dT, dF, nT, nF, wA, wB, wC, wD]; try go_simp)); (repeat (refine ⟨by (repeat' apply And.intro) <;> first | omega | trivial | assumption | decide, ?_⟩)); (first | (refine hK _ ?_; clear hK K) | (clear hK K; refine hK _ ?_; clear hK K) | (clear hK K; clear hK K; refine hK _ ?_; clear hK K) | (clear hK K; clear hK K; clear hK K; refine hK _ ?_; clear hK K))) | refine awp_ct rfl ?_ | refine awp_cf rfl ?_ | (first | (refine awp_skip (hK _ ?_); clear hK K) | (clear hK K; refine awp_skip (hK _ ?_); clear hK K) | (clear hK K; clear hK K; refine awp_skip (hK _ ?_); clear hK K) | (clear hK K; clear hK K; clear hK K; refine awp_skip (hK _ ?_); clear hK K)) | refine awp_seqk (fun K hK => ?_) | ((first | refine awp_t [] (by kernel_rfl) ?_ | refine awp_d [] mixed (by kernel_rfl) (by kernel_rfl) ?_); go_simp; (repeat (simp (disch := omega) only [dT, dF, nT, nF, wA, wB, wC, wD]; try go_simp)); (repeat (refine ⟨by (repeat' apply And.intro) <;> first | omega | trivial | assumption | decide, ?_⟩))) | (first | (refine hK _ ?_; clear hK K) | (clear hK K; refine hK _ ?_; clear hK K) | (clear hK K; clear hK K; refine hK _ ?_; clear hK K) | (clear hK K; clear hK K; clear hK K; refine hK _ ?_; clear hK K)) | (refine awp_exit ?_; simp only [thenA_exit, inBlk_exit, thenA_normal, inBlk_normal, ↓reduceIte, Nat.reduceEqDiff])))
    refine callV (rresolve_fx A B v HA.out HB.out HV.out) rfl ?_
    go_simp
    (repeat (simp (disch := omega) only [dT, dF, nT, nF, wA, wB, wC, wD]; try go_simp))
    (repeat (refine ⟨by (repeat' apply And.intro) <;> first | omega | trivial | assumption | decide, ?_⟩))
    (repeat' (first | refine awp_block ?_ | ((first | refine awp_tk [] (by kernel_rfl) (fun K hK => ?_) | refine awp_dk [] mixed (by kernel_rfl) (by kernel_rfl) (fun K hK => ?_)); go_simp; (repeat (simp (disch := omega) only [dT, dF, nT, nF, wA, wB, wC, wD]; try go_simp)); (repeat (refine ⟨by (repeat' apply And.intro) <;> first | omega | trivial | assumption | decide, ?_⟩)); (first | (refine hK _ ?_; clear hK K) | (clear hK K; refine hK _ ?_; clear hK K) | (clear hK K; clear hK K; refine hK _ ?_; clear hK K) | (clear hK K; clear hK K; clear hK K; refine hK _ ?_; clear hK K))) | refine awp_ct rfl ?_ | refine awp_cf rfl ?_ | (first | (refine awp_skip (hK _ ?_); clear hK K) | (clear hK K; refine awp_skip (hK _ ?_); clear hK K) | (clear hK K; clear hK K; refine awp_skip (hK _ ?_); clear hK K) | (clear hK K; clear hK K; clear hK K; refine awp_skip (hK _ ?_); clear hK K)) | refine awp_seqk (fun K hK => ?_) | ((first | refine awp_t [] (by kernel_rfl) ?_ | refine awp_d [] mixed (by kernel_rfl) (by kernel_rfl) ?_); go_simp; (repeat (simp (disch := omega) only [dT, dF, nT, nF, wA, wB, wC, wD]; try go_simp)); (repeat (refine ⟨by (repeat' apply And.intro) <;> first | omega | trivial | assumption | decide, ?_⟩))) | (first | (refine hK _ ?_; clear hK K) | (clear hK K; refine hK _ ?_; clear hK K) | (clear hK K; clear hK K; refine hK _ ?_; clear hK K) | (clear hK K; clear hK K; clear hK K; refine hK _ ?_; clear hK K)) | (refine awp_exit ?_; simp only [thenA_exit, inBlk_exit, thenA_normal, inBlk_normal, ↓reduceIte, Nat.reduceEqDiff])))
    exact awp_ret ⟨_, (by repeat' (first | exact .nil | exact .tmp _ _ rfl | apply ResL.cons)), (by repeat' (first | exact Coe.refl _ | exact Coe.c CoeC.nil | exact Coe.c CoeC.z | exact .nil | apply Coe.tup | apply CoeA.cons)), rfl⟩
  | false =>
    have e : joinR A B v = resO B A v := by unfold joinR resO; rw [e1]; rfl
    have f : resO A B v = none := by unfold resO; rw [e1]; rfl
    rw [e]
    (repeat' (first | refine awp_block ?_ | ((first | refine awp_tk [] (by kernel_rfl) (fun K hK => ?_) | refine awp_dk [] mixed (by kernel_rfl) (by kernel_rfl) (fun K hK => ?_)); go_simp; (repeat (simp (disch := omega) only [dT, dF, nT, nF, wA, wB, wC, wD]; try go_simp)); (repeat (refine ⟨by (repeat' apply And.intro) <;> first | omega | trivial | assumption | decide, ?_⟩)); (first | (refine hK _ ?_; clear hK K) | (clear hK K; refine hK _ ?_; clear hK K) | (clear hK K; clear hK K; refine hK _ ?_; clear hK K) | (clear hK K; clear hK K; clear hK K; refine hK _ ?_; clear hK K))) | refine awp_ct rfl ?_ | refine awp_cf rfl ?_ | (first | (refine awp_skip (hK _ ?_); clear hK K) | (clear hK K; refine awp_skip (hK _ ?_); clear hK K) | (clear hK K; clear hK K; refine awp_skip (hK _ ?_); clear hK K) | (clear hK K; clear hK K; clear hK K; refine awp_skip (hK _ ?_); clear hK K)) | refine awp_seqk (fun K hK => ?_) | ((first | refine awp_t [] (by kernel_rfl) ?_ | refine awp_d [] mixed (by kernel_rfl) (by kernel_rfl) ?_); go_simp; (repeat (simp (disch := omega) only [dT, dF, nT, nF, wA, wB, wC, wD]; try go_simp)); (repeat (refine ⟨by (repeat' apply And.intro) <;> first | omega | trivial | assumption | decide, ?_⟩))) | (first | (refine hK _ ?_; clear hK K) | (clear hK K; refine hK _ ?_; clear hK K) | (clear hK K; clear hK K; refine hK _ ?_; clear hK K) | (clear hK K; clear hK K; clear hK K; refine hK _ ?_; clear hK K)) | (refine awp_exit ?_; simp only [thenA_exit, inBlk_exit, thenA_normal, inBlk_normal, ↓reduceIte, Nat.reduceEqDiff])))
    refine callV (rresolve_fx A B v HA.out HB.out HV.out) rfl ?_
    go_simp
    (repeat (simp (disch := omega) only [dT, dF, nT, nF, wA, wB, wC, wD]; try go_simp))
    (repeat (refine ⟨by (repeat' apply And.intro) <;> first | omega | trivial | assumption | decide, ?_⟩))
    (repeat' (first | refine awp_block ?_ | ((first | refine awp_tk [] (by kernel_rfl) (fun K hK => ?_) | refine awp_dk [] mixed (by kernel_rfl) (by kernel_rfl) (fun K hK => ?_)); go_simp; (repeat (simp (disch := omega) only [dT, dF, nT, nF, wA, wB, wC, wD]; try go_simp)); (repeat (refine ⟨by (repeat' apply And.intro) <;> first | omega | trivial | assumption | decide, ?_⟩)); (first | (refine hK _ ?_; clear hK K) | (clear hK K; refine hK _ ?_; clear hK K) | (clear hK K; clear hK K; refine hK _ ?_; clear hK K) | (clear hK K; clear hK K; clear hK K; refine hK _ ?_; clear hK K))) | refine awp_ct rfl ?_ | refine awp_cf rfl ?_ | (first | (refine awp_skip (hK _ ?_); clear hK K) | (clear hK K; refine awp_skip (hK _ ?_); clear hK K) | (clear hK K; clear hK K; refine awp_skip (hK _ ?_); clear hK K) | (clear hK K; clear hK K; clear hK K; refine awp_skip (hK _ ?_); clear hK K)) | refine awp_seqk (fun K hK => ?_) | ((first | refine awp_t [] (by kernel_rfl) ?_ | refine awp_d [] mixed (by kernel_rfl) (by kernel_rfl) ?_); go_simp; (repeat (simp (disch := omega) only [dT, dF, nT, nF, wA, wB, wC, wD]; try go_simp)); (repeat (refine ⟨by (repeat' apply And.intro) <;> first | omega | trivial | assumption | decide, ?_⟩))) | (first | (refine hK _ ?_; clear hK K) | (clear hK K; refine hK _ ?_; clear hK K) | (clear hK K; clear hK K; refine hK _ ?_; clear hK K) | (clear hK K; clear hK K; clear hK K; refine hK _ ?_; clear hK K)) | (refine awp_exit ?_; simp only [thenA_exit, inBlk_exit, thenA_normal, inBlk_normal, ↓reduceIte, Nat.reduceEqDiff])))
    refine callV (rresolve_fx B A v HB.out HA.out HV.out) rfl ?_
    go_simp
    (repeat (simp (disch := omega) only [dT, dF, nT, nF, wA, wB, wC, wD]; try go_simp))
    (repeat (refine ⟨by (repeat' apply And.intro) <;> first | omega | trivial | assumption | decide, ?_⟩))
    (repeat' (first | refine awp_block ?_ | ((first | refine awp_tk [] (by kernel_rfl) (fun K hK => ?_) | refine awp_dk [] mixed (by kernel_rfl) (by kernel_rfl) (fun K hK => ?_)); go_simp; (repeat (simp (disch := omega) only [dT, dF, nT, nF, wA, wB, wC, wD]; try go_simp)); (repeat (refine ⟨by (repeat' apply And.intro) <;> first | omega | trivial | assumption | decide, ?_⟩)); (first | (refine hK _ ?_; clear hK K) | (clear hK K; refine hK _ ?_; clear hK K) | (clear hK K; clear hK K; refine hK _ ?_; clear hK K) | (clear hK K; clear hK K; clear hK K; refine hK _ ?_; clear hK K))) | refine awp_ct rfl ?_ | refine awp_cf rfl ?_ | (first | (refine awp_skip (hK _ ?_); clear hK K) | (clear hK K; refine awp_skip (hK _ ?_); clear hK K) | (clear hK K; clear hK K; refine awp_skip (hK _ ?_); clear hK K) | (clear hK K; clear hK K; clear hK K; refine awp_skip (hK _ ?_); clear hK K)) | refine awp_seqk (fun K hK => ?_) | ((first | refine awp_t [] (by kernel_rfl) ?_ | refine awp_d [] mixed (by kernel_rfl) (by kernel_rfl) ?_); go_simp; (repeat (simp (disch := omega) only [dT, dF, nT, nF, wA, wB, wC, wD]; try go_simp)); (repeat (refine ⟨by (repeat' apply And.intro) <;> first | omega | trivial | assumption | decide, ?_⟩))) | (first | (refine hK _ ?_; clear hK K) | (clear hK K; refine hK _ ?_; clear hK K) | (clear hK K; clear hK K; refine hK _ ?_; clear hK K) | (clear hK K; clear hK K; clear hK K; refine hK _ ?_; clear hK K)) | (refine awp_exit ?_; simp only [thenA_exit, inBlk_exit, thenA_normal, inBlk_normal, ↓reduceIte, Nat.reduceEqDiff])))
    exact awp_ret ⟨_, (by repeat' (first | exact .nil | exact .tmp _ _ rfl | apply ResL.cons)), (by repeat' (first | exact Coe.refl _ | exact Coe.c CoeC.nil | exact Coe.c CoeC.z | exact .nil | apply Coe.tup | apply CoeA.cons)), rfl⟩
end Go.Proofs.Ytiimkhnngpfnbaa.Fx
