/- The runner's operations are right. No program in sight. -/
import Derived.Test.YtoebfmhogkjmgaaGreatDoorGxG
namespace Go.Proofs.YtoebfmhogkjmgaaGreatDoor.Gx
open Go.RowKit
open Fx (forceN forceN_eq sliB maskN bitN)
set_option linter.unusedVariables false
set_option linter.unusedSimpArgs false
structure Okr (P : Program) (ρ : Operand → GA) (H : GH) (nx : Nat) (o : Oper) (r : Res) : Prop where
  le : nx ≤ r.nx
  N : ∀ k ∈ r.N, k = nx
  lt : (r.N ≠ [] ∨ r.U ≠ []) → nx < r.nx
  R : ∀ k ∈ r.R, H k ≠ none
  U : ∀ p ∈ r.U, (p.1 = nx ∨ H p.1 ≠ none) ∧ p.2.ver = nx
  step : ∀ H2, (∀ k ∈ r.R, H2 k = H k) → (∀ k ∈ r.N, H2 k = none) → Step P o ρ H2 (ups H2 r.U) r.val
section
variable {P : Program} {ρ : Operand → GA} {H : GH} {nx : Nat} {r : Res} {dst : Option Tmp} {ty0 : TypeId} {pos : String} {af : Array Edge} {g : Option (Nat × Bool)}
theorem okr_read {o : Oper} {v : GA} {R : List Nat} (hR : ∀ k ∈ R, H k ≠ none) (h : ∀ H2, (∀ k ∈ R, H2 k = H k) → Step P o ρ H2 H2 v) : Okr P ρ H nx o ⟨v, R, [], [], nx⟩ :=
  ⟨Nat.le_refl _, fun k hk => (by cases hk), fun h => (by rcases h with h | h <;> exact absurd rfl h), hR, fun p hp => (by cases hp), fun H2 h1 _ => h H2 h1⟩
theorem okr_pure {o : Oper} {v : GA} (h : ∀ H2, Step P o ρ H2 H2 v) : Okr P ρ H nx o ⟨v, [], [], [], nx⟩ := okr_read (fun k hk => (by cases hk)) (fun H2 _ => h H2)
theorem okr_pv {o : Oper} {v : GA} (hr : pv v nx = some r) (h : ∀ H2, Step P o ρ H2 H2 v) : Okr P ρ H nx o r := by
  unfold pv at hr; injection hr with hr; subst hr; exact okr_pure h
theorem okr_new {o : Oper} {v : GA} {obj : GObj} {R : List Nat} (hv : obj.ver = nx) (hR : ∀ k ∈ R, H k ≠ none) (h : ∀ H2, (∀ k ∈ R, H2 k = H k) → H2 nx = none → Step P o ρ H2 (up H2 nx obj) v) : Okr P ρ H nx o ⟨v, R, [nx], [(nx, obj)], nx + 1⟩ :=
  ⟨Nat.le_succ _, fun k hk => (by simpa using hk), fun _ => Nat.lt_succ_self _, hR, fun p hp => (by
    have : p = (nx, obj) := by simpa using hp
    subst this; exact ⟨.inl rfl, hv⟩), fun H2 h1 h2 => h H2 h1 (h2 nx (by simp))⟩
theorem okr_put {o : Oper} {v : GA} {k : Nat} {obj : GObj} {R : List Nat} (hk : H k ≠ none) (hv : obj.ver = nx) (hR : ∀ k ∈ R, H k ≠ none) (h : ∀ H2, (∀ j ∈ R, H2 j = H j) → Step P o ρ H2 (up H2 k obj) v) : Okr P ρ H nx o ⟨v, R, [], [(k, obj)], nx + 1⟩ :=
  ⟨Nat.le_succ _, fun k hk => (by cases hk), fun _ => Nat.lt_succ_self _, hR, fun p hp => (by
    have : p = (k, obj) := by simpa using hp
    subst this; exact ⟨.inr hk, hv⟩), fun H2 h1 _ => h H2 h1⟩
theorem one_ne {k : Nat} {o : GObj} (h : H k = some o) : ∀ j ∈ [k], H j ≠ none := fun j hj => by
  have : j = k := by simpa using hj
  subst this; rw [h]; simp
theorem loadR_ok {ty : TypeId} {x : Operand} (h : loadR P ρ H nx ty x = some r) : Okr P ρ H nx ⟨dst, .load ty x, ty0, pos, af, g⟩ r := by
  unfold loadR at h
  split at h
  · rename_i agg n k i hs hx
    split at h
    · rename_i vt cs ver ho
      split at h
      · rename_i hc
        rw [takeK_eq] at h
        injection h with h; subst h
        exact okr_read (one_ne ho) (fun H2 h1 => load_ok ty x (Fx.shp_ok hs) hx ((h1 k (by simp)).trans ho) hc.1 hc.2)
      · cases h
    · cases h
  · cases h
theorem storeR_ok {ty : TypeId} {x y : Operand} (h : storeR P ρ H nx ty x y = some r) : Okr P ρ H nx ⟨dst, .store ty x y, ty0, pos, af, g⟩ r := by
  unfold storeR at h
  split at h
  · rename_i agg n k i l hs hx hy
    split at h
    · rename_i vt cs ver ho
      split at h
      · rename_i hc
        injection h with h; subst h
        exact okr_put (by rw [ho]; simp) rfl (one_ne ho) (fun H2 h1 => store_ok ty x y (Fx.shp_ok hs) hx ((h1 k (by simp)).trans ho) hy hc.1 hc.2)
      · cases h
    · cases h
  · cases h
theorem allocR_ok {ty : TypeId} (h : allocR P nx ty = some r) : Okr P ρ H nx ⟨dst, .alloc ty, ty0, pos, af, g⟩ r := by
  unfold allocR at h
  split at h
  · rename_i l hz
    injection h with h; subst h
    exact okr_new (by rfl) (fun k hk => (by cases hk)) (fun H2 _ h2 => alloc_ok nx ty hz h2)
  · cases h
theorem boxR_ok {ty : TypeId} {x : Operand} (h : boxR ρ nx ty x = some r) : Okr P ρ H nx ⟨dst, .box ty x, ty0, pos, af, g⟩ r := by
  unfold boxR at h
  split at h
  · rename_i l hl
    injection h with h; subst h
    exact okr_new (by rfl) (fun k hk => (by cases hk)) (fun H2 _ h2 => box_ok nx ty x h2 hl)
  · cases h
theorem fieldAddrR_ok {ty : TypeId} {x : Operand} {f : Nat} (h : fieldAddrR P ρ nx ty x f = some r) : Okr P ρ H nx ⟨dst, .fieldAddr ty x f, ty0, pos, af, g⟩ r := by
  unfold fieldAddrR at h
  split at h
  · rename_i off n agg k i hf hx
    exact okr_pv h (fun H2 => field_p_ok ty x f (Fx.fld_ok hf) hx H2)
  · cases h
theorem indexAddrR_ok {ty : TypeId} {x ix : Operand} (h : indexAddrR P ρ nx ty x ix = some r) : Okr P ρ H nx ⟨dst, .indexAddr ty x ix, ty0, pos, af, g⟩ r := by
  unfold indexAddrR at h
  split at h
  · rename_i k off len cap n ex kd i hx hi
    split at h
    · rename_i e n' bytes hs
      split at h
      · rename_i hc
        obtain ⟨rfl, hc⟩ := hc
        refine okr_pv h (fun H2 => ?_)
        have := index_sl_ok (P := P) (ρ := ρ) (dst := dst) (ty0 := ty0) (pos := pos) (af := af) (g := g) ty x ix (Fx.sli_ok hs) hx (i := (i : Int)) hi (by omega) (by exact_mod_cast hc) H2
        simpa using this
      · cases h
    · cases h
  · rename_i k j kd i hx hi
    split at h
    · rename_i len n hs
      split at h
      · rename_i hc
        refine okr_pv h (fun H2 => ?_)
        have := index_p_ok (P := P) (ρ := ρ) (dst := dst) (ty0 := ty0) (pos := pos) (af := af) (g := g) ty x ix (Fx.arr_ok hs) hx (i := (i : Int)) hi (by omega) (by exact_mod_cast hc) H2
        simpa using this
      · cases h
    · cases h
  · cases h
theorem nilR_ok {x : Operand} (h : nilR ρ nx x = some r) : Okr P ρ H nx ⟨dst, .nilCheck x, ty0, pos, af, g⟩ r := by
  unfold nilR at h
  split at h
  · rename_i hx; exact okr_pv h (fun H2 => nil_p_ok x hx H2)
  · rename_i hx; exact okr_pv h (fun H2 => nil_fn_ok x hx H2)
  · cases h
theorem extractR_ok {x : Operand} {i : Nat} (h : extractR ρ nx x i = some r) : Okr P ρ H nx ⟨dst, .extract x i, ty0, pos, af, g⟩ r := by
  unfold extractR at h
  split at h
  · rename_i l hx
    split at h
    · rename_i hc; exact okr_pv h (fun H2 => extract_ok x i hx hc H2)
    · cases h
  · cases h
theorem pickR_ok {x y z : Operand} (h : pickR ρ nx x y z = some r) : Okr P ρ H nx ⟨dst, .pick x y z, ty0, pos, af, g⟩ r := by
  unfold pickR at h
  split at h
  · rename_i b hx; exact okr_pv h (fun H2 => pick_ok x y z hx H2)
  · cases h
theorem fieldR_ok {ty : TypeId} {x : Operand} {f : Nat} (h : fieldR P ρ nx ty x f = some r) : Okr P ρ H nx ⟨dst, .field ty x f, ty0, pos, af, g⟩ r := by
  unfold fieldR at h
  split at h
  · rename_i off n agg l hf hx
    split at h
    · rename_i hc; rw [takeK_eq] at h; exact okr_pv h (fun H2 => field_ok ty x f (Fx.fld_ok hf) hx hc.1 hc.2 H2)
    · cases h
  · cases h
theorem buildR_ok {ty : TypeId} {ps : Array (Nat × Operand)} (h : buildR P ρ nx ty ps = some r) : Okr P ρ H nx ⟨dst, .build ty ps, ty0, pos, af, g⟩ r := by
  unfold buildR at h
  split at h
  · rename_i pl z hs
    split at h
    · rename_i r' hr
      rw [forceS_eq] at h
      refine okr_pv h (fun H2 => ?_)
      have := build_ok (P := P) (ρ := ρ) (dst := dst) (ty0 := ty0) (pos := pos) (af := af) (g := g) ty ps.toList hs hr H2
      simpa using this
    · cases h
  · cases h
theorem litR_ok {ty : TypeId} {len : Nat} {ps : Array (Nat × Operand)} (h : litR P ρ nx ty len ps = some r) : Okr P ρ H nx ⟨dst, .buildSlice ty len ps, ty0, pos, af, g⟩ r := by
  unfold litR at h
  split at h
  · rename_i e n bytes hs
    split at h
    · rename_i z hz
      split at h
      · rename_i r' hr
        split at h
        · rename_i hm
          injection h with h; subst h
          refine okr_new (by rfl) (fun k hk => (by cases hk)) (fun H2 _ h2 => ?_)
          have := lit_ok (P := P) (ρ := ρ) (dst := dst) (ty0 := ty0) (pos := pos) (af := af) (g := g) nx ty len ps.toList (Fx.sli_ok hs) hz hr hm (ver := nx) h2
          simpa using this
        · cases h
      · cases h
    · cases h
  · cases h
theorem makeR_ok {ty : TypeId} {x y : Operand} (h : makeR P ρ nx ty x y = some r) : Okr P ρ H nx ⟨dst, .makeSlice ty x y, ty0, pos, af, g⟩ r := by
  unfold makeR at h
  split at h
  · rename_i e n bytes k1 len k2 cap hs hx hy
    split at h
    · rename_i z hz
      split at h
      · rename_i hc
        injection h with h; subst h
        exact okr_new (by rfl) (fun k hk => (by cases hk)) (fun H2 _ h2 => make_ok nx ty x y (Fx.sli_ok hs) hz hx hy hc.1 hc.2.1 hc.2.2 h2)
      · cases h
    · cases h
  · cases h
theorem optN_spec {x : Option Operand} {d i : Nat} : optN (x.map ρ) d = some i → match x with | some y => ∃ kd, ρ y = .c (.v (.int kd i)) | none => i = d := by
  intro h
  cases x with
  | none => simp only [Option.map_none, optN, Option.some.injEq] at h; exact h.symm
  | some y =>
    simp only [Option.map_some] at h
    unfold optN at h
    split at h
    · rename_i e; cases e
    · rename_i kd n e
      injection h with h; subst h
      injection e with e
      exact ⟨kd, e⟩
    · cases h
theorem cutR_ok {ty : TypeId} {x : Operand} {lo hi : Option Operand} (h : cutR P ρ nx ty x lo hi = some r) : Okr P ρ H nx ⟨dst, .slice ty x lo hi none, ty0, pos, af, g⟩ r := by
  unfold cutR at h
  split at h
  · rename_i l hx
    split at h
    · rename_i i j h1 h2
      split at h
      · rename_i hc
        rw [forceL_eq] at h
        exact okr_pv h (fun H2 => cut_s_ok ty x lo hi i j (isStr_ok hc.1) hx (optN_spec h1) (optN_spec h2) hc.2.1 hc.2.2 H2)
      · cases h
    · cases h
  · rename_i k off len cap n ex hx
    split at h
    · rename_i e n' bytes i j hs h1 h2
      split at h
      · rename_i hc
        obtain ⟨rfl, hc⟩ := hc
        exact okr_pv h (fun H2 => cut_sl_ok ty x lo hi (Fx.sli_ok hs) i j hx (optN_spec h1) (optN_spec h2) hc.1 hc.2.1 hc.2.2 H2)
      · split at h
        · rename_i hc
          obtain ⟨rfl, rfl, hc⟩ := hc
          exact okr_pv h (fun H2 => cut_e_ok ty x lo hi (Fx.sli_ok hs) i hx (optN_spec h1) (optN_spec h2) hc H2)
        · cases h
    · cases h
  · cases h
theorem cut3R_ok {ty : TypeId} {x : Operand} {lo hi : Option Operand} {z : Operand} (h : cut3R P ρ nx ty x lo hi z = some r) : Okr P ρ H nx ⟨dst, .slice ty x lo hi (some z), ty0, pos, af, g⟩ r := by
  unfold cut3R at h
  split at h
  · rename_i y
    split at h
    · rename_i k off len cap n ex k1 i k2 j hx hy hz
      split at h
      · rename_i e n' bytes hs
        split at h
        · rename_i hc
          obtain ⟨rfl, hc⟩ := hc
          exact okr_pv h (fun H2 => cut3_ok ty x y z (Fx.sli_ok hs) i j hx hy hz hc.1 hc.2 H2)
        · cases h
      · cases h
    · cases h
  · cases h
theorem sGet_spec : ∀ (l : List Nat) (i b : Nat), sGet l i = some b → l[i]? = some b := by
  intro l
  induction l with
  | nil => intro i b h; cases h
  | cons a t ih =>
    intro i b h
    cases i with
    | zero => simpa [sGet] using h
    | succ i => simpa using ih i b (by simpa [sGet] using h)
theorem bytesOf_toList (l : List Nat) : (bytesOf l).toList = l.map UInt8.ofNat := by
  rw [ByteArray.toList_eq]
  simp [bytesOf]
theorem bytesOf_beq {a b : List Nat} (ha : ∀ x ∈ a, x < 256) (hb : ∀ x ∈ b, x < 256) : ((bytesOf a).toList == (bytesOf b).toList) = sEq a b := by
  rw [bytesOf_toList, bytesOf_toList, sEq_spec]
  have := map_u8_inj a b ha hb
  by_cases h : a = b
  · subst h; simp
  · rw [decide_eq_false h]
    have h2 : ¬ (a.map UInt8.ofNat = b.map UInt8.ofNat) := fun e => h (this.1 e)
    simpa using h2
theorem indexR_ok {ty : TypeId} {x ix : Operand} (h : indexR P ρ nx ty x ix = some r) : Okr P ρ H nx ⟨dst, .index ty x ix, ty0, pos, af, g⟩ r := by
  unfold indexR at h
  split at h
  · rename_i l kd i hx hi
    split at h
    · rename_i b hb
      split at h
      · rename_i hu
        have hu := isStr_ok hu
        refine okr_pv h (fun H2 => step_val fun w0 m w a _ hh => ?_)
        have hv := hh x (by simp [Op.operands])
        have hw := hh ix (by simp [Op.operands])
        rw [hx] at hv
        rw [hi] at hw
        have e1 := gv_eq hv (y := .string (bytesOf l)) rfl
        have e2 := rep_int hw
        have hget := sGet_spec l i b hb
        have hlt : i < l.length := (List.getElem?_eq_some_iff.1 hget).1
        have hbl := s_lt hv b (List.mem_of_getElem? hget)
        have hsz : i < (bytesOf l).size := by rw [bytesOf_size]; exact hlt
        have hgi : (bytesOf l)[i]? = some (UInt8.ofNat b) := by
          rw [getElem?_pos (bytesOf l) i hsz]
          have : (bytesOf l)[i] = (bytesOf l).data[i]'hsz := rfl
          rw [this]
          have h3 : l[i] = b := by have := List.getElem?_eq_getElem hlt; rw [this] at hget; exact Option.some.inj hget
          simp [bytesOf, h3]
        refine ⟨.int .u8 b, ?_, .c (.v _ rfl)⟩
        simp [execOp, e1, e2, Instr.index, asIntOf, run_underlying hu, hgi, UInt8.toNat_ofNat, Nat.mod_eq_of_lt hbl]
      · cases h
    · cases h
  · cases h
theorem eqn_run {op : BinOp} {ty : TypeId} {x y : Operand} {u v : Value} {b : Bool} {w : World} (hop : (op = .eql ∧ b = false) ∨ (op = .neq ∧ b = true)) (hg : (eqGuard op ty x y u v).run P w = .ok () w) (h1 : binOp .eql ty u v = (do pure (.bool (← Op.equal ty u v)))) (h2 : binOp .neq ty u v = (do pure (.bool (!(← Op.equal ty u v))))) (he : (Op.equal ty u v).run P w = .ok false w) :
    (do eqGuard op ty x y u v; binOp op ty u v : Sem Value).run P w = .ok (.bool b) w := by
  rcases hop with ⟨rfl, rfl⟩ | ⟨rfl, rfl⟩
  · rw [h1]
    simp only [Sem.run_bind, hg, Result.andThen_ok, he, Sem.run_pure]
  · rw [h2]
    simp only [Sem.run_bind, hg, Result.andThen_ok, he, Sem.run_pure, Bool.not_false]
theorem nilOk_p {k i : Nat} {ty : TypeId} (h : nilOk P ty (.c (.p k i)) = true) : ∃ e, P.underlying ty = some (.pointer e) := by
  unfold nilOk at h
  cases hu : P.underlying ty with
  | none => rw [hu] at h; cases h
  | some d => cases d <;> first | exact ⟨_, rfl⟩ | (rw [hu] at h; cases h)
theorem nilOk_s {k off len cap n : Nat} {ex : Bool} {ty : TypeId} (h : nilOk P ty (.c (.sl k off len cap n ex)) = true) : ∃ e, P.underlying ty = some (.slice e) := by
  unfold nilOk at h
  cases hu : P.underlying ty with
  | none => rw [hu] at h; cases h
  | some d => cases d <;> first | exact ⟨_, rfl⟩ | (rw [hu] at h; cases h)
theorem nilOk_f {f : Fn} {fs cs : List GC} {ty : TypeId} (h : nilOk P ty (.c (.fn f fs cs)) = true) : ∃ a b c, P.underlying ty = some (.func a b c) := by
  unfold nilOk at h
  cases hu : P.underlying ty with
  | none => rw [hu] at h; cases h
  | some d => cases d <;> first | exact ⟨_, _, _, rfl⟩ | (rw [hu] at h; cases h)
theorem guard_p (op : BinOp) (ty : TypeId) (x y : Operand) (ad : Option Addr) (v : Value) (w : World) : (eqGuard op ty x y (.pointer ad) v).run P w = .ok () w := by
  unfold eqGuard; cases op <;> simp
theorem guard_s (op : BinOp) (ty : TypeId) (x y : Operand) (ad : Option Addr) (l c : Nat) (v : Value) (w : World) : (eqGuard op ty x y (.slice ad l c) v).run P w = .ok () w := by
  unfold eqGuard; cases op <;> simp
theorem guard_f (op : BinOp) (ty : TypeId) (x y : Operand) (f : Fn) (a c : Array Value) (v : Value) (w : World) : (eqGuard op ty x y (.func f a c) v).run P w = .ok () w := by
  unfold eqGuard; cases op <;> simp
theorem guard_str (op : BinOp) (ty : TypeId) (x y : Operand) (s : ByteArray) (v : Value) (w : World) : (eqGuard op ty x y (.string s) v).run P w = .ok () w := by
  unfold eqGuard; cases op <;> simp
theorem exec_bin {op : BinOp} {ty ty2 : TypeId} {x y : Operand} {a : Act} {v : Value} {w : World} (h : (do eqGuard op ty x y (a.eval x) (a.eval y); binOp op ty (a.eval x) (a.eval y) : Sem Value).run P w = .ok v w) : (execOp a.eval ⟨dst, .binOp op ty x y ty2, ty0, pos, af, g⟩).run P w = .ok (.value v) w := by
  simp only [execOp, Sem.run_bind] at h ⊢
  simp only [h, Result.andThen_ok, Sem.run_pure]
theorem nilCmp_ok {op : BinOp} {ty ty2 : TypeId} {x y : Operand} {b : Bool} (h : nilCmp op (ρ x) (ρ y) = some b) (ho : nilOk P ty (ρ x) = true) (H2 : GH) : Step P ⟨dst, .binOp op ty x y ty2, ty0, pos, af, g⟩ ρ H2 H2 (.c (.v (.bool b))) := step_val fun w0 m w a _ hh => by
  have hv := hh x (by simp [Op.operands])
  have hw := hh y (by simp [Op.operands])
  refine ⟨.bool b, exec_bin ?_, .c (.v _ rfl)⟩
  unfold nilCmp at h
  split at h
  · rename_i k i e1 e2
    rw [e1] at hv ho
    rw [e2] at hw
    obtain ⟨bb, base, size, hm, ev⟩ := rep_p hv
    have ew := gv_eq hw (y := .pointer none) rfl
    obtain ⟨e, hu⟩ := nilOk_p ho
    rw [ev, ew]
    refine eqn_run ?_ (guard_p ..) rfl rfl ?_
    · split at h <;> first | (injection h with h; subst h; exact .inl ⟨rfl, rfl⟩) | (injection h with h; subst h; exact .inr ⟨rfl, rfl⟩) | cases h
    · show (Op.equalIn (9999 + 1) ty _ _).run P w = _
      unfold Op.equalIn
      simp only [Sem.run_bind, run_underlying hu, Result.andThen_ok, Sem.run_pure]
  · rename_i k off len cap n ex e1 e2
    rw [e1] at hv ho
    rw [e2] at hw
    obtain ⟨bb, base, size, c, hm, ev, _⟩ := rep_sl hv
    have ew := gv_eq hw (y := .slice none 0 0) rfl
    obtain ⟨e, hu⟩ := nilOk_s ho
    rw [ev, ew]
    refine eqn_run ?_ (guard_s ..) rfl rfl ?_
    · split at h <;> first | (injection h with h; subst h; exact .inl ⟨rfl, rfl⟩) | (injection h with h; subst h; exact .inr ⟨rfl, rfl⟩) | cases h
    · show (Op.equalIn (9999 + 1) ty _ _).run P w = _
      unfold Op.equalIn
      simp only [Sem.run_bind, run_underlying hu, Result.andThen_ok, Sem.run_pure]
  · rename_i f fs cs e1 e2
    rw [e1] at hv ho
    rw [e2] at hw
    have ew := gv_eq hw (y := .nilFunc) rfl
    obtain ⟨q1, q2, q3, hu⟩ := nilOk_f ho
    generalize hval : a.eval x = q at hv
    cases hv with
    | c hv => cases hv with
      | fn f fs cs vs us h1 h2 hf hc =>
        rw [ew]
        refine eqn_run ?_ (guard_f ..) rfl rfl ?_
        · split at h <;> first | (injection h with h; subst h; exact .inl ⟨rfl, rfl⟩) | (injection h with h; subst h; exact .inr ⟨rfl, rfl⟩) | cases h
        · show (Op.equalIn (9999 + 1) ty _ _).run P w = _
          unfold Op.equalIn
          simp only [Sem.run_bind, run_underlying hu, Result.andThen_ok, Sem.run_pure]
  · cases h
theorem bytesOf_append (a b : List Nat) : bytesOf a ++ bytesOf b = bytesOf (a ++ b) := by
  apply ByteArray.ext
  simp [bytesOf]
theorem str2_ok {op : BinOp} {ty ty2 : TypeId} {x y : Operand} {a' b' : List Nat} (hx : ρ x = .c (.s a')) (hy : ρ y = .c (.s b')) {z : Bool} (hz : (op = .eql ∧ z = sEq a' b') ∨ (op = .neq ∧ z = !sEq a' b')) (H2 : GH) : Step P ⟨dst, .binOp op ty x y ty2, ty0, pos, af, g⟩ ρ H2 H2 (.c (.v (.bool z))) := step_val fun w0 m w a _ hh => by
  have hv := hh x (by simp [Op.operands])
  have hw := hh y (by simp [Op.operands])
  rw [hx] at hv
  rw [hy] at hw
  have e1 := gv_eq hv (y := .string (bytesOf a')) rfl
  have e2 := gv_eq hw (y := .string (bytesOf b')) rfl
  have hbq := bytesOf_beq (s_lt hv) (s_lt hw)
  refine ⟨.bool z, exec_bin ?_, .c (.v _ rfl)⟩
  rw [e1, e2]
  have hg := guard_str (P := P) op ty x y (bytesOf a') (.string (bytesOf b')) w
  rcases hz with ⟨rfl, rfl⟩ | ⟨rfl, rfl⟩ <;> simp only [Sem.run_bind, hg, Result.andThen_ok, binOp, Op.stringOp, hbq, Sem.run_pure]
theorem cat_ok {ty ty2 : TypeId} {x y : Operand} {a' b' : List Nat} (hx : ρ x = .c (.s a')) (hy : ρ y = .c (.s b')) (hl : a'.length + b'.length ≤ 1000000) (H2 : GH) : Step P ⟨dst, .binOp .add ty x y ty2, ty0, pos, af, g⟩ ρ H2 H2 (.c (.s (a' ++ b'))) := step_val fun w0 m w a _ hh => by
  have hv := hh x (by simp [Op.operands])
  have hw := hh y (by simp [Op.operands])
  rw [hx] at hv
  rw [hy] at hw
  have e1 := gv_eq hv (y := .string (bytesOf a')) rfl
  have e2 := gv_eq hw (y := .string (bytesOf b')) rfl
  have h1 := s_lt hv
  have h2 := s_lt hw
  refine ⟨.string (bytesOf (a' ++ b')), exec_bin ?_, .c (.s _ (fun q hq => by rcases List.mem_append.1 hq with hq | hq; exact h1 q hq; exact h2 q hq))⟩
  rw [e1, e2]
  have hg := guard_str (P := P) .add ty x y (bytesOf a') (.string (bytesOf b')) w
  have hm : ¬ ((((bytesOf a').size + (bytesOf b').size : Nat) : Int) > IntKind.i64.max) := by
    rw [bytesOf_size, bytesOf_size]
    have : IntKind.i64.max = 9223372036854775807 := rfl
    rw [this]; omega
  simp only [Sem.run_bind, hg, Result.andThen_ok, binOp, Op.stringOp, if_neg hm, Sem.run_pure, bytesOf_append]
theorem binR_ok {op : BinOp} {ty ty2 : TypeId} {x y : Operand} (h : binR P ρ nx op ty x y = some r) : Okr P ρ H nx ⟨dst, .binOp op ty x y ty2, ty0, pos, af, g⟩ r := by
  unfold binR at h
  split at h
  · rename_i k a' hx
    split at h
    · rename_i k' b' hy
      split at h
      · rename_i hk
        have hk := kEq_ok hk
        subst hk
        split at h
        · rename_i v hv; exact okr_pv h (fun H2 => int_ok hx hy hv H2)
        · cases h
      · cases h
    · cases h
  · rename_i a' hx
    split at h
    · rename_i b' hy
      split at h
      · exact okr_pv h (fun H2 => str2_ok hx hy (.inl ⟨rfl, rfl⟩) H2)
      · exact okr_pv h (fun H2 => str2_ok hx hy (.inr ⟨rfl, rfl⟩) H2)
      · split at h
        · rename_i hl
          rw [forceL_eq] at h
          exact okr_pv h (fun H2 => cat_ok hx hy hl H2)
        · cases h
      · cases h
    · cases h
  · split at h
    · rename_i b hb
      split at h
      · rename_i ho; exact okr_pv h (fun H2 => nilCmp_ok hb ho H2)
      · cases h
    · split at h
      · rename_i k i k' j hx hy
        split at h
        · rename_i hc
          obtain ⟨rfl, hp⟩ := hc
          unfold ptrEq at hp
          split at hp
          · rename_i e hu
            split at hp
            · rename_i inf hi
              have hz : inf.size ≠ 0 := by simpa using hp
              split at h
              · exact okr_pv h (fun H2 => eqp_ok hu hi hz hx hy (.inl ⟨rfl, rfl⟩) H2)
              · exact okr_pv h (fun H2 => eqp_ok hu hi hz hx hy (.inr ⟨rfl, rfl⟩) H2)
              · cases h
            · cases hp
          · cases hp
        · cases h
      · cases h
theorem unR_ok {op : UnOp} {ty : TypeId} {x : Operand} (h : unR ρ nx op x = some r) : Okr P ρ H nx ⟨dst, .unOp op ty x, ty0, pos, af, g⟩ r := by
  unfold unR at h
  split at h
  · split at h
    · rename_i b hx; exact okr_pv h (fun H2 => not_ok ty x hx H2)
    · cases h
  · cases h
theorem convR_ok {src dst' : TypeId} {x : Operand} (h : convR P ρ H nx src dst' x = some r) : Okr P ρ H nx ⟨dst, .convert src dst' x, ty0, pos, af, g⟩ r := by
  unfold convR at h
  split at h
  · rename_i k n hx
    split at h
    · rename_i v hv; exact okr_pv h (fun H2 => iconv_ok src dst' x hx hv H2)
    · cases h
  · rename_i k off len cap n ex hx
    split at h
    · rename_i e vt cs ver hs ho
      split at h
      · rename_i he
        split at h
        · rename_i hc
          obtain ⟨c1, rfl, c2⟩ := hc
          split at h
          · rename_i l hl
            rw [forceL_eq] at h
            injection h with h; subst h
            exact okr_read (one_ne ho) (fun H2 h1 => conv_ok src dst' x hs (isStr_ok c1) he hx ((h1 k (by simp)).trans ho) c2 hl)
          · cases h
        · cases h
      · cases h
    · cases h
  · rename_i k i hx
    split at h
    · rename_i t vt cs ver hs hd ho
      split at h
      · rename_i inf hi
        split at h
        · rename_i hc
          injection h with h; subst h
          exact okr_read (one_ne ho) (fun H2 h1 => out_ok src dst' x hs hd hi hc.1 hx ((h1 k (by simp)).trans ho) hc.2)
        · cases h
      · cases h
    · rename_i u vt cs ver hs hd ho
      split at h
      · rename_i inf hi
        split at h
        · rename_i hc
          injection h with h; subst h
          exact okr_read (one_ne ho) (fun H2 h1 => in_ok src dst' x hs hd hi hx ((h1 k (by simp)).trans ho) hc)
        · cases h
      · cases h
    · cases h
  · cases h
theorem gcs_rep {m : GM} {a : Act} : ∀ (xs : List Operand) (l : List GC), (∀ x ∈ xs, VRep m (a.eval x) (ρ x)) → gcs (xs.map ρ) = some l → (xs.map a.eval).length = l.length ∧ ∀ i, i < l.length → CRep m ((xs.map a.eval).getD i undef) (l.getD i default) := by
  intro xs
  induction xs with
  | nil => intro l _ h; simp [gcs] at h; subst h; exact ⟨rfl, fun i hi => absurd hi (Nat.not_lt_zero _)⟩
  | cons x t ih =>
    intro l hx h
    rw [List.map_cons] at h
    unfold gcs at h
    split at h
    · rename_i e; cases e
    · rename_i y u e
      injection e with e1 e2
      subst e2
      split at h
      · rename_i l' hl
        injection h with h; subst h
        obtain ⟨h1, h2⟩ := ih l' (fun z hz => hx z (List.mem_cons_of_mem _ hz)) hl
        refine ⟨by simpa using h1, fun i hi => ?_⟩
        cases i with
        | zero =>
          have := hx x List.mem_cons_self
          rw [e1] at this
          generalize hq : a.eval x = q at this
          cases this with
          | c this => simpa [hq] using this
        | succ i => simpa using h2 i (by simpa using hi)
      · cases h
    · cases h
theorem arr_map (f : Operand → Value) (xs : Array Operand) : xs.map f = (xs.toList.map f).toArray := by
  apply Array.ext'
  simp
theorem funcR_ok {fn : Fn} {fs cs : Array Operand} (h : funcR ρ nx fn fs cs = some r) : Okr P ρ H nx ⟨dst, .makeFunc fn fs cs, ty0, pos, af, g⟩ r := by
  unfold funcR at h
  split at h
  · rename_i l l' h1 h2
    refine okr_pv h (fun H2 => step_val fun w0 m w a _ hh => ?_)
    obtain ⟨g1, g2⟩ := gcs_rep (m := m) (a := a) fs.toList l (fun x hx => hh x (by simp [Op.operands]; left; simpa using hx)) h1
    obtain ⟨g3, g4⟩ := gcs_rep (m := m) (a := a) cs.toList l' (fun x hx => hh x (by simp [Op.operands]; right; simpa using hx)) h2
    refine ⟨.func fn (fs.toList.map a.eval).toArray (cs.toList.map a.eval).toArray, ?_, .c (.fn fn l l' _ _ g1 g3 g2 g4)⟩
    rw [← arr_map, ← arr_map]
    simp [execOp, Instr.makeFunc]
  · cases h
theorem lenR_ok {ty : TypeId} {x : Operand} (h : lenR P ρ nx ty x = some r) : Okr P ρ H nx ⟨dst, .call { callee := .builtin .len, args := #[x], argTypes := #[ty] }, ty0, pos, af, g⟩ r := by
  unfold lenR at h
  split at h
  · rename_i hx
    split at h
    · rename_i q hs
      obtain ⟨e, n, bytes⟩ := q
      exact okr_pv h (fun H2 => len_ok ty x (Fx.sli_ok hs) hx H2)
    · cases h
  · rename_i hx
    split at h
    · rename_i q hs
      obtain ⟨e, n, bytes⟩ := q
      exact okr_pv h (fun H2 => len_e_ok ty x (Fx.sli_ok hs) hx H2)
    · cases h
  · rename_i l hx
    split at h
    · rename_i hu
      have hu := isStr_ok hu
      refine okr_pv h (fun H2 => step_val fun w0 m w a _ hh => ?_)
      have hv := hh x (by simp [Op.operands, Call.operands])
      rw [hx] at hv
      have e1 := gv_eq hv (y := .string (bytesOf l)) rfl
      exact ⟨.int .i64 l.length, by simp [execOp, resolve, invoke, builtin, Builtin.len_, run_underlying hu, e1, goInt, bytesOf_size], .c (.v _ rfl)⟩
    · cases h
  · cases h
theorem capR_ok {ty : TypeId} {x : Operand} (h : capR P ρ nx ty x = some r) : Okr P ρ H nx ⟨dst, .call { callee := .builtin .cap, args := #[x], argTypes := #[ty] }, ty0, pos, af, g⟩ r := by
  unfold capR at h
  split at h
  · rename_i hx
    split at h
    · rename_i q hs
      obtain ⟨e, n, bytes⟩ := q
      exact okr_pv h (fun H2 => cap_ok ty x (Fx.sli_ok hs) hx H2)
    · cases h
  · cases h
theorem srcG_mono {H2 : GH} {tx : TypeId} {n : Nat} {x : GA} {cnt : Nat} {cl : List GC} {R : List Nat} (h : srcG P H tx n x = some (cnt, cl, R)) (hR : ∀ k ∈ R, H2 k = H k) : srcG P H2 tx n x = some (cnt, cl, R) := by
  unfold srcG at h ⊢
  split at h
  · rename_i k off len cap n' ex
    split at h
    · rename_i q cty cs ver hs ho
      split at h
      · rename_i hc
        simp only [Option.some.injEq, Prod.mk.injEq] at h
        obtain ⟨h1, h2, h3⟩ := h
        rw [hR k (by rw [← h3]; simp), hs, ho]
        simp only [if_pos hc, Option.some.injEq, Prod.mk.injEq]
        exact ⟨h1, h2, h3⟩
      · cases h
    · cases h
  · exact h
  · exact h
  · exact h
  · cases h
theorem srcG_R {tx : TypeId} {n : Nat} {x : GA} {cnt : Nat} {cl : List GC} {R : List Nat} (h : srcG P H tx n x = some (cnt, cl, R)) : ∀ k ∈ R, H k ≠ none := by
  unfold srcG at h
  split at h
  · split at h
    · rename_i q cty cs ver hs ho
      split at h
      · simp only [Option.some.injEq, Prod.mk.injEq] at h
        obtain ⟨_, _, rfl⟩ := h
        exact one_ne ho
      · cases h
    · cases h
  · split at h
    · simp only [Option.some.injEq, Prod.mk.injEq] at h
      obtain ⟨_, _, rfl⟩ := h
      exact fun k hk => (by cases hk)
    · cases h
  · split at h
    · simp only [Option.some.injEq, Prod.mk.injEq] at h
      obtain ⟨_, _, rfl⟩ := h
      exact fun k hk => (by cases hk)
    · cases h
  · split at h
    · simp only [Option.some.injEq, Prod.mk.injEq] at h
      obtain ⟨_, _, rfl⟩ := h
      exact fun k hk => (by cases hk)
    · cases h
  · cases h
theorem cons_ne {k : Nat} {o : GObj} {R : List Nat} (h : H k = some o) (hR : ∀ j ∈ R, H j ≠ none) : ∀ j ∈ k :: R, H j ≠ none := fun j hj => by
  rcases List.mem_cons.1 hj with rfl | hj
  · rw [h]; simp
  · exact hR j hj
theorem appR_ok {t tx : TypeId} {s x : Operand} (h : appR P ρ H nx t tx s x = some r) (hn : H nx = none) : Okr P ρ H nx (appOp dst ty0 pos af g s x t tx) r := by
  unfold appR at h
  split at h
  · cases h
  · rename_i e n bytes hs
    split at h
    · cases h
    · rename_i cnt cl R hsrc
      split at h
      · rename_i hx
        split at h
        · rename_i h0
          injection h with h; subst h
          subst h0
          exact okr_read (srcG_R hsrc) (fun H2 h1 => app_nil0 s x (Fx.sli_ok hs) hx (srcG_mono hsrc h1))
        · rename_i h0
          split at h
          · rename_i hc
            injection h with h; subst h
            exact okr_new (by rfl) (srcG_R hsrc) (fun H2 h1 h2 => app_new nx s x (Fx.sli_ok hs) hx (srcG_mono hsrc h1) h2 (by omega) hc.1 hc.2 nx)
          · cases h
      · rename_i k off len cap n' ex hx
        split at h
        · rename_i vt cells ver ho
          split at h
          · rename_i hc
            obtain ⟨rfl, c1, c2, c3⟩ := hc
            have hR := cons_ne ho (srcG_R hsrc)
            split at h
            · rename_i hr
              injection h with h; subst h
              exact okr_put (by rw [ho]; simp) (by rfl) hR (fun H2 h1 => app_room s x (Fx.sli_ok hs) hx ((h1 k (by simp)).trans ho) c1 (srcG_mono hsrc (fun j hj => h1 j (List.mem_cons_of_mem _ hj))) hr nx)
            · rename_i hr
              split at h
              · injection h with h; subst h
                exact okr_new (by rfl) hR (fun H2 h1 h2 => app_full nx s x (Fx.sli_ok hs) hx ((h1 k (by simp)).trans ho) c1 (srcG_mono hsrc (fun j hj => h1 j (List.mem_cons_of_mem _ hj))) h2 (by omega) c2 c3 nx)
              · split at h
                · rename_i hvt
                  obtain ⟨rfl, rfl⟩ := hvt
                  injection h with h; subst h
                  refine ⟨Nat.le_succ _, fun k hk => (by simpa using hk), fun _ => Nat.lt_succ_self _, hR, fun p hp => ?_, fun H2 h1 h2 => ?_⟩
                  · have : p = (k, .gone nx) ∨ p = (nx, .cells vt (cells.take (len * n') ++ cl) nx) := by simpa using hp
                    rcases this with rfl | rfl
                    · exact ⟨.inr (by rw [ho]; simp), rfl⟩
                    · exact ⟨.inl rfl, rfl⟩
                  · exact app_any nx s x (Fx.sli_ok hs) hx ((h1 k (by simp)).trans ho) (by omega) (srcG_mono hsrc (fun j hj => h1 j (List.mem_cons_of_mem _ hj))) (h2 nx (by simp)) c2 c3 nx nx
                · cases h
          · cases h
        · cases h
      · cases h
theorem dataR_ok {x : Operand} {ats : Array TypeId} (h : dataR ρ nx x = some r) : Okr P ρ H nx ⟨dst, .call { callee := .builtin .unsafeSliceData, args := #[x], argTypes := ats }, ty0, pos, af, g⟩ r := by
  unfold dataR at h
  split at h
  · rename_i hx
    split at h
    · rename_i hc; exact okr_pv h (fun H2 => data_ok x ats hx hc H2)
    · cases h
  · cases h
theorem strR_ok {x y : Operand} {pt it : TypeId} (h : strR P ρ H nx pt x y = some r) : Okr P ρ H nx ⟨dst, .call { callee := .builtin .unsafeString, args := #[x, y], argTypes := #[pt, it] }, ty0, pos, af, g⟩ r := by
  unfold strR at h
  split at h
  · rename_i k n e hx hy hu
    split at h
    · rename_i vt cs ver ho
      split at h
      · rename_i hc
        obtain ⟨rfl, c1, c2, c3, c4⟩ := hc
        split at h
        · rename_i l hl
          rw [forceL_eq] at h
          injection h with h; subst h
          exact okr_put (by rw [ho]; simp) (by rfl) (one_ne ho) (fun H2 h1 => str_ok x y hu c1 hx hy ((h1 k (by simp)).trans ho) c2 c3 c4 hl nx)
        · cases h
      · cases h
    · cases h
  · cases h
theorem escR_ok {fo x : Operand} {ats : Array TypeId} (h : escR P ρ nx fo x = some r) : Okr P ρ H nx ⟨dst, .call { callee := .value fo, args := #[x], argTypes := ats }, ty0, pos, af, g⟩ r := by
  unfold escR at h
  split at h
  · rename_i f hf
    split at h
    · rename_i hn; exact okr_pv h (fun H2 => esc_ok fo x ats hf hn H2)
    · split at h
      · rename_i e n hm hx
        split at h
        · rename_i hn
          injection h with h; subst h
          exact okr_new (by rfl) (fun k hk => (by cases hk)) (fun H2 _ h2 => mnz_ok nx fo x ats hf hm hx hn h2)
        · cases h
      · cases h
  · cases h
theorem copyR_ok {x y : Operand} {t u : TypeId} (h : copyR P ρ nx t x y = some r) : Okr P ρ H nx ⟨dst, .call { callee := .builtin .copy, args := #[x, y], argTypes := #[t, u] }, ty0, pos, af, g⟩ r := by
  unfold copyR at h
  split at h
  · rename_i q hx hy hs
    obtain ⟨e, n, bytes⟩ := q
    exact okr_pv h (fun H2 => copy0_ok x y (Fx.sli_ok hs) hx hy H2)
  · cases h
theorem makeMapR_ok {ty : TypeId} {q : Option Operand} (h : makeMapR nx q = some r) : Okr P ρ H nx ⟨dst, .makeMap ty q, ty0, pos, af, g⟩ r := by
  unfold makeMapR at h
  split at h
  · injection h with h; subst h
    exact okr_new (by rfl) (fun k hk => (by cases hk)) (fun H2 _ h2 => makeMap_ok nx ty h2)
  · cases h
theorem lookupR_ok {ty : TypeId} {x ix : Operand} {ok : Bool} (h : lookupR P ρ H nx ty x ix ok = some r) : Okr P ρ H nx ⟨dst, .lookup ty x ix ok, ty0, pos, af, g⟩ r := by
  unfold lookupR at h
  split at h
  · rename_i k l hx hi
    split at h
    · rename_i es ver e ho ht
      split at h
      · rename_i z hz
        injection h with h; subst h
        exact okr_read (one_ne ho) (fun H2 h1 => lookup_ok ty x ix ht hz hx ((h1 k (by simp)).trans ho) hi)
      · cases h
    · cases h
  · cases h
theorem putR_ok {ty : TypeId} {x ix y : Operand} (h : putR P ρ H nx ty x ix y = some r) : Okr P ρ H nx ⟨dst, .mapUpdate ty x ix y, ty0, pos, af, g⟩ r := by
  unfold putR at h
  split at h
  · rename_i k l c hx hi hy
    split at h
    · rename_i es ver e ho ht
      split at h
      · rename_i hn
        injection h with h; subst h
        exact okr_put (by rw [ho]; simp) (by rfl) (one_ne ho) (fun H2 h1 => put_ok ty x ix y ht hx ((h1 k (by simp)).trans ho) hi hy hn)
      · cases h
    · cases h
  · cases h
theorem arr_of {α : Type} {a : Array α} {l : List α} (h : a.toList = l) : a = l.toArray := by rw [← h]
theorem callR_ok {c : Call} (h : callR P ρ H nx c = some r) (hn : H nx = none) : Okr P ρ H nx ⟨dst, .call c, ty0, pos, af, g⟩ r := by
  obtain ⟨callee, args, ats⟩ := c
  unfold callR at h
  simp only at h
  split at h
  · rename_i b
    unfold builtR at h
    split at h
    · rename_i x ty hx ht
      rw [arr_of hx, arr_of ht]; exact lenR_ok h
    · rename_i x ty hx ht
      rw [arr_of hx, arr_of ht]; exact capR_ok h
    · rename_i s x t tx hx ht
      rw [arr_of hx, arr_of ht]; exact appR_ok h hn
    · rename_i x ts hx
      rw [arr_of hx]; exact dataR_ok h
    · rename_i x y pt it hx ht
      rw [arr_of hx, arr_of ht]; exact strR_ok h
    · rename_i x y t u hx ht
      rw [arr_of hx, arr_of ht]; exact copyR_ok h
    · cases h
  · rename_i fo
    split at h
    · rename_i x hx
      rw [arr_of hx]; exact escR_ok h
    · cases h
  · cases h
theorem opR1_ok {op : Op} (h : opR1 P ρ H nx op = some r) (hn : H nx = none) : Okr P ρ H nx ⟨dst, op, ty0, pos, af, g⟩ r := by
  cases op with
  | move x => exact okr_pv h (fun H2 => move_ok _ H2)
  | assign x => exact okr_pv h (fun H2 => assign_ok _ H2)
  | pick c a b => exact pickR_ok h
  | alloc e => exact allocR_ok h
  | box e x => exact boxR_ok h
  | build t ps => exact buildR_ok h
  | buildSlice t l ps => exact litR_ok h
  | load t x => exact loadR_ok h
  | store t x y => exact storeR_ok h
  | nilCheck x => exact nilR_ok h
  | binOp b t x y t2 => exact binR_ok h
  | unOp u t x => exact unR_ok h
  | convert s d x => exact convR_ok h
  | makeFunc f a c => exact funcR_ok h
  | makeSlice t x y => exact makeR_ok h
  | makeMap t q => exact makeMapR_ok h
  | lookup t x i ok => exact lookupR_ok h
  | mapUpdate t x i y => exact putR_ok h
  | slice t x lo hi mx =>
    cases mx with
    | none => exact cutR_ok h
    | some z => exact cut3R_ok h
  | fieldAddr t x f => exact fieldAddrR_ok h
  | field t x f => exact fieldR_ok h
  | indexAddr t x i => exact indexAddrR_ok h
  | index t x i => exact indexR_ok h
  | extract x i => exact extractR_ok h
  | call c => exact callR_ok h hn
  | _ => cases h
theorem opR_ok {o : Oper} (h : opR P ρ H nx o = some r) (hn : H nx = none) : Okr P ρ H nx o r := by
  unfold opR at h
  split at h
  · rename_i r' hr
    injection h with h; subst h
    obtain ⟨dst, op, ty0, pos, af, g⟩ := o
    exact opR1_ok hr hn
  · unfold exactO at h
    split at h
    · rename_i v he
      exact okr_pv h (fun H2 => exact_ok he H2)
    · cases h
end
end Go.Proofs.YtoebfmhogkjmgaaGreatDoor.Gx
