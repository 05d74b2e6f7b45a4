/- Appends, comparisons with nil, closures. No program in sight. -/
import Derived.Test.YtoebfmhogkjmgaaGreatDoorGxE
import Derived.Laws.BytesString
namespace Go.Proofs.YtoebfmhogkjmgaaGreatDoor.Gx
open Go.RowKit
open Fx (splice splice_getD splice_length shapeB add_plain sliB SliF sli_facts)
set_option linter.unusedVariables false
set_option linter.unusedSimpArgs false
/-- fewer cells told -/
theorem Conc.trim {w0 w : World} {m : GM} {H : GH} (hC : Conc w0 m H w) {k : Nat} {ty : TypeId} {cells : List GC} {ver : Nat} (hk : H k = some (.cells ty cells ver)) (j ver' : Nat) : Conc w0 m (up H k (.cells ty (cells.take j) ver')) w := by
  have hlive : ∀ i, Live (up H k (.cells ty (cells.take j) ver')) i → Live H i := fun i hi => by
    by_cases e : i = k
    · subst e; exact .inl ⟨_, _, _, hk⟩
    · exact live_up hi e
  refine ⟨fun i t cl v hi => ?_, fun i es v hi => ?_, fun i r hi => ?_, fun i i' r r' g1 g2 e1 e2 e3 => hC.inj i i' r r' (hlive i g1) (hlive i' g2) e1 e2 e3, hC.new, hC.zero, hC.keep, hC.os, hC.tape, hC.output, hC.size⟩
  · by_cases e : i = k
    · subst e
      rw [up_same] at hi; injection hi with hi; injection hi with e1 e2 e3; subst e1; subst e2
      obtain ⟨b, base, size, cc, g1, g2, g3, g4, g5⟩ := hC.obj i _ _ _ hk
      refine ⟨b, base, size, cc, g1, g2, g3, by rw [List.length_take]; omega, fun q hq => ?_⟩
      rw [List.length_take] at hq
      have e4 : (cells.take j).getD q default = cells.getD q default := by
        simp only [List.getD_eq_getElem?_getD, List.getElem?_take]
        rw [if_pos (by omega)]
      rw [e4]; exact g5 q (by omega)
    · rw [up_other _ _ e] at hi
      exact hC.obj i t cl v hi
  · have e : i ≠ k := fun e => by subst e; rw [up_same] at hi; injection hi with hi; cases hi
    rw [up_other _ _ e] at hi
    exact hC.objm i es v hi
  · by_cases e : i = k
    · subst e; rw [up_same]; simp
    · rw [up_other _ _ e]; exact hC.dom i r hi
theorem up_up {α : Type} (H : Nat → Option α) (k : Nat) (a b : α) : up (up H k a) k b = up H k b := by
  funext j
  unfold up
  split <;> rfl
section
variable {P : Program} {ρ : Operand → GA} {dst : Option Tmp} {ty0 : TypeId} {pos : String} {af : Array Edge} {g : Option (Nat × Bool)}
def isStr (P : Program) (ty : TypeId) : Bool :=
  match P.underlying ty with
  | some .string => true
  | _ => false
theorem isStr_ok {ty : TypeId} (h : isStr P ty = true) : P.underlying ty = some .string := by
  unfold isStr at h
  split at h
  · assumption
  · cases h
/-- what is appended: how many, their cells, the blocks that are looked at -/
def srcG (P : Program) (H : GH) (tx : TypeId) (n : Nat) : GA → Option (Nat × List GC × List Nat)
  | .c (.sl k off len cap n' ex) =>
    match Fx.sli P tx, H k with
    | some _, some (.cells _ cs _) => if n' = n ∧ off + len * n ≤ cs.length then some (len, (cs.drop off).take (len * n), [k]) else none
    | _, _ => none
  | .c (.v (.slice none 0 0)) => match Fx.sli P tx with | some _ => some (0, [], []) | none => none
  | .c .e => match Fx.sli P tx with | some _ => some (0, [], []) | none => none
  | .c (.s l) => if isStr P tx = true ∧ n = 1 then some (l.length, l.map fun (b : Nat) => GC.v (.int .u8 (b : Int)), []) else none
  | _ => none
theorem bytes_cells (l : List Nat) (h : ∀ b ∈ l, b < 256) : byteCells (bytesOf l) = l.map fun (b : Nat) => Value.int .u8 (b : Int) := by
  unfold byteCells bytesOf
  simp only [List.map_map]
  apply List.map_congr_left
  intro b hb
  have := h b hb
  simp [UInt8.toNat_ofNat, Nat.mod_eq_of_lt this]
theorem src_rep {w0 : World} {m : GM} {H : GH} {w : World} (hC : Conc w0 m H w) {tx : TypeId} {n : Nat} {x : GA} {v : Value} {cnt : Nat} {cl : List GC} {R : List Nat} (hv : VRep m v x) (hs : srcG P H tx n x = some (cnt, cl, R)) :
    ∃ news, Src P n tx v cnt news w ∧ news.length = cl.length ∧ cl.length = cnt * n ∧ ∀ i, i < cl.length → CRep m (news.getD i undef) (cl.getD i default) := by
  unfold srcG at hs
  split at hs
  · rename_i k off len cap n' ex
    split at hs
    · rename_i r cty cs ver hsl ho
      split at hs
      · rename_i hc
        obtain ⟨rfl, hc⟩ := hc
        simp only [Option.some.injEq, Prod.mk.injEq] at hs
        obtain ⟨rfl, rfl, rfl⟩ := hs
        obtain ⟨b, base, size, c, hm, e, q1, q2, q3, q4, q5, q6⟩ := rep_sl hv
        obtain ⟨e', n'', bytes⟩ := r
        have hu := (sli_facts (Fx.sli_ok hsl)).u
        have hlen : ((cs.drop off).take (len * n')).length = len * n' := by simp; omega
        have hget : ∀ i, i < len * n' → ((cs.drop off).take (len * n')).getD i default = cs.getD (off + i) default := fun i hi => by
          simp [List.getD_eq_getElem?_getD, List.getElem?_take, hi, List.getElem?_drop]
        have hcell : ∀ i, i < len * n' → w.cell? ⟨b, base + off + i, none⟩ = some (cellOr w b (base + off + i)) ∧ CRep m (cellOr w b (base + off + i)) (cs.getD (off + i) default) := fun i hi => by
          obtain ⟨y, h1, h2⟩ := obj_cell hC ho hm (i := off + i) (by omega)
          rw [← Nat.add_assoc] at h1
          rw [cellOr_eq h1]; exact ⟨h1, h2⟩
        refine ⟨mapR (fun i => cellOr w b (base + off + i)) (len * n'), ?_, by rw [mapR_len, hlen], hlen, fun i hi => ?_⟩
        · rw [e]
          refine Src.ofSlice w hu _ _ _ _ (mapR_len _ _) (fun j u hu => ?_) (fun u hu => ?_)
          · have hj : j < len * n' := by
              rcases Nat.lt_or_ge j (len * n') with h | h
              · exact h
              · rw [List.getElem?_eq_none (by rw [mapR_len]; exact h)] at hu; cases hu
            have e2 := mapR_get (fun i => cellOr w b (base + off + i)) (len * n') j hj
            rw [List.getD_eq_getElem?_getD, hu] at e2
            simp only [Option.getD_some] at e2
            rw [add_plain, e2]; exact (hcell j hj).1
          · obtain ⟨i, hi, rfl⟩ := List.mem_map.1 hu
            exact (hcell i (by simpa using hi)).2.one
        · rw [hlen] at hi
          rw [mapR_get _ _ _ hi, hget i hi]; exact (hcell i hi).2
      · cases hs
    · cases hs
  · split at hs
    · rename_i r hsl
      obtain ⟨e', n'', bytes⟩ := r
      simp only [Option.some.injEq, Prod.mk.injEq] at hs
      obtain ⟨rfl, rfl, rfl⟩ := hs
      have e := gv_eq hv (y := .slice none 0 0) rfl
      rw [e]
      exact ⟨[], Src.ofNil w (sli_facts (Fx.sli_ok hsl)).u 0, rfl, by simp, fun i hi => absurd hi (Nat.not_lt_zero _)⟩
    · cases hs
  · split at hs
    · rename_i r hsl
      obtain ⟨e', n'', bytes⟩ := r
      simp only [Option.some.injEq, Prod.mk.injEq] at hs
      obtain ⟨rfl, rfl, rfl⟩ := hs
      cases hv with
      | c hv => cases hv with
        | e ad c => exact ⟨[], Src.ofSlice w (sli_facts (Fx.sli_ok hsl)).u ad 0 c [] (by simp) (fun j u hu => by simp at hu) (fun u hu => by cases hu), rfl, by simp, fun i hi => absurd hi (Nat.not_lt_zero _)⟩
    · cases hs
  · rename_i l
    split at hs
    · rename_i hc
      obtain ⟨hu, rfl⟩ := hc
      have hu := isStr_ok hu
      simp only [Option.some.injEq, Prod.mk.injEq] at hs
      obtain ⟨rfl, rfl, rfl⟩ := hs
      have hb : ∀ b ∈ l, b < 256 := by
        cases hv with
        | c hv => cases hv with
          | s l h => exact h
      have e := gv_eq hv (y := .string (bytesOf l)) rfl
      rw [e]
      have hsr := Src.ofString (P := P) w hu (bytesOf l)
      rw [bytesOf_size, bytes_cells l hb] at hsr
      refine ⟨_, hsr, by simp, by simp, fun i hi => ?_⟩
      have hi' : i < l.length := by simpa using hi
      simp only [List.getD_eq_getElem?_getD, List.getElem?_map, List.getElem?_eq_getElem hi', Option.map_some, Option.getD_some]
      exact .v _ rfl
    · cases hs
  · cases hs
/-- no room: a new block -/
theorem grow_run {w0 : World} {m : GM} {H : GH} {w : World} (hC : Conc w0 m H w) {d : Nat} (hd : H d = none) {t tx e : TypeId} {n bytes : Nat} (hF : SliF P t e n bytes) (base : Option Addr) (sLen sCap : Nat) (olds : List Value)
    (hold : (Builtin.firstCells n sLen (.slice base sLen sCap)).run P w.drew = .ok olds.toArray w.drew) (hol : olds.length = sLen * n) {x : Value} {cnt : Nat} {news : List Value} (hs : Src P n tx x cnt news w) (hg : sCap < sLen + cnt) (hmax : sLen + cnt ≤ 1000000) (hbytes : bytes ≤ 1000)
    (cl : List GC) (hcl : cl.length = (sLen + cnt) * n) (hr : ∀ i, i < cl.length → CRep m ((olds ++ news).getD i undef) (cl.getD i default)) (ver : Nat) :
    ∃ v m' w', (Builtin.append_ #[t, tx] ty0 #[.slice base sLen sCap, x]).run P w = .ok v w' ∧ Conc w0 m' (up H d (.cells e cl ver)) w' ∧ Ext m m' ∧ VRep m' v (.c (.sl d 0 (sLen + cnt) (sLen + cnt) n false)) := by
  obtain ⟨inf, z, hinf, hz, hsz, hby, hzs⟩ := hF.i
  subst hsz
  have hnl := hs.newsLen
  have hfit : Builtin.nextslicecap (sLen + cnt) sCap * inf.bytes ≤ 281474976710656 := by
    rw [hby]
    have h1 := nextslicecap_le hg
    exact Nat.le_trans (Nat.mul_le_mul (Nat.le_trans h1 (Nat.mul_le_mul_left 2 hmax)) hbytes) (by decide)
  have hrun := run_append_grow_src (P := P) w t tx ty0 e inf z hF.u hinf hz base sLen sCap olds hold x cnt news hs hg (by omega) hfit
  have hge := grownCap_ge w (sLen + cnt) sCap e
  have hle := grownCap_le_maxLen w (sLen + cnt) sCap e (by unfold maxLen; omega)
  have hsize : ((olds ++ news).toArray ++ Builtin.zeroCells z.cells (grownCap w (sLen + cnt) sCap e - (sLen + cnt))).size = grownCap w (sLen + cnt) sCap e * inf.size := by
    simp only [Array.size_append, List.size_toArray, size_zeroCells, hzs, List.length_append, hol, hnl, ← Nat.add_mul]
    congr 1
    omega
  have hC2 : Conc w0 m H w.drew := hC.drew rfl rfl rfl rfl
  have hmul : (sLen + cnt) * inf.size ≤ grownCap w (sLen + cnt) sCap e * inf.size := Nat.mul_le_mul_right _ hge
  obtain ⟨g1, g2⟩ := hC2.alloc hd e ((olds ++ news).toArray ++ Builtin.zeroCells z.cells (grownCap w (sLen + cnt) sCap e - (sLen + cnt))) cl ver (by rw [hsize, hcl]; exact hmul) (fun i hi => by
    have hlt : i < (olds ++ news).length := by rw [List.length_append, hol, hnl, ← Nat.add_mul, ← hcl]; exact hi
    have e1 : ((olds ++ news).toArray ++ Builtin.zeroCells z.cells (grownCap w (sLen + cnt) sCap e - (sLen + cnt))).getD i undef = (olds ++ news).getD i undef := by
      rw [Array.getD_eq_getD_getElem?, Array.getElem?_append_left (by simpa using hlt)]
      simp [List.getD_eq_getElem?_getD]
    rw [e1]; exact hr i hi)
  refine ⟨_, _, _, hrun, g1, g2, ?_⟩
  have hm' : up m d (w.drew.heap.size, 0, ((olds ++ news).toArray ++ Builtin.zeroCells z.cells (grownCap w (sLen + cnt) sCap e - (sLen + cnt))).size) d = some (w.heap.size, 0, grownCap w (sLen + cnt) sCap e * inf.size) := by
    rw [up_same, hsize]; rfl
  have := CRep.sl (off := 0) (len := sLen + cnt) (cap := sLen + cnt) (n := inf.size) (ex := false) (c := grownCap w (sLen + cnt) sCap e) hm' hge (fun h => by cases h) (by omega) (Nat.le_refl _) hF.pos hle
  exact .c this
/-- room: behind what is there -/
theorem room_run {w0 : World} {m : GM} {H : GH} {w : World} (hC : Conc w0 m H w) {t tx e : TypeId} {n bytes : Nat} (hF : SliF P t e n bytes) {k off sLen c : Nat} {vt : TypeId} {cells : List GC} {ver : Nat} (ho : H k = some (.cells vt cells ver)) {b base size : Nat} (hm : m k = some (b, base, size))
    {x : Value} {cnt : Nat} {news : List Value} (hs : Src P n tx x cnt news w) (hroom : sLen + cnt ≤ c) (hc : off + c * n ≤ size) (hk : off + sLen * n ≤ cells.length) (cl : List GC) (hl : news.length = cl.length) (hr : ∀ i, i < cl.length → CRep m (news.getD i undef) (cl.getD i default)) (ver' : Nat) :
    ∃ w', (Builtin.append_ #[t, tx] ty0 #[.slice (some ⟨b, base + off, none⟩) sLen c, x]).run P w = .ok (.slice (some ⟨b, base + off, none⟩) (sLen + cnt) c) w' ∧ Conc w0 m (up H k (.cells vt (cells.take (off + sLen * n) ++ cl ++ cells.drop (off + sLen * n + cl.length)) ver')) w' := by
  obtain ⟨inf, z, hinf, hz, hsz, hby, hzs⟩ := hF.i
  subst hsz
  have hnl := hs.newsLen
  have hbound : off + sLen * inf.size + cl.length ≤ size := by
    have : (sLen + cnt) * inf.size ≤ c * inf.size := Nat.mul_le_mul_right _ hroom
    rw [Nat.add_mul] at this
    omega
  obtain ⟨w', r1, r2⟩ := store_run (P := P) hC (l := cl) (ver' := ver') ho hm (i := off + sLen * inf.size) news hl hk hbound hr
  obtain ⟨b', base', size', cs, g1, g2, g3, g4, g5⟩ := hC.obj k _ _ _ ho
  rw [hm] at g1; injection g1 with g1; injection g1 with q1 g1; injection g1 with q2 q3
  subst q1; subst q2; subst q3
  have hsome : ∀ j, j < news.length → (w.cell? ⟨b, base + off + sLen * inf.size + j, none⟩).isSome = true := fun j hj => by
    have hlt : base + off + sLen * inf.size + j < cs.size := by omega
    simp [World.cell?, g2, hlt]
  have hfr : ∀ j, j < news.length → w.frozen? ⟨b, base + off + sLen * inf.size + j, none⟩ = false := fun j hj => by
    simp [World.frozen?, g2]
  have hrun := run_append_room_src (P := P) w t tx ty0 e inf hF.u hinf b (base + off) sLen c x cnt news hs hroom hsome hfr
  have hst := run_storeCells_cells (P := P) b (base + off + sLen * inf.size) news 0 w (by simpa using hsome) (by simpa using hfr) hs.one
  have e1 : base + (off + sLen * inf.size) = base + off + sLen * inf.size := by omega
  rw [e1] at r1
  have e2 : w' = w.setCells b (base + off + sLen * inf.size) news := by
    have h := r1.symm.trans (by simpa using hst)
    injection h
  subst e2
  exact ⟨_, hrun, r2⟩
theorem first_run {w0 : World} {m : GM} {H : GH} {w : World} (hC : Conc w0 m H w) {k off sLen c n : Nat} {vt : TypeId} {cells : List GC} {ver : Nat} (ho : H k = some (.cells vt cells ver)) {b base size : Nat} (hm : m k = some (b, base, size)) (hk : off + sLen * n ≤ cells.length) :
    ∃ olds : List Value, (Builtin.firstCells n sLen (.slice (some ⟨b, base + off, none⟩) sLen c)).run P w.drew = .ok olds.toArray w.drew ∧ olds.length = sLen * n ∧ ∀ i, i < sLen * n → CRep m (olds.getD i undef) (cells.getD (off + i) default) := by
  have hcell : ∀ i, i < sLen * n → w.cell? ⟨b, base + off + i, none⟩ = some (cellOr w b (base + off + i)) ∧ CRep m (cellOr w b (base + off + i)) (cells.getD (off + i) default) := fun i hi => by
    obtain ⟨y, h1, h2⟩ := obj_cell hC ho hm (i := off + i) (by omega)
    rw [← Nat.add_assoc] at h1
    rw [cellOr_eq h1]; exact ⟨h1, h2⟩
  refine ⟨mapR (fun i => cellOr w b (base + off + i)) (sLen * n), ?_, mapR_len _ _, fun i hi => by rw [mapR_get _ _ _ hi]; exact (hcell i hi).2⟩
  refine run_firstCells_some w.drew n sLen _ sLen c _ (mapR_len _ _) (fun j u hu => ?_)
  have hj : j < sLen * n := by
    rcases Nat.lt_or_ge j (sLen * n) with h | h
    · exact h
    · rw [List.getElem?_eq_none (by rw [mapR_len]; exact h)] at hu; cases hu
  have e2 := mapR_get (fun i => cellOr w b (base + off + i)) (sLen * n) j hj
  rw [List.getD_eq_getElem?_getD, hu] at e2
  simp only [Option.getD_some] at e2
  rw [add_plain, e2]
  show w.cell? _ = _
  exact (hcell j hj).1
def appOp (dst : Option Tmp) (ty0 : TypeId) (pos : String) (af : Array Edge) (g : Option (Nat × Bool)) (s x : Operand) (t tx : TypeId) : Oper := ⟨dst, .call { callee := .builtin .append, args := #[s, x], argTypes := #[t, tx] }, ty0, pos, af, g⟩
theorem app_exec {s x : Operand} {t tx : TypeId} {a : Act} {w w' : World} {v : Value} (h : (Builtin.append_ #[t, tx] ty0 #[a.eval s, a.eval x]).run P w = .ok v w') : (execOp a.eval (appOp dst ty0 pos af g s x t tx)).run P w = .ok (.value v) w' := by
  unfold appOp execOp
  simp only [resolve, invoke, builtin, Sem.run_bind, Sem.run_pure, Result.andThen_ok, List.map_toArray, List.map_cons, List.map_nil, h]
/-- append to nil, of nothing -/
theorem app_nil0 (s x : Operand) {t tx e : TypeId} {n bytes : Nat} (hS : sliB P t e n bytes = true) {cl : List GC} {R : List Nat} {H : GH} (hs : ρ s = .c (.v (.slice none 0 0))) (hx : srcG P H tx n (ρ x) = some (0, cl, R)) :
    Step P (appOp dst ty0 pos af g s x t tx) ρ H H (.c (.v (.slice none 0 0))) := step_val fun w0 m w a hC h => by
  have hF := sli_facts hS
  obtain ⟨inf, z, hinf, hz, hsz, hby, hzs⟩ := hF.i
  subst hsz
  have es := gv_eq (hs ▸ h s (by simp [appOp, Op.operands, Call.operands])) (y := .slice none 0 0) rfl
  obtain ⟨news, h1, h2, h3, h4⟩ := src_rep hC (h x (by simp [appOp, Op.operands, Call.operands])) hx
  refine ⟨.slice none 0 0, app_exec ?_, .c (.v _ rfl)⟩
  rw [es]
  rcases h1.kind with ⟨e', hk⟩ | hk <;> simp [Builtin.append_, run_underlying hF.u, run_underlying hk, sizeOf, typeInfo, hinf, h1.len, h1.cells]
/-- append to nil, or to what is full and known to be so -/
theorem app_new (d : Nat) (s x : Operand) {t tx e : TypeId} {n bytes : Nat} (hS : sliB P t e n bytes = true) {cnt : Nat} {cl : List GC} {R : List Nat} {H : GH} (hs : ρ s = .c (.v (.slice none 0 0))) (hx : srcG P H tx n (ρ x) = some (cnt, cl, R)) (hd : H d = none) (h0 : 0 < cnt) (hmax : cnt ≤ 1000000) (hbytes : bytes ≤ 1000) (ver : Nat) :
    Step P (appOp dst ty0 pos af g s x t tx) ρ H (up H d (.cells e cl ver)) (.c (.sl d 0 cnt cnt n false)) := step_new fun w0 m w a hC h => by
  have hF := sli_facts hS
  have es := gv_eq (hs ▸ h s (by simp [appOp, Op.operands, Call.operands])) (y := .slice none 0 0) rfl
  obtain ⟨news, h1, h2, h3, h4⟩ := src_rep hC (h x (by simp [appOp, Op.operands, Call.operands])) hx
  obtain ⟨v, m', w', k1, k2, k3, k4⟩ := grow_run (P := P) (ty0 := ty0) hC hd (tx := tx) hF none 0 0 [] (run_firstCells_none w.drew _ _ _ _) (by simp) h1 (by omega) (by omega) hbytes cl (by rw [h3, Nat.zero_add]) (fun i hi => by rw [List.nil_append]; exact h4 i hi) ver
  rw [Nat.zero_add] at k4
  exact ⟨v, m', w', app_exec (by rw [es]; exact k1), k2, k3, k4⟩
theorem app_full (d : Nat) (s x : Operand) {t tx e : TypeId} {n bytes : Nat} (hS : sliB P t e n bytes = true) {k off len cap : Nat} {vt : TypeId} {cells : List GC} {ver0 : Nat} {cnt : Nat} {cl : List GC} {R : List Nat} {H : GH} (hs : ρ s = .c (.sl k off len cap n true)) (ho : H k = some (.cells vt cells ver0)) (hk : off + len * n ≤ cells.length) (hx : srcG P H tx n (ρ x) = some (cnt, cl, R)) (hd : H d = none) (h0 : cap < len + cnt) (hmax : len + cnt ≤ 1000000) (hbytes : bytes ≤ 1000) (ver : Nat) :
    Step P (appOp dst ty0 pos af g s x t tx) ρ H (up H d (.cells e ((cells.drop off).take (len * n) ++ cl) ver)) (.c (.sl d 0 (len + cnt) (len + cnt) n false)) := step_new fun w0 m w a hC h => by
  have hF := sli_facts hS
  obtain ⟨b, base, size, c, hm, es, q1, q2, q3, q4, q5, q6⟩ := rep_sl (hs ▸ h s (by simp [appOp, Op.operands, Call.operands]))
  obtain ⟨news, h1, h2, h3, h4⟩ := src_rep hC (h x (by simp [appOp, Op.operands, Call.operands])) hx
  obtain ⟨olds, f1, f2, f3⟩ := first_run (P := P) (c := c) hC ho hm hk
  have hcc := q2 rfl
  have hlen : ((cells.drop off).take (len * n)).length = len * n := by simp; omega
  obtain ⟨v, m', w', k1, k2, k3, k4⟩ := grow_run (P := P) (ty0 := ty0) hC hd (tx := tx) hF (some ⟨b, base + off, none⟩) len c olds f1 f2 h1 (by omega) hmax hbytes ((cells.drop off).take (len * n) ++ cl) (by rw [List.length_append, hlen, h3, Nat.add_mul]) (fun i hi => by
    by_cases hi2 : i < len * n
    · have e1 : (olds ++ news).getD i undef = olds.getD i undef := by simp only [List.getD_eq_getElem?_getD]; rw [List.getElem?_append_left (by omega)]
      have e2 : ((cells.drop off).take (len * n) ++ cl).getD i default = cells.getD (off + i) default := by
        simp only [List.getD_eq_getElem?_getD]; rw [List.getElem?_append_left (by omega), List.getElem?_take, if_pos hi2, List.getElem?_drop]
      rw [e1, e2]; exact f3 i hi2
    · rw [List.length_append, hlen] at hi
      have e1 : (olds ++ news).getD i undef = news.getD (i - len * n) undef := by simp only [List.getD_eq_getElem?_getD]; rw [List.getElem?_append_right (by omega), f2]
      have e2 : ((cells.drop off).take (len * n) ++ cl).getD i default = cl.getD (i - len * n) default := by
        simp only [List.getD_eq_getElem?_getD]; rw [List.getElem?_append_right (by omega), hlen]
      rw [e1, e2]; exact h4 _ (by omega)) ver
  exact ⟨v, m', w', app_exec (by rw [es]; exact k1), k2, k3, k4⟩
/-- append where there is room -/
theorem app_room (s x : Operand) {t tx e : TypeId} {n bytes : Nat} (hS : sliB P t e n bytes = true) {k off len cap : Nat} {ex : Bool} {vt : TypeId} {cells : List GC} {ver0 : Nat} {cnt : Nat} {cl : List GC} {R : List Nat} {H : GH} (hs : ρ s = .c (.sl k off len cap n ex)) (ho : H k = some (.cells vt cells ver0)) (hk : off + len * n ≤ cells.length) (hx : srcG P H tx n (ρ x) = some (cnt, cl, R)) (h0 : len + cnt ≤ cap) (ver : Nat) :
    Step P (appOp dst ty0 pos af g s x t tx) ρ H (up H k (.cells vt (cells.take (off + len * n) ++ cl ++ cells.drop (off + len * n + cl.length)) ver)) (.c (.sl k off (len + cnt) cap n ex)) := step_new fun w0 m w a hC h => by
  have hF := sli_facts hS
  obtain ⟨b, base, size, c, hm, es, q1, q2, q3, q4, q5, q6⟩ := rep_sl (hs ▸ h s (by simp [appOp, Op.operands, Call.operands]))
  obtain ⟨news, h1, h2, h3, h4⟩ := src_rep hC (h x (by simp [appOp, Op.operands, Call.operands])) hx
  obtain ⟨w', k1, k2⟩ := room_run (P := P) (ty0 := ty0) hC (tx := tx) hF (c := c) ho hm h1 (by omega) q3 hk cl h2 h4 ver
  exact ⟨_, m, w', app_exec (by rw [es]; exact k1), k2, Ext.refl _, .c (.sl hm q1 q2 q3 h0 q5 q6)⟩
/-- append where nobody knows: the old block is looked at no more -/
theorem app_any (d : Nat) (s x : Operand) {t tx e : TypeId} {n bytes : Nat} (hS : sliB P t e n bytes = true) {k len cap : Nat} {cells : List GC} {ver0 : Nat} {cnt : Nat} {cl : List GC} {R : List Nat} {H : GH} (hs : ρ s = .c (.sl k 0 len cap n false)) (ho : H k = some (.cells e cells ver0)) (hk : len * n ≤ cells.length) (hx : srcG P H tx n (ρ x) = some (cnt, cl, R)) (hd : H d = none) (hmax : len + cnt ≤ 1000000) (hbytes : bytes ≤ 1000) (ver1 ver2 : Nat) :
    Step P (appOp dst ty0 pos af g s x t tx) ρ H (up (up H k (.gone ver1)) d (.cells e (cells.take (len * n) ++ cl) ver2)) (.c (.sl d 0 (len + cnt) (len + cnt) n false)) := step_new fun w0 m w a hC h => by
  have hF := sli_facts hS
  have hkd : d ≠ k := fun e => by rw [e, ho] at hd; cases hd
  obtain ⟨b, base, size, c, hm, es, q1, q2, q3, q4, q5, q6⟩ := rep_sl (hs ▸ h s (by simp [appOp, Op.operands, Call.operands]))
  obtain ⟨news, h1, h2, h3, h4⟩ := src_rep hC (h x (by simp [appOp, Op.operands, Call.operands])) hx
  have hlen : (cells.take (len * n)).length = len * n := by simp; omega
  by_cases hroom : len + cnt ≤ c
  · obtain ⟨w', k1, k2⟩ := room_run (P := P) (ty0 := ty0) hC (tx := tx) hF (c := c) ho hm h1 hroom q3 (by omega) cl h2 h4 ver0
    have k3 := k2.trim (up_same _ _ _) (0 + len * n + cl.length) ver0
    rw [up_up] at k3
    have e1 : (cells.take (0 + len * n) ++ cl ++ cells.drop (0 + len * n + cl.length)).take (0 + len * n + cl.length) = cells.take (len * n) ++ cl := by
      rw [Nat.zero_add]
      apply List.take_left'
      rw [List.length_append, List.length_take]; omega
    rw [e1] at k3
    have hdd : up H k (.cells e (cells.take (len * n) ++ cl) ver0) d = none := by rw [up_other _ _ hkd]; exact hd
    obtain ⟨k4, k5⟩ := k3.move (up_same _ _ _) hdd hm ver1 ver2
    rw [up_up] at k4
    refine ⟨_, _, w', app_exec (by rw [es]; exact k1), k4, k5, ?_⟩
    have := CRep.sl (off := 0) (len := len + cnt) (cap := len + cnt) (n := n) (ex := false) (c := c) (up_same m d (b, base, size)) hroom (fun h => by cases h) (by omega) (Nat.le_refl _) q5 q6
    exact .c this
  · obtain ⟨olds, f1, f2, f3⟩ := first_run (P := P) (c := c) (off := 0) (sLen := len) (n := n) hC ho hm (by omega)
    have hC2 := hC.gone ho ver1
    have hdd : up H k (.gone ver1) d = none := by rw [up_other _ _ hkd]; exact hd
    obtain ⟨v, m', w', k1, k2, k3, k4⟩ := grow_run (P := P) (ty0 := ty0) hC2 hdd (tx := tx) hF (some ⟨b, base + 0, none⟩) len c olds f1 f2 h1 (by omega) hmax hbytes (cells.take (len * n) ++ cl) (by rw [List.length_append, hlen, h3, Nat.add_mul]) (fun i hi => by
      by_cases hi2 : i < len * n
      · have e1 : (olds ++ news).getD i undef = olds.getD i undef := by simp only [List.getD_eq_getElem?_getD]; rw [List.getElem?_append_left (by omega)]
        have e2 : (cells.take (len * n) ++ cl).getD i default = cells.getD (0 + i) default := by
          simp only [List.getD_eq_getElem?_getD, Nat.zero_add]; rw [List.getElem?_append_left (by omega), List.getElem?_take, if_pos hi2]
        rw [e1, e2]; exact f3 i hi2
      · rw [List.length_append, hlen] at hi
        have e1 : (olds ++ news).getD i undef = news.getD (i - len * n) undef := by simp only [List.getD_eq_getElem?_getD]; rw [List.getElem?_append_right (by omega), f2]
        have e2 : (cells.take (len * n) ++ cl).getD i default = cl.getD (i - len * n) default := by
          simp only [List.getD_eq_getElem?_getD]; rw [List.getElem?_append_right (by omega), hlen]
        rw [e1, e2]; exact h4 _ (by omega)) ver2
    exact ⟨v, m', w', app_exec (by rw [es]; exact k1), k2, k3, k4⟩
/-- bytes, as a string -/
def u8s : List GC → Option (List Nat)
  | [] => some []
  | .v (.int .u8 (.ofNat b)) :: t => if b < 256 then (match u8s t with | some l => some (b :: l) | none => none) else none
  | _ => none
theorem u8s_spec : ∀ (cs : List GC) (l : List Nat), u8s cs = some l → cs = l.map (fun (b : Nat) => GC.v (.int .u8 (b : Int))) ∧ ∀ b ∈ l, b < 256 := by
  intro cs
  induction cs with
  | nil => intro l h; injection h with h; subst h; exact ⟨rfl, fun b hb => by cases hb⟩
  | cons x t ih =>
    intro l h
    unfold u8s at h
    split at h
    · rename_i e; cases e
    · rename_i b u e
      injection e with e1 e2
      subst e2
      split at h
      · rename_i hb
        split at h
        · rename_i l' hl
          injection h with h; subst h
          obtain ⟨h1, h2⟩ := ih l' hl
          refine ⟨by rw [e1, h1]; rfl, fun c hc => ?_⟩
          rcases List.mem_cons.1 hc with rfl | hc
          · exact hb
          · exact h2 c hc
        · cases h
      · cases h
    · cases h
theorem push_fold : ∀ (l : List Nat) (acc : ByteArray), (l.map (fun (b : Nat) => (b : Int))).foldl (fun r n => r.push (UInt8.ofNat n.toNat)) acc = ⟨acc.data ++ (l.map UInt8.ofNat).toArray⟩ := by
  intro l
  induction l with
  | nil => intro acc; simp
  | cons b t ih =>
    intro acc
    rw [List.map_cons, List.foldl_cons, ih]
    apply ByteArray.ext
    simp [ByteArray.push]
theorem conv_ok (src dst' : TypeId) (x : Operand) {e : TypeId} (hs : P.underlying src = some (.slice e)) (hd : P.underlying dst' = some .string) (he : P.underlying e = some (.int .u8)) {k off len cap : Nat} {ex : Bool} {vt : TypeId} {cells : List GC} {ver : Nat} {H : GH} (hx : ρ x = .c (.sl k off len cap 1 ex)) (ho : H k = some (.cells vt cells ver)) (hk : off + len ≤ cells.length) {l : List Nat} (hl : u8s ((cells.drop off).take len) = some l) :
    Step P ⟨dst, .convert src dst' x, ty0, pos, af, g⟩ ρ H H (.c (.s l)) := step_val fun w0 m w a hC h => by
  obtain ⟨b, base, size, c, hm, es, _⟩ := rep_sl (hx ▸ h x (by simp [Op.operands]))
  obtain ⟨h1, h2⟩ := u8s_spec _ l hl
  have hlen : l.length = len := by
    have := congrArg List.length h1
    simp at this; omega
  have hcell : ∀ j v, (l.map (fun (b : Nat) => Value.int .u8 (b : Int)))[j]? = some v → w.cell? ((⟨b, base + off, none⟩ : Addr).add j) = some v := fun j v hv => by
    have hj : j < l.length := by
      rcases Nat.lt_or_ge j l.length with h | h
      · exact h
      · rw [List.getElem?_eq_none (by simpa using h)] at hv; cases hv
    obtain ⟨y, g1, g2⟩ := obj_cell hC ho hm (i := off + j) (by omega)
    have e1 : cells.getD (off + j) default = GC.v (.int .u8 ((l[j] : Nat) : Int)) := by
      have := congrArg (fun q => q.getD j default) h1
      simpa [List.getD_eq_getElem?_getD, List.getElem?_take, List.getElem?_drop, List.getElem?_map, List.getElem?_eq_getElem hj, show j < len by omega] using this
    rw [e1] at g2
    have ey := gvC_eq g2 (y := .int .u8 ((l[j] : Nat) : Int)) rfl
    rw [add_plain, Nat.add_assoc, g1, ey, ← hv]
    simp [List.getElem?_map, List.getElem?_eq_getElem hj]
  have hload := run_loadCells_list (P := P) w ⟨b, base + off, none⟩ (l.map (fun (b : Nat) => Value.int .u8 (b : Int))) hcell
  have hrun := run_bytesToString (P := P) w ⟨b, base + off, none⟩ len c (l.map (fun (b : Nat) => (b : Int))) (by
    rw [List.map_map]
    simpa [hlen, Function.comp_def] using hload)
  refine ⟨.string (bytesOf l), ?_, .c (.s l h2)⟩
  rw [push_fold] at hrun
  have hb : (⟨ByteArray.empty.data ++ (l.map UInt8.ofNat).toArray⟩ : ByteArray) = bytesOf l := by
    apply ByteArray.ext; simp [bytesOf]
  rw [hb] at hrun
  simp only [execOp, es, convert, Sem.run_bind, run_underlying hs, run_underlying hd, run_underlying he, Result.andThen_ok, hrun, Sem.run_pure]
end
end Go.Proofs.YtoebfmhogkjmgaaGreatDoor.Gx
