/- Parts of the proofs, put together: Que, PfG, PfH, FxA. -/
import Derived.Test.YtiimkhnngpfnbaaS16
import Derived.Deep.AppendSrc
import Derived.Laws.Slices
/- A slice of the call's own that is taken from at its front and added to at its end: no program in sight. -/
namespace Go.Proofs.Ytiimkhnngpfnbaa
open Go.RowKit
set_option linter.unusedVariables false
set_option linter.unusedSimpArgs false
/-- a row that may begin within its block -/
def QRow (w : World) (base : Nat) (v : Value) (l : List Value) : Prop :=
  (∃ a, v = .slice a 0 0 ∧ l = []) ∨
  ∃ g o cap, v = .slice (some ⟨g, o, none⟩) l.length cap ∧ base ≤ g ∧ g < w.heap.size ∧ l.length ≤ cap ∧ (∀ j, j < cap → (w.cell? ⟨g, o + j, none⟩).isSome = true) ∧ (∀ j, w.frozen? ⟨g, j, none⟩ = false) ∧ ∀ j, j < l.length → w.cell? ⟨g, o + j, none⟩ = l[j]?
theorem QRow.shape {w : World} {base : Nat} {v : Value} {l : List Value} (h : QRow w base v l) : ∃ a cap, v = .slice a l.length cap ∧ l.length ≤ cap := by
  rcases h with ⟨a, rfl, rfl⟩ | ⟨g, o, cap, rfl, _, _, h, _⟩
  · exact ⟨_, _, rfl, Nat.le_refl _⟩
  · exact ⟨_, _, rfl, h⟩
theorem QRow.near {w w' : World} {base : Nat} {v : Value} {l : List Value} (h : QRow w base v l) {F : Nat → Prop} (hN : Near F w w') (hF : ∀ g, base ≤ g → ¬ F g) : QRow w' base v l := by
  rcases h with h | ⟨g, o, cap, h1, h2, h3, h4, h5, h6, h7⟩
  · exact .inl h
  · have hb := hN.block g h3 (hF g h2)
    refine .inr ⟨g, o, cap, h1, h2, Nat.lt_of_lt_of_le h3 hN.size, h4, fun j hj => ?_, fun j => ?_, fun j hj => ?_⟩
    · rw [World.cell?_of_block (w := w) (a := ⟨g, o + j, none⟩) hb]; exact h5 j hj
    · rw [World.frozen?_of_block (w := w) (a := ⟨g, j, none⟩) hb]; exact h6 j
    · rw [World.cell?_of_block (w := w) (a := ⟨g, o + j, none⟩) hb]; exact h7 j hj
theorem QRow.head {w : World} {base : Nat} {a : Option Addr} {n cap : Nat} {x : Value} {l : List Value} (h : QRow w base (.slice a n cap) (x :: l)) : ∃ g o, a = some ⟨g, o, none⟩ ∧ w.cell? ⟨g, o, none⟩ = some x ∧ g < w.heap.size := by
  rcases h with ⟨_, _, h⟩ | ⟨g, o, cap', h1, _, h3, _, _, _, h⟩
  · cases h
  · injection h1 with h1
    exact ⟨g, o, h1, by simpa using h 0 (by simp), h3⟩
theorem QRow.tail {w : World} {base : Nat} {a : Option Addr} {n cap : Nat} {x : Value} {l : List Value} (h : QRow w base (.slice a n cap) (x :: l)) : QRow w base (sliced a 1 n cap 1) l := by
  rcases h with ⟨_, _, h⟩ | ⟨g, o, cap', h1, h2, h3, h4, h5, h6, h7⟩
  · cases h
  · injection h1 with h1 hn hc
    subst h1 hn hc
    simp only [List.length_cons] at h4 ⊢
    unfold sliced
    by_cases hcap : cap = 1
    · rw [if_pos hcap]
      have hl : l = [] := List.length_eq_zero_iff.1 (by omega)
      subst hl
      exact .inl ⟨some ⟨g, o, none⟩, by simp [hcap], rfl⟩
    · rw [if_neg hcap]
      refine .inr ⟨g, o + 1, cap - 1, by simp [add_lit], h2, h3, by omega, fun j hj => ?_, h6, fun j hj => ?_⟩
      · have := h5 (1 + j) (by omega)
        rwa [← Nat.add_assoc] at this
      · have := h7 (1 + j) (by simp; omega)
        rw [← Nat.add_assoc] at this
        rw [this, Nat.add_comm 1 j]; rfl
theorem cap_next (n : Nat) (h : n ≤ 1000000000) : Builtin.nextslicecap (n + 1) n ≤ 2 * n + 300 := by
  unfold Builtin.nextslicecap
  split
  · omega
  · split
    · omega
    · simp only [Builtin.growBy]
      split
      · omega
      · split
        · omega
        · omega
/-- what an append comes to -/
structure QApp (w w' : World) (base : Nat) (v v' : Value) (l : List Value) (y : Value) : Prop where
  own : QRow w' base v' (l ++ [y])
  near : Near (fun g => base ≤ g) w w'
section
variable {P : Program} (w : World)
theorem run_qapp (base : Nat) (t ty e : TypeId) (i : TypeInfo) (z : Value) (ht : P.underlying t = some (.slice e)) (hi : P.info? e = some i) (hz : i.zero = some z)
    (hsize : i.size = 1) (hby : i.bytes ≤ 8) (hzs : z.cells.size = 1)
    (v : Value) (l : List Value) (hq : QRow w base v l) (ad : Addr) (c : Nat) (y : Value) (hy : w.cell? ad = some y) (h1 : y.oneCell' = true) (h63 : l.length ≤ 1000000000) (hbase : base ≤ w.heap.size) :
    ∃ v' w', (Builtin.append_ #[t, t] ty #[v, .slice (some ad) 1 c]).run P w = .ok v' w' ∧ QApp w w' base v v' l y := by
  have hs : Src P i.size t (.slice (some ad) 1 c) 1 [y] w := Src.ofSlice w ht ad 1 c [y] (by rw [hsize]; rfl) (fun j u hu => by
    cases j with
    | zero => simp at hu; subst hu; simpa [Addr.add] using hy
    | succ j => simp at hu) (fun u hu => by rw [List.mem_singleton] at hu; rw [hu]; exact h1)
  have grow : ∀ (b : Option Addr) (cp : Nat), cp = l.length → v = .slice b l.length cp → (Builtin.firstCells i.size l.length (.slice b l.length cp)).run P w.drew = .ok l.toArray w.drew → ∃ v' w', (Builtin.append_ #[t, t] ty #[v, .slice (some ad) 1 c]).run P w = .ok v' w' ∧ QApp w w' base v v' l y := by
    intro b cp hcp hv hf
    have hnc := cap_next l.length h63
    refine ⟨_, _, by rw [hv]; exact run_append_grow_src w t t ty e i z ht hi hz b l.length cp l hf _ 1 [y] hs (by omega) (by omega) (by rw [hcp]; exact Nat.le_trans (Nat.mul_le_mul hnc hby) (by omega)), ?_, ?_⟩
    · have hge := grownCap_ge w (l.length + 1) cp e
      have hcl : ∀ (A : Array Value) (j : Nat), (w.drew.alloc (.cells A e)).cell? ⟨w.heap.size, j, none⟩ = A[j]? := fun A j => World.cell?_alloc_at (w := w.drew) A e w.heap.size j rfl
      refine .inr ⟨w.heap.size, 0, _, by rw [List.length_append]; rfl, hbase, by simp, by rw [List.length_append]; exact hge, fun j hj => ?_, fun j => ?_, fun j hj => ?_⟩
      · rw [hcl]
        have : j < ((l ++ [y]).toArray ++ Builtin.zeroCells z.cells (grownCap w (l.length + 1) cp e - (l.length + 1))).size := by
          simp [Builtin.zeroCells, hzs]; omega
        simp only [Nat.zero_add]
        rw [Array.getElem?_eq_getElem this]; rfl
      · exact World.frozen?_alloc_at _ _ _ _ rfl
      · rw [hcl, Nat.zero_add]
        rw [Array.getElem?_append_left (by simpa using hj)]
        simp
    · exact (near_drew _ w).trans (near_alloc _ _ _)
  rcases hq with ⟨a, rfl, rfl⟩ | ⟨g, o, cap, rfl, h2, h3, h4, h5, h6, h7⟩
  · refine grow a 0 rfl rfl ?_
    cases a with
    | none => exact run_firstCells_none w.drew _ _ _ _
    | some ad' => exact run_firstCells_some w.drew _ _ ad' _ _ [] (by simp) (by simp)
  · by_cases hroom : l.length + 1 ≤ cap
    · have hset : w.setCells g (o + l.length * i.size) [y] = w.setCell ⟨g, o + l.length, none⟩ y := by rw [hsize, Nat.mul_one]; rfl
      refine ⟨_, _, run_append_room_src w t t ty e i ht hi g o l.length cap _ 1 [y] hs hroom (fun j hj => ?_) (fun j hj => h6 _), ?_, ?_⟩
      · rw [hsize, Nat.mul_one]
        simp only [List.length_singleton] at hj
        rw [Nat.add_assoc]
        exact h5 (l.length + j) (by omega)
      · rw [hset]
        refine .inr ⟨g, o, cap, by rw [List.length_append]; rfl, h2, by rw [heap_setCell_size]; exact h3, by rw [List.length_append]; exact hroom, fun j hj => ?_, fun j => by rw [World.frozen?_setCell]; exact h6 j, fun j hj => ?_⟩
        · by_cases e : j = l.length
          · subst e
            obtain ⟨u, hu⟩ := Option.isSome_iff_exists.1 (h5 l.length (by omega))
            rw [cell_eq hu]; rfl
          · rw [cell_ne (addr_ne' (by omega))]; exact h5 j hj
        · by_cases e : j = l.length
          · subst e
            obtain ⟨u, hu⟩ := Option.isSome_iff_exists.1 (h5 l.length (by omega))
            rw [cell_eq hu]; simp
          · rw [List.length_append] at hj
            simp only [List.length_singleton] at hj
            rw [cell_ne (addr_ne' (by omega)), List.getElem?_append_left (by omega)]
            exact h7 j (by omega)
      · rw [hset]; exact near_setCell _ _ _ h2
    · refine grow _ cap (by omega) rfl (run_firstCells_some w.drew _ _ _ _ _ l (by rw [hsize]; omega) (fun j u hu => ?_))
      have hj : j < l.length := by
        rcases Nat.lt_or_ge j l.length with hl | hl
        · exact hl
        · rw [List.getElem?_eq_none hl] at hu; cases hu
      rw [add_lit]
      have := h7 j hj
      rw [hu] at this
      simpa using this
theorem wp_qapp {o : Oper} {a : Act} {K : Act → World → Prop} {Q : Exit → Act → World → Prop} (s x : Operand) (t : TypeId)
    (ho : o.op = .call { callee := .builtin .append, args := #[s, x], argTypes := #[t, t] })
    (base : Nat) (e : TypeId) (i : TypeInfo) (z : Value) (ht : P.underlying t = some (.slice e)) (hi : P.info? e = some i) (hz : i.zero = some z)
    (hsize : i.size = 1) (hby : i.bytes ≤ 8) (hzs : z.cells.size = 1)
    (v : Value) (l : List Value) (hs : a.eval s = v) (hq : QRow w base v l) (ad : Addr) (c : Nat) (y : Value) (hx : a.eval x = .slice (some ad) 1 c) (hy : w.cell? ad = some y) (h1 : y.oneCell' = true) (h63 : l.length ≤ 1000000000) (hbase : base ≤ w.heap.size)
    (h : ∀ v' w', QApp w w' base v v' l y → K (a.put o.dst v') w') : o.wp P a w K Q := by
  obtain ⟨v', w', hrun, h2⟩ := run_qapp (P := P) w base t o.type e i z ht hi hz hsize hby hzs v l hq ad c y hy h1 h63 hbase
  unfold Oper.wp execOp
  simp only [ho, resolve, invoke, builtin, Sem.run_bind, Sem.run_pure, Result.andThen_ok, List.map_toArray, List.map_cons, List.map_nil, hs, hx, hrun]
  exact h v' w' h2
theorem wpList_qapp {ops : Array Oper} {rest : List Oper} {o : Oper} {a : Act} {Q : Exit → Act → World → Prop} (hgd : o.guard = none) (s x : Operand) (t : TypeId)
    (ho : o.op = .call { callee := .builtin .append, args := #[s, x], argTypes := #[t, t] })
    (base : Nat) (e : TypeId) (i : TypeInfo) (z : Value) (ht : P.underlying t = some (.slice e)) (hi : P.info? e = some i) (hz : i.zero = some z)
    (hsize : i.size = 1) (hby : i.bytes ≤ 8) (hzs : z.cells.size = 1)
    (v : Value) (l : List Value) (hs : a.eval s = v) (hq : QRow w base v l) (ad : Addr) (c : Nat) (y : Value) (hx : a.eval x = .slice (some ad) 1 c) (hy : w.cell? ad = some y) (h1 : y.oneCell' = true) (h63 : l.length ≤ 1000000000) (hbase : base ≤ w.heap.size)
    (h : ∀ v' w', QApp w w' base v v' l y → wpList P ops Q rest (a.put o.dst v') w') : wpList P ops Q (o :: rest) a w :=
  wpList_plain hgd fun _ hK => wp_qapp w s x t ho base e i z ht hi hz hsize hby hzs v l hs hq ad c y hx hy h1 h63 hbase fun v' w' h2 => hK _ _ (h v' w' h2)
end
end Go.Proofs.Ytiimkhnngpfnbaa
/- The reference's Needs. -/
namespace Go.Proofs.Ytiimkhnngpfnbaa
open Go.RowKit
set_option linter.unusedVariables false
set_option linter.unusedSimpArgs false
set_option linter.unnecessarySimpa false
theorem reach_le {many : Nat} {L : List StepD} {k : Nat} (h : Reach many L k) : k ≤ many + L.length := by
  cases h with
  | last => exact Nat.le_refl _
  | from_ _ hi _ _ h2 => omega
/-- what is marked, and what is to be looked at -/
structure NI (many : Nat) (L : List StepD) (outs todo : List Int) : Prop where
  len : outs.length = many + L.length + 1
  bits : ∀ k, outs.getD k 0 = 0 ∨ outs.getD k 0 = 1
  tod : ∀ t ∈ todo, ∃ k : Nat, t = (k : Int) ∧ Reach many L k
  snd : ∀ k, outs.getD k 0 = 1 → Reach many L k
  last : outs.getD (many + L.length) 0 = 1 ∨ ((many + L.length : Nat) : Int) ∈ todo
  closed : ∀ i, i < L.length → outs.getD (many + i + 1) 0 = 1 → ∀ k : Nat, (k : Int) ∈ (L.getD i default).fr → 1 ≤ k → k ≤ many + i → outs.getD k 0 = 1 ∨ (k : Int) ∈ todo
theorem getD_set_one (outs : List Int) (k j : Nat) : (outs.set k 1).getD j 0 = if k = j ∧ k < outs.length then 1 else outs.getD j 0 := by
  by_cases h : k = j
  · subst h
    by_cases hl : k < outs.length
    · rw [if_pos ⟨rfl, hl⟩]; simp [hl]
    · rw [if_neg (fun e => hl e.2), List.set_eq_of_length_le (by omega)]
  · rw [if_neg (fun e => h e.1)]; simp [List.getElem?_set_ne h]
theorem NI.start (many : Nat) (L : List StepD) : NI many L (List.replicate (many + L.length + 1) 0) [((many + L.length : Nat) : Int)] := by
  have hz : ∀ k, (List.replicate (many + L.length + 1) (0 : Int)).getD k 0 = 0 := fun k => by
    rw [List.getD_eq_getElem?_getD, List.getElem?_replicate]
    split <;> rfl
  refine ⟨by simp, fun k => .inl (hz k), fun t ht => ?_, fun k hk => ?_, .inr (by simp), fun i hi h => ?_⟩
  · rw [List.mem_singleton] at ht; exact ⟨_, ht, .last⟩
  · rw [hz] at hk; omega
  · rw [hz] at h; omega
theorem NI.seen {many : Nat} {L : List StepD} {outs t : List Int} {k : Nat} (h : NI many L outs ((k : Int) :: t)) (hm : outs.getD k 0 = 1) : NI many L outs t := by
  refine ⟨h.len, h.bits, fun x hx => h.tod x (by simp [hx]), h.snd, ?_, fun i hi h1 k' hk h2 h3 => ?_⟩
  · rcases h.last with h1 | h1
    · exact .inl h1
    · rcases List.mem_cons.1 h1 with h1 | h1
      · rw [show many + L.length = k by omega]; exact .inl hm
      · exact .inr h1
  · rcases h.closed i hi h1 k' hk h2 h3 with h4 | h4
    · exact .inl h4
    · rcases List.mem_cons.1 h4 with h4 | h4
      · rw [show k' = k by omega]; exact .inl hm
      · exact .inr h4
theorem NI.mark {many : Nat} {L : List StepD} {outs t s : List Int} {k : Nat} (h : NI many L outs ((k : Int) :: t)) (hs : ∀ x ∈ s, ∃ j : Nat, x = (j : Int) ∧ Reach many L j)
    (hc : ∀ i, i < L.length → k = many + i + 1 → ∀ j : Nat, (j : Int) ∈ (L.getD i default).fr → 1 ≤ j → j ≤ many + i → (j : Int) ∈ s) : NI many L (outs.set k 1) (t ++ s) := by
  obtain ⟨k', e, hr⟩ := h.tod (k : Int) (by simp)
  have e : k' = k := by omega
  subst e
  have hk : k' < outs.length := by have := reach_le hr; have := h.len; omega
  have hg : ∀ j, outs.getD j 0 = 1 → (outs.set k' 1).getD j 0 = 1 := fun j hj => by rw [getD_set_one]; split <;> first | rfl | exact hj
  have hg0 : (outs.set k' 1).getD k' 0 = 1 := by rw [getD_set_one, if_pos ⟨rfl, hk⟩]
  refine ⟨by rw [List.length_set]; exact h.len, fun j => ?_, fun x hx => ?_, fun j hj => ?_, ?_, fun i hi h1 j hj h2 h3 => ?_⟩
  · rw [getD_set_one]; split
    · exact .inr rfl
    · exact h.bits j
  · rcases List.mem_append.1 hx with hx | hx
    · exact h.tod x (by simp [hx])
    · exact hs x hx
  · rw [getD_set_one] at hj
    split at hj
    · rename_i hh; rw [← hh.1]; exact hr
    · exact h.snd j hj
  · rcases h.last with h1 | h1
    · exact .inl (hg _ h1)
    · rcases List.mem_cons.1 h1 with h1 | h1
      · rw [show many + L.length = k' by omega]; exact .inl hg0
      · exact .inr (List.mem_append.2 (.inl h1))
  · by_cases e : k' = many + i + 1
    · exact .inr (List.mem_append.2 (.inr (hc i hi e j hj h2 h3)))
    · rw [getD_set_one, if_neg (fun g => e g.1)] at h1
      rcases h.closed i hi h1 j hj h2 h3 with h4 | h4
      · exact .inl (hg _ h4)
      · rcases List.mem_cons.1 h4 with h4 | h4
        · rw [show j = k' by omega]; exact .inl hg0
        · exact .inr (by simp [h4])
def onlyB (k : Nat) (z : Int) : Bool := decide (1 ≤ z) && decide (z < (k : Int))
theorem NI.low {many : Nat} {L : List StepD} {outs t : List Int} {k : Nat} (h : NI many L outs ((k : Int) :: t)) (hk : k ≤ many) : NI many L (outs.set k 1) t := by
  have := h.mark (s := []) (fun x hx => by cases hx) (fun i _ e => by omega)
  rwa [List.append_nil] at this
theorem NI.high {many : Nat} {L : List StepD} {outs t : List Int} {i : Nat} (h : NI many L outs (((many + i + 1 : Nat) : Int) :: t)) (hi : i < L.length) :
    NI many L (outs.set (many + i + 1) 1) (t ++ (L.getD i default).fr.filter (onlyB (many + i + 1))) := by
  obtain ⟨k', e, hr⟩ := h.tod ((many + i + 1 : Nat) : Int) (by simp)
  have e : k' = many + i + 1 := by omega
  subst e
  refine h.mark (fun x hx => ?_) (fun i' hi' e j hj h2 h3 => ?_)
  · obtain ⟨h1, h2⟩ := List.mem_filter.1 hx
    unfold onlyB at h2
    simp at h2
    obtain ⟨n, rfl⟩ := Int.eq_ofNat_of_zero_le (by omega : 0 ≤ x)
    exact ⟨n, rfl, .from_ hr hi h1 (by omega) (by omega)⟩
  · have : i' = i := by omega
    subst this
    refine List.mem_filter.2 ⟨hj, ?_⟩
    unfold onlyB
    simp; omega
def needI (many : Nat) (L : List StepD) : List Int := (needV many L).map fun x => if x then 1 else 0
theorem NI.done {many : Nat} {L : List StepD} {outs : List Int} (h : NI many L outs []) : outs = needI many L := by
  have hr : ∀ k, Reach many L k → outs.getD k 0 = 1 := by
    intro k hk
    induction hk with
    | last => exact h.last.elim id (fun e => by cases e)
    | from_ h1 hi hk k1 k2 ih => exact (h.closed _ hi ih _ hk k1 k2).elim id (fun e => by cases e)
  apply List.ext_getElem
  · unfold needI; rw [List.length_map, needV_len]; exact h.len
  · intro k h1 h2
    have e0 : (needI many L)[k] = if (needV many L)[k]'(by rw [needV_len, ← h.len]; exact h1) then 1 else 0 := by simp [needI]
    rw [e0]
    have e1 : outs.getD k 0 = outs[k] := by simp [h1]
    have h3 : k < (needV many L).length := by rw [needV_len, ← h.len]; exact h1
    have e2 : (needV many L).getD k false = (needV many L)[k] := by simp [h3]
    rw [← e1, ← e2]
    by_cases hk : (needV many L).getD k false = true
    · rw [hk, hr k ((needV_iff many L k).1 hk)]; rfl
    · rw [if_neg hk]
      rcases h.bits k with hb | hb
      · exact hb
      · exact absurd ((needV_iff many L k).2 (h.snd k hb)) hk
open Classical in
noncomputable def zerosW (w : World) (b N : Nat) : Nat := (List.range N).countP fun k => decide (w.cell? ⟨b, k, none⟩ = some (.int .i64 0))
theorem zerosW_eq {w : World} {b : Nat} {outs : List Int} (h : VarAt w b (intVals outs)) : zerosW w b outs.length = zeros outs := by
  have e : outs = (List.range outs.length).map (fun k => outs.getD k 0) := by
    apply List.ext_getElem
    · simp
    · intro i h1 h2; simp [h1]
  unfold zerosW zeros
  conv => rhs; rw [e]
  rw [List.countP_map]
  apply List.countP_congr
  intro k hk
  have hk' := List.mem_range.1 hk
  rw [h.get k (intVals_get _ _ hk')]
  simp
def lenV : Value → Nat
  | .slice _ n _ => n
  | _ => 0
/-- the marks and what is to be looked at, in memory -/
structure NdAt (w0 wr : World) (b N : Nat) (outs todo : List Int) (v : Value) : Prop where
  be : Below w0.heap.size w0 wr
  lo : w0.heap.size ≤ b
  var : VarAt wr b (intVals outs)
  len : outs.length = N
  q : QRow wr (b + 1) v (intVals todo)
theorem NdAt.mark {w0 wr : World} {b N : Nat} {outs todo : List Int} {v : Value} (h : NdAt w0 wr b N outs todo v) (k : Nat) (hk : k < N) : NdAt w0 (wr.setCell ⟨b, k, none⟩ (.int .i64 1)) b N (outs.set k 1) todo v :=
  ⟨h.be.setCell (p := ⟨b, k, none⟩) h.lo _, h.lo, by rw [intVals_set]; exact h.var.set k (by rw [intVals_length, h.len]; exact hk) _, by rw [List.length_set]; exact h.len, h.q.near (near_setCell (F := fun g => g = b) _ _ _ rfl) (fun g hg e => by omega)⟩
theorem NdAt.app {w0 ws wa w8 : World} {b N : Nat} {outs todo : List Int} {u u' : Value} {y : Int} (h : NdAt w0 ws b N outs todo u) (hb : Below ws.heap.size ws wa) (ha : QApp wa w8 (b + 1) u u' (intVals todo) (.int .i64 y)) :
    NdAt w0 w8 b N outs (todo ++ [y]) u' := by
  have hv := h.var.after hb
  have hbl := ha.near.block b hv.lt (by omega)
  refine ⟨(h.be.trans (hb.mono h.be.size)).trans (ha.near.below (Nat.le_trans h.be.size hb.size) (fun g hg => by have := h.lo; omega)), h.lo, ⟨Nat.lt_of_lt_of_le hv.lt ha.near.size, fun i hi => ?_, fun i => ?_⟩, h.len, by rw [intVals_app]; exact ha.own⟩
  · rw [World.cell?_of_block (w := wa) (a := ⟨b, i, none⟩) hbl]; exact hv.cell i hi
  · rw [World.frozen?_of_block (w := wa) (a := ⟨b, i, none⟩) hbl]; exact hv.free i
theorem NdAt.zs {w0 wr : World} {b N : Nat} {outs todo : List Int} {v : Value} (h : NdAt w0 wr b N outs todo v) : zerosW wr b N = zeros outs := by rw [← h.len]; exact zerosW_eq h.var
theorem NdAt.to {w0 wr : World} {b N : Nat} {outs todo todo' : List Int} {v v' : Value} (h : NdAt w0 wr b N outs todo v) (hq : QRow wr (b + 1) v' (intVals todo')) : NdAt w0 wr b N outs todo' v' := ⟨h.be, h.lo, h.var, h.len, hq⟩
def NeedsOf (w0 : World) (r : List Int) (e : Ending) (w' : World) : Prop := ∃ a cap, e = .returned (.slice a r.length cap) ∧ ValRow w' (.slice a r.length cap) (intVals r) ∧ Below w0.heap.size w0 w'
theorem run_cut_one (a : Option Addr) (n cap : Nat) (hp : 1 ≤ n) (w : World) : (Instr.slice 27 (.slice a n cap) (some (.int .i64 1)) none none).run Try.prog w = .ok (sliced a 1 n cap 1) w := run_cut_l a n cap 1 hp w
set_option maxRecDepth 100000 in
set_option maxHeartbeats 6400000 in
theorem needs_any (many : Nat) (sa : Option Addr) (sc : Nat) (L : List StepD) (w : World) (hS : RowOf 3 StepC w (.slice sa L.length sc) L)
    (hm : many ≤ 1000) (hl : L.length ≤ 1000) (hsh : ∀ x ∈ L, x.fr.length ≤ 1000) :
    Calls Try.prog 20 #[.int .i64 many, .slice sa L.length sc] w (NeedsOf w (needI many L)) := by
  have HS := Lib.hid hS
  have HSH := Lib.hid hsh
  obtain ⟨ii, hi0, hz0, hz1, hz2⟩ := info_parts' infoI
  have HII := Lib.hid hi0
  have HY0 := Lib.hid hz0
  have HY1 := Lib.hid hz1
  have HY2 := Lib.hid (Nat.le_of_eq hz2)
  clear hi0 hz0 hz1 hz2 hS hsh
  obtain ⟨N, hN⟩ : ∃ N, many + L.length + 1 = N := ⟨_, rfl⟩
  have HN := Lib.hid hN
  have hmk := mk_numbers N (by omega) w ((many : Int) + (L.length : Int) + 1) (by omega)
  obtain ⟨wb, hwb⟩ : ∃ wb, w.alloc (.cells (intVals (List.replicate N 0)).toArray 3) = wb := ⟨_, rfl⟩
  obtain ⟨b, hb⟩ : ∃ b, w.heap.size = b := ⟨_, rfl⟩
  have hsz : wb.heap.size = b + 1 := by rw [← hwb, ← hb]; simp
  have HB := Lib.hid hb
  have HND : Hid (NdAt w (wb.alloc (.cells #[.int .i64 ((many : Int) + (L.length : Int))] 3)) b N (List.replicate N 0) [((many + L.length : Nat) : Int)] (.slice (some ⟨wb.heap.size, 0, none⟩) 1 1)) := Lib.hid (by
    have hbw : Below w.heap.size w wb := by rw [← hwb]; exact (Below.refl _ _).alloc (Nat.le_refl _) _
    have hv : VarAt wb b (intVals (List.replicate N 0)) := by
      have := varAt_new w (intVals (List.replicate N 0)).toArray 3 b hb.symm
      rw [hwb] at this
      simpa using this
    refine ⟨hbw.alloc hbw.size _, by omega, hv.alloc _, by simp, .inr ⟨wb.heap.size, 0, 1, rfl, by omega, by simp, by simp [intVals], fun j hj => ?_, fun j => World.frozen?_alloc_at _ _ _ _ rfl, fun j hj => ?_⟩⟩
    · rw [World.cell?_alloc_at _ _ _ _ rfl]
      have : j = 0 := by omega
      subst this; rfl
    · rw [World.cell?_alloc_at _ _ _ _ rfl]
      have : j = 0 := by simp [intVals] at hj; omega
      subst this; simp [intVals])
  have HNI : Hid (NI many L (List.replicate N 0) [((many + L.length : Nat) : Int)]) := Lib.hid (by rw [← hN]; exact NI.start many L)
  have HZ0 : Hid (zeros (List.replicate N 0) * 1000 + [((many + L.length : Nat) : Int)].length ≤ N * 1000 + 1) := Lib.hid (by
    have : zeros (List.replicate N 0) ≤ N := by have := zeros_le (List.replicate N 0); simpa using this
    have := Nat.mul_le_mul_right 1000 this
    simp only [List.length_singleton]; omega)
  rw [hwb, hb] at hmk
  have hN2 : N ≤ 2001 := by omega
  clear hb hwb hN
  go_enter Try.func20, Try.ntmps20
  go_wp2_with fail
  rw [← hsz]
  clear hsz
  go_loopw [6] (fun v wr => ∃ (outs todo : List Int), NdAt w wr b N outs todo v ∧ NI many L outs todo ∧ zeros outs * 1000 + todo.length ≤ N * 1000 + 1) (fun v wr => zerosW wr b N * 1001 + lenV v)
  case atStart => exact ⟨_, _, HND.out, HNI.out, HZ0.out⟩
  case round =>
    obtain ⟨outs, todo, hnd, hni, hz⟩ := hrel
    have HD := Lib.hid hnd
    have HI := Lib.hid hni
    have HZ := Lib.hid hz
    clear hnd hni hz
    obtain ⟨va, vc, rfl, _⟩ := HD.out.q.shape
    simp only [intVals_length] at HD ⊢
    cases todo with
    | nil =>
      have HE := Lib.hid HI.out.done
      have d0 : decide ((0 : Int) < (([] : List Int).length : Int)) = false := by decide
      go_wp2_with fail
      go_ret
      have e1 : (needI many L).length = N := by rw [← HE.out]; exact HD.out.len
      have h2 := HD.out.var.rowV N (by rw [intVals_length]; exact HD.out.len) (by have := HN.out; omega) (by omega)
      rw [HE.out] at h2
      exact ⟨some ⟨b, 0, none⟩, N, by rw [e1]; rfl, by rw [e1]; exact h2, HD.out.be⟩
    | cons t rest =>
      obtain ⟨k, rfl, hreach⟩ := HI.out.tod t (by simp)
      have hkN : k < N := by have := reach_le hreach; have := HN.out; omega
      have HRE := Lib.hid hreach
      obtain ⟨wy, hwy⟩ : ∃ wy, wy = wr := ⟨_, rfl⟩
      subst hwy
      obtain ⟨m, hml⟩ : ∃ m, ((k : Int) :: rest).length = m := ⟨_, rfl⟩
      have HML : Hid (m = rest.length + 1) := Lib.hid (by rw [← hml]; rfl)
      have hm1 : 1 ≤ m := by have := HML.out; omega
      have hmb : m ≤ 3000000 := by have := HZ.out; rw [hml] at this; omega
      rw [hml] at HD ⊢
      have hq := HD.out.q
      obtain ⟨g, o, rfl, hc0, _⟩ := QRow.head (l := intVals rest) hq
      have hqt := QRow.tail (l := intVals rest) hq
      obtain ⟨a', c', he, _⟩ := hqt.shape
      rw [he, intVals_length] at hqt
      rw [intVals_length] at he
      have hs : ∀ W, (Instr.slice 27 (.slice (some ⟨g, o, none⟩) m vc) (some (.int .i64 1)) none none).run Try.prog W = .ok (.slice a' rest.length c') W := fun W => by rw [← he]; exact run_cut_one _ m vc hm1 W
      have HT := Lib.hid (HD.out.to hqt)
      have HZS := Lib.hid HD.out.zs
      have d0 : decide ((0 : Int) < (m : Int)) = true := decide_eq_true (by omega)
      have d0' : decide (0 < m) = true := decide_eq_true (by omega)
      have m0 : (0 : Int) < (m : Int) := by omega
      have m1 : 0 < m := by omega
      have k0 : (0 : Int) ≤ (k : Int) := by omega
      have k1 : (k : Int) < (N : Int) := by omega
      have ck := HD.out.var.get k (intVals_get outs k (by rw [HD.out.len]; exact hkN))
      have hrl : rest.length < m := by have := HML.out; omega
      clear hqt hq he hml hreach hm1
      rcases HI.out.bits k with h0 | h1
      · rw [h0] at ck
        have d1 : decide ((0 : Int) < 0) = false := by decide
        have fk := HD.out.var.free k
        have HM := Lib.hid (HT.out.mark k hkN)
        have HZS2 := Lib.hid HM.out.zs
        have HZ2 : Hid (zeros (outs.set k 1) + 1 = zeros outs) := Lib.hid (by
          have hkl : k < outs.length := by rw [HD.out.len]; exact hkN
          exact zeros_set outs k 1 hkl (by rw [← h0]; simp [hkl]) (by decide))
        clear h0
        by_cases hkm : k ≤ many
        · have d2 : decide ((k : Int) ≤ (many : Int)) = true := decide_eq_true (by omega)
          have d2' : decide (k ≤ many) = true := decide_eq_true hkm
          have HI2 := Lib.hid (HI.out.low hkm)
          clear hkm
          go_wp2_with fail
          go_roundw
          case rel => exact ⟨_, _, HM.out, HI2.out, by have := HZ.out; have := HZ2.out; simp only [List.length_cons] at *; omega⟩
          case measure =>
            have h1 := HZS.out
            have h2 := HZS2.out
            have h3 := HZ2.out
            simp [lenV]; omega
        · obtain ⟨i, hki⟩ : ∃ i, k = many + i + 1 := ⟨k - many - 1, by omega⟩
          have hil : i < L.length := by have := HN.out; omega
          have d2 : decide ((k : Int) ≤ (many : Int)) = false := decide_eq_false (by omega)
          have d2' : decide (k ≤ many) = false := decide_eq_false hkm
          have HI2 : Hid (NI many L (outs.set k 1) (rest ++ (L.getD i default).fr.filter (onlyB k))) := Lib.hid (by
            have := HI.out
            rw [hki] at this ⊢
            exact this.high hil)
          have i1 : (0 : Int) ≤ (k : Int) - (many : Int) - 1 := by omega
          have i2 : (k : Int) - (many : Int) - 1 < (L.length : Int) := by omega
          have i3 : ((k : Int) - (many : Int) - 1).toNat = i := by omega
          obtain ⟨x, hx⟩ : ∃ x, L.getD i default = x := ⟨_, rfl⟩
          rw [hx] at HI2
          have hxf : x.fr.length ≤ 1000 := by
            rw [← hx, show L.getD i default = L[i] from by simp [hil]]
            exact HSH.out _ (List.getElem_mem _)
          obtain ⟨sb, off, a1, l1, a2, l2, a3, l3, rfl, hbw, hc1', hc2', hc3', r1, r2, r3, j1, j2, j3⟩ := steps_row HS.out i hil x hx
          have hc2 := (HM.out.be.cell (p := ⟨sb, off + i * 3 + 1, none⟩) hbw).trans hc2'
          have HR2 := Lib.hid r2
          have HKI := Lib.hid hki
          have HZB : Hid (zeros (outs.set k 1) * 1000 + 1000 + rest.length ≤ N * 1000 + 1) := Lib.hid (by
            have := HZ.out; have := HZ2.out; simp only [List.length_cons] at *; omega)
          clear hx r1 r2 r3 j1 j2 j3 hc1' hc2' hc3' hkm hki hil
          go_wp2_with fail
          go_loopw [6, 9] (fun v i wq => ∃ q : Nat, i = .int .i64 (q : Int) ∧ q ≤ x.fr.length ∧ NdAt w wq b N (outs.set k 1) (rest ++ (x.fr.take q).filter (onlyB k)) v) (fun _ i _ => x.fr.length - (intOf i).toNat)
          case atStart => exact ⟨0, rfl, Nat.zero_le _, by simpa using HM.out⟩
          case round =>
            obtain ⟨q, rfl, hq, hnd⟩ := hrel
            obtain ⟨wq, hwq⟩ : ∃ wq, wq = wr := ⟨_, rfl⟩
            subst hwq
            have HQ := Lib.hid hnd
            have q0 : (0 : Int) ≤ (q : Int) := by omega
            have hfl : ((x.fr.take q).filter (onlyB k)).length ≤ 1000 := Nat.le_trans (List.length_filter_le _ _) (by rw [List.length_take]; omega)
            obtain ⟨s, hs2⟩ : ∃ s, rest ++ (x.fr.take q).filter (onlyB k) = s := ⟨_, rfl⟩
            have HSL : Hid (s.length ≤ rest.length + 1000) := Lib.hid (by rw [← hs2, List.length_append]; omega)
            have HS2 := Lib.hid hs2
            rw [hs2] at HQ
            obtain ⟨ua, uc, rfl, _⟩ := HQ.out.q.shape
            simp only [intVals_length] at HQ ⊢
            clear hnd hfl hs2
            by_cases hqt : q < x.fr.length
            · have q1 : (q : Int) < (x.fr.length : Int) := by omega
              have hdq : decide (q < x.fr.length) = true := decide_eq_true hqt
              obtain ⟨fb, fo, rfl, _, hcz⟩ := int_at (HR2.out.below HQ.out.be) q hqt
              have e : x.fr.getD q 0 = x.fr[q] := by simp [hqt]
              have HTQ := Lib.hid (List.take_succ_eq_append_getElem hqt)
              rw [← e] at HTQ
              clear e
              obtain ⟨z, hz⟩ : ∃ z, x.fr.getD q 0 = z := ⟨_, rfl⟩
              rw [hz] at hcz HTQ
              have HN2 : Hid (rest ++ (x.fr.take (q + 1)).filter (onlyB k) = s ++ (if onlyB k z then [z] else [])) := Lib.hid (by
                rw [HTQ.out, List.filter_append, ← List.append_assoc, HS2.out]
                congr 1
                by_cases h : onlyB k z = true <;> simp [h])
              clear hz
              by_cases hz1 : 1 ≤ z
              · have g1 : decide (1 ≤ z) = true := decide_eq_true hz1
                by_cases hz2 : z < (k : Int)
                · have g2 : decide (z < (k : Int)) = true := decide_eq_true hz2
                  have HN3 : Hid (rest ++ (x.fr.take (q + 1)).filter (onlyB k) = s ++ [z]) := Lib.hid (by
                    rw [HN2.out, if_pos (by unfold onlyB; rw [g1, g2]; rfl)])
                  have HBL := Lib.hid (below_lit wq (.cells #[.int .i64 z] 3))
                  have HBS : Hid (b + 1 ≤ (wq.alloc (.cells #[.int .i64 z] 3)).heap.size) := Lib.hid (by have := HBL.out.size; have := HQ.out.var.lt; omega)
                  have HQA : Hid (QRow (wq.alloc (.cells #[.int .i64 z] 3)) (b + 1) (.slice ua s.length uc) (intVals s)) := Lib.hid (HQ.out.q.near (near_of_below (fun _ => False) HBL.out) (fun _ _ h => h))
                  have HSB : Hid ((intVals s).length ≤ 1000000000) := Lib.hid (by rw [intVals_length]; have := HSL.out; omega)
                  clear hz1 hz2
                  go_wp2_with (at_builtin; refine wpList_qapp _ rfl _ _ 27 rfl (b + 1) 3 ii (.int .i64 0) Try.underlying27 HII.out HY0.out HY1.out HY2.out rfl (.slice ua s.length uc) (intVals s) rfl HQA.out ⟨wq.heap.size, 0, none⟩ 1 (.int .i64 z) rfl (World.cell?_alloc_at _ _ _ _ rfl) rfl HSB.out HBS.out ?_)
                  intro v8 w8 ha8
                  have HQ8 := Lib.hid (HQ.out.app HBL.out ha8)
                  obtain ⟨a8, c8, rfl, _⟩ := HQ8.out.q.shape
                  simp only [intVals_length] at HQ8 ⊢
                  clear ha8
                  go_wp2_with fail
                  go_roundw
                  case rel => exact ⟨q + 1, by go_num, by omega, by rw [HN3.out]; exact HQ8.out⟩
                  case measure => simp [intOf]; omega
                · have g2 : decide (z < (k : Int)) = false := decide_eq_false hz2
                  have HN3 : Hid (rest ++ (x.fr.take (q + 1)).filter (onlyB k) = s) := Lib.hid (by
                    rw [HN2.out, if_neg (by unfold onlyB; rw [g2, Bool.and_false]; simp), List.append_nil])
                  clear hz1 hz2
                  go_wp2_with fail
                  go_roundw
                  case rel => exact ⟨q + 1, by go_num, by omega, by rw [HN3.out]; exact HQ.out⟩
                  case measure => simp [intOf]; omega
              · have g1 : decide (1 ≤ z) = false := decide_eq_false hz1
                have HN3 : Hid (rest ++ (x.fr.take (q + 1)).filter (onlyB k) = s) := Lib.hid (by
                  rw [HN2.out, if_neg (by unfold onlyB; rw [g1, Bool.false_and]; simp), List.append_nil])
                clear hz1
                go_wp2_with fail
                go_roundw
                case rel => exact ⟨q + 1, by go_num, by omega, by rw [HN3.out]; exact HQ.out⟩
                case measure => simp [intOf]; omega
            · have hdq : decide (q < x.fr.length) = false := decide_eq_false hqt
              have HE : Hid (s = rest ++ x.fr.filter (onlyB k)) := Lib.hid (by rw [← HS2.out, List.take_of_length_le (by omega)])
              clear hqt
              go_wp2_with fail
              go_roundw
              case rel => exact ⟨_, _, HQ.out, by rw [HE.out]; exact HI2.out, by have := HSL.out; have := HZB.out; omega⟩
              case measure =>
                have h1 := HZS.out
                have h2 := HQ.out.zs
                have h3 := HZ2.out
                have h4 := HSL.out
                simp [lenV]; omega
      · rw [h1] at ck
        have d1 : decide ((0 : Int) < 1) = true := by decide
        have HI2 := Lib.hid (HI.out.seen h1)
        clear h1
        go_wp2_with fail
        go_roundw
        case rel => exact ⟨_, _, HT.out, HI2.out, by have := HZ.out; simp only [List.length_cons] at this; omega⟩
        case measure => simp [lenV]; omega
end Go.Proofs.Ytiimkhnngpfnbaa
/- The reference's Trim. -/
namespace Go.Proofs.Ytiimkhnngpfnbaa
open Go.RowKit
set_option linter.unusedVariables false
set_option linter.unusedSimpArgs false
set_option linter.unnecessarySimpa false
theorem refTrim_none (many : Int) (sa : Option Addr) (sc : Nat) (n : Nat) (w : World) (h : many < 0 ∨ n = 0) :
    Calls Try.prog 9 #[.int .i64 many, .slice sa n sc] w (TrimOf w ([], [])) := by
  have key : TrimOf w ([], []) (.returned (.tuple #[.slice none 0 0, .slice none 0 0])) w := ⟨none, 0, none, 0, rfl, .inl ⟨_, _, rfl, rfl, Nat.zero_le _⟩, .inl ⟨_, _, rfl, rfl⟩, Below.refl _ _⟩
  have HK := Lib.hid key
  clear key
  by_cases hm : many < 0
  · have d1 : decide (many < 0) = true := decide_eq_true hm
    clear h
    go_enter Try.func9, Try.ntmps9
    go_wp2_with fail
    go_ret2
    exact HK.out
  · have d1 : decide (many < 0) = false := decide_eq_false hm
    have hn : n = 0 := by omega
    subst hn
    clear h
    go_enter Try.func9, Try.ntmps9
    go_wp2_with fail
    go_ret2
    exact HK.out
/-- the numbers, as they come -/
structure CntAt (w0 wr : World) (bn N : Nat) (nums us : List Int) (u : Value) : Prop where
  be : Below w0.heap.size w0 wr
  lo : w0.heap.size ≤ bn
  num : VarAt wr bn (intVals nums)
  len : nums.length = N
  own : wr.ownsRow (bn + 1) 3 1 u us.length (intVals us)
theorem CntAt.no {w0 wr : World} {bn N : Nat} {nums us : List Int} {u : Value} (h : CntAt w0 wr bn N nums us u) : u.ownBlock ≠ some bn := fun e => by have := (row_block h.own e).1; omega
theorem CntAt.store {w0 wr : World} {bn N : Nat} {nums us : List Int} {u : Value} (h : CntAt w0 wr bn N nums us u) (k : Nat) (hk : k < N) (x : Int) :
    CntAt w0 (wr.setCell ⟨bn, k, none⟩ (.int .i64 x)) bn N (nums.set k x) us u :=
  ⟨h.be.setCell (p := ⟨bn, k, none⟩) h.lo _, h.lo, by rw [intVals_set]; exact h.num.set k (by rw [intVals_length, h.len]; exact hk) _, by simp [h.len], row_set h.own h.no _⟩
theorem CntAt.app {w0 ws wa w8 : World} {bn N : Nat} {nums us : List Int} {u u' : Value} {y : Int} (h : CntAt w0 ws bn N nums us u) (hb : Below ws.heap.size ws wa) (ha : Appd wa w8 (bn + 1) 3 u u' us.length (intVals us) (intVals [y])) :
    CntAt w0 w8 bn N nums (us ++ [y]) u' := by
  have h2 := h.be.trans (hb.mono h.be.size)
  refine ⟨h2.trans (below_of_grown ha.grow h2.size (fun c e => ?_)), h.lo, (h.num.after hb).grown ha.grow h.no, h.len, ?_⟩
  · have := (row_block h.own e).1
    have := h.lo
    omega
  · have := ha.own
    rw [intVals_length] at this
    rw [intVals_app, List.length_append]
    exact this
theorem needV_zero (many : Nat) (L : List StepD) (hp : 0 < L.length) : (needV many L).getD 0 false = false := by
  cases h : (needV many L).getD 0 false with
  | false => rfl
  | true =>
    have := (needV_iff many L 0).1 h
    generalize hz : (0 : Nat) = z at this
    cases this with
    | last => omega
    | from_ _ _ _ h1 _ => omega
theorem needI_get (many : Nat) (L : List StepD) (k : Nat) : (needI many L).getD k 0 = if (needV many L).getD k false then 1 else 0 := by
  unfold needI
  rw [List.getD_eq_getElem?_getD, List.getElem?_map, List.getD_eq_getElem?_getD]
  cases (needV many L)[k]? <;> rfl
set_option maxRecDepth 100000 in
set_option maxHeartbeats 6400000 in
theorem refTrim_any (many : Nat) (sa : Option Addr) (sc : Nat) (L : List StepD) (w : World) (hS : RowOf 3 StepC w (.slice sa L.length sc) L)
    (hm : many ≤ 1000) (hp : 0 < L.length) (hl : L.length ≤ 1000) (hsh : ∀ x ∈ L, x.cl.length ≤ 1000 ∧ x.fr.length ≤ 1000 ∧ x.on.length ≤ 1000) :
    Calls Try.prog 9 #[.int .i64 many, .slice sa L.length sc] w (TrimOf w (trimV many L)) := by
  have HS := Lib.hid hS
  have HSH := Lib.hid hsh
  have HP := Lib.hid hp
  obtain ⟨i0, hi0, hz0, hz1, hz2⟩ := info_parts' infoR14
  have HI0 := Lib.hid hi0
  have HZ0 := Lib.hid hz0
  have HZ1 := Lib.hid hz1
  have HZ2 := Lib.hid hz2
  clear hi0 hz0 hz1 hz2
  obtain ⟨ii, hi0, hz0, hz1, hz2⟩ := info_parts' infoI
  have HII := Lib.hid hi0
  have HY0 := Lib.hid hz0
  have HY1 := Lib.hid hz1
  have HY2 := Lib.hid hz2
  clear hi0 hz0 hz1 hz2 hS hsh
  have d1 : decide ((many : Int) < 0) = false := decide_eq_false (by omega)
  have e1 : ((L.length : Int) == 0) = false := ief (by omega)
  have HND := Lib.hid (needs_any many sa sc L w HS.out hm hl (fun x hx => (HSH.out x hx).2.1))
  obtain ⟨V, hV⟩ : ∃ V, needV many L = V := ⟨_, rfl⟩
  have HV := Lib.hid hV
  have hVl : V.length = many + L.length + 1 := by rw [← hV]; exact needV_len many L
  have HV0 : Hid (V.getD 0 false = false) := Lib.hid (by rw [← hV]; exact needV_zero many L hp)
  have HNG : Hid (∀ k, (needI many L).getD k 0 = if V.getD k false then 1 else 0) := Lib.hid (fun k => by rw [← hV]; exact needI_get many L k)
  have hNl : (needI many L).length = V.length := by unfold needI; rw [List.length_map, hV]
  have HTR : Hid (trimV many L = (renTo many (numV V) L L.length, usedV many V)) := Lib.hid (by
    unfold trimV
    rw [hV, renV_all])
  clear hV
  obtain ⟨I, hI⟩ : ∃ I, needI many L = I := ⟨_, rfl⟩
  rw [hI] at HND HNG hNl
  clear hI
  obtain ⟨N, hN⟩ : ∃ N, V.length = N := ⟨_, rfl⟩
  have HN : Hid (many + L.length + 1 = N) := Lib.hid (by omega)
  have HVL : Hid (V.length = N) := Lib.hid hN
  have HIL : Hid (I.length = N) := Lib.hid (by omega)
  have hNb : 2 ≤ N ∧ N ≤ 2001 := by omega
  clear hVl hNl hN
  go_enter Try.func9, Try.ntmps9
  go_wp2_with fail
  refine HND.out.mono ?_
  rintro e w1 ⟨na, nc, rfl, hr1, hb1⟩
  rw [HIL.out] at hr1 ⊢
  have HB1 := Lib.hid hb1
  have HNR : Hid (∀ w', Below w1.heap.size w1 w' → ValRow w' (.slice na I.length nc) (intVals I)) := Lib.hid (fun w' hb => by rw [HIL.out]; exact hr1.below hb)
  clear hb1 hr1
  have hmk2 := mk_numbers N (by omega) w1 (N : Int) rfl
  obtain ⟨wn, hwn⟩ : ∃ wn, w1.alloc (.cells (intVals (List.replicate N 0)).toArray 3) = wn := ⟨_, rfl⟩
  obtain ⟨bn, hbn⟩ : ∃ bn, w1.heap.size = bn := ⟨_, rfl⟩
  have HC0 : Hid (cntV V 1 = 0) := Lib.hid (by
    rw [cntV_succ V 0 (by rw [HVL.out]; omega), HV0.out]; rfl)
  have HT0 : Hid (usedTo many V 1 = []) := Lib.hid (by
    rw [usedTo_succ, HV0.out]; rfl)
  have HU0 : Hid (CntAt w1 wn bn N (numTo V 1) (usedTo many V 1) (.slice none 0 0)) := Lib.hid (by
    have hbl := below_lit w1 (.cells (intVals (List.replicate N 0)).toArray 3)
    rw [hwn] at hbl
    rw [HT0.out, numTo_no V 0 HV0.out]
    refine ⟨hbl, by omega, ?_, by rw [numTo_len]; exact HVL.out, ⟨rfl, .inl ⟨rfl, rfl⟩⟩⟩
    rw [numTo_zero, HVL.out, ← hwn]
    have := varAt_new w1 (intVals (List.replicate N 0)).toArray 3 bn hbn.symm
    simpa using this)
  rw [hwn, hbn] at hmk2
  clear hwn hbn
  go_wp2_with fail
  go_loopw [7, 10, 11] (fun u n i wr => ∃ k : Nat, i = .int .i64 (k : Int) ∧ k ≤ N ∧ n = .int .i64 ((cntV V k : Nat) : Int) ∧ CntAt w1 wr bn N (numTo V k) (usedTo many V k) u) (fun _ _ i _ => N - (intOf i).toNat)
  case atStart => exact ⟨1, rfl, by omega, by rw [HC0.out]; rfl, HU0.out⟩
  case round =>
    obtain ⟨k, rfl, hk, rfl, hnu⟩ := hrel
    have HU := Lib.hid hnu
    obtain ⟨ua, uc, rfl⟩ := (valRow_own HU.out.own).shape
    simp only [intVals_length] at HU ⊢
    clear hnu
    have k0 : (0 : Int) ≤ (k : Int) := by omega
    have hcl := cntV_le V k
    by_cases hlt : k < N
    · have k1 : (k : Int) < (N : Int) := by omega
      have hdk : decide (k < N) = true := decide_eq_true hlt
      obtain ⟨ib, io, rfl, _, cn⟩ := int_at (HNR.out wr HU.out.be) k (by rw [HIL.out]; exact hlt)
      rw [HNG.out k] at cn
      have hkl : k < V.length := by rw [HVL.out]; exact hlt
      have HC := Lib.hid (cntV_succ V k hkl)
      have HT := Lib.hid (usedTo_succ many V k)
      have HKL := Lib.hid hkl
      clear hkl
      by_cases hv : V.getD k false = true
      · rw [hv, if_pos rfl] at cn
        have dg : decide ((0 : Int) < 1) = true := by decide
        have HNN := Lib.hid (numTo_yes V k HKL.out hv)
        have HC2 : Hid (cntV V (k + 1) = cntV V k + 1) := Lib.hid (by rw [HC.out, if_pos hv])
        obtain ⟨c, hc⟩ : ∃ c, cntV V k = c := ⟨_, rfl⟩
        rw [hc] at hcl HC2 ⊢
        have cb := HU.out.num.get k (intVals_get _ k (by rw [HU.out.len]; exact hlt))
        have fb := HU.out.num.free k
        have HU2 := Lib.hid (HU.out.store k hlt ((c : Int) + 1))
        have HNX : Hid ((numTo V k).set k ((c : Int) + 1) = numTo V (k + 1)) := Lib.hid (by rw [HNN.out, HC2.out]; rfl)
        rw [HNX.out] at HU2
        have HCN : Hid (((c : Int) + 1) = ((cntV V (k + 1) : Nat) : Int)) := Lib.hid (by rw [HC2.out]; rfl)
        by_cases hkm : k ≤ many
        · have d4 : decide ((k : Int) ≤ (many : Int)) = true := decide_eq_true (by omega)
          have d4' : decide (k ≤ many) = true := decide_eq_true hkm
          have HT2 : Hid (usedTo many V (k + 1) = usedTo many V k ++ [(k : Int)]) := Lib.hid (by rw [HT.out, if_pos (by rw [hv]; simpa using hkm)])
          have hul := usedTo_len many V k
          obtain ⟨us, hus⟩ : ∃ us, usedTo many V k = us := ⟨_, rfl⟩
          rw [hus] at HU HU2 HT2 hul ⊢
          have HBL := Lib.hid (below_lit (wr.setCell ⟨bn, k, none⟩ (.int .i64 ((c : Int) + 1))) (.cells #[.int .i64 (k : Int)] 3))
          have HBS : Hid (bn + 1 ≤ ((wr.setCell ⟨bn, k, none⟩ (.int .i64 ((c : Int) + 1))).alloc (.cells #[.int .i64 (k : Int)] 3)).heap.size) := Lib.hid (by have := HBL.out.size; have := HU2.out.num.lt; omega)
          have HUL : Hid (us.length ≤ 1000 * 4) := Lib.hid (by omega)
          clear hv hkm hc hus hul HT HC HNN
          go_wp2_with (at_builtin; refine wpList_app _ rfl _ _ 27 rfl (bn + 1) 3 ii (.int .i64 0) 8 Try.underlying27 HII.out HY0.out HY1.out HY2.out rfl (.slice ua us.length uc) us.length (intVals us) rfl (ownsRow_below HU2.out.own HBL.out) (.slice (some ⟨wr.heap.size, 0, none⟩) 1 1) (intVals [(k : Int)]) rfl (fresh_row _ _ _ _ (by simp [World.setCell])) (intVals_one _) (by rw [intVals_length]; have := HUL.out; unfold maxLen; simp; omega) (by rw [intVals_length]; have := HUL.out; simp; omega) HBS.out ?_)
          intro v8 w8 ha8
          obtain ⟨a8, n8, c8, rfl⟩ := ha8.shape
          have HU8 := Lib.hid (HU2.out.app HBL.out ha8)
          clear ha8
          go_wp2_with fail
          go_roundw
          case rel => exact ⟨k + 1, by go_num, by omega, by rw [← HCN.out], by rw [HT2.out]; exact HU8.out⟩
          case measure => simp [intOf]; omega
        · have d4 : decide ((k : Int) ≤ (many : Int)) = false := decide_eq_false (by omega)
          have d4' : decide (k ≤ many) = false := decide_eq_false hkm
          have HT2 : Hid (usedTo many V (k + 1) = usedTo many V k) := Lib.hid (by rw [HT.out, if_neg (by rw [hv]; simpa using hkm), List.append_nil])
          clear hv hkm hc HT HC HNN
          go_wp2_with fail
          go_roundw
          case rel => exact ⟨k + 1, by go_num, by omega, by rw [← HCN.out], by rw [HT2.out]; exact HU2.out⟩
          case measure => simp [intOf]; omega
      · have hv' : V.getD k false = false := by cases h : V.getD k false <;> simp_all
        rw [hv', if_neg (by decide)] at cn
        have dg : decide ((0 : Int) < 0) = false := by decide
        have HT2 : Hid (usedTo many V (k + 1) = usedTo many V k) := Lib.hid (by rw [HT.out, if_neg (by rw [hv']; simp), List.append_nil])
        have HC2 : Hid (cntV V (k + 1) = cntV V k) := Lib.hid (by rw [HC.out, hv']; rfl)
        have HNN := Lib.hid (numTo_no V k hv')
        clear hv hv' HT HC
        go_wp2_with fail
        go_roundw
        case rel => exact ⟨k + 1, by go_num, by omega, by rw [HC2.out], by rw [HT2.out, HNN.out]; exact HU.out⟩
        case measure => simp [intOf]; omega
    · have hdk : decide (k < N) = false := decide_eq_false hlt
      have hkn : k = N := by omega
      clear hlt hk
      have HNV : Hid (numTo V k = numV V) := Lib.hid (by rw [hkn, ← HVL.out]; exact numTo_all V)
      have HUV : Hid (usedTo many V k = usedV many V) := Lib.hid (by rw [hkn, ← HVL.out]; rfl)
      rw [HNV.out, HUV.out] at HU
      rw [HUV.out]
      clear HNV HUV HC0 HT0 HU0 hkn
      obtain ⟨wx, hwx⟩ : ∃ wx, wx = wr := ⟨_, rfl⟩
      subst hwx
      obtain ⟨nm, hnm⟩ : ∃ nm, numV V = nm := ⟨_, rfl⟩
      have HNM := Lib.hid hnm
      rw [hnm] at HU HTR
      clear hnm
      obtain ⟨us, hus⟩ : ∃ us, usedV many V = us := ⟨_, rfl⟩
      rw [hus] at HU HTR ⊢
      clear hus
      have hrow := HU.out.num.rowV N (by rw [intVals_length, HU.out.len]) (by omega) (by omega)
      have HNROW := Lib.hid hrow
      have HSX := Lib.hid (HS.out.below stepC_lasts (HB1.out.trans (HU.out.be.mono HB1.out.size)))
      have HIX := Lib.hid (HNR.out wx HU.out.be)
      have HNB : Hid (∀ v ∈ nm, 0 ≤ v ∧ v ≤ 100000) := Lib.hid (by
        intro v hv
        rw [← HNM.out] at hv
        obtain ⟨j, hj, rfl⟩ := List.mem_map.1 hv
        have hj' := List.mem_range.1 hj
        rw [HVL.out] at hj'
        have := cntV_le V (j + 1)
        split <;> omega)
      have HBX := Lib.hid (HB1.out.trans (HU.out.be.mono HB1.out.size))
      have HUX := Lib.hid (valRow_own HU.out.own)
      have HNML := Lib.hid HU.out.len
      clear hrow
      go_wp2_with fail
      go_loopw [8, 12] (fun s i wr => ∃ k : Nat, i = .int .i64 k ∧ k ≤ L.length ∧ OwnOf 3 StepC (fun _ => False) wr wx.heap.size 43 s (renTo many nm L k) ∧ Below wx.heap.size wx wr) (fun _ i _ => L.length - (intOf i).toNat)
      case atStart => exact ⟨0, rfl, Nat.zero_le _, ownOf_nil _ _ _ _ _ _, Below.refl _ _⟩
      case round =>
        obtain ⟨k, rfl, hk, hO, hbe⟩ := hrel
        obtain ⟨w4, hw4⟩ : ∃ w4, w4 = wr := ⟨_, rfl⟩
        subst hw4
        have HO := Lib.hid hO
        have HBE0 := Lib.hid hbe
        have k0 : (0 : Int) ≤ (k : Int) := by omega
        obtain ⟨oa, oc, rfl⟩ := hO.shape
        clear hO hbe
        by_cases hlt : k < L.length
        · have k1 : (k : Int) < (L.length : Int) := by omega
          have hdk : decide (k < L.length) = true := decide_eq_true hlt
          obtain ⟨x, hx⟩ : ∃ x, L.getD k default = x := ⟨_, rfl⟩
          have HXM : Hid (x.cl.length ≤ 1000 ∧ x.fr.length ≤ 1000 ∧ x.on.length ≤ 1000) := Lib.hid (by
            rw [← hx, show L.getD k default = L[k] from by simp [hlt]]
            exact HSH.out _ (List.getElem_mem hlt))
          obtain ⟨b, off, a1, c1, a2, c2, a3, c3, rfl, hbw, hc1, hc2, hc3, r1, r2, r3, j1, j2, j3⟩ := steps_row HSX.out k hlt x hx
          have HX := Lib.hid hx
          have hkn : many + k + 1 < I.length := by rw [HIL.out]; have := HN.out; omega
          obtain ⟨nb', no', rfl, hnbw, hcn⟩ := int_at (HIX.out.below HBE0.out) (many + k + 1) hkn
          rw [HNG.out] at hcn
          have m1 : (0 : Int) ≤ (many : Int) + (k : Int) + 1 := by omega
          have m2 : (many : Int) + (k : Int) + 1 < (N : Int) := by have := HN.out; omega
          have hmkt : ((many : Int) + (k : Int) + 1).toNat = many + k + 1 := by omega
          have HVK : Hid (nm.getD (many + k + 1) 0 = 0 ↔ V.getD (many + k + 1) false = false) := Lib.hid (by rw [← HNM.out]; exact numV_zero V _ (by rw [HVL.out]; have := HN.out; omega))
          have HR1 := Lib.hid r1
          have HR2 := Lib.hid r2
          have HR3 := Lib.hid r3
          have SK : Hid (∀ w', Below wx.heap.size wx w' → w'.cell? ⟨b, off + k * 3, none⟩ = some (.slice a1 x.cl.length c1) ∧ w'.cell? ⟨b, off + k * 3 + 1, none⟩ = some (.slice a2 x.fr.length c2) ∧ w'.cell? ⟨b, off + k * 3 + 2, none⟩ = some (.slice a3 x.on.length c3)) :=
            Lib.hid (fun w' hb => ⟨(hb.cell (p := ⟨b, off + k * 3, none⟩) hbw).trans hc1, (hb.cell (p := ⟨b, off + k * 3 + 1, none⟩) hbw).trans hc2, (hb.cell (p := ⟨b, off + k * 3 + 2, none⟩) hbw).trans hc3⟩)
          clear r1 r2 r3 hx hkn hc1 hc2 hc3
          by_cases hv0 : V.getD (many + k + 1) false = true
          · have e0 : ((1 : Int) == 0) = false := by decide
            rw [hv0, if_pos rfl] at hcn
            have HNX : Hid (renTo many nm L (k + 1) = renTo many nm L k ++ [renS many k nm x]) := Lib.hid (by
              show renTo many nm L k ++ _ = _
              rw [if_neg (fun e => by rw [HVK.out.1 e] at hv0; cases hv0), HX.out])
            clear hv0
            go_upto_region 20 with (fail)
            go_cut [13] (fun p wy => ∃ b10, p = .pointer (some ⟨b10, 0, none⟩) ∧ Below w4.heap.size w4 wy ∧ w4.heap.size ≤ b10 ∧ VarAt wy b10 [.slice a1 x.cl.length c1, .slice none 0 0, .slice a3 x.on.length c3])
            case first =>
              have HBD : Hid (Below wx.heap.size wx w4.drew) := Lib.hid (Below.drew HBE0.out)
              have SKT : Hid (∀ w', Below wx.heap.size wx w' → w'.cell? ⟨b, off + k * 3, none⟩ = some (.slice a1 x.cl.length c1) ∧ w'.cell? ⟨b, off + k * 3 + 2, none⟩ = some (.slice a3 x.on.length c3)) := Lib.hid (fun w' h => ⟨(SK.out w' h).1, (SK.out w' h).2.2⟩)
              have HBE : Hid (Below wx.heap.size wx (w4.alloc (.cells #[.slice none 0 0, .slice none 0 0, .slice none 0 0] 43)).drew) := Lib.hid (Below.drew (HBE0.out.alloc HBE0.out.size _))
              have HBF : Hid (Below wx.heap.size wx (w4.alloc (.cells #[.slice a1 x.cl.length c1, .slice none 0 0, .slice a3 x.on.length c3] 43)).drew) := Lib.hid (Below.drew (HBE0.out.alloc HBE0.out.size _))
              refine held_start (S := fun w' => w'.cell? ⟨b, off + k * 3, none⟩ = some (.slice a1 x.cl.length c1) ∧ w'.cell? ⟨b, off + k * 3 + 2, none⟩ = some (.slice a3 x.on.length c3)) 13 (by rfl) (by kernel_rfl) ?_ (fun hS0 => ?_)
              · first | exact SKT.out _ HBD.out | exact SKT.out _ HBE.out | exact SKT.out _ HBF.out
              refine held_take 0 (some 67) ?_ 12 rfl rfl (by kernel_rfl) (by kernel_rfl) (by kernel_rfl) (fun _ _ _ h => h) (by rfl) ?_ hS0 ?_
              rotate_left
              · intro wz hSw
                (try dsimp only at hSw)
                go_simp
                (try with_reducible rfl)
              (try simp only [Act.put, List.setIfInBounds_toArray, List.set_cons_zero, List.set_cons_succ])
              refine held_take 1 (some 68) ?_ 11 rfl rfl (by kernel_rfl) (by kernel_rfl) (by kernel_rfl) (fun _ _ _ h => h) (by rfl) ?_ hS0 ?_
              rotate_left
              · intro wz hSw
                (try dsimp only at hSw)
                go_simp
                (try with_reducible rfl)
              (try simp only [Act.put, List.setIfInBounds_toArray, List.set_cons_zero, List.set_cons_succ])
              refine held_take 2 (some 69) ?_ 10 rfl rfl (by kernel_rfl) (by kernel_rfl) (by kernel_rfl) (fun _ _ _ h => h) (by rfl) ?_ hS0 ?_
              rotate_left
              · intro wz hSw
                (try dsimp only at hSw)
                go_simp
                (try with_reducible rfl)
              (try simp only [Act.put, List.setIfInBounds_toArray, List.set_cons_zero, List.set_cons_succ])
              refine held_take 3 (some 70) ?_ 9 rfl rfl (by kernel_rfl) (by kernel_rfl) (by kernel_rfl) (fun _ _ _ h => h) (by rfl) ?_ hS0 ?_
              rotate_left
              · intro wz hSw
                (try dsimp only at hSw)
                go_simp
                (try with_reducible rfl)
              (try simp only [Act.put, List.setIfInBounds_toArray, List.set_cons_zero, List.set_cons_succ])
              refine held_take 4 (some 71) ?_ 8 rfl rfl (by kernel_rfl) (by kernel_rfl) (by kernel_rfl) (fun _ _ _ h => h) (by rfl) ?_ hS0 ?_
              rotate_left
              · intro wz hSw
                (try dsimp only at hSw)
                go_simp
                (try with_reducible rfl)
              (try simp only [Act.put, List.setIfInBounds_toArray, List.set_cons_zero, List.set_cons_succ])
              refine held_take 5 (some 72) ?_ 7 rfl rfl (by kernel_rfl) (by kernel_rfl) (by kernel_rfl) (fun _ _ _ h => h) (by rfl) ?_ hS0 ?_
              rotate_left
              · intro wz hSw
                (try dsimp only at hSw)
                go_simp
                (try with_reducible rfl)
              (try simp only [Act.put, List.setIfInBounds_toArray, List.set_cons_zero, List.set_cons_succ])
              refine held_take 6 (some 73) ?_ 6 rfl rfl (by kernel_rfl) (by kernel_rfl) (by kernel_rfl) (fun _ _ _ h => h) (by rfl) ?_ hS0 ?_
              rotate_left
              · intro wz hSw
                (try dsimp only at hSw)
                go_simp
                (try with_reducible rfl)
              (try simp only [Act.put, List.setIfInBounds_toArray, List.set_cons_zero, List.set_cons_succ])
              refine held_take 7 (some 74) ?_ 5 rfl rfl (by kernel_rfl) (by kernel_rfl) (by kernel_rfl) (fun _ _ _ h => h) (by rfl) ?_ hS0 ?_
              rotate_left
              · intro wz hSw
                (try dsimp only at hSw)
                go_simp
                (try with_reducible rfl)
              (try simp only [Act.put, List.setIfInBounds_toArray, List.set_cons_zero, List.set_cons_succ])
              refine held_take 8 (some 75) ?_ 4 rfl rfl (by kernel_rfl) (by kernel_rfl) (by kernel_rfl) (fun _ _ _ h => h) (by rfl) ?_ hS0 ?_
              rotate_left
              · intro wz hSw
                (try dsimp only at hSw)
                go_simp
                (try with_reducible rfl)
              (try simp only [Act.put, List.setIfInBounds_toArray, List.set_cons_zero, List.set_cons_succ])
              refine held_take 9 (some 76) ?_ 3 rfl rfl (by kernel_rfl) (by kernel_rfl) (by kernel_rfl) (fun _ _ _ h => h) (by rfl) ?_ hS0 ?_
              rotate_left
              · intro wz hSw
                (try dsimp only at hSw)
                go_simp
                (try with_reducible rfl)
              (try simp only [Act.put, List.setIfInBounds_toArray, List.set_cons_zero, List.set_cons_succ])
              refine held_take 10 (some 77) ?_ 2 rfl rfl (by kernel_rfl) (by kernel_rfl) (by kernel_rfl) (fun _ _ _ h => h) (by rfl) ?_ hS0 ?_
              rotate_left
              · intro wz hSw
                (try dsimp only at hSw)
                go_simp
                (try with_reducible rfl)
              (try simp only [Act.put, List.setIfInBounds_toArray, List.set_cons_zero, List.set_cons_succ])
              refine held_call 11 1 rfl (by kernel_rfl) (by rfl) (fun K hK => ?_)
              go_simp
              refine hK.out _ _ ?_ (fun hS11 => ?_)
              · first | exact SKT.out _ HBD.out | exact SKT.out _ HBE.out | exact SKT.out _ HBF.out
              clear hK K
              refine held_call 12 0 rfl (by kernel_rfl) (by rfl) (fun K hK => ?_)
              go_simp
              refine hK.out _ _ ?_ (fun hS12 => ?_)
              · first | exact SKT.out _ HBD.out | exact SKT.out _ HBE.out | exact SKT.out _ HBF.out
              clear hK K
              refine wpAnyH_done (by kernel_rfl) ?_ _
              go_wp2_with fail
              go_meet
              exact ⟨_, rfl, Below.drew ((Below.refl _ _).alloc (Nat.le_refl _) _), Nat.le_refl _, (varAt_new w4 _ _ _ rfl).drew⟩

            case rest =>
              obtain ⟨b10, rfl, hbc, hlo, hvar⟩ := hcut
              obtain ⟨wy, hwy⟩ : ∃ wy, wy = wc := ⟨_, rfl⟩
              subst hwy
              have HBC := Lib.hid hbc
              have HLO := Lib.hid hlo
              have hbl := hvar.lt
              have hszy := hbc.size
              have HMK0 : Hid (MakeAt wy wy b10 (.slice a1 x.cl.length c1) (.slice none 0 0) (.slice a3 x.on.length c3) []) := Lib.hid ⟨Near.refl _ _, hvar, ⟨rfl, .inl ⟨rfl, rfl⟩⟩, hbl⟩
              have HBY : Hid (Below wx.heap.size wx wy) := Lib.hid (HBE0.out.trans (hbc.mono HBE0.out.size))
              have hl2 := HXM.out.2.1
              have hsx := HBE0.out.size
              have HLY : Hid (wx.heap.size ≤ b10) := Lib.hid (by omega)
              clear hbc hvar hlo
              go_wp2_with fail
              go_loopw [14] (fun i wq => ∃ (q : Nat) (u : Value), i = .int .i64 q ∧ q ≤ x.fr.length ∧ MakeAt wy wq b10 (.slice a1 x.cl.length c1) u (.slice a3 x.on.length c3) (frS many k nm (x.fr.take q))) (fun i _ => x.fr.length - (intOf i).toNat)
              case atStart => exact ⟨0, _, rfl, Nat.zero_le _, HMK0.out⟩
              case round =>
                obtain ⟨q, u, rfl, hq, hmk⟩ := hrel
                obtain ⟨wq, hwq⟩ : ∃ wq, wq = wr := ⟨_, rfl⟩
                subst hwq
                have HMK := Lib.hid hmk
                have hbq : Below wx.heap.size wx wq := HBY.out.trans (hmk.near.below HBY.out.size (fun c e => by have := HLY.out; omega))
                have HBQ := Lib.hid hbq
                have q0 : (0 : Int) ≤ (q : Int) := by omega
                obtain ⟨l, hfl⟩ : ∃ l, frS many k nm (x.fr.take q) = l := ⟨_, rfl⟩
                have HFL := Lib.hid hfl
                have hll : l.length = q := by rw [← hfl, frS_len, List.length_take]; omega
                rw [hfl] at HMK hmk
                have hne : u.ownBlock ≠ some b10 := fun e => by have := (row_block hmk.own e).1; have := hmk.lt; omega
                have hwys := hmk.near.size
                have hcf := (SK.out wq hbq).2.1
                by_cases hqt : q < x.fr.length
                · have q1 : (q : Int) < (x.fr.length : Int) := by omega
                  have hdq : decide (q < x.fr.length) = true := decide_eq_true hqt
                  obtain ⟨fb, fo, rfl, _, hcz⟩ := int_at (HR2.out.below hbq) q hqt
                  have e : x.fr.getD q 0 = x.fr[q] := by simp [hqt]
                  have HTQ := Lib.hid (List.take_succ_eq_append_getElem hqt)
                  have HZR := Lib.hid (j2 x.fr[q] (List.getElem_mem hqt))
                  rw [← e] at HTQ HZR
                  clear e
                  obtain ⟨z, hz⟩ : ∃ z, x.fr.getD q 0 = z := ⟨_, rfl⟩
                  rw [hz] at hcz HTQ HZR
                  have HNX1 : Hid (frS many k nm (x.fr.take (q + 1)) = l ++ [if okFrom many k z then nm.getD z.toNat 0 else 0]) := Lib.hid (by rw [HTQ.out, frS_snoc, HFL.out])
                  clear hz hfl
                  by_cases hok : okFrom many k z = true
                  · have hz2 := okFrom_iff.1 hok
                    obtain ⟨zn, rfl⟩ := Int.eq_ofNat_of_zero_le (by omega : 0 ≤ z)
                    have hzl : zn < nm.length := by rw [HNML.out]; have := HN.out; omega
                    have hznN : zn < N := by rw [HNML.out] at hzl; exact hzl
                    obtain ⟨y, hy⟩ : ∃ y, nm.getD zn 0 = y := ⟨_, rfl⟩
                    have hcy3 := HU.out.num.get zn (intVals_get nm zn hzl)
                    rw [hy] at hcy3
                    have HNX2 : Hid (frS many k nm (x.fr.take (q + 1)) = l ++ [y]) := Lib.hid (by rw [HNX1.out, if_pos hok, Int.toNat_natCast, hy])
                    have d1 : decide ((1 : Int) ≤ (zn : Int)) = true := decide_eq_true (by omega)
                    have d1' : decide (1 ≤ zn) = true := decide_eq_true (by omega)
                    have d2 : decide ((zn : Int) ≤ (many : Int) + (k : Int)) = true := decide_eq_true (by omega)
                    have z1 : (0 : Int) ≤ (zn : Int) := by omega
                    have z2 : (zn : Int) < (N : Int) := by omega
                    have SK2 : Hid (∀ w', Below wx.heap.size wx w' → w'.cell? ⟨bn, zn, none⟩ = some (.int .i64 y)) := Lib.hid (fun w' hb => (hb.cell (p := ⟨bn, zn, none⟩) HU.out.num.lt).trans hcy3)
                    obtain ⟨ua, uc, rfl⟩ := (valRow_own hmk.own).shape
                    simp only [intVals_length] at HMK hmk hne
                    have cu := hmk.var.get 1 rfl
                    have hblq := hmk.var.lt
                    have HBU := Lib.hid hne
                    have HBL : Hid (Below wq.heap.size wq (wq.alloc (.cells #[.int .i64 y] 3)).drew) := Lib.hid (Below.drew (below_lit _ _))
                    have HBD : Hid (Below wx.heap.size wx wq.drew) := Lib.hid (Below.drew hbq)
                    have HBL4 : Hid (Below wx.heap.size wx (wq.alloc (.cells #[.int .i64 y] 3)).drew) := Lib.hid (Below.drew (hbq.alloc hbq.size _))
                    have HFR : Hid (ValRow (wq.alloc (.cells #[.int .i64 y] 3)).drew (.slice (some ⟨wq.heap.size, 0, none⟩) 1 1) (intVals [y])) := Lib.hid (fresh_row wq (.int .i64 y) 3 _ rfl)
                    have HBS : Hid (wy.heap.size ≤ ((wq.alloc (.cells #[.int .i64 y] 3)).drew).heap.size) := Lib.hid (by have := HBL.out.size; omega)
                    have HLLN : Hid (l.length ≤ 1000) := Lib.hid (by omega)
                    clear hmk hbq hcy3 hne hy hll
                    go_upto_region 26 with (fail)
                    refine held_start (S := fun w' => w'.cell? ⟨bn, zn, none⟩ = some (.int .i64 y)) 10 (by rfl) (by kernel_rfl) ?_ (fun hS0 => ?_)
                    · first | with_reducible exact SK2.out _ HB9 | with_reducible exact SK2.out _ HB8 | exact SK2.out _ HBD.out | exact SK2.out _ HBL4.out
                    refine held_take 0 (some 105) ?_ 9 rfl rfl (by kernel_rfl) (by kernel_rfl) (by kernel_rfl) (fun _ _ _ h => h) (by rfl) ?_ hS0 ?_
                    rotate_left
                    · intro wz hSw
                      (try dsimp only at hSw)
                      go_simp
                      (try with_reducible rfl)
                    (try simp only [Act.put, List.setIfInBounds_toArray, List.set_cons_zero, List.set_cons_succ])
                    refine held_take 2 (some 107) ?_ 8 rfl rfl (by kernel_rfl) (by kernel_rfl) (by kernel_rfl) (fun _ _ _ h => h) (by rfl) ?_ hS0 ?_
                    rotate_left
                    · intro wz hSw
                      (try dsimp only at hSw)
                      go_simp
                      (try with_reducible rfl)
                    (try simp only [Act.put, List.setIfInBounds_toArray, List.set_cons_zero, List.set_cons_succ])
                    refine held_take 3 (some 108) ?_ 7 rfl rfl (by kernel_rfl) (by kernel_rfl) (by kernel_rfl) (fun _ _ _ h => h) (by rfl) ?_ hS0 ?_
                    rotate_left
                    · intro wz hSw
                      (try dsimp only at hSw)
                      go_simp
                      (try with_reducible rfl)
                    (try simp only [Act.put, List.setIfInBounds_toArray, List.set_cons_zero, List.set_cons_succ])
                    refine held_take 4 (some 109) ?_ 6 rfl rfl (by kernel_rfl) (by kernel_rfl) (by kernel_rfl) (fun _ _ _ h => h) (by rfl) ?_ hS0 ?_
                    rotate_left
                    · intro wz hSw
                      (try dsimp only at hSw)
                      go_simp
                      (try with_reducible rfl)
                    (try simp only [Act.put, List.setIfInBounds_toArray, List.set_cons_zero, List.set_cons_succ])
                    refine held_take 5 (some 110) ?_ 5 rfl rfl (by kernel_rfl) (by kernel_rfl) (by kernel_rfl) (fun _ _ _ h => h) (by rfl) ?_ hS0 ?_
                    rotate_left
                    · intro wz hSw
                      (try dsimp only at hSw)
                      go_simp
                      (try with_reducible rfl)
                    (try simp only [Act.put, List.setIfInBounds_toArray, List.set_cons_zero, List.set_cons_succ])
                    refine held_branch [1, 6] 4 (by kernel_rfl) ?_
                    refine held_cons 1 4 rfl (by rfl) (fun K hK => ?_) ?_
                    · skip
                      go_simp
                      refine hK.out _ _ ?_ (fun hS5 => ?_)
                      · first | with_reducible exact SK2.out _ HB9 | with_reducible exact SK2.out _ HB8 | exact SK2.out _ HBD.out | exact SK2.out _ HBL4.out
                      clear hK K
                      refine held_call 6 3 rfl (by kernel_rfl) (by rfl) (fun K hK => ?_)
                      go_simp
                      refine hK.out _ _ ?_ (fun hS6 => ?_)
                      · first | with_reducible exact SK2.out _ HB9 | with_reducible exact SK2.out _ HB8 | exact SK2.out _ HBD.out | exact SK2.out _ HBL4.out
                      clear hK K
                      refine held_call 7 2 rfl (by kernel_rfl) (by rfl) (fun K hK => ?_)
                      (refine wp_app _ _ _ 27 rfl wy.heap.size 3 ii (.int .i64 0) 8 Try.underlying27 HII.out HY0.out HY1.out HY2.out rfl (.slice ua l.length uc) l.length (intVals l) rfl (ownsRow_below HMK.out.own HBL.out) (.slice (some ⟨wq.heap.size, 0, none⟩) 1 1) (intVals [y]) rfl HFR.out (intVals_one _) (by rw [intVals_length]; have := HLLN.out; unfold maxLen; simp; omega) (by rw [intVals_length]; have := HLLN.out; simp; omega) HBS.out ?_; intro v8 w8 ha8; obtain ⟨a8, n8, c8, rfl⟩ := ha8.shape; have HM8 := Lib.hid (HMK.out.app HBL.out HBU.out ha8); have f8 := HM8.out.2.1; have f9 := HM8.out.2.2.1; have HB8 : Below wx.heap.size wx w8 := HBY.out.trans (HM8.out.2.2.2.below HBY.out.size (fun c e => by have := HLY.out; omega)); have HB9 := HBY.out.trans (HM8.out.1.near.below HBY.out.size (fun c e => by have := HLY.out; omega)); clear ha8)
                      (try simp only [Act.put, List.setIfInBounds_toArray, List.set_cons_zero, List.set_cons_succ])
                      refine hK.out _ _ ?_ (fun hS7 => ?_)
                      · first | with_reducible exact SK2.out _ HB9 | with_reducible exact SK2.out _ HB8 | exact SK2.out _ HBD.out | exact SK2.out _ HBL4.out
                      clear hK K
                      refine held_take 8 (some 113) ?_ 1 rfl rfl (by kernel_rfl) (by kernel_rfl) (by kernel_rfl) (fun _ _ _ h => h) (by rfl) ?_ hS7 ?_
                      rotate_left
                      · intro wz hSw
                        (try dsimp only at hSw)
                        go_simp
                        (try with_reducible rfl)
                      (try simp only [Act.put, List.setIfInBounds_toArray, List.set_cons_zero, List.set_cons_succ])
                      refine held_call 9 0 rfl (by kernel_rfl) (by rfl) (fun K hK => ?_)
                      go_simp
                      refine hK.out _ _ ?_ (fun hS9 => ?_)
                      · first | with_reducible exact SK2.out _ HB9 | with_reducible exact SK2.out _ HB8 | exact SK2.out _ HBD.out | exact SK2.out _ HBL4.out
                      clear hK K
                      refine wpAnyH_done (by kernel_rfl) ?_ _
                      go_wp2_with fail
                      go_roundw
                      case rel => exact ⟨q + 1, _, by go_num, by omega, by rw [HNX2.out]; exact HM8.out.1⟩
                      case measure => simp [intOf]; omega
                    refine held_cons 6 4 rfl (by rfl) (fun K hK => ?_) ?_
                    · skip
                      go_simp
                      refine hK.out _ _ ?_ (fun hS5 => ?_)
                      · first | with_reducible exact SK2.out _ HB9 | with_reducible exact SK2.out _ HB8 | exact SK2.out _ HBD.out | exact SK2.out _ HBL4.out
                      clear hK K
                      refine held_call 1 3 rfl (by kernel_rfl) (by rfl) (fun K hK => ?_)
                      go_simp
                      refine hK.out _ _ ?_ (fun hS6 => ?_)
                      · first | with_reducible exact SK2.out _ HB9 | with_reducible exact SK2.out _ HB8 | exact SK2.out _ HBD.out | exact SK2.out _ HBL4.out
                      clear hK K
                      refine held_call 7 2 rfl (by kernel_rfl) (by rfl) (fun K hK => ?_)
                      (refine wp_app _ _ _ 27 rfl wy.heap.size 3 ii (.int .i64 0) 8 Try.underlying27 HII.out HY0.out HY1.out HY2.out rfl (.slice ua l.length uc) l.length (intVals l) rfl (ownsRow_below HMK.out.own HBL.out) (.slice (some ⟨wq.heap.size, 0, none⟩) 1 1) (intVals [y]) rfl HFR.out (intVals_one _) (by rw [intVals_length]; have := HLLN.out; unfold maxLen; simp; omega) (by rw [intVals_length]; have := HLLN.out; simp; omega) HBS.out ?_; intro v8 w8 ha8; obtain ⟨a8, n8, c8, rfl⟩ := ha8.shape; have HM8 := Lib.hid (HMK.out.app HBL.out HBU.out ha8); have f8 := HM8.out.2.1; have f9 := HM8.out.2.2.1; have HB8 : Below wx.heap.size wx w8 := HBY.out.trans (HM8.out.2.2.2.below HBY.out.size (fun c e => by have := HLY.out; omega)); have HB9 := HBY.out.trans (HM8.out.1.near.below HBY.out.size (fun c e => by have := HLY.out; omega)); clear ha8)
                      (try simp only [Act.put, List.setIfInBounds_toArray, List.set_cons_zero, List.set_cons_succ])
                      refine hK.out _ _ ?_ (fun hS7 => ?_)
                      · first | with_reducible exact SK2.out _ HB9 | with_reducible exact SK2.out _ HB8 | exact SK2.out _ HBD.out | exact SK2.out _ HBL4.out
                      clear hK K
                      refine held_take 8 (some 113) ?_ 1 rfl rfl (by kernel_rfl) (by kernel_rfl) (by kernel_rfl) (fun _ _ _ h => h) (by rfl) ?_ hS7 ?_
                      rotate_left
                      · intro wz hSw
                        (try dsimp only at hSw)
                        go_simp
                        (try with_reducible rfl)
                      (try simp only [Act.put, List.setIfInBounds_toArray, List.set_cons_zero, List.set_cons_succ])
                      refine held_call 9 0 rfl (by kernel_rfl) (by rfl) (fun K hK => ?_)
                      go_simp
                      refine hK.out _ _ ?_ (fun hS9 => ?_)
                      · first | with_reducible exact SK2.out _ HB9 | with_reducible exact SK2.out _ HB8 | exact SK2.out _ HBD.out | exact SK2.out _ HBL4.out
                      clear hK K
                      refine wpAnyH_done (by kernel_rfl) ?_ _
                      go_wp2_with fail
                      go_roundw
                      case rel => exact ⟨q + 1, _, by go_num, by omega, by rw [HNX2.out]; exact HM8.out.1⟩
                      case measure => simp [intOf]; omega
                    exact AllReadyH.nil

                  · have HNX2 : Hid (frS many k nm (x.fr.take (q + 1)) = l ++ [0]) := Lib.hid (by rw [HNX1.out, if_neg hok])
                    have hz2 : ¬ (1 ≤ z ∧ z ≤ ((many + k : Nat) : Int)) := fun h => hok (okFrom_iff.2 h)
                    obtain ⟨ua, uc, rfl⟩ := (valRow_own hmk.own).shape
                    simp only [intVals_length] at HMK hmk hne
                    have cu := hmk.var.get 1 rfl
                    have hblq := hmk.var.lt
                    have HBU := Lib.hid hne
                    have HLLN : Hid (l.length ≤ 1000) := Lib.hid (by omega)
                    have HBL := Lib.hid (below_lit wq (.cells #[.int .i64 0] 3))
                    have HBS : Hid (wy.heap.size ≤ (wq.alloc (.cells #[.int .i64 0] 3)).heap.size) := Lib.hid (by have := HBL.out.size; omega)
                    clear hmk hbq hne hll hok
                    by_cases hz1 : 1 ≤ z
                    · have d1 : decide ((1 : Int) ≤ z) = true := decide_eq_true hz1
                      have d2 : decide (z ≤ (many : Int) + (k : Int)) = false := decide_eq_false (by omega)
                      clear hz1 hz2
                      go_wp2_with (at_builtin; refine wpList_app _ rfl _ _ 27 rfl wy.heap.size 3 ii (.int .i64 0) 8 Try.underlying27 HII.out HY0.out HY1.out HY2.out rfl (.slice ua l.length uc) l.length (intVals l) rfl (ownsRow_below HMK.out.own HBL.out) (.slice (some ⟨wq.heap.size, 0, none⟩) 1 1) (intVals [0]) rfl (fresh_row _ _ _ _ rfl) (intVals_one _) (by rw [intVals_length]; have := HLLN.out; unfold maxLen; simp; omega) (by rw [intVals_length]; have := HLLN.out; simp; omega) HBS.out ?_)
                      intro v8 w8 ha8
                      obtain ⟨a8, n8, c8, rfl⟩ := ha8.shape
                      have HM8 := Lib.hid (HMK.out.app HBL.out HBU.out ha8)
                      have f8 := HM8.out.2.1
                      have f9 := HM8.out.2.2.1
                      clear ha8
                      go_wp2_with fail
                      go_roundw
                      case rel => exact ⟨q + 1, _, by go_num, by omega, by rw [HNX2.out]; exact HM8.out.1⟩
                      case measure => simp [intOf]; omega
                    · have d1 : decide ((1 : Int) ≤ z) = false := decide_eq_false hz1
                      clear hz1 hz2
                      go_wp2_with (at_builtin; refine wpList_app _ rfl _ _ 27 rfl wy.heap.size 3 ii (.int .i64 0) 8 Try.underlying27 HII.out HY0.out HY1.out HY2.out rfl (.slice ua l.length uc) l.length (intVals l) rfl (ownsRow_below HMK.out.own HBL.out) (.slice (some ⟨wq.heap.size, 0, none⟩) 1 1) (intVals [0]) rfl (fresh_row _ _ _ _ rfl) (intVals_one _) (by rw [intVals_length]; have := HLLN.out; unfold maxLen; simp; omega) (by rw [intVals_length]; have := HLLN.out; simp; omega) HBS.out ?_)
                      intro v8 w8 ha8
                      obtain ⟨a8, n8, c8, rfl⟩ := ha8.shape
                      have HM8 := Lib.hid (HMK.out.app HBL.out HBU.out ha8)
                      have f8 := HM8.out.2.1
                      have f9 := HM8.out.2.2.1
                      clear ha8
                      go_wp2_with fail
                      go_roundw
                      case rel => exact ⟨q + 1, _, by go_num, by omega, by rw [HNX2.out]; exact HM8.out.1⟩
                      case measure => simp [intOf]; omega
                · have hdq : decide (q < x.fr.length) = false := decide_eq_false hqt
                  have HFE : Hid (l = frS many k nm x.fr) := Lib.hid (by rw [← hfl, List.take_of_length_le (by omega)])
                  obtain ⟨ua, uc, rfl⟩ := (valRow_own hmk.own).shape
                  simp only [intVals_length] at HMK hmk hne
                  have c0 := hmk.var.get 0 rfl
                  have c1' := hmk.var.get 1 rfl
                  have c2' := hmk.var.get 2 rfl
                  have hrl := renTo_len many nm L k
                  have HOQ : Hid (OwnOf 3 StepC (fun _ => False) wq wx.heap.size 43 (.slice oa (renTo many nm L k).length oc) (renTo many nm L k)) := Lib.hid (HO.out.below (HBC.out.trans (hmk.near.below hszy (fun c e => by have := HLO.out; omega))))
                  have HBA := Lib.hid (below_lit wq (.cells #[.slice a1 x.cl.length c1, .slice ua l.length uc, .slice a3 x.on.length c3] 43))
                  have HBWA := Lib.hid (HBQ.out.trans (HBA.out.mono HBQ.out.size))
                  have HIR : Hid (InR x.cl ∧ InR l ∧ InR x.on) := Lib.hid ⟨j1, fun y hy => by
                    rw [HFE.out] at hy
                    obtain ⟨z, _, rfl⟩ := List.mem_map.1 hy
                    split
                    · by_cases hzn : z.toNat < nm.length
                      · have e : nm.getD z.toNat 0 = nm[z.toNat] := by simp [hzn]
                        have := HNB.out _ (List.getElem_mem hzn)
                        rw [e]; omega
                      · have e : nm.getD z.toNat 0 = 0 := by simp [List.getD, List.getElem?_eq_none (Nat.le_of_not_lt hzn)]
                        rw [e]; omega
                    · omega, j3⟩
                  have HREN : Hid (renS many k nm x = ⟨x.cl, l, x.on⟩) := Lib.hid (by rw [HFE.out]; rfl)
                  have HNEW : Hid (Robust StepC (wq.alloc (.cells #[.slice a1 x.cl.length c1, .slice ua l.length uc, .slice a3 x.on.length c3] 43)) (fun b => False ∨ (Value.slice oa (renTo many nm L k).length oc).ownBlock = some b) [.slice a1 x.cl.length c1, .slice ua l.length uc, .slice a3 x.on.length c3] (⟨x.cl, l, x.on⟩ : StepD)) := Lib.hid (fun w' hN => by
                    have hfar : ∀ c, (False ∨ (Value.slice oa (renTo many nm L k).length oc).ownBlock = some c) → wx.heap.size ≤ c ∧ c < w4.heap.size := fun c e => e.elim False.elim (fun e => HO.out.atLeast e)
                    have hbw' : Below wx.heap.size wx w' := HBWA.out.trans (hN.below HBWA.out.size (fun c e => (hfar c e).1))
                    have hu : w'.ownsRow wy.heap.size 3 1 (.slice ua l.length uc) l.length (intVals l) := ownsRow_near (ownsRow_below hmk.own HBA.out) hN (fun c e g => by
                      have := (row_block hmk.own e).1
                      have := (hfar c g).2
                      omega)
                    exact ⟨_, _, _, rfl, HR1.out.below hbw', valRow_own hu, HR3.out.below hbw', HIR.out.1, HIR.out.2.1, HIR.out.2.2⟩)
                  have HLL2 : Hid ((renTo many nm L k).length ≤ 1000) := Lib.hid (by omega)
                  clear hqt hmk hbq hfl hll
                  go_wp2_with (at_builtin; refine wpList_snoc (R := StepC) (F := fun _ => False) _ rfl _ _ 25 rfl wx.heap.size 43 i0 _ 72 Try.underlying25 HI0.out HZ0.out HZ1.out HZ2.out rfl (by decide) (.slice oa (renTo many nm L k).length oc) (renTo many nm L k) rfl (HOQ.out.below HBA.out) ⟨wq.heap.size, 0, none⟩ 1 [.slice a1 x.cl.length c1, .slice ua l.length uc, .slice a3 x.on.length c3] (⟨x.cl, l, x.on⟩ : StepD) rfl rfl (lit_cells wq _ _ _ rfl) (by simp [Value.oneCell']) HNEW.out (by have := HLL2.out; unfold maxLen; omega) (by have := HLL2.out; omega) HBWA.out.size ?_)
                  intro g cp wz hoz _ hbz
                  have HOZ := Lib.hid hoz
                  have HBZ := Lib.hid (HBWA.out.trans hbz)
                  clear hoz hbz
                  go_wp2_with fail
                  go_roundw
                  case rel => exact ⟨k + 1, by go_num, by omega, by rw [HNX.out, HREN.out]; exact HOZ.out, HBZ.out⟩
                  case measure => simp [intOf]; omega
          · have hv' : V.getD (many + k + 1) false = false := by cases h : V.getD (many + k + 1) false <;> simp_all
            have e0 : ((0 : Int) == 0) = true := by decide
            rw [hv', if_neg (by decide)] at hcn
            have HNX : Hid (renTo many nm L (k + 1) = renTo many nm L k) := Lib.hid (by
              show renTo many nm L k ++ _ = _
              rw [if_pos (HVK.out.2 hv'), List.append_nil])
            clear hv0 hv'
            go_wp2_with fail
            go_roundw
            case rel => exact ⟨k + 1, by go_num, by omega, by rw [HNX.out]; exact HO.out, HBE0.out⟩
            case measure => simp [intOf]; omega
        · have hdk : decide (k < L.length) = false := decide_eq_false hlt
          have hkl : k = L.length := by omega
          have HRW : Hid (RowOf 3 StepC w4 (.slice oa (renTo many nm L L.length).length oc) (renTo many nm L L.length)) := Lib.hid (by have := HO.out.row (by omega); rwa [hkl] at this)
          rw [hkl]
          have HUY := Lib.hid (HUX.out.below HBE0.out)
          clear hlt hkl
          go_wp2_with fail
          go_ret2
          rw [HTR.out]
          exact ⟨_, _, _, _, rfl, HRW.out, HUY.out, HBX.out.trans (HBE0.out.mono HBX.out.size)⟩
end Go.Proofs.Ytiimkhnngpfnbaa
/- Data in memory as trees, and what a call's slots and variables hold, told without addresses. No program in sight. -/
namespace Go.Proofs.Ytiimkhnngpfnbaa.Fx
open Go.RowKit
set_option linter.unusedVariables false
set_option linter.unusedSimpArgs false
/-- data that nobody changes: a value of one cell, a slice (each element's cells), a pointer to cells -/
inductive T where
  | v (x : Value)
  | s (rows : List (List T))
  | p (row : List T)
instance : Inhabited T := ⟨.v undef⟩
/-- what a cell holds: a tree, a pointer into one of the call's own variables, a slice of its own (all of a row, as long as it was), a pointer into a tree's row, into an own row, a function -/
inductive CV where
  | dead
  | t (x : T)
  | z
  | ab
  | ptr (k i : Nat)
  | own (k len : Nat)
  | el (row : List T) (j : Nat)
  | elo (k len i j : Nat)
  | fn (f : Fn) (first cap : List CV)
instance : Inhabited CV := ⟨.dead⟩
/-- what a slot holds -/
inductive AV where
  | dead
  | c (x : CV)
  | agg (l : List CV)
  | tup (l : List AV)
instance : Inhabited AV := ⟨.dead⟩
/-- a variable in memory; a row of the call's own -/
inductive AObj where
  | var (ty : TypeId) (cells : List CV)
  | row (ty : TypeId) (n : Nat) (rows : List (List T))
abbrev AHeap := List (Nat × AObj)
def hget : AHeap → Nat → Option AObj
  | [], _ => none
  | (k', o) :: h, k => if k' = k then some o else hget h k
def hset : AHeap → Nat → AObj → AHeap
  | [], k, o => [(k, o)]
  | (k', o') :: h, k, o => if k' = k then (k, o) :: h else (k', o') :: hset h k o
def hdel : AHeap → Nat → AHeap
  | [], _ => []
  | (k', o') :: h, k => if k' = k then hdel h k else (k', o') :: hdel h k
theorem hget_hset (H : AHeap) (k k' : Nat) (o : AObj) : hget (hset H k o) k' = if k = k' then some o else hget H k' := by
  induction H with
  | nil => simp [hset, hget]
  | cons p t ih =>
    obtain ⟨q, u⟩ := p
    unfold hset
    by_cases h : q = k
    · subst h; simp only [if_true, hget]; split <;> rfl
    · simp only [if_neg h, hget, ih]
      by_cases h2 : q = k'
      · rw [if_pos h2, if_pos h2, if_neg (by omega)]
      · rw [if_neg h2, if_neg h2]
/-- a tree in memory; A: the cells that may be looked at, and that nobody changes -/
inductive TRep (A : Nat → Nat → Prop) (w : World) : Value → T → Prop where
  | v (x : Value) (h : x.oneCell' = true) : TRep A w x (.v x)
  | e (a : Option Addr) (cap : Nat) : TRep A w (.slice a 0 cap) (.s [])
  | s (b off cap n : Nat) (rows : List (List T)) (vs : Nat → Nat → Value) (h1 : rows.length ≤ cap) (h2 : cap ≤ maxLen) (hn : ∀ i, i < rows.length → (rows.getD i []).length = n)
      (hc : ∀ i j, i < rows.length → j < n → A b (off + i * n + j) ∧ w.cell? ⟨b, off + i * n + j, none⟩ = some (vs i j))
      (hr : ∀ i j, i < rows.length → j < n → TRep A w (vs i j) ((rows.getD i []).getD j default)) : TRep A w (.slice (some ⟨b, off, none⟩) rows.length cap) (.s rows)
  | p (b off : Nat) (row : List T) (vs : Nat → Value) (hc : ∀ j, j < row.length → A b (off + j) ∧ w.cell? ⟨b, off + j, none⟩ = some (vs j))
      (hr : ∀ j, j < row.length → TRep A w (vs j) (row.getD j default)) : TRep A w (.pointer (some ⟨b, off, none⟩)) (.p row)
theorem TRep.mono {A A' : Nat → Nat → Prop} {w w' : World} (h : ∀ b i v, A b i → w.cell? ⟨b, i, none⟩ = some v → A' b i ∧ w'.cell? ⟨b, i, none⟩ = some v) {v : Value} {x : T} (hr : TRep A w v x) : TRep A' w' v x := by
  induction hr with
  | v x h1 => exact .v x h1
  | e a cap => exact .e a cap
  | s b off cap n rows vs h1 h2 hn hc hr ih => exact .s b off cap n rows vs h1 h2 hn (fun i j hi hj => h _ _ _ (hc i j hi hj).1 (hc i j hi hj).2) ih
  | p b off row vs hc hr ih => exact .p b off row vs (fun j hj => h _ _ _ (hc j hj).1 (hc j hj).2) ih
theorem TRep.one {A : Nat → Nat → Prop} {w : World} {v : Value} {x : T} (h : TRep A w v x) : v.oneCell' = true := by cases h <;> first | assumption | rfl
/-- all slices of a tree are as long as slices may be -/
inductive LenOk : T → Prop where
  | v (x : Value) : LenOk (.v x)
  | s (rows : List (List T)) (h : rows.length ≤ maxLen) (hr : ∀ i j, i < rows.length → j < (rows.getD i []).length → LenOk ((rows.getD i []).getD j default)) : LenOk (.s rows)
  | p (row : List T) (hr : ∀ j, j < row.length → LenOk (row.getD j default)) : LenOk (.p row)
theorem TRep.lens {A : Nat → Nat → Prop} {w : World} {v : Value} {x : T} (h : TRep A w v x) : LenOk x := by
  induction h with
  | v x _ => exact .v x
  | e a cap => exact .s [] (Nat.zero_le _) (fun i j hi => absurd hi (Nat.not_lt_zero _))
  | s b off cap n rows vs h1 h2 hn hc hr ih => exact .s rows (Nat.le_trans h1 h2) (fun i j hi hj => ih i j hi (by rw [← hn i hi]; exact hj))
  | p b off row vs hc hr ih => exact .p row ih
/-- where the call's variables and rows lie, and what nobody changes -/
structure Cx where
  m : Nat → Value
  A : Nat → Nat → Prop
def blk : Value → Option Nat
  | .pointer (some a) => some a.block
  | .slice (some a) _ (_ + 1) => some a.block
  | _ => none
theorem blk_sl {b l cap b' : Nat} (h : blk (.slice (some ⟨b, 0, none⟩) l cap) = some b') : b' = b := by
  cases cap with
  | zero => cases h
  | succ cap => injection h with h; exact h.symm
theorem blk_some {b l cap : Nat} (h : 0 < cap) : blk (.slice (some ⟨b, 0, none⟩) l cap) = some b := by
  cases cap with
  | zero => omega
  | succ cap => rfl
/-- a slice of the call's own: without room, or alone in its block -/
def Owns (w : World) (e : TypeId) (n : Nat) (v : Value) (m : Nat) (xs : List Value) : Prop :=
  (∃ a, v = .slice a 0 0 ∧ m = 0 ∧ xs = []) ∨
  ∃ g cap cur, v = .slice (some ⟨g, 0, none⟩) m (cap + 1) ∧ w.heap[g]? = some (.cells cur e (0, 0)) ∧ m ≤ cap + 1 ∧ cap + 1 ≤ maxLen ∧ cur.size = (cap + 1) * n ∧ cur.toList.take (m * n) = xs
theorem Owns.of {w : World} {e : TypeId} {n m b : Nat} {v : Value} {xs : List Value} (h : w.ownsRow b e n v m xs) : Owns w e n v m xs := by
  rcases h with ⟨h1, ⟨rfl, rfl⟩ | ⟨g, cap, cur, rfl, _, h2, h3, h4, h5, h6⟩⟩
  · exact .inl ⟨none, rfl, rfl, List.length_eq_zero_iff.1 (by simpa using h1)⟩
  · cases cap with
    | zero =>
      obtain rfl : m = 0 := by omega
      exact .inl ⟨_, rfl, rfl, by rw [← h6]; simp⟩
    | succ cap => exact .inr ⟨g, cap, cur, rfl, h2, h3, h4, h5, h6⟩
theorem Owns.len {w : World} {e : TypeId} {n m : Nat} {v : Value} {xs : List Value} (h : Owns w e n v m xs) : xs.length = m * n := by
  rcases h with ⟨a, _, rfl, rfl⟩ | ⟨g, cap, cur, _, _, h3, _, h5, h6⟩
  · simp
  · rw [← h6, List.length_take]
    have : m * n ≤ (cap + 1) * n := Nat.mul_le_mul_right _ h3
    simp; omega
theorem Owns.one {w : World} {e : TypeId} {n m : Nat} {v : Value} {xs : List Value} (h : Owns w e n v m xs) : v.oneCell' = true := by
  rcases h with ⟨a, rfl, _⟩ | ⟨g, cap, cur, rfl, _⟩ <;> rfl
inductive CRep (c : Cx) (H : AHeap) (w : World) : Value → CV → Prop where
  | dead (v : Value) (h : v.oneCell' = true) : CRep c H w v .dead
  | t {v : Value} {x : T} (h : TRep c.A w v x) : CRep c H w v (.t x)
  | z (a : Option Addr) : CRep c H w (.slice a 0 0) .z
  | ab (b : Bool) : CRep c H w (.bool b) .ab
  | ptr {k i : Nat} {ty : TypeId} {cells : List CV} {b : Nat} (ho : hget H k = some (.var ty cells)) (hm : c.m k = .pointer (some ⟨b, 0, none⟩)) : CRep c H w (.pointer (some ⟨b, i, none⟩)) (.ptr k i)
  | own {v : Value} {k len : Nat} {ty : TypeId} {n : Nat} {rows : List (List T)} (ho : hget H k = some (.row ty n rows)) (h1 : v.oneCell' = true) (hl : len ≤ rows.length) (hv : len = rows.length → v = c.m k) : CRep c H w v (.own k len)
  | el {row : List T} {j b off : Nat} (vs : Nat → Value) (hc : ∀ j, j < row.length → c.A b (off + j) ∧ w.cell? ⟨b, off + j, none⟩ = some (vs j)) (hr : ∀ j, j < row.length → TRep c.A w (vs j) (row.getD j default)) : CRep c H w (.pointer (some ⟨b, off + j, none⟩)) (.el row j)
  | elo {v : Value} {k len i j : Nat} {ty : TypeId} {n : Nat} {rows : List (List T)} (ho : hget H k = some (.row ty n rows)) (h1 : v.oneCell' = true) (hl : len ≤ rows.length) (hv : len = rows.length → i < len ∧ ∃ b cap, c.m k = .slice (some ⟨b, 0, none⟩) len cap ∧ v = .pointer (some ⟨b, i * n + j, none⟩)) : CRep c H w v (.elo k len i j)
  | fn (f : Fn) (fs cs : List CV) (vs us : List Value) (h1 : vs.length = fs.length) (h2 : us.length = cs.length) (hf : ∀ i, i < fs.length → CRep c H w (vs.getD i undef) (fs.getD i .dead)) (hc : ∀ i, i < cs.length → CRep c H w (us.getD i undef) (cs.getD i .dead)) : CRep c H w (.func f vs.toArray us.toArray) (.fn f fs cs)
theorem CRep.one {c : Cx} {H : AHeap} {w : World} {v : Value} {x : CV} (h : CRep c H w v x) : v.oneCell' = true := by
  cases h with
  | t h => exact h.one
  | _ => first | assumption | rfl
/-- from one state to a later one -/
structure Later (c : Cx) (H : AHeap) (w : World) (c' : Cx) (H' : AHeap) (w' : World) : Prop where
  var : ∀ k ty cells, hget H k = some (.var ty cells) → ∃ cells', hget H' k = some (.var ty cells') ∧ c'.m k = c.m k
  row : ∀ k ty n rows, hget H k = some (.row ty n rows) → ∃ rows', hget H' k = some (.row ty n rows') ∧ ((rows'.length = rows.length ∧ c'.m k = c.m k) ∨ rows.length < rows'.length)
  cell : ∀ b i v, c.A b i → w.cell? ⟨b, i, none⟩ = some v → c'.A b i ∧ w'.cell? ⟨b, i, none⟩ = some v
theorem CRep.later {c c' : Cx} {H H' : AHeap} {w w' : World} (hl : Later c H w c' H' w') {v : Value} {x : CV} (h : CRep c H w v x) : CRep c' H' w' v x := by
  induction h with
  | dead v h => exact .dead v h
  | t h => exact .t (h.mono hl.cell)
  | z a => exact .z a
  | ab b => exact .ab b
  | ptr ho hm =>
    obtain ⟨cells', h1, h2⟩ := hl.var _ _ _ ho
    exact .ptr h1 (h2.trans hm)
  | own ho h1 hle hv =>
    obtain ⟨rows', h2, h3⟩ := hl.row _ _ _ _ ho
    rcases h3 with ⟨h3, h4⟩ | h3
    · exact .own h2 h1 (by omega) (fun e => by rw [h4]; exact hv (by omega))
    · exact .own h2 h1 (by omega) (fun e => by omega)
  | el vs hc hr => exact .el vs (fun j hj => hl.cell _ _ _ (hc j hj).1 (hc j hj).2) (fun j hj => (hr j hj).mono hl.cell)
  | elo ho h1 hle hv =>
    obtain ⟨rows', h2, h3⟩ := hl.row _ _ _ _ ho
    rcases h3 with ⟨h3, h4⟩ | h3
    · exact .elo h2 h1 (by omega) (fun e => by rw [h4]; exact hv (by omega))
    · exact .elo h2 h1 (by omega) (fun e => by omega)
  | fn f fs cs vs us h1 h2 hf hc ihf ihc => exact .fn f fs cs vs us h1 h2 ihf ihc
inductive VRep (c : Cx) (H : AHeap) (w : World) : Value → AV → Prop where
  | dead (v : Value) : VRep c H w v .dead
  | c {v : Value} {x : CV} (h : CRep c H w v x) : VRep c H w v (.c x)
  | agg (cs : List Value) (l : List CV) (hl : cs.length = l.length) (h : ∀ i, i < l.length → CRep c H w (cs.getD i undef) (l.getD i .dead)) : VRep c H w (.agg cs.toArray) (.agg l)
  | tup (vs : List Value) (l : List AV) (hl : vs.length = l.length) (h : ∀ i, i < l.length → VRep c H w (vs.getD i undef) (l.getD i .dead)) : VRep c H w (.tuple vs.toArray) (.tup l)
theorem VRep.later {c c' : Cx} {H H' : AHeap} {w w' : World} (hl : Later c H w c' H' w') {v : Value} {x : AV} (h : VRep c H w v x) : VRep c' H' w' v x := by
  induction h with
  | dead v => exact .dead v
  | c h => exact .c (h.later hl)
  | agg cs l h1 h => exact .agg cs l h1 (fun i hi => (h i hi).later hl)
  | tup vs l h1 h ih => exact .tup vs l h1 ih
def ObjRep (c : Cx) (H : AHeap) (w : World) (k : Nat) : AObj → Prop
  | .var ty cells => ∃ b cs, c.m k = .pointer (some ⟨b, 0, none⟩) ∧ w.heap[b]? = some (.cells cs ty (0, 0)) ∧ cs.size = cells.length ∧ (∀ i, i < cells.length → CRep c H w (cs.getD i undef) (cells.getD i .dead)) ∧ ∀ i, ¬ c.A b i
  | .row ty n rows => 0 < n ∧ ∃ xs : List Value, Owns w ty n (c.m k) rows.length xs ∧ (∀ i, i < rows.length → (rows.getD i []).length = n ∧ ∀ j, j < n → TRep c.A w (xs.getD (i * n + j) undef) ((rows.getD i []).getD j default)) ∧ ∀ b, blk (c.m k) = some b → ∀ i, ¬ c.A b i
/-- where the call began: the world, what nobody changes, and which blocks it was handed to change -/
structure Ent where
  w : World
  A : Nat → Nat → Prop
  F : Nat → Prop
  m : Nat → Value
  H : AHeap
/-- what the call was handed is there, in its place -/
structure Pin (m0 : Nat → Value) (H0 : AHeap) (m : Nat → Value) (H : AHeap) : Prop where
  big : ∀ k o, hget H0 k = some o → 1000 ≤ k
  var : ∀ k ty cells, hget H0 k = some (.var ty cells) → ∃ cells', hget H k = some (.var ty cells') ∧ m k = m0 k
  row : ∀ k ty n rows, hget H0 k = some (.row ty n rows) → ∃ rows', hget H k = some (.row ty n rows') ∧ ((rows'.length = rows.length ∧ m k = m0 k) ∨ rows.length < rows'.length)
/-- a world, as the call's state tells it -/
structure Conc (E : Ent) (c : Cx) (H : AHeap) (w : World) : Prop where
  obj : ∀ k o, hget H k = some o → ObjRep c H w k o
  inj : ∀ k k' b, hget H k ≠ none → hget H k' ≠ none → blk (c.m k) = some b → blk (c.m k') = some b → k = k'
  lt : ∀ b i, c.A b i → b < w.heap.size
  ent : ∀ b i, E.A b i → ¬ E.F b ∧ b < E.w.heap.size
  le : ∀ b i, E.A b i → c.A b i
  new : ∀ b i, c.A b i → E.A b i ∨ E.w.heap.size ≤ b ∨ E.F b
  own : ∀ k b, hget H k ≠ none → blk (c.m k) = some b → E.F b ∨ E.w.heap.size ≤ b
  keep : ∀ b, b < E.w.heap.size → ¬ E.F b → w.heap[b]? = E.w.heap[b]?
  os : w.os = E.w.os
  tape : w.tape = E.w.tape
  output : w.output = E.w.output
  size : E.w.heap.size ≤ w.heap.size
  pin : Pin E.m E.H c.m H
theorem Pin.step {m0 : Nat → Value} {H0 : AHeap} {c c' : Cx} {H H' : AHeap} {w w' : World} (h : Pin m0 H0 c.m H) (hl : Later c H w c' H' w') : Pin m0 H0 c'.m H' := by
  refine ⟨h.big, fun k ty cells e => ?_, fun k ty n rows e => ?_⟩
  · obtain ⟨_, h1, h2⟩ := h.var _ _ _ e
    obtain ⟨_, h3, h4⟩ := hl.var _ _ _ h1
    exact ⟨_, h3, h4.trans h2⟩
  · obtain ⟨_, h1, h2⟩ := h.row _ _ _ _ e
    obtain ⟨_, h3, h4⟩ := hl.row _ _ _ _ h1
    refine ⟨_, h3, ?_⟩
    rcases h2 with ⟨h2, h5⟩ | h2 <;> rcases h4 with ⟨h4, h6⟩ | h4
    · exact .inl ⟨h4.trans h2, h6.trans h5⟩
    · exact .inr (by omega)
    · exact .inr (by omega)
    · exact .inr (by omega)
theorem ownsRow_one {w : World} {base e n m : Nat} {v : Value} {xs : List Value} (h : w.ownsRow base e n v m xs) : v.oneCell' = true := by
  rcases h.2 with ⟨rfl, _⟩ | ⟨g, cap, cur, rfl, _⟩ <;> rfl
theorem lt_of_heap {w : World} {b : Nat} {o : Obj} (h : w.heap[b]? = some o) : b < w.heap.size := (Array.getElem?_eq_some_iff.1 h).1
/-- an object's block is there -/
theorem ObjRep.blk_lt {c : Cx} {H : AHeap} {w : World} {k : Nat} {o : AObj} (h : ObjRep c H w k o) {b : Nat} (hb : blk (c.m k) = some b) : b < w.heap.size := by
  cases o with
  | var ty cells =>
    obtain ⟨b', cs, h1, h2, _⟩ := h
    rw [h1] at hb; injection hb with hb; subst hb
    exact lt_of_heap h2
  | row ty n rows =>
    obtain ⟨_, xs, h1, _⟩ := h
    rcases h1 with ⟨a, e, _⟩ | ⟨g, cap, cur, e, h2, _⟩
    · rw [e] at hb; cases a <;> cases hb
    · rw [e] at hb; injection hb with hb; subst hb
      exact lt_of_heap h2
theorem ObjRep.noA {c : Cx} {H : AHeap} {w : World} {k : Nat} {o : AObj} (h : ObjRep c H w k o) {b : Nat} (hb : blk (c.m k) = some b) (i : Nat) : ¬ c.A b i := by
  cases o with
  | var ty cells =>
    obtain ⟨b', cs, h1, _, _, _, h5⟩ := h
    rw [h1] at hb; injection hb with hb; subst hb
    exact h5 i
  | row ty n rows =>
    obtain ⟨_, xs, _, _, h3⟩ := h
    exact h3 b hb i
/-- an object lasts where its block does -/
theorem ObjRep.later {c c' : Cx} {H H' : AHeap} {w w' : World} (hl : Later c H w c' H' w') {k : Nat} {o : AObj} (h : ObjRep c H w k o) (hm : c'.m k = c.m k) (hb : ∀ b, blk (c.m k) = some b → w'.heap[b]? = w.heap[b]?) (hA : ∀ b i, blk (c.m k) = some b → ¬ c'.A b i) : ObjRep c' H' w' k o := by
  cases o with
  | var ty cells =>
    obtain ⟨b, cs, h1, h2, h3, h4, h5⟩ := h
    have e : blk (c.m k) = some b := by rw [h1]; rfl
    exact ⟨b, cs, hm.trans h1, (hb b e).trans h2, h3, fun i hi => (h4 i hi).later hl, fun i => hA b i e⟩
  | row ty n rows =>
    obtain ⟨h0, xs, h1, h2, h3⟩ := h
    refine ⟨h0, xs, ?_, fun i hi => ⟨(h2 i hi).1, fun j hj => ((h2 i hi).2 j hj).mono hl.cell⟩, fun b e i => hA b i (by rw [← hm]; exact e)⟩
    rw [hm]
    rcases h1 with e | ⟨g, cap, cur, e1, e3, e4⟩
    · exact .inl e
    · exact .inr ⟨g, cap, cur, e1, by rw [hb g (by rw [e1]; rfl)]; exact e3, e4⟩
theorem Later.refl (c : Cx) (H : AHeap) (w : World) : Later c H w c H w :=
  ⟨fun k ty cells h => ⟨cells, h, rfl⟩, fun k ty n rows h => ⟨rows, h, .inl ⟨rfl, rfl⟩⟩, fun b i v h1 h2 => ⟨h1, h2⟩⟩
theorem Later.trans {c c' c'' : Cx} {H H' H'' : AHeap} {w w' w'' : World} (h : Later c H w c' H' w') (h' : Later c' H' w' c'' H'' w'') : Later c H w c'' H'' w'' := by
  refine ⟨fun k ty cells e => ?_, fun k ty n rows e => ?_, fun b i v h1 h2 => ?_⟩
  · obtain ⟨_, h1, h2⟩ := h.var _ _ _ e
    obtain ⟨_, h3, h4⟩ := h'.var _ _ _ h1
    exact ⟨_, h3, h4.trans h2⟩
  · obtain ⟨_, h1, h2⟩ := h.row _ _ _ _ e
    obtain ⟨_, h3, h4⟩ := h'.row _ _ _ _ h1
    refine ⟨_, h3, ?_⟩
    rcases h2 with ⟨h2, h5⟩ | h2 <;> rcases h4 with ⟨h4, h6⟩ | h4
    · exact .inl ⟨h4.trans h2, h6.trans h5⟩
    · exact .inr (by omega)
    · exact .inr (by omega)
    · exact .inr (by omega)
  · obtain ⟨h3, h4⟩ := h.cell _ _ _ h1 h2
    exact h'.cell _ _ _ h3 h4
/-- new memory alone -/
structure Grew (w w' : World) : Prop where
  os : w'.os = w.os
  tape : w'.tape = w.tape
  output : w'.output = w.output
  size : w.heap.size ≤ w'.heap.size
  block : ∀ b, b < w.heap.size → w'.heap[b]? = w.heap[b]?
theorem Grew.of_below {w w' : World} (h : Below w.heap.size w w') : Grew w w' := ⟨h.os, h.tape, h.output, h.size, h.block⟩
theorem Grew.below {w w' : World} (h : Grew w w') : Below w.heap.size w w' := ⟨h.os, h.tape, h.output, h.size, h.block⟩
theorem Grew.cell {w w' : World} (h : Grew w w') {b i : Nat} {v : Value} (hc : w.cell? ⟨b, i, none⟩ = some v) : w'.cell? ⟨b, i, none⟩ = some v := by
  have hb : b < w.heap.size := World.block_lt_of_cell? w _ hc
  rw [World.cell?_of_block (w := w) (a := ⟨b, i, none⟩) (h.block b hb)]; exact hc
/-- a step that makes memory alone: what is new may be looked at -/
theorem Conc.grew {E : Ent} {c : Cx} {H : AHeap} {w w' : World} (hC : Conc E c H w) (hg : Grew w w') (A' : Nat → Nat → Prop) (h1 : ∀ b i, c.A b i → A' b i) (h2 : ∀ b i, A' b i → c.A b i ∨ (w.heap.size ≤ b ∧ b < w'.heap.size)) :
    Conc E ⟨c.m, A'⟩ H w' ∧ Later c H w ⟨c.m, A'⟩ H w' := by
  have hl : Later c H w ⟨c.m, A'⟩ H w' := ⟨fun k ty cells e => ⟨cells, e, rfl⟩, fun k ty n rows e => ⟨rows, e, .inl ⟨rfl, rfl⟩⟩, fun b i v e1 e2 => ⟨h1 _ _ e1, hg.cell e2⟩⟩
  refine ⟨⟨fun k o e => ?_, hC.inj, fun b i e => ?_, hC.ent, fun b i e => h1 _ _ (hC.le _ _ e), fun b i e => ?_, hC.own, fun b e1 e2 => ?_, hg.os.trans hC.os, hg.tape.trans hC.tape, hg.output.trans hC.output, Nat.le_trans hC.size hg.size, hC.pin.step hl⟩, hl⟩
  · have ho := hC.obj k o e
    refine ho.later hl rfl (fun b hb => hg.block b (ho.blk_lt hb)) (fun b i hb hA => ?_)
    rcases h2 _ _ hA with h | h
    · exact ho.noA hb i h
    · have := ho.blk_lt hb; omega
  · rcases h2 _ _ e with h | h
    · exact Nat.lt_of_lt_of_le (hC.lt _ _ h) hg.size
    · exact h.2
  · rcases h2 _ _ e with h | h
    · exact hC.new _ _ h
    · exact .inr (.inl (Nat.le_trans hC.size h.1))
  · rw [hg.block b (Nat.lt_of_lt_of_le e1 hC.size)]; exact hC.keep b e1 e2
end Go.Proofs.Ytiimkhnngpfnbaa.Fx
