/- Rows of the call's own: grown, read, written, let go; calls; the rule for a function. No program in sight. -/
import Derived.Test.YtoebfmhogkjmgaaGreatDoorFxG
namespace Go.Proofs.YtoebfmhogkjmgaaGreatDoor.Fx
open Go.RowKit
set_option linter.unusedVariables false
set_option linter.unusedSimpArgs false
section
variable {P : Program} {dst : Option Tmp} {ty0 : TypeId} {pos : String} {af : Array Edge} {g : Option (Nat × Bool)} {ρ : Operand → AV} {H : AHeap}
theorem cown {c : Cx} {H : AHeap} {w : World} {v : Value} {k len : Nat} {e : TypeId} {n : Nat} {rows : List (List T)} (h : VRep c H w v (.c (.own k len))) (ho : hget H k = some (.row e n rows)) (hl : len = rows.length) : v = c.m k := by
  cases h with
  | c h => cases h with
    | own ho' h1 h2 h3 => rw [ho] at ho'; injection ho' with ho'; injection ho' with _ _ e3; subst e3; exact h3 hl
theorem oblk {v : Value} {w : World} {base e n m : Nat} {xs : List Value} (h : w.ownsRow base e n v m xs) (hm : 0 < m) : blk v = v.ownBlock := by
  rcases h.2 with ⟨rfl, _⟩ | ⟨g, cap, cur, rfl, _, _, h3, _⟩
  · rfl
  · cases cap with
    | zero => omega
    | succ cap => rfl
theorem flat_getD {n : Nat} : ∀ (f : Nat → Nat → Value) (m : Nat) (i j : Nat), i < m → j < n → (((List.range m).map fun i => (List.range n).map fun j => f i j).flatten).getD (i * n + j) undef = f i j := by
  intro f m i j hi hj
  have key : ∀ (l : List Nat) (i : Nat), i < l.length → ((l.map fun i => (List.range n).map fun j => f i j).flatten).getD (i * n + j) undef = f (l.getD i 0) j := by
    intro l
    induction l with
    | nil => intro i hi; simp at hi
    | cons x t ih =>
      intro i hi
      rw [List.map_cons, List.flatten_cons]
      simp only [List.getD_eq_getElem?_getD] at ih ⊢
      cases i with
      | zero =>
        rw [Nat.zero_mul, Nat.zero_add, List.getElem?_append_left (by simp; exact hj)]
        simp [hj]
      | succ i =>
        rw [List.getElem?_append_right (by simp [Nat.add_mul]; omega)]
        have e : (i + 1) * n + j - ((List.range n).map fun j => f x j).length = i * n + j := by simp [Nat.add_mul]; omega
        rw [e, ih i (by simpa using hi)]
        simp
  have := key (List.range m) i (by simpa using hi)
  rw [this]
  simp [hi]
theorem flat_length {n : Nat} (f : Nat → Nat → Value) (m : Nat) : (((List.range m).map fun i => (List.range n).map fun j => f i j).flatten).length = m * n := by
  rw [List.length_flatten]
  have key : ∀ l : List Nat, (l.map fun _ => n).sum = l.length * n := by
    intro l
    induction l with
    | nil => simp
    | cons x t ih => rw [List.map_cons, List.sum_cons, ih, List.length_cons, Nat.add_mul]; omega
  simp only [List.map_map, Function.comp_def, List.length_map, List.length_range]
  rw [key]; simp
/-- what an append comes to -/
theorem Conc.grownRow {E : Ent} {c : Cx} {w w' : World} (hC : Conc E c H w) {k : Nat} {e : TypeId} {n : Nat} {rows more : List (List T)} (ho : hget H k = some (.row e n rows)) (v' : Value) (xs news : List Value) (hx : w.ownsRow 0 e n (c.m k) rows.length xs) (hbk : blk (c.m k) = (c.m k).ownBlock)
    (hown : w'.ownsRow 0 e n v' (rows.length + more.length) (xs ++ news)) (hg : w.grownBy w' (c.m k).ownBlock) (hat : ∀ b, v'.ownBlock = some b → (c.m k).ownBlock = some b ∨ b = w.heap.size) (hnew : news.length = more.length * n) (hm : 0 < more.length)
    (hn : ∀ i, i < more.length → (more.getD i []).length = n) (hr : ∀ i j, i < more.length → j < n → TRep c.A w (news.getD (i * n + j) undef) ((more.getD i []).getD j default)) :
    ∃ c', Conc E c' (hset H k (.row e n (rows ++ more))) w' ∧ Later c H w c' (hset H k (.row e n (rows ++ more))) w' ∧ CRep c' (hset H k (.row e n (rows ++ more))) w' v' (.own k (rows.length + more.length)) := by
  have h0 := hC.obj k _ ho
  have hnA : ∀ b, (c.m k).ownBlock = some b → ∀ i, ¬ c.A b i := fun b hb i => h0.noA (by rw [hbk]; exact hb) i
  have hblock : ∀ b, b < w.heap.size → (c.m k).ownBlock ≠ some b → w'.heap[b]? = w.heap[b]? := fun b h1 h2 => hg.block b h1 (fun e => h2 e.symm)
  have hcell : ∀ b i v, c.A b i → w.cell? ⟨b, i, none⟩ = some v → c.A b i ∧ w'.cell? ⟨b, i, none⟩ = some v := fun b i v h1 h2 => by
    refine ⟨h1, ?_⟩
    rw [World.cell?_of_block (w := w) (a := ⟨b, i, none⟩) (hblock b (hC.lt b i h1) (fun e => hnA b e i h1))]; exact h2
  have hlat : Later c H w ⟨fun j => if j = k then v' else c.m j, c.A⟩ (hset H k (.row e n (rows ++ more))) w' := by
    refine ⟨fun j t cl h => ?_, fun j t n' rows' h => ?_, fun j t n' rows' h => ?_, hcell⟩
    · by_cases e1 : k = j
      · subst e1; rw [ho] at h; cases h
      · exact ⟨cl, by rw [hget_hset, if_neg e1]; exact h, if_neg (fun x => e1 x.symm)⟩
    · by_cases e1 : k = j
      · subst e1; rw [ho] at h; injection h with h; injection h with a1 a2 a3; subst a1; subst a2; subst a3
        exact ⟨rows ++ more, by rw [hget_hset, if_pos rfl], .inr (by simp; omega)⟩
      · exact ⟨rows', by rw [hget_hset, if_neg e1]; exact h, .inl ⟨rfl, if_neg (fun x => e1 x.symm)⟩⟩
    · by_cases e1 : k = j
      · subst e1; rw [ho] at h; cases h
      · exact ⟨rows', by rw [hget_hset, if_neg e1]; exact h, .inl ⟨rfl, if_neg (fun x => e1 x.symm)⟩⟩
  have hv' := oblk hown (by omega)
  have hlt' : ∀ b, v'.ownBlock = some b → b < w'.heap.size := fun b hb => by
    rcases hown.2 with ⟨e, _⟩ | ⟨g, cap, cur, e, _, h2, _⟩
    · rw [e] at hb; cases hb
    · rw [e] at hb; injection hb with hb; subst hb; exact lt_of_heap h2
  have hnA' : ∀ b, v'.ownBlock = some b → ∀ i, ¬ c.A b i := fun b hb i hA => by
    rcases hat b hb with h | h
    · exact hnA b h i hA
    · have := hC.lt _ _ hA; omega
  obtain ⟨hpn, xs', hx', hrr, _⟩ := h0
  have hxx : xs' = xs := by
    have h1 := hx'
    have h2 := hx
    rcases h1 with ⟨a, _, z1, z2⟩ | ⟨g, cap, cur, q, hg1, _, _, _, ht⟩
    · have l2 := h2.1
      rw [z1, Nat.zero_mul] at l2
      rw [z2, List.length_eq_zero_iff.1 l2]
    · rcases h2 with ⟨l2, ⟨q', _⟩ | ⟨g', cap', cur', q', _, hg1', _, _, _, ht'⟩⟩
      · rw [q] at q'; cases q'
      · rw [q] at q'
        simp only [Value.slice.injEq, Option.some.injEq, Addr.mk.injEq] at q'
        obtain ⟨⟨rfl, _⟩, _⟩ := q'
        rw [hg1] at hg1'
        injection hg1' with hg1'
        injection hg1' with hg1' _ _
        subst hg1'
        rw [← ht, ← ht']
  subst hxx
  have hxl := hx'.len
  refine ⟨⟨fun j => if j = k then v' else c.m j, c.A⟩, ⟨fun j o h => ?_, fun j j' b h h' hb1 hb2 => ?_, fun b i h => Nat.lt_of_lt_of_le (hC.lt b i h) hg.size, hC.ent, hC.le, hC.new, fun j b h hb1 => ?_, fun b h1 h2 => ?_, hg.os.trans hC.os, hg.tape.trans hC.tape, hg.output.trans hC.output, Nat.le_trans hC.size hg.size, hC.pin.step hlat⟩, hlat, .own (by rw [hget_hset, if_pos rfl]) (ownsRow_one hown) (by simp) (fun _ => (if_pos rfl).symm)⟩
  · rw [hget_hset] at h
    by_cases e1 : k = j
    · rw [if_pos e1] at h; injection h with h; subst h; subst e1
      refine ⟨hpn, xs' ++ news, ?_, fun i hi => ?_, fun b hb i => ?_⟩
      · simp only [if_true, List.length_append]; exact Owns.of hown
      · rw [List.length_append] at hi
        have e3 : (rows ++ more).getD i [] = if i < rows.length then rows.getD i [] else more.getD (i - rows.length) [] := by
          simp only [List.getD_eq_getElem?_getD]
          split
          · rename_i h2; rw [List.getElem?_append_left h2]
          · rename_i h2; rw [List.getElem?_append_right (by omega)]
        rw [e3]
        by_cases h2 : i < rows.length
        · rw [if_pos h2]
          refine ⟨(hrr i h2).1, fun j hj => ?_⟩
          have hlt : i * n + j < xs'.length := by
            rw [hxl]
            have : (i + 1) * n ≤ rows.length * n := Nat.mul_le_mul_right _ h2
            rw [Nat.add_mul, Nat.one_mul] at this
            omega
          have e4 : (xs' ++ news).getD (i * n + j) undef = xs'.getD (i * n + j) undef := by
            simp only [List.getD_eq_getElem?_getD]; rw [List.getElem?_append_left hlt]
          rw [e4]
          exact ((hrr i h2).2 j hj).mono hcell
        · rw [if_neg h2]
          refine ⟨hn _ (by omega), fun j hj => ?_⟩
          have e4 : (xs' ++ news).getD (i * n + j) undef = news.getD ((i - rows.length) * n + j) undef := by
            simp only [List.getD_eq_getElem?_getD]
            have hle : rows.length * n ≤ i * n := Nat.mul_le_mul_right _ (by omega)
            rw [List.getElem?_append_right (by rw [hxl]; omega), hxl, Nat.sub_mul]
            congr 2
            omega
          rw [e4]
          exact (hr _ j (by omega) hj).mono hcell
      · have hb' : blk (if k = k then v' else c.m k) = some b := hb
        rw [if_pos rfl, hv'] at hb'
        exact hnA' b hb' i
    · rw [if_neg e1] at h
      have h1 := hC.obj j o h
      refine h1.later hlat (if_neg (fun x => e1 x.symm)) (fun b hb => hblock b (h1.blk_lt hb) (fun e2 => ?_)) (fun b i hb => h1.noA hb i)
      exact e1 (hC.inj k j b (by rw [ho]; simp) (by rw [h]; simp) (by rw [hbk]; exact e2) hb)
  · have key : ∀ j, hget (hset H k (.row e n (rows ++ more))) j ≠ none → j ≠ k → blk (if j = k then v' else c.m j) = some b → hget H j ≠ none ∧ blk (c.m j) = some b ∧ b < w.heap.size := fun j h1 h2 h3 => by
      rw [hget_hset, if_neg (Ne.symm h2)] at h1
      rw [if_neg h2] at h3
      cases ho' : hget H j with
      | none => exact absurd ho' h1
      | some o' => exact ⟨by simp, h3, (hC.obj j o' ho').blk_lt h3⟩
    have hkk : ∀ j, hget (hset H k (.row e n (rows ++ more))) j ≠ none → j ≠ k → blk (if j = k then v' else c.m j) = some b → v'.ownBlock = some b → False := fun j h1 h2 h3 h4 => by
      obtain ⟨a1, a2, a3⟩ := key j h1 h2 h3
      rcases hat b h4 with h5 | h5
      · exact h2 (hC.inj j k b a1 (by rw [ho]; simp) a2 (by rw [hbk]; exact h5))
      · omega
    by_cases e1 : j = k <;> by_cases e2 : j' = k
    · rw [e1, e2]
    · have h3 : blk (if j = k then v' else c.m j) = some b := hb1
      rw [if_pos e1, hv'] at h3
      exact (hkk j' h' e2 hb2 h3).elim
    · have h3 : blk (if j' = k then v' else c.m j') = some b := hb2
      rw [if_pos e2, hv'] at h3
      exact (hkk j h e1 hb1 h3).elim
    · have h1 := key j h e1 hb1
      have h2 := key j' h' e2 hb2
      exact hC.inj j j' b h1.1 h2.1 h1.2.1 h2.2.1
  · by_cases e1 : j = k
    · have h3 : blk (if j = k then v' else c.m j) = some b := hb1
      rw [if_pos e1, hv'] at h3
      rcases hat b h3 with h4 | h4
      · exact hC.own k b (by rw [ho]; simp) (by rw [hbk]; exact h4)
      · right; rw [h4]; exact hC.size
    · rw [hget_hset, if_neg (Ne.symm e1)] at h
      have h3 : blk (if j = k then v' else c.m j) = some b := hb1
      rw [if_neg e1] at h3
      exact hC.own j b h h3
  · rw [hblock b (Nat.lt_of_lt_of_le h1 hC.size) (fun e2 => ?_)]
    · exact hC.keep b h1 h2
    · rcases hC.own k b (by rw [ho]; simp) (by rw [hbk]; exact e2) with h4 | h4
      · exact h2 h4
      · omega
theorem hset_same : ∀ (H : AHeap) (k : Nat) (o : AObj), hget H k = some o → hset H k o = H := by
  intro H
  induction H with
  | nil => intro k o h; cases h
  | cons p t ih =>
    intro k o h
    obtain ⟨q, u⟩ := p
    unfold hget at h
    unfold hset
    by_cases e : q = k
    · rw [if_pos e] at h ⊢; injection h with h; rw [h, e]
    · rw [if_neg e] at h ⊢; rw [ih k o h]
/-- append of something to what has no room: a new block -/
theorem zgrow (w : World) (ad : Option Addr) (ty : TypeId) {e : TypeId} {n bytes : Nat} {inf : TypeInfo} {z : Value} (hu : P.underlying ty = some (.slice e)) (hinf : P.info? e = some inf) (hz : inf.zero = some z) (hsz : inf.size = n) (hby : inf.bytes = bytes) (hzs : z.cells.size = n) (hpn : 0 < n) {m : Nat} (hmax : m ≤ 1000000000) (hbytes : bytes ≤ 1000) (h0 : 0 < m)
    {A : Nat → Nat → Prop} {b off cap : Nat} (vs : Nat → Nat → Value) (gc : ∀ i j, i < m → j < n → A b (off + i * n + j) ∧ w.cell? ⟨b, off + i * n + j, none⟩ = some (vs i j)) (gr : ∀ i j, i < m → j < n → (vs i j).oneCell' = true) :
    ∃ (CC : Array Value) (cp : Nat), (Builtin.append_ #[ty, ty] ty0 #[.slice ad 0 0, .slice (some ⟨b, off, none⟩) m cap]).run P w = .ok (.slice (some ⟨w.heap.size, 0, none⟩) m cp) (w.drew.alloc (.cells CC e)) ∧ m ≤ cp ∧ cp ≤ maxLen ∧ CC.size = cp * n ∧ ∀ i j, i < m → j < n → CC[i * n + j]? = some (vs i j) := by
  have hnews : ∀ j u, (((List.range m).map fun i => (List.range n).map fun j => vs i j).flatten)[j]? = some u → w.cell? ((⟨b, off, none⟩ : Addr).add j) = some u := fun j u hu => by
    have hj : j < m * n := by
      rw [← flat_length (n := n) vs]
      rcases Nat.lt_or_ge j (((List.range m).map fun i => (List.range n).map fun j => vs i j).flatten).length with h | h
      · exact h
      · rw [List.getElem?_eq_none h] at hu; cases hu
    have hi : j / n < m := Nat.div_lt_of_lt_mul (by rw [Nat.mul_comm]; exact hj)
    have hq : j % n < n := Nat.mod_lt _ hpn
    have e1 : j / n * n + j % n = j := by rw [Nat.mul_comm]; exact Nat.div_add_mod j n
    have e2 := flat_getD (n := n) vs m (j / n) (j % n) hi hq
    rw [e1, List.getD_eq_getElem?_getD, hu] at e2
    simp only [Option.getD_some] at e2
    rw [add_plain, ← e1, ← Nat.add_assoc, (gc _ _ hi hq).2, e2]
  have hone : ∀ u ∈ (((List.range m).map fun i => (List.range n).map fun j => vs i j).flatten), u.oneCell' = true := fun u hu => by
    obtain ⟨l, hl1, hl2⟩ := List.mem_flatten.1 hu
    obtain ⟨i, hi, rfl⟩ := List.mem_map.1 hl1
    obtain ⟨j, hj, rfl⟩ := List.mem_map.1 hl2
    exact gr i j (by simpa using hi) (by simpa using hj)
  have hs : Src P inf.size ty (.slice (some ⟨b, off, none⟩) m cap) m (((List.range m).map fun i => (List.range n).map fun j => vs i j).flatten) w := Src.ofSlice w hu _ _ _ _ (by rw [hsz]; exact flat_length vs _) hnews hone
  have hf : (Builtin.firstCells inf.size 0 (.slice ad 0 0)).run P w.drew = .ok ([] : List Value).toArray w.drew := by
    cases ad with
    | none => exact run_firstCells_none w.drew _ _ _ _
    | some ad' => exact run_firstCells_some w.drew _ _ ad' _ _ [] (by simp) (by simp)
  have hnc : Builtin.nextslicecap (0 + m) 0 = 0 + m := by unfold Builtin.nextslicecap; rw [if_pos (by omega)]
  have hfit : Builtin.nextslicecap (0 + m) 0 * inf.bytes ≤ 281474976710656 := by
    rw [hnc, hby, Nat.zero_add]
    exact Nat.le_trans (Nat.mul_le_mul hmax hbytes) (by decide)
  have hrun := run_append_grow_src (P := P) w ty ty ty0 e inf z hu hinf hz ad 0 0 [] hf _ m _ hs (by omega) (by omega) hfit
  have hge := grownCap_ge w (0 + m) 0 e
  have hle := grownCap_le_maxLen w (0 + m) 0 e (by unfold maxLen; omega)
  rw [Nat.zero_add] at hge hle hrun
  refine ⟨_, _, hrun, hge, hle, ?_, fun i j hi hj => ?_⟩
  · simp only [List.nil_append, Array.size_append, List.size_toArray]
    rw [size_zeroCells, flat_length, hzs, ← Nat.add_mul]
    congr 1
    omega
  · have hlt : i * n + j < m * n := by
      have : (i + 1) * n ≤ m * n := Nat.mul_le_mul_right _ hi
      rw [Nat.add_mul, Nat.one_mul] at this
      omega
    have e2 := flat_getD (n := n) vs m i j hi hj
    rw [List.nil_append, Array.getElem?_append_left (by simp only [List.size_toArray]; rw [flat_length]; exact hlt)]
    rw [List.getD_eq_getElem?_getD] at e2
    rw [List.getElem?_toArray]
    rcases h9 : (((List.range m).map fun i => (List.range n).map fun j => vs i j).flatten)[i * n + j]? with _ | u
    · rw [List.getElem?_eq_none_iff, flat_length] at h9; omega
    · rw [h9] at e2; simp only [Option.getD_some] at e2; rw [e2]
/-- append of a slice behind a row of the call's own -/
theorem step_append (s x : Operand) (ty : TypeId) {e : TypeId} {n bytes : Nat} [hS : Sli P ty e n bytes] {k len : Nat} {rows more : List (List T)} (hs : ρ s = .c (.own k len)) (ho : hget H k = some (.row e n rows)) (hl : len = rows.length) (hx : ρ x = .c (.t (.s more))) (hn : ∀ i, i < more.length → (more.getD i []).length = n)
    (hmax : rows.length + more.length ≤ 1000000000) (hbytes : bytes ≤ 1000) :
    StepK P .w ⟨dst, .call { callee := .builtin .append, args := #[s, x], argTypes := #[ty, ty] }, ty0, pos, af, g⟩ ρ H (hset H k (.row e n (rows ++ more))) (.c (.own k (rows.length + more.length))) := by
  intro E c a w K Q hC hxx hK
  have hF := sli_facts hS.h
  obtain ⟨inf, z, hinf, hz, hsz, hby, hzs⟩ := hF.i
  have hsv := hxx s (by simp [Op.operands, Call.operands])
  rw [hs] at hsv
  have es := cown hsv ho hl
  have hxv := hxx x (by simp [Op.operands, Call.operands])
  rw [hx] at hxv
  obtain ⟨hpn, xs, hrow0, hrr, _⟩ := hC.obj k _ ho
  have hbound : (rows.length + more.length) * bytes ≤ 140737488355328 := Nat.le_trans (Nat.mul_le_mul hmax hbytes) (by decide)
  rcases hrow0 with ⟨az, ez, e0, _⟩ | ⟨g, cp, cur, eg, hg1, hg2, hg3, hg4, hg5⟩
  · obtain rfl : rows = [] := List.length_eq_zero_iff.1 e0
    have hbz : blk (c.m k) = none := by rw [ez]; cases az <;> rfl
    rw [ez] at es
    simp only [List.nil_append, List.length_nil, Nat.zero_add] at hK hmax ⊢
    have hnil : more = [] → (∀ cap2 ad2, a.eval x = .slice ad2 0 cap2 → Oper.wp P ⟨dst, .call { callee := .builtin .append, args := #[s, x], argTypes := #[ty, ty] }, ty0, pos, af, g⟩ a w K Q) := fun hm cap2 ad2 hval => by
      subst hm
      have hrun : (Builtin.append_ #[ty, ty] ty0 #[.slice az 0 0, .slice ad2 0 cap2]).run P w = .ok (.slice az 0 0) w := by
        cases az <;> cases ad2 <;> simp [Builtin.append_, run_underlying hF.u, Go.sizeOf, typeInfo, hinf, Builtin.lenOf, Builtin.firstCells, loadCells, loadCellsFrom, storeCells]
      unfold Oper.wp execOp
      simp only [resolve, invoke, builtin, Sem.run_bind, Sem.run_pure, Result.andThen_ok, List.map_toArray, List.map_cons, List.map_nil, es, hval, hrun]
      show K _ w
      rw [hset_same H k _ ho] at hK
      exact hK _ c w hC (Later.refl _ _ _) (.c (.own ho rfl (Nat.le_refl _) (fun _ => ez.symm)))
    generalize hval : a.eval x = val at hxv
    cases hxv with
    | c hxv => cases hxv with
      | t hxv =>
        cases hxv with
        | e ad cap => exact hnil rfl cap ad hval
        | s b off cap n' rows' vs g1 g2 gn gc gr =>
          by_cases h0 : more.length = 0
          · have hm : more = [] := List.length_eq_zero_iff.1 h0
            exact hnil hm cap (some ⟨b, off, none⟩) (by rw [hval, h0])
          · have hnn : n' = n := by rw [← gn 0 (by omega)]; exact hn 0 (by omega)
            subst hnn
            obtain ⟨CC, cp, z1, z2, z3, z4, z5⟩ := zgrow (P := P) (ty0 := ty0) w az ty hF.u hinf hz hsz hby hzs hpn hmax hbytes (by omega) vs gc (fun i j hi hj => (gr i j hi hj).one) (cap := cap)
            obtain ⟨hC2, hl2⟩ := hC.drew (w' := w.drew) rfl rfl rfl rfl
            obtain ⟨c', k1, k2, k3⟩ := hC2.bornRow k e n' hpn more (by omega) (.inr ⟨ho, hbz⟩) CC cp z2 z3 z4 gn vs z5 (fun i j hi hj => (gr i j hi hj).mono hl2.cell)
            unfold Oper.wp execOp
            simp only [resolve, invoke, builtin, Sem.run_bind, Sem.run_pure, Result.andThen_ok, List.map_toArray, List.map_cons, List.map_nil, es, hval, z1]
            exact hK _ c' _ k1 (hl2.trans k2) (.c k3)
  have hrow : w.ownsRow 0 e n (c.m k) rows.length xs := ⟨(show Owns w e n (c.m k) rows.length xs from .inr ⟨g, cp, cur, eg, hg1, hg2, hg3, hg4, hg5⟩).len, .inr ⟨g, cp + 1, cur, eg, Nat.zero_le _, hg1, hg2, hg3, hg4, hg5⟩⟩
  have hbk : blk (c.m k) = (c.m k).ownBlock := by rw [eg]; rfl
  generalize hval : a.eval x = val at hxv
  cases hxv with
  | c hxv => cases hxv with
    | t hxv =>
      cases hxv with
      | e ad cap =>
        have hrun : (Builtin.append_ #[ty, ty] ty0 #[c.m k, .slice ad 0 cap]).run P w = .ok (c.m k) w := by
          rcases hrow.2 with ⟨e1, e2⟩ | ⟨g', cap', cur, e1, _, _, hnc, _⟩
          · rw [e1]; cases ad <;> simp [Builtin.append_, run_underlying hF.u, Go.sizeOf, typeInfo, hinf, Builtin.lenOf, Builtin.firstCells, loadCells, loadCellsFrom]
          · rw [e1]; cases ad <;> simp [Builtin.append_, run_underlying hF.u, Go.sizeOf, typeInfo, hinf, Builtin.lenOf, Builtin.firstCells, loadCells, loadCellsFrom, hnc, storeCells]
        unfold Oper.wp execOp
        simp only [resolve, invoke, builtin, Sem.run_bind, Sem.run_pure, Result.andThen_ok, List.map_toArray, List.map_cons, List.map_nil, es, hval, hrun]
        show K _ w
        simp only [List.append_nil, List.length_nil, Nat.add_zero] at hK ⊢
        rw [hset_same H k _ ho] at hK
        exact hK (c.m k) c w hC (Later.refl _ _ _) (.c (.own ho (ownsRow_one hrow) (Nat.le_refl _) (fun _ => rfl)))
      | s b off cap n' rows' vs g1 g2 gn gc gr =>
        by_cases h0 : more.length = 0
        · have hm : more = [] := List.length_eq_zero_iff.1 h0
          subst hm
          have hrun : (Builtin.append_ #[ty, ty] ty0 #[c.m k, .slice (some ⟨b, off, none⟩) 0 cap]).run P w = .ok (c.m k) w := by
            rcases hrow.2 with ⟨e1, e2⟩ | ⟨g', cap', cur, e1, _, _, hnc, _⟩
            · rw [e1]; simp [Builtin.append_, run_underlying hF.u, Go.sizeOf, typeInfo, hinf, Builtin.lenOf, Builtin.firstCells, loadCells, loadCellsFrom]
            · rw [e1]; simp [Builtin.append_, run_underlying hF.u, Go.sizeOf, typeInfo, hinf, Builtin.lenOf, Builtin.firstCells, loadCells, loadCellsFrom, hnc, storeCells]
          unfold Oper.wp execOp
          simp only [resolve, invoke, builtin, Sem.run_bind, Sem.run_pure, Result.andThen_ok, List.map_toArray, List.map_cons, List.map_nil, es, hval, List.length_nil, hrun]
          show K _ w
          simp only [List.append_nil, List.length_nil, Nat.add_zero] at hK ⊢
          rw [hset_same H k _ ho] at hK
          exact hK (c.m k) c w hC (Later.refl _ _ _) (.c (.own ho (ownsRow_one hrow) (Nat.le_refl _) (fun _ => rfl)))
        · have hnn : n' = n := by rw [← gn 0 (by omega)]; exact hn 0 (by omega)
          subst hnn
          refine wp_append_lies w s x ty rfl 0 e inf z n' bytes hF.u hinf hz hsz hby hzs hpn (c.m k) rows.length xs es hrow ⟨b, off, none⟩ more.length cap (((List.range more.length).map fun i => (List.range n').map fun j => vs i j).flatten) hval (flat_length vs _) (fun j u hu => ?_) (fun u hu => ?_) (by omega) (by unfold maxLen; omega) hbound (Nat.zero_le _) w.heap.size rfl ?_
          · have hj : j < more.length * n' := by
              rw [← flat_length (n := n') vs]
              rcases Nat.lt_or_ge j (((List.range more.length).map fun i => (List.range n').map fun j => vs i j).flatten).length with h | h
              · exact h
              · rw [List.getElem?_eq_none h] at hu; cases hu
            have hi : j / n' < more.length := Nat.div_lt_of_lt_mul (by rw [Nat.mul_comm]; exact hj)
            have hq : j % n' < n' := Nat.mod_lt _ hpn
            have e1 : j / n' * n' + j % n' = j := by rw [Nat.mul_comm]; exact Nat.div_add_mod j n'
            have e2 := flat_getD (n := n') vs more.length (j / n') (j % n') hi hq
            rw [e1, List.getD_eq_getElem?_getD, hu] at e2
            simp only [Option.getD_some] at e2
            rw [add_plain, ← e1, ← Nat.add_assoc, (gc _ _ hi hq).2, e2]
          · obtain ⟨l, hl1, hl2⟩ := List.mem_flatten.1 hu
            obtain ⟨i, hi, rfl⟩ := List.mem_map.1 hl1
            obtain ⟨j, hj, rfl⟩ := List.mem_map.1 hl2
            exact (gr i j (by simpa using hi) (by simpa using hj)).one
          · intro g0 cap0 w' hown hgrow hat hlt
            obtain ⟨c', k1, k2, k3⟩ := hC.grownRow ho _ xs _ hrow hbk hown hgrow (fun b hb => by
              injection hb with hb
              subst hb
              exact hat) (flat_length vs _) (by omega) gn (fun i j hi hj => by rw [flat_getD vs _ i j hi hj]; exact gr i j hi hj)
            exact hK _ c' w' k1 k2 (.c k3)
theorem step_len_own (sty : TypeId) (x : Operand) {e' : TypeId} {n' bytes : Nat} [hS : Sli P sty e' n' bytes] {k len : Nat} {e : TypeId} {n : Nat} {rows : List (List T)} (hx : ρ x = .c (.own k len)) (ho : hget H k = some (.row e n rows)) (hl : len = rows.length) :
    StepK P .r ⟨dst, .call { callee := .builtin .len, args := #[x], argTypes := #[sty] }, ty0, pos, af, g⟩ ρ H H (.c (.t (.v (.int .i64 len)))) :=
  ⟨rfl, fun H2 hsub => step_val (H := H2) fun E c w a hC h => by
    have ho := hsub _ _ ho
    have hv := h x (by simp [Op.operands, Call.operands])
    rw [hx] at hv
    have es := cown hv ho hl
    obtain ⟨hpn, xs, hrow, _⟩ := hC.obj k _ ho
    have hF := sli_facts hS.h
    refine ⟨.int .i64 len, ?_, .c (.t (.v _ rfl))⟩
    rcases hrow with ⟨az, e1, e2, _⟩ | ⟨g', cap', cur, e1, _⟩
    · simp [execOp, resolve, invoke, builtin, Builtin.len_, run_underlying hF.u, es, e1, goInt, hl, e2]
    · simp [execOp, resolve, invoke, builtin, Builtin.len_, run_underlying hF.u, es, e1, goInt, hl]⟩
end
end Go.Proofs.YtoebfmhogkjmgaaGreatDoor.Fx
