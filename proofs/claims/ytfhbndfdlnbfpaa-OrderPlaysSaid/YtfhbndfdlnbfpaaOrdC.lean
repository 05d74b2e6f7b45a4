/- The heap in memory: what a walk is told of it, and how it fares under stores. -/
import Derived.Test.YtfhbndfdlnbfpaaOrdB
namespace Go.Proofs.Ytfhbndfdlnbfpaa
open Go.RowKit
set_option linter.unusedVariables false
/-- the places tell where each variable stands in the heap; -1: nowhere -/
structure Placed (m : Nat) (hp : List Nat) (pl : List Int) : Prop where
  len : pl.length = m
  at_ : ∀ i, i < hp.length → pl[hp.getD i 0]? = some (i : Int)
  out : ∀ v, v < m → v ∉ hp → pl[v]? = some (-1)
def swapL (hp : List Nat) (i k : Nat) : List Nat := (hp.set i (hp.getD k 0)).set k (hp.getD i 0)
def nats (l : List Nat) : List Value := l.map fun v : Nat => Value.int .i64 (v : Int)
def ints (l : List Int) : List Value := l.map (Value.int .i64)
theorem swapL_len (hp : List Nat) (i k : Nat) : (swapL hp i k).length = hp.length := by simp [swapL]
theorem getD_lt (l : List Nat) (i : Nat) (h : i < l.length) : l.getD i 0 = l[i] := by simp [h]
theorem swapL_perm (hp : List Nat) (i k : Nat) (hi : i < hp.length) (hk : k < hp.length) : (swapL hp i k).Perm hp := by
  unfold swapL
  rw [getD_lt _ _ hi, getD_lt _ _ hk]
  exact List.set_set_perm hi hk
theorem swapL_get (hp : List Nat) (i k j : Nat) (hi : i < hp.length) (hk : k < hp.length) :
    (swapL hp i k).getD j 0 = if j = k then hp.getD i 0 else if j = i then hp.getD k 0 else hp.getD j 0 := by
  unfold swapL
  by_cases hj : j = k
  · subst hj; simp [hk]
  · rw [if_neg hj]
    by_cases hj2 : j = i
    · subst hj2; simp [Ne.symm hj, hi]
    · simp [Ne.symm hj, Ne.symm hj2, hj2]
theorem nodup_inj {l : List Nat} (h : l.Nodup) {i k : Nat} (hi : i < l.length) (hk : k < l.length) (e : l.getD i 0 = l.getD k 0) : i = k := by
  rw [getD_lt _ _ hi, getD_lt _ _ hk] at e
  rcases Nat.lt_trichotomy i k with hlt | heq | hgt
  · exact absurd e (List.pairwise_iff_getElem.1 h i k hi hk hlt)
  · exact heq
  · exact absurd e.symm (List.pairwise_iff_getElem.1 h k i hk hi hgt)
theorem getD_mem (l : List Nat) (i : Nat) (h : i < l.length) : l.getD i 0 ∈ l := by rw [getD_lt _ _ h]; exact List.getElem_mem h
theorem Placed.swap {m : Nat} {hp : List Nat} {pl : List Int} (h : Placed m hp pl) (hn : hp.Nodup) (hm : ∀ v ∈ hp, v < m) {i k : Nat} (hi : i < hp.length) (hk : k < hp.length) :
    Placed m (swapL hp i k) ((pl.set (hp.getD k 0) i).set (hp.getD i 0) k) := by
  have l1 : hp.getD i 0 < pl.length := by rw [h.len]; exact hm _ (getD_mem _ _ hi)
  have l2 : hp.getD k 0 < pl.length := by rw [h.len]; exact hm _ (getD_mem _ _ hk)
  refine ⟨by simp [h.len], fun j hj => ?_, fun v hv hnv => ?_⟩
  · rw [swapL_len] at hj
    rw [swapL_get _ _ _ _ hi hk]
    by_cases e1 : j = k
    · subst e1; rw [if_pos rfl, List.getElem?_set_self (by simpa using l1)]
    · rw [if_neg e1]
      by_cases e2 : j = i
      · subst e2
        rw [if_pos rfl, List.getElem?_set_ne (fun e => e1 (nodup_inj hn hi hk e)), List.getElem?_set_self l2]
      · rw [if_neg e2, List.getElem?_set_ne (fun e => e2 (nodup_inj hn hj hi e.symm)), List.getElem?_set_ne (fun e => e1 (nodup_inj hn hj hk e.symm))]
        exact h.at_ j hj
  · have hnv' : v ∉ hp := fun hx => hnv ((swapL_perm hp i k hi hk).mem_iff.2 hx)
    have n1 : hp.getD i 0 ≠ v := fun e => hnv' (e ▸ getD_mem _ _ hi)
    have n2 : hp.getD k 0 ≠ v := fun e => hnv' (e ▸ getD_mem _ _ hk)
    rw [List.getElem?_set_ne n1, List.getElem?_set_ne n2]
    exact h.out v hv hnv'
/-- the heap's record at block H, its scores at S, its places at P, its variables as the slice gv tells -/
structure HeapAt (w : World) (H S P : Nat) (gv : Value) (sc : List Int) (hp : List Nat) (pl : List Int) : Prop where
  c0 : w.cell? ⟨H, 0, none⟩ = some (.slice (some ⟨S, 0, none⟩) sc.length sc.length)
  c1 : w.cell? ⟨H, 1, none⟩ = some gv
  c2 : w.cell? ⟨H, 2, none⟩ = some (.slice (some ⟨P, 0, none⟩) sc.length sc.length)
  fr : w.frozen? ⟨H, 1, none⟩ = false
  rS : w.ownsRow 0 3 1 (.slice (some ⟨S, 0, none⟩) sc.length sc.length) sc.length (ints sc)
  rG : w.ownsRow 0 3 1 gv hp.length (nats hp)
  rP : w.ownsRow 0 3 1 (.slice (some ⟨P, 0, none⟩) sc.length sc.length) sc.length (ints pl)
  pl : Placed sc.length hp pl
  nd : hp.Nodup
  rg : ∀ v ∈ hp, 1 ≤ v ∧ v < sc.length
  sz : sc.length ≤ 401
  HS : S ≠ H
  HP : P ≠ H
  SP : S ≠ P
  GH : gv.ownBlock ≠ some H
  GS : gv.ownBlock ≠ some S
  GP : gv.ownBlock ≠ some P
/-- what a method of the heap leaves as it was -/
structure Kept (L : List Nat) (w w' : World) : Prop where
  os : w'.os = w.os
  tape : w'.tape = w.tape
  output : w'.output = w.output
  size : w.heap.size ≤ w'.heap.size
  block : ∀ b, b < w.heap.size → b ∉ L → w'.heap[b]? = w.heap[b]?
theorem Kept.refl (L : List Nat) (w : World) : Kept L w w := ⟨rfl, rfl, rfl, Nat.le_refl _, fun _ _ _ => rfl⟩
theorem Kept.trans {L : List Nat} {a b c : World} (h : Kept L a b) (k : Kept L b c) : Kept L a c :=
  ⟨k.os.trans h.os, k.tape.trans h.tape, k.output.trans h.output, Nat.le_trans h.size k.size, fun x hx hn => (k.block x (Nat.lt_of_lt_of_le hx h.size) hn).trans (h.block x hx hn)⟩
theorem Kept.drewN {L : List Nat} {a b : World} (h : Kept L a b) (q : Nat) : Kept L a (b.drewN q) := ⟨h.os, h.tape, h.output, h.size, h.block⟩
theorem Kept.setCell {L : List Nat} {a b : World} (h : Kept L a b) {p : Addr} (hp : p.block ∈ L) (u : Value) : Kept L a (b.setCell p u) := by
  have hb := (Below.refl 0 b).setCell (p := p) (Nat.zero_le _) u
  refine ⟨hb.os.trans h.os, hb.tape.trans h.tape, hb.output.trans h.output, Nat.le_trans h.size hb.size, fun x hx hn => ?_⟩
  rw [Below.heap_setCell b p u x (fun e => hn (by rw [e]; exact hp))]
  exact h.block x hx hn
theorem Kept.below {L : List Nat} {w w' : World} {B : Nat} (h : Kept L w w') (hB : B ≤ w.heap.size) (hL : ∀ x ∈ L, B ≤ x) : Below B w w' :=
  ⟨h.os, h.tape, h.output, h.size, fun k hk => h.block k (Nat.lt_of_lt_of_le hk hB) (fun hm => Nat.lt_irrefl _ (Nat.lt_of_lt_of_le hk (hL k hm)))⟩
theorem Kept.sub {L L' : List Nat} {w w' : World} (h : Kept L w w') (hs : ∀ b, b < w.heap.size → b ∈ L → b ∈ L') : Kept L' w w' :=
  ⟨h.os, h.tape, h.output, h.size, fun b hb hn => h.block b hb (fun hm => hn (hs b hb hm))⟩
theorem Below.kept {w w' : World} (L : List Nat) (h : Below w.heap.size w w') : Kept L w w' := ⟨h.os, h.tape, h.output, h.size, fun b hb _ => h.block b hb⟩
theorem grown_set (w : World) (a : Addr) (u : Value) : w.grownBy (w.setCell a u) (some a.block) := by
  have hb := (Below.refl 0 w).setCell (p := a) (Nat.zero_le _) u
  exact ⟨hb.os, hb.tape, hb.output, hb.size, fun k hk hne => Below.heap_setCell _ _ _ _ (fun e => hne (by rw [e]))⟩
/-- an owned row stays where another block is stored to -/
theorem row_ne {w : World} {base : Nat} {e : TypeId} {size : Nat} {v : Value} {n : Nat} {xs : List Value} (h : w.ownsRow base e size v n xs) {a : Addr} (hne : v.ownBlock ≠ some a.block) (u : Value) :
    (w.setCell a u).ownsRow base e size v n xs := h.kept (grown_set w a u) (.inr hne)
theorem row_of_block {w w' : World} {base : Nat} {e : TypeId} {size : Nat} {v : Value} {n : Nat} {xs : List Value} (h : w.ownsRow base e size v n xs)
    (hb : ∀ g, v.ownBlock = some g → w'.heap[g]? = w.heap[g]?) : w'.ownsRow base e size v n xs := by
  obtain ⟨hl, h⟩ := h
  refine ⟨hl, ?_⟩
  rcases h with h | ⟨g, cap, cur, h1, h2, h3, h4⟩
  · exact .inl h
  · exact .inr ⟨g, cap, cur, h1, h2, by rw [hb g (by rw [h1]; rfl)]; exact h3, h4⟩
theorem HeapAt.drewN {w : World} {H S P : Nat} {gv : Value} {sc : List Int} {hp : List Nat} {pl : List Int} (h : HeapAt w H S P gv sc hp pl) (q : Nat) : HeapAt (w.drewN q) H S P gv sc hp pl :=
  ⟨h.c0, h.c1, h.c2, h.fr, h.rS, h.rG, h.rP, h.pl, h.nd, h.rg, h.sz, h.HS, h.HP, h.SP, h.GH, h.GS, h.GP⟩
theorem HeapAt.ltH {w : World} {H S P : Nat} {gv : Value} {sc : List Int} {hp : List Nat} {pl : List Int} (h : HeapAt w H S P gv sc hp pl) : H < w.heap.size := lt_of_cell h.c0
theorem HeapAt.ltS {w : World} {H S P : Nat} {gv : Value} {sc : List Int} {hp : List Nat} {pl : List Int} (h : HeapAt w H S P gv sc hp pl) : S < w.heap.size := (h.rS.lt S rfl).2
theorem HeapAt.ltP {w : World} {H S P : Nat} {gv : Value} {sc : List Int} {hp : List Nat} {pl : List Int} (h : HeapAt w H S P gv sc hp pl) : P < w.heap.size := (h.rP.lt P rfl).2
theorem HeapAt.of_blocks {w w' : World} {H S P : Nat} {gv : Value} {sc : List Int} {hp : List Nat} {pl : List Int} (h : HeapAt w H S P gv sc hp pl)
    (hH : w'.heap[H]? = w.heap[H]?) (hS : w'.heap[S]? = w.heap[S]?) (hP : w'.heap[P]? = w.heap[P]?) (hG : ∀ g, gv.ownBlock = some g → w'.heap[g]? = w.heap[g]?) : HeapAt w' H S P gv sc hp pl :=
  ⟨by rw [World.cell?_of_block (w := w) hH]; exact h.c0, by rw [World.cell?_of_block (w := w) hH]; exact h.c1, by rw [World.cell?_of_block (w := w) hH]; exact h.c2,
   by rw [World.frozen?_of_block (w := w) hH]; exact h.fr, row_of_block h.rS (fun g hg => by cases hg; exact hS), row_of_block h.rG hG, row_of_block h.rP (fun g hg => by cases hg; exact hP),
   h.pl, h.nd, h.rg, h.sz, h.HS, h.HP, h.SP, h.GH, h.GS, h.GP⟩
theorem HeapAt.kept {L : List Nat} {w w' : World} {H S P : Nat} {gv : Value} {sc : List Int} {hp : List Nat} {pl : List Int} (h : HeapAt w H S P gv sc hp pl) (hk : Kept L w w')
    (nH : H ∉ L) (nS : S ∉ L) (nP : P ∉ L) (nG : ∀ g, gv.ownBlock = some g → g ∉ L) : HeapAt w' H S P gv sc hp pl :=
  h.of_blocks (hk.block _ h.ltH nH) (hk.block _ h.ltS nS) (hk.block _ h.ltP nP) (fun g hg => hk.block g (h.rG.lt g hg).2 (nG g hg))
theorem nats_set (l : List Nat) (i v : Nat) : (nats l).set i (.int .i64 v) = nats (l.set i v) := by simp [nats]
theorem ints_set (l : List Int) (i : Nat) (v : Int) : (ints l).set i (.int .i64 v) = ints (l.set i v) := by simp [ints]
theorem nats_get (l : List Nat) (i : Nat) (h : i < l.length) : (nats l)[i]? = some (.int .i64 (l.getD i 0 : Nat)) := by simp [nats, h]
theorem ints_get (l : List Int) (i : Nat) (h : i < l.length) : (ints l)[i]? = some (.int .i64 (l.getD i 0)) := by simp [ints, h]
theorem HeapAt.swapped {w : World} {H S P G cg : Nat} {sc : List Int} {hp : List Nat} {pl : List Int} {n : Nat} (h : HeapAt w H S P (.slice (some ⟨G, 0, none⟩) n cg) sc hp pl)
    {i k : Nat} (hi : i < hp.length) (hk : k < hp.length) :
    HeapAt (swapW w G P i k (hp.getD i 0) (hp.getD k 0)) H S P (.slice (some ⟨G, 0, none⟩) n cg) sc (swapL hp i k) ((pl.set (hp.getD k 0) i).set (hp.getD i 0) k) ∧
    Kept [H, S, P, G] w (swapW w G P i k (hp.getD i 0) (hp.getD k 0)) := by
  have hn : n = hp.length := by
    rcases h.rG.2 with ⟨h1, _⟩ | ⟨g, cap, cur, h1, _⟩
    · cases h1
    · injection h1 with _ h1
  subst hn
  have gH : G ≠ H := fun e => h.GH (by rw [← e]; rfl)
  have gS : G ≠ S := fun e => h.GS (by rw [← e]; rfl)
  have gP : G ≠ P := fun e => h.GP (by rw [← e]; rfl)
  have hm : ∀ v ∈ hp, v < sc.length := fun v hv => (h.rg v hv).2
  refine ⟨⟨?_, ?_, ?_, ?_, ?_, ?_, ?_, h.pl.swap h.nd hm hi hk, (swapL_perm hp i k hi hk).nodup_iff.2 h.nd, fun v hv => h.rg v ((swapL_perm hp i k hi hk).mem_iff.1 hv), h.sz, h.HS, h.HP, h.SP, h.GH, h.GS, h.GP⟩, ?_⟩
  · unfold swapW; rw [cell_ne (addr_ne h.HP), cell_ne (addr_ne h.HP), cell_ne (addr_ne gH), cell_ne (addr_ne gH)]; exact h.c0
  · unfold swapW; rw [cell_ne (addr_ne h.HP), cell_ne (addr_ne h.HP), cell_ne (addr_ne gH), cell_ne (addr_ne gH)]; exact h.c1
  · unfold swapW; rw [cell_ne (addr_ne h.HP), cell_ne (addr_ne h.HP), cell_ne (addr_ne gH), cell_ne (addr_ne gH)]; exact h.c2
  · unfold swapW; simpa using h.fr
  · exact row_ne (row_ne (row_ne (row_ne h.rS (by simpa [Value.ownBlock] using gS.symm) _) (by simpa [Value.ownBlock] using gS.symm) _) (by simpa [Value.ownBlock] using h.SP) _) (by simpa [Value.ownBlock] using h.SP) _
  · have r1 := ((h.rG.stored i (.int .i64 (hp.getD k 0 : Nat))).1.stored k (.int .i64 (hp.getD i 0 : Nat))).1
    rw [nats_set, nats_set] at r1
    rw [swapL_len]
    exact row_ne (row_ne r1 (by simpa [Value.ownBlock] using gP) _) (by simpa [Value.ownBlock] using gP) _
  · have r0 := row_ne (row_ne h.rP (a := ⟨G, i, none⟩) (by simpa [Value.ownBlock] using gP.symm) (.int .i64 (hp.getD k 0 : Nat))) (a := ⟨G, k, none⟩) (by simpa [Value.ownBlock] using gP.symm) (.int .i64 (hp.getD i 0 : Nat))
    have r1 := ((r0.stored (hp.getD k 0) (.int .i64 i)).1.stored (hp.getD i 0) (.int .i64 k)).1
    rw [ints_set, ints_set] at r1
    exact r1
  · unfold swapW
    exact ((((Kept.refl _ w).setCell (by simp) _).setCell (by simp) _).setCell (by simp) _).setCell (by simp) _
/-- the heap's swap, whole -/
theorem swap_any (w : World) (H S P G cg : Nat) (sc : List Int) (hp : List Nat) (pl : List Int) (n : Nat) (h : HeapAt w H S P (.slice (some ⟨G, 0, none⟩) n cg) sc hp pl) (i k : Nat) (hi : i < hp.length) (hk : k < hp.length) (hl : hp.length ≤ 1000) :
    Calls Try.prog 27 #[.pointer (some ⟨H, 0, none⟩), .int .i64 i, .int .i64 k] w fun e w' => e = .returned (.tuple #[]) ∧
      ∃ pl', HeapAt w' H S P (.slice (some ⟨G, 0, none⟩) n cg) sc (swapL hp i k) pl' ∧ Kept [H, S, P, G] w w' := by
  have hn : n = hp.length := by
    rcases h.rG.2 with ⟨h1, _⟩ | ⟨g, cap, cur, h1, _⟩
    · cases h1
    · injection h1 with _ h1
  have gH : G ≠ H := fun e => h.GH (by rw [← e]; rfl)
  have gP : G ≠ P := fun e => h.GP (by rw [← e]; rfl)
  have hs := h.swapped hi hk
  have hm : ∀ v ∈ hp, v < sc.length := fun v hv => (h.rg v hv).2
  have hsz := h.sz
  have li : hp.getD i 0 < sc.length := hm _ (getD_mem _ _ hi)
  have lk : hp.getD k 0 < sc.length := hm _ (getD_mem _ _ hk)
  have hpl := h.pl.len
  subst hn
  have ci : w.cell? ⟨G, i, none⟩ = some (.int .i64 (hp.getD i 0 : Nat)) := by rw [h.rG.cellAt i (by omega), nats_get _ _ hi]
  have ck : w.cell? ⟨G, k, none⟩ = some (.int .i64 (hp.getD k 0 : Nat)) := by rw [h.rG.cellAt k (by omega), nats_get _ _ hk]
  have cp1 : ∃ u, w.cell? ⟨P, hp.getD i 0, none⟩ = some u := ⟨_, by rw [h.rP.cellAt _ (by omega)]; exact ints_get _ _ (by omega)⟩
  have cp2 : ∃ u, w.cell? ⟨P, hp.getD k 0, none⟩ = some u := ⟨_, by rw [h.rP.cellAt _ (by omega)]; exact ints_get _ _ (by omega)⟩
  by_cases hik : i = k
  · subst hik
    refine (swap_eq H G P _ _ _ _ i _ w h.c1 h.c2 (by omega) (by omega) hi li gH h.HP gP ci (fun j => h.rG.frozenAt j) (fun j => h.rP.frozenAt j) cp1).mono ?_
    rintro e w' ⟨rfl, q, rfl⟩
    exact ⟨rfl, _, hs.1.drewN q, hs.2.drewN q⟩
  · refine (swap_ne H G P _ _ _ _ i k _ _ w h.c1 h.c2 (by omega) (by omega) hi hk li lk hik gH h.HP gP ci ck (fun j => h.rG.frozenAt j) (fun j => h.rP.frozenAt j) cp1 cp2).mono ?_
    rintro e w' ⟨rfl, q, rfl⟩
    exact ⟨rfl, _, hs.1.drewN q, hs.2.drewN q⟩
end Go.Proofs.Ytfhbndfdlnbfpaa
