/- The contract of the walk of Push of a variable that is out, whole. -/
import Derived.Test.YtfhbndfdlnbfpaaOrdJ
import Derived.Deep.DeepAppendRoom
namespace Go.Proofs.Ytfhbndfdlnbfpaa
open Go.RowKit
set_option linter.unusedVariables false
theorem Kept.alloc {L : List Nat} {w : World} (b : Obj) : Kept L w (w.alloc b) :=
  Below.kept L ((Below.refl _ _).alloc (Nat.le_refl _) _)
theorem Kept.grown {w w' : World} {g : Nat} (h : w.grownBy w' (some g)) : Kept [g] w w' :=
  ⟨h.os, h.tape, h.output, h.size, fun b hb hn => h.block b hb (fun e => hn (by simp at e; simp [e]))⟩
def PushPost (w : World) (H S P G cg : Nat) (sc : List Int) (hp : List Nat) (v : Nat) (w' : World) : Prop :=
  ∃ hp' pl', HeapAt w' H S P (.slice (some ⟨G, 0, none⟩) hp'.length cg) sc hp' pl' ∧ hp'.Perm (v :: hp) ∧ HeapFrom sc hp' 0 ∧ Kept [H, S, P, G] w w'
set_option maxRecDepth 1000000 in
set_option maxHeartbeats 3200000 in
theorem push_in (w : World) (H S P G cg n : Nat) (sc : List Int) (hp : List Nat) (pl : List Int) (h : HeapAt w H S P (.slice (some ⟨G, 0, none⟩) n cg) sc hp pl) (hh : HeapFrom sc hp 0) (v : Nat) (h1 : 1 ≤ v) (h2 : v < sc.length) (hv : v ∉ hp) (hc : sc.length ≤ cg + 1) :
    Calls Try.prog 19 #[.pointer (some ⟨H, 0, none⟩), .int .i64 v] w fun e w' => e = .returned (.tuple #[]) ∧ PushPost w H S P G cg sc hp v w' := by
  have hn := heap_n h
  have hln : hp.length + 1 < sc.length := by
    have := nodup_len sc.length (0 :: v :: hp) (by
      simp only [List.nodup_cons, List.mem_cons, not_or]
      exact ⟨⟨by omega, fun h0 => by have := (h.rg 0 h0).1; omega⟩, hv, h.nd⟩) (by
      intro u hu
      rcases List.mem_cons.1 hu with rfl | hu
      · omega
      · rcases List.mem_cons.1 hu with rfl | hu
        · exact h2
        · exact (h.rg u hu).2)
    simp only [List.length_cons] at this; omega
  have HV : Hid (knownB sc.length (v : Int) = true) := by unfold knownB; exact decide_eq_true (by omega)
  have c1 := h.c1
  have c2 := h.c2
  have cv := pl_get h h2
  have hz := h.sz
  have hGH : G ≠ H := fun e => h.GH (by rw [← e]; rfl)
  have hGP : G ≠ P := fun e => h.GP (by rw [← e]; rfl)
  have hHP := h.HP
  have hlH := h.ltH
  have hlP := h.ltP
  have HH := Lib.hid h
  have HF := Lib.hid hh
  have fp := h.rP.frozenAt v
  have v0 : (0 : Int) ≤ (v : Int) := by omega
  have v1 : (v : Int) < (sc.length : Int) := by omega
  rw [h.pl.outt h2 hv] at cv
  have HN := Lib.hid hn
  have hn1 : n + 1 < sc.length := by omega
  clear h hh hn hln
  go_enter Try.func19, Try.ntmps19
  go_wp2_with fail
  refine (known_any _ _ _ _ _ _ _ _ HH.out v true HV).mono ?_
  rintro e w1 ⟨rfl, rfl⟩
  go_wp2_with fail
  go_region
  generalize hwq : (w1.setCell ⟨P, v, none⟩ (.int .i64 n)).drew = wq
  have d1 : wq.cell? ⟨H, 1, none⟩ = some (.slice (some ⟨G, 0, none⟩) n cg) := by rw [← hwq, World.cell?_drew, cell_ne (addr_ne hHP)]; exact c1
  have rq : wq.ownsRow 0 3 1 (.slice (some ⟨G, 0, none⟩) n cg) n (nats hp) := by
    have := HH.out.rG
    rw [← HN.out] at this
    rw [← hwq]
    exact row_ne this (a := ⟨P, v, none⟩) HH.out.GP _
  have hlG : G < wq.heap.size := (rq.lt G rfl).2
  have hlH' : H < wq.heap.size := by rw [← hwq]; simpa [World.setCell] using hlH
  have HRQ := Lib.hid rq
  have hcg : n + 1 ≤ cg := by omega
  obtain ⟨ii, hi, hiz⟩ : ∃ i, Try.prog.info? 3 = some i ∧ i.size = 1 := by
    have := info_int
    cases hh : Try.prog.info? 3 with
    | none => rw [hh] at this; cases this
    | some i => rw [hh] at this; simp at this; exact ⟨i, rfl, this.2.1⟩
  have HI := Lib.hid hi
  have HIZ := Lib.hid hiz
  clear rq hi hiz
  go_wp2_with (at_builtin; refine wpList_append_own_spare _ rfl _ _ 23 rfl 0 3 ii 1 Try.underlying23 HI.out HIZ.out G n cg _ rfl (HRQ.out.alloc _) ⟨wq.heap.size, 0, none⟩ 1 1 [.int .i64 v] rfl rfl ?c1 ?c2 ?c3 ?_)
  case c1 => exact cell_one_new _ _ _
  case c2 => intro u hu; rw [List.mem_singleton] at hu; subst hu; rfl
  case c3 => exact hcg
  intro w2 hown2 hgrow2
  have kg : Kept [G] (w1.setCell ⟨P, v, none⟩ (.int .i64 n)) w2 := by
    refine Kept.trans ?_ (Kept.grown hgrow2)
    rw [← hwq]
    exact ((Kept.refl _ _).drewN 1).trans (Kept.alloc _)
  have HP := Lib.hid (HeapAt.push HH.out h1 h2 hv (by rw [← HN.out]; exact kg) hown2)
  have bH := kg.block H (by simpa [World.setCell] using hlH) (by simp [hGH.symm])
  have e1 : w2.cell? ⟨H, 1, none⟩ = some (.slice (some ⟨G, 0, none⟩) n cg) := by
    rw [World.cell?_of_block (w := w1.setCell ⟨P, v, none⟩ (.int .i64 n)) (a := ⟨H, 1, none⟩) bH, cell_ne (addr_ne hHP)]; exact c1
  have e2 : w2.frozen? ⟨H, 1, none⟩ = false := by
    rw [World.frozen?_of_block (w := w1.setCell ⟨P, v, none⟩ (.int .i64 n)) (a := ⟨H, 1, none⟩) bH, World.frozen?_setCell]; exact HH.out.fr
  have g2 := HP.out.1.c2
  have g3 := pl_get HP.out.1 h2
  have g4 : (pl.set v (hp.length : Int)).getD v 0 = (n : Int) := by
    have : v < pl.length := by rw [HH.out.pl.len]; exact h2
    simp [this, HN.out]
  rw [g4] at g3
  clear g4 kg hown2 hgrow2 bH
  go_wp2_with fail
  refine (up_any _ H S P G cg sc _ _ (n + 1) HP.out.1 n (by have := HN.out; simp; omega) (by have := HN.out; simp; omega) (by have := upInv_snoc HF.out v; rw [← HN.out] at this; exact this)).mono ?_
  rintro e w3 ⟨rfl, hp3, pl3, hA3, hperm3, hf3, hk3⟩
  have HE : Hid (PushPost w1 H S P G cg sc hp v w3) := by
    refine ⟨hp3, pl3, ?_, hperm3.trans (List.perm_append_singleton v hp), hf3, HP.out.2.trans hk3⟩
    have := heap_n hA3
    rw [← this]; exact hA3
  clear hA3 hperm3 hf3 hk3
  go_wp2_with fail
  go_end0
  exact ⟨rfl, HE.out⟩
end Go.Proofs.Ytfhbndfdlnbfpaa
