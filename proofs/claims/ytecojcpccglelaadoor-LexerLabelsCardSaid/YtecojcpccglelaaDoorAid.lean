/- Small laws on memory for the printed walks: a cell of a block behind a store into the same block, without a condition; a walk at a world of which only what is told is kept. -/
import Derived.Laws.Entries
import Derived.Calls
namespace Go.Proofs.YtecojcpccglelaaDoor.Aid
open Go

theorem cell_lit (w : World) (g i j : Nat) (v : Value) : (w.setCell ⟨g, i, none⟩ v).cell? ⟨g, j, none⟩ = if i = j then (w.cell? ⟨g, j, none⟩).map (fun _ => v) else w.cell? ⟨g, j, none⟩ := by
  by_cases h : i = j
  · subst h
    rw [if_pos rfl]
    cases hc : w.cell? ⟨g, i, none⟩ with
    | some u => exact World.cell?_setCell_same w _ v hc
    | none =>
      simp only [World.setCell, World.cell?, Array.getElem?_modify, if_true] at hc ⊢
      cases hh : w.heap[g]? with
      | none => simp
      | some o =>
        rw [hh] at hc
        cases o <;> simp_all
  · rw [if_neg h]
    exact World.cell?_setCell_other w _ _ v (fun e => h (by injection e))

theorem world_gen {P : Program} {c : Code} {Q : Exit → Act → World → Prop} {a : Act} {W : World} (X : World → Prop) (hX : X W) (h : ∀ W', X W' → c.wp P Q a W') : c.wp P Q a W := h W hX

end Go.Proofs.YtecojcpccglelaaDoor.Aid
