/-
  Two boxed parameters.
-/
import Derived.Test.YtnlikhjmmnaknaaGreatDoorGA
namespace Go.Proofs.YtnlikhjmmnaknaaGreatDoor
open Go.RowKit

/-- Two boxed parameters. -/
theorem boxed2_cell {w wr : World} {cs ds : Array Value} {t u : TypeId} (h : Below (w.heap.size + 1 + 1) ((w.alloc (.cells cs t)).alloc (.cells ds u)) wr) (i : Nat) :
    wr.cell? ⟨w.heap.size, i, none⟩ = cs[i]? ∧ wr.cell? ⟨w.heap.size + 1, i, none⟩ = ds[i]? := by
  have h1 := h.cell (p := ⟨w.heap.size, i, none⟩) (by simp; omega)
  have h2 := h.cell (p := ⟨w.heap.size + 1, i, none⟩) (by simp)
  have h3 := World.cell?_alloc_new (w := w.alloc (.cells cs t)) ds u i
  rw [World.size_alloc] at h3
  refine ⟨?_, h2.trans h3⟩
  rw [h1, World.cell?_alloc_lt (h := by simp), World.cell?_alloc_new]
theorem boxed2_below {w wr : World} {o o' : Obj} (h : Below (w.heap.size + 1 + 1) ((w.alloc o).alloc o') wr) : Below w.heap.size w wr :=
  (((Below.refl w.heap.size w).alloc (Nat.le_refl _) o).alloc (by simp) o').trans (h.mono (by omega))
theorem boxed2_size {w wr : World} {o o' : Obj} (h : Below (w.heap.size + 1 + 1) ((w.alloc o).alloc o') wr) : w.heap.size + 1 < wr.heap.size := by
  have := h.size
  simp at this
  omega

end Go.Proofs.YtnlikhjmmnaknaaGreatDoor
