/-
  The walk of the statement ShowExprs.
-/
import Derived.Test.YtnlikhjmmnaknaaGreatDoorGE
import Derived.Test.YtnlikhjmmnaknaaGreatDoorGC
namespace Go.Proofs.YtnlikhjmmnaknaaGreatDoor
open Go.RowKit

theorem shown_not {e : Ex} (h : e.right = false) : shown e = (⟨#[]⟩, 2) := by unfold shown; rw [h]; rfl
theorem shown_big {e : Ex} (h : e.right = true) (hf : fitsT (e.txt 0) = false) : shown e = (⟨#[]⟩, 3) := by unfold shown; rw [h, hf]; rfl
theorem shown_fits {e : Ex} (h : e.right = true) (hf : fitsT (e.txt 0) = true) : shown e = (⟨(e.txt 0).toArray⟩, 0) := by unfold shown; rw [h, hf]; rfl

end Go.Proofs.YtnlikhjmmnaknaaGreatDoor
