/-
  The walk of the statement TreeRight: it returns true, and turns nothing that lay.
-/
import Derived.Deep.RegionWith
import Derived.Test.YtnlikhjmmnaknaaGreatDoorGC
namespace Go.Proofs.YtnlikhjmmnaknaaGreatDoor
open Go.RowKit

def leafVar : Ex := .mk 3 ⟨#[120]⟩ 0 0 (fun _ => .junk) 0 0
def leafInt : Ex := .mk 1 ⟨#[]⟩ 1 0 (fun _ => .junk) 0 0
def exSum : Ex := .mk 7 ⟨#[]⟩ 0 2 (fun i => if i = 0 then leafVar else leafInt) 0 0

theorem exSum_right : exSum.right = true := by decide
theorem exSum_height : exSum.height = 2 := by decide
theorem exSum_size : exSum.size = 3 := by decide

theorem leafVar_at (B : Nat) (w : World) : ExAt B w leafVar none 0 := ⟨by unfold I64 maxLen; decide, fun i hi => absurd hi (by omega)⟩
theorem leafInt_at (B : Nat) (w : World) : ExAt B w leafInt none 0 := ⟨by unfold I64 maxLen; decide, fun i hi => absurd hi (by omega)⟩

/-- the cells of the example's parts -/
def sumCells : Array Value := #[.int .i64 3, .string ⟨#[120]⟩, .int .i64 0, .slice none 0 0, .int .i64 0, .int .i64 0, .int .i64 1, .string ⟨#[]⟩, .int .i64 1, .slice none 0 0, .int .i64 0, .int .i64 0]
theorem exSum_at (B : Nat) (w w' : World) (h : Below (w.heap.size + 1) (w.alloc (.cells sumCells 41)) w') (hB : w.heap.size < B) : ExAt B w' exSum (some ⟨w.heap.size, 0, none⟩) 2 := by
  refine ⟨by unfold I64 maxLen; decide, fun i hi => ?_⟩
  have hc := boxed_cell h
  rcases (by omega : i = 0 ∨ i = 1) with rfl | rfl
  · exact ⟨_, _, none, 0, rfl, hB, ⟨hc 0, hc 1, hc 2, hc 3, hc 4, hc 5⟩, leafVar_at _ _⟩
  · exact ⟨_, _, none, 0, rfl, hB, ⟨hc 6, hc 7, hc 8, hc 9, hc 10, hc 11⟩, leafInt_at _ _⟩

end Go.Proofs.YtnlikhjmmnaknaaGreatDoor
