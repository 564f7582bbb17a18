/-
  The walks of the reference's Names and of the code's.
-/
import Derived.Test.YtnlikhjmmnaknaaGreatDoorGF
namespace Go.Proofs.YtnlikhjmmnaknaaGreatDoor
open Go.RowKit Go.Shelf
attribute [local go_sem] Oper.semAt_some

theorem Str.info : (Tryz.prog.info? 9).map (fun i => (i.zero, i.size, i.bytes)) = some (some (.string ⟨#[]⟩), 1, 16) := by kernel_rfl
theorem strs_one (xs : List ByteArray) : ∀ u ∈ xs.map Value.string, u.oneCell' = true := by
  intro u hu
  obtain ⟨y, _, rfl⟩ := List.mem_map.1 hu
  rfl
theorem str_form {w : World} {base : Nat} {v : Value} {xs : List ByteArray} (h : w.ownsRow base 9 1 v xs.length (xs.map .string)) : ∃ (A : Option Addr) (c : Nat), v = .slice A xs.length c := by
  rcases h.2 with ⟨h1, h2⟩ | ⟨g, cap, cur, h1, _⟩
  · exact ⟨none, 0, by rw [h1, h2]⟩
  · exact ⟨_, cap, h1⟩

/-- what Names comes to -/
def Named (l : List Ex) (w : World) (r : Ending) (w' : World) : Prop :=
  ∃ (A : Option Addr) (c : Nat), r = .returned (.slice A (nmOf l).length c) ∧ w'.ownsRow w.heap.size 9 1 (.slice A (nmOf l).length c) (nmOf l).length ((nmOf l).map .string) ∧ Below w.heap.size w w'

def rnamesOp (op : Int) : Bool := op == 3 || (decide (24 ≤ op) && decide (op ≤ 26))
theorem rnamesOp_eq (op : Int) : rnamesOp op = namesOp op := by
  rw [Bool.eq_iff_iff]; simp [rnamesOp, namesOp]; omega

end Go.Proofs.YtnlikhjmmnaknaaGreatDoor
