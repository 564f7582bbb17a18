/-
  The walks of Parts, names and plain, the code's and the reference's.
-/
import Derived.Test.YtnlikhjmmnaknaaDoorTok4
namespace Go.Proofs.YtnlikhjmmnaknaaDoor
open Go.RowKit

def partsOf (op : Int) : Int :=
  if op = 1 ∨ op = 2 ∨ op = 3 then 0 else if op = 4 then -1 else if op = 5 ∨ op = 6 ∨ op = 21 ∨ op = 24 ∨ op = 25 then 1
  else if (7 ≤ op ∧ op ≤ 20) ∨ op = 22 ∨ op = 23 ∨ op = 26 then 2 else if op = 27 then 3 else -2
def namesOp (op : Int) : Bool := op == 3 || op == 24 || op == 25 || op == 26

set_option maxHeartbeats 400000 in
theorem parts_any (op : Int) (w : World) :
    Calls Tryd.prog 53 #[.int .i64 op] w fun e w' => e = .returned (.int .i64 (partsOf op)) ∧ w = w' := by
  go_enter Tryd.func53, Tryd.ntmps53
  go_wp2_with fail
  all_goals
    go_ret
    refine ⟨ret_int ?_, rfl⟩
    try simp at *
    unfold partsOf
    (repeat' split) <;> omega

def partsL : List Int := [0, 0, 0, -1, 1, 1, 2, 2, 2, 2, 2, 2, 2, 2, 2, 2, 2, 2, 2, 2, 1, 2, 2, 1, 1, 2, 3]
theorem partsL_eq : ∀ j : Nat, j < 27 → partsL[j]?.getD 0 = partsOf ((j : Int) + 1) := by decide

theorem partsL_val (j : Nat) (h : j < 27) (h' : j < (partsL.map (Value.int .i64)).length) : (partsL.map (Value.int .i64))[j]'h' = .int .i64 (partsL[j]?.getD 0) := by
  rw [List.getElem_map, List.getElem?_eq_getElem (show j < partsL.length from h)]; rfl

set_option maxHeartbeats 400000 in
theorem rparts_any (op : Int) (w : World) :
    Calls Tryd.prog 39 #[.int .i64 op] w fun e w' => e = .returned (.int .i64 (partsOf op)) ∧ Below w.heap.size w w' := by
  by_cases h : 1 ≤ op ∧ op ≤ 27
  · obtain ⟨j, rfl⟩ : ∃ j : Nat, op = (j : Int) + 1 := ⟨(op - 1).toNat, by omega⟩
    have hj : j < 27 := by omega
    have hr := partsL_eq j hj
    have HR := hid hr
    have hcell : (w.alloc (.cells (partsL.map (.int .i64)).toArray 3)).cell? ⟨w.heap.size, j, none⟩ = some (.int .i64 (partsL[j]?.getD 0)) := by
      rw [World.cell?_alloc_new]
      simp [List.getElem?_eq_getElem (show j < partsL.length from hj)]
    have hbel : Below w.heap.size w (w.alloc (.cells (partsL.map (.int .i64)).toArray 3)) := (Below.refl _ _).alloc (Nat.le_refl _) _
    go_enter Tryd.func39, Tryd.ntmps39
    go_wp2_with fail
    go_ret
    refine ⟨?_, hbel⟩
    rw [← HR.out]
    exact congrArg Ending.returned (partsL_val j hj _)
  · go_enter Tryd.func39, Tryd.ntmps39
    go_wp2_with fail
    all_goals
      go_ret
      refine ⟨ret_int ?_, Below.refl _ _⟩
      unfold partsOf
      (repeat' split) <;> omega

set_option maxHeartbeats 400000 in
theorem names_any (op : Int) (w : World) :
    Calls Tryd.prog 54 #[.int .i64 op] w fun e w' => e = .returned (.bool (namesOp op)) ∧ w = w' := by
  go_enter Tryd.func54, Tryd.ntmps54
  go_wp2_with fail
  all_goals (go_ret; refine ⟨ret_bool ?_, rfl⟩; simp [namesOp, *])
end Go.Proofs.YtnlikhjmmnaknaaDoor
