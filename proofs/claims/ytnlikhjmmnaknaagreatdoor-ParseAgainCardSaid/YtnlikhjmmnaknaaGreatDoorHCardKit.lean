/-
  What the last step of every tied statement of this seat shares: the listed tables.
-/
import Derived.Test.YtnlikhjmmnaknaaGreatDoorGF
import Derived.Test.YtnlikhjmmnaknaaGreatDoorGD
import Derived.LaidMore
import Derived.Stop.LaidErr
import Derived.Lib.LaidTab
namespace Go.Proofs.YtnlikhjmmnaknaaGreatDoor
open Go.ChangeShapes Go.WideShapes Go.ChangeAt Go.RowKit

/-- the tables that the rows list -/
def kitTabs : List (String × DataW Unit) := [("math/bits.deBruijn32tab", Rows.laid_math_bits_deBruijn32tab), ("math/bits.deBruijn64tab", Rows.laid_math_bits_deBruijn64tab), ("internal/strconv.uint64pow10", Rows.laid_internal_strconv_uint64pow10)]
theorem tab_type : (Tryz.prog.globals[(1 : Nat)]?).map (·.type) = some 159 := by kernel_rfl
theorem tab_cells : Tryz.prog.cellsOf 159 = 20 := by kernel_rfl
theorem tab_cell : Tryz.prog.cellsOf 153 = 1 := by kernel_rfl
theorem kitTabs_tab {W : World} (h : laidMetH Tryz.prog kitTabs W) : Tab W := by
  rw [MakeChecks.laidMetH_plain _ _ _ (by kernel_rfl)] at h
  exact Lib.tabIs_of_head tab_at tab_type Tryz.underlying159 Tryz.underlying153 tab_cell tab_cells (laidMet.tail (laidMet.tail h))
theorem kitDoor (os : Os) (args : Array Value) : laidMetH Tryz.prog kitTabs ((World.doorLaid Tryz.prog 400 os).forCall (fun _ _ => 0) ⟨#[], args, []⟩).memory :=
  laidMetH_of_parts3 (fuel := 8) (laidMet_of_run' 8 (by kernel_rfl) (by kernel_rfl)) (by kernel_rfl) (by kernel_rfl)
end Go.Proofs.YtnlikhjmmnaknaaGreatDoor
