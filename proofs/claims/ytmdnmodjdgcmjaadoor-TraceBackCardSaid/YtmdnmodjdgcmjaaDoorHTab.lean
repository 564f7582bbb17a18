/-
  The library's table of powers of ten.
-/
import Derived.Test.YtmdnmodjdgcmjaaDoorHBas
import Derived.Lib.ItoaMem
namespace Go.Proofs.YtmdnmodjdgcmjaaDoor
open Go.RowKit

/-- the library's table is as it is laid -/
def Tab (w : World) : Prop := Lib.TabIs Tryd.prog w "internal/strconv.uint64pow10" .u64 Lib.pow10Tab
theorem tab_at : Tryd.prog.globalNamed "internal/strconv.uint64pow10" = some 3 := by kernel_rfl
def tabG : Nat := 3
theorem Tab.below {B : Nat} {w w' : World} (h : Tab w) (hb : Below B w w') (hB : tabG < B) : Tab w' := var?_below hb tab_at (by unfold tabG at hB; omega) h
theorem Tab.lt {w : World} (h : Tab w) : tabG < w.heap.size := by
  have hc := Lib.TabIs.cell h tab_at 0 (by decide)
  unfold World.cell? at hc
  split at hc
  · rename_i h1; exact (Array.getElem?_eq_some_iff.1 h1).1
  · cases hc
end Go.Proofs.YtmdnmodjdgcmjaaDoor
