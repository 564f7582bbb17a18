/-
  The walk of the code's Names: a range over the iterator, with an append.
-/
import Derived.Test.YtnlikhjmmnaknaaGreatDoorHNames12
namespace Go.Proofs.YtnlikhjmmnaknaaGreatDoor
open Go.RowKit Go.Shelf
attribute [local go_sem] Oper.semAt_some

theorem KeepEx.appended {B Bx : Nat} {W w1 : World} {v v' : Value} {k : Nat} {xs : List Value} {tmp : Obj} (hv : Boxed W Bx 77 v) (hrow : W.ownsRow B 9 1 v k xs) (hgrow : (W.alloc tmp).grownBy w1 v.ownBlock)
    (hbel : Below B W (w1.setCell ⟨Bx, 0, none⟩ v')) : KeepEx B W (w1.setCell ⟨Bx, 0, none⟩ v') :=
  ⟨hbel, fun j cs hj => by
    have hlt : j < W.heap.size := (Array.getElem?_eq_some_iff.1 hj).1
    have h1 : (W.alloc tmp).heap[j]? = _ := (Below.heap_alloc W tmp j hlt).trans hj
    have hne : some j ≠ v.ownBlock := fun e => by
      rcases hrow.2 with ⟨rfl, _⟩ | ⟨g, cap, cur, rfl, _, hgb, _⟩
      · simp [Value.ownBlock] at e
      · obtain rfl : j = g := by simpa [Value.ownBlock] using e
        rw [hj] at hgb; injection hgb with h2; injection h2 with _ h3; exact absurd h3 (by decide)
    have hnb : j ≠ Bx := fun e => by
      subst e
      rw [show W.heap[j]? = _ from hv] at hj
      injection hj with hj; injection hj with _ hj; exact absurd hj (by decide)
    exact (Below.heap_setCell w1 ⟨Bx, 0, none⟩ v' j hnb).trans ((hgrow.block j (by simp; omega) hne).trans h1)⟩

end Go.Proofs.YtnlikhjmmnaknaaGreatDoor
