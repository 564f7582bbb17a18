/-
  The walk of the statement TreeRight: it returns true, and turns nothing that lay.
-/
import Derived.Deep.RegionWith
import Derived.Test.YtiencmbbkbicnaaTreeRR
namespace Go.Proofs.Ytiencmbbkbicnaa
open Go.RowKit

def leafVar : Ex := .mk 3 ⟨#[120]⟩ 0 0 (fun _ => .junk) 0 0
def leafInt : Ex := .mk 1 ⟨#[]⟩ 1 0 (fun _ => .junk) 0 0
def exSum : Ex := .mk 7 ⟨#[]⟩ 0 2 (fun i => if i = 0 then leafVar else leafInt) 0 0

theorem exSum_right : exSum.right = true := by decide
theorem exSum_height : exSum.height = 2 := by decide
theorem exSum_size : exSum.size = 3 := by decide

theorem leafVar_at (B : Nat) (w : World) : ExAt B w leafVar none 0 := ⟨by unfold I64 maxLen; decide, fun i hi => absurd hi (by omega)⟩
theorem leafInt_at (B : Nat) (w : World) : ExAt B w leafInt none 0 := ⟨by unfold I64 maxLen; decide, fun i hi => absurd hi (by omega)⟩

/-- the cells of the example's parts -/
def sumCells : Array Value := #[.int .i64 3, .string ⟨#[120]⟩, .int .i64 0, .slice none 0 0, .int .i64 0, .int .i64 0, .int .i64 1, .string ⟨#[]⟩, .int .i64 1, .slice none 0 0, .int .i64 0, .int .i64 0]
theorem exSum_at (B : Nat) (w w' : World) (h : Below (w.heap.size + 1) (w.alloc (.cells sumCells 26)) w') (hB : w.heap.size < B) : ExAt B w' exSum (some ⟨w.heap.size, 0, none⟩) 2 := by
  refine ⟨by unfold I64 maxLen; decide, fun i hi => ?_⟩
  have hc := boxed_cell h
  rcases (by omega : i = 0 ∨ i = 1) with rfl | rfl
  · exact ⟨_, _, none, 0, rfl, hB, ⟨hc 0, hc 1, hc 2, hc 3, hc 4, hc 5⟩, leafVar_at _ _⟩
  · exact ⟨_, _, none, 0, rfl, hB, ⟨hc 6, hc 7, hc 8, hc 9, hc 10, hc 11⟩, leafInt_at _ _⟩

set_option maxHeartbeats 1000000 in
theorem awake12_any (w : World) :
    Calls Try.prog 11 #[] w fun r w' => r = .returned (.bool true) ∧ Below w.heap.size w w' := by
  have ha : ∀ W, Below (w.heap.size + 1) (w.alloc (.cells sumCells 26)) W → ExAt (w.heap.size + 1) W exSum (some ⟨w.heap.size, 0, none⟩) 2 := fun W h => exSum_at _ w W h (by omega)
  have hht : ∀ W, Below (w.heap.size + 1) (w.alloc (.cells sumCells 26)) W → Calls Try.prog 18 #[exSum.val (some ⟨w.heap.size, 0, none⟩) 2] W fun r w' => r = .returned (.int .i64 2) ∧ Below W.heap.size W w' := fun W h => by
    have := height_any exSum _ _ _ W (ha W h) (by have := boxed_size h; omega) (by rw [exSum_height]; omega)
    rwa [exSum_height] at this
  have hsz : ∀ W, Below (w.heap.size + 1) (w.alloc (.cells sumCells 26)) W → Calls Try.prog 20 #[exSum.val (some ⟨w.heap.size, 0, none⟩) 2] W fun r w' => r = .returned (.int .i64 3) ∧ Below W.heap.size W w' := fun W h => by
    have := size_any exSum _ _ _ W (ha W h) (by have := boxed_size h; omega) (by rw [exSum_size]; omega)
    rwa [exSum_size] at this
  have hrt : ∀ W, Below (w.heap.size + 1) (w.alloc (.cells sumCells 26)) W → Calls Try.prog 13 #[exSum.val (some ⟨w.heap.size, 0, none⟩) 2] W fun r w' => r = .returned (.bool true) ∧ Below W.heap.size W w' := fun W h => by
    have := right_any exSum _ _ _ W (ha W h) (by have := boxed_size h; omega) (by rw [exSum_height]; omega)
    rwa [exSum_right] at this
  simp only [Ex.val, exSum, Ex.op, Ex.name, Ex.num, Ex.k, Ex.line, Ex.col] at hht hsz hrt
  have HH := hid hht
  have HS := hid hsz
  have HR := hid hrt
  clear ha hht hsz hrt
  go_enter Try.func11, Try.ntmps11
  go_wp2_with fail
  have hb0 : Below (w.heap.size + 1) (w.alloc (.cells sumCells 26)) ((w.alloc (.cells sumCells 26)).alloc (.cells #[.int .i64 7, .string ⟨#[]⟩, .int .i64 0, .slice (some ⟨w.heap.size, 0, none⟩) 2 2, .int .i64 0, .int .i64 0] 26)) := (Below.refl _ _).alloc (by simp) _
  have hc0 : ∀ i, ((w.alloc (.cells sumCells 26)).alloc (.cells #[.int .i64 7, .string ⟨#[]⟩, .int .i64 0, .slice (some ⟨w.heap.size, 0, none⟩) 2 2, .int .i64 0, .int .i64 0] 26)).cell? ⟨w.heap.size + 1, i, none⟩ = (#[.int .i64 7, .string ⟨#[]⟩, .int .i64 0, .slice (some ⟨w.heap.size, 0, none⟩) 2 2, .int .i64 0, .int .i64 0] : Array Value)[i]? := fun i => by
    have := World.cell?_alloc_new (w := w.alloc (.cells sumCells 26)) #[.int .i64 7, .string ⟨#[]⟩, .int .i64 0, .slice (some ⟨w.heap.size, 0, none⟩) 2 2, .int .i64 0, .int .i64 0] 26 i
    rwa [World.size_alloc] at this
  have hz : w.heap.size + 1 + 1 ≤ ((w.alloc (.cells sumCells 26)).alloc (.cells #[.int .i64 7, .string ⟨#[]⟩, .int .i64 0, .slice (some ⟨w.heap.size, 0, none⟩) 2 2, .int .i64 0, .int .i64 0] 26)).heap.size := by simp
  have hc1 : ∀ W, Below (w.heap.size + 1 + 1) ((w.alloc (.cells sumCells 26)).alloc (.cells #[.int .i64 7, .string ⟨#[]⟩, .int .i64 0, .slice (some ⟨w.heap.size, 0, none⟩) 2 2, .int .i64 0, .int .i64 0] 26)) W → ∀ i, W.cell? ⟨w.heap.size + 1, i, none⟩ = (#[.int .i64 7, .string ⟨#[]⟩, .int .i64 0, .slice (some ⟨w.heap.size, 0, none⟩) 2 2, .int .i64 0, .int .i64 0] : Array Value)[i]? := fun W h i => by
    rw [h.cell (p := ⟨w.heap.size + 1, i, none⟩) (by simp), hc0]
  show Calls _ _ _ ((w.alloc (.cells sumCells 26)).alloc (.cells #[.int .i64 7, .string ⟨#[]⟩, .int .i64 0, .slice (some ⟨w.heap.size, 0, none⟩) 2 2, .int .i64 0, .int .i64 0] 26)) _
  generalize ((w.alloc (.cells sumCells 26)).alloc (.cells #[.int .i64 7, .string ⟨#[]⟩, .int .i64 0, .slice (some ⟨w.heap.size, 0, none⟩) 2 2, .int .i64 0, .int .i64 0] 26)) = W0 at *
  have HC := hid hc1
  clear hc0 hc1
  refine (HH.out _ hb0).mono ?_
  rintro r w1 ⟨rfl, hb1⟩
  have hd1 : Below (w.heap.size + 1 + 1) W0 w1 := hb1.mono hz
  have x0 := HC.out w1 hd1 0
  have x1 := HC.out w1 hd1 1
  have x2 := HC.out w1 hd1 2
  have x3 := HC.out w1 hd1 3
  have x4 := HC.out w1 hd1 4
  have x5 := HC.out w1 hd1 5
  go_wp2_with fail
  refine (HS.out _ (hb0.trans (hd1.mono (by omega)))).mono ?_
  rintro r w2 ⟨rfl, hb2⟩
  have hd2 : Below (w.heap.size + 1 + 1) W0 w2 := hd1.trans (hb2.mono (Nat.le_trans hz hd1.size))
  clear x0 x1 x2 x3 x4 x5
  have x0 := HC.out w2 hd2 0
  have x1 := HC.out w2 hd2 1
  have x2 := HC.out w2 hd2 2
  have x3 := HC.out w2 hd2 3
  have x4 := HC.out w2 hd2 4
  have x5 := HC.out w2 hd2 5
  go_wp2_with fail
  refine (HR.out _ (hb0.trans (hd2.mono (by omega)))).mono ?_
  rintro r w3 ⟨rfl, hb3⟩
  go_wp2_with fail
  go_ret
  refine ⟨rfl, boxed_below (hb0.trans ((hd2.trans (hb3.mono (Nat.le_trans hz hd2.size))).mono (by omega)))⟩
end Go.Proofs.Ytiencmbbkbicnaa
