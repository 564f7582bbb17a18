/-
  The walk of the statement TreeRight: it returns true, and turns nothing that lay.
-/
import Derived.Test.YtiencmbbkbicnaaLawRight
namespace Go.Proofs.Ytiencmbbkbicnaa
open Go.RowKit

/-- a world behind the boxing of a parameter that is an expression -/
def BoxE (w : World) (e : Ex) (A : Option Addr) (cap : Nat) (W : World) : Prop :=
  Below (w.heap.size + 1) (w.alloc (.cells #[.int .i64 e.op, .string e.name, .int .i64 e.num, .slice A e.k cap, .int .i64 e.line, .int .i64 e.col] 26)) W
theorem BoxE.then {w W W' : World} {e : Ex} {A : Option Addr} {cap : Nat} (h : BoxE w e A cap W) (h' : Below W.heap.size W W') : BoxE w e A cap W' := Below.trans h (h'.mono (boxed_size h))
theorem BoxE.below {w W : World} {e : Ex} {A : Option Addr} {cap : Nat} (h : BoxE w e A cap W) : Below w.heap.size w W := boxed_below h
theorem BoxE.drew {w W : World} {e : Ex} {A : Option Addr} {cap : Nat} (h : BoxE w e A cap W) : BoxE w e A cap W.drew := Below.drew h
theorem BoxE.cells {w W : World} {e : Ex} {A : Option Addr} {cap : Nat} (h : BoxE w e A cap W) :
    W.cell? ⟨w.heap.size, 0, none⟩ = some (.int .i64 e.op) ∧ W.cell? ⟨w.heap.size, 1, none⟩ = some (.string e.name) ∧ W.cell? ⟨w.heap.size, 2, none⟩ = some (.int .i64 e.num) ∧ W.cell? ⟨w.heap.size, 3, none⟩ = some (.slice A e.k cap) ∧
    W.cell? ⟨w.heap.size, 4, none⟩ = some (.int .i64 e.line) ∧ W.cell? ⟨w.heap.size, 5, none⟩ = some (.int .i64 e.col) :=
  ⟨boxed_cell h 0, boxed_cell h 1, boxed_cell h 2, boxed_cell h 3, boxed_cell h 4, boxed_cell h 5⟩

set_option maxHeartbeats 1000000 in
theorem treeRight_any (e : Ex) (B : Nat) (A : Option Addr) (cap : Nat) (w : World) (hE : ExAt B w e A cap) (hB : B ≤ w.heap.size) :
    Calls Try.prog 3 #[e.val A cap] w fun r w' => r = .returned (.bool true) ∧ Below w.heap.size w w' := by
  have hE' := ExAt.more hB e A cap hE
  have hfw := fun W (h : Below w.heap.size w W) => few_any e w.heap.size A cap W (hE'.below (Nat.le_refl _) h) h.size
  simp only [Ex.val] at hfw ⊢
  have HF := hid hfw
  clear hfw
  go_enter Try.func3, Try.ntmps3
  go_wp2_with fail
  refine (awake12_any _).mono ?_
  rintro r w1 ⟨rfl, hb1⟩
  have hbx : Below (w.heap.size + 1) (w.alloc (.cells #[.int .i64 e.op, .string e.name, .int .i64 e.num, .slice A e.k cap, .int .i64 e.line, .int .i64 e.col] 26)) w1 := by simpa using hb1
  clear hb1
  have x0 := boxed_cell hbx 0
  have x1 := boxed_cell hbx 1
  have x2 := boxed_cell hbx 2
  have x3 := boxed_cell hbx 3
  have x4 := boxed_cell hbx 4
  have x5 := boxed_cell hbx 5
  go_wp2_with fail
  refine (HF.out w1 (boxed_below hbx)).mono ?_
  rintro r w2 ⟨rfl, hb2⟩
  have hbx2 := hbx.trans (hb2.mono (boxed_size hbx))
  clear x0 x1 x2 x3 x4 x5
  have x0 := boxed_cell hbx2 0
  have x1 := boxed_cell hbx2 1
  have x2 := boxed_cell hbx2 2
  have x3 := boxed_cell hbx2 3
  have x4 := boxed_cell hbx2 4
  have x5 := boxed_cell hbx2 5
  have hbw := boxed_below hbx2
  cases hf : e.few with
  | false =>
    go_wp2_with fail
    go_ret
    exact ⟨rfl, hbw⟩
  | true =>
    obtain ⟨hs, hh, hn⟩ := Ex.few_fits hf
    have hr1 : ∀ W, BoxE w e A cap W → Calls Try.prog 13 #[e.val A cap] W fun r w' => r = .returned (.bool e.right) ∧ BoxE w e A cap w' := fun W h =>
      (right_any e w.heap.size A cap W (hE'.below (Nat.le_refl _) (boxed_below h)) (by have := boxed_size h; omega) (by omega)).mono fun r w' ⟨h1, h2⟩ => ⟨h1, h.then h2⟩
    have hr2 : ∀ W, BoxE w e A cap W → Calls Try.prog 14 #[e.val A cap] W fun r w' => r = .returned (.bool e.right) ∧ BoxE w e A cap w' := fun W h =>
      (rright_any e w.heap.size A cap W (hE'.below (Nat.le_refl _) (boxed_below h)) (by have := boxed_size h; omega) (by omega) (by omega) hn).mono fun r w' ⟨h1, h2⟩ => ⟨h1, h.then h2⟩
    simp only [Ex.val] at hr1 hr2
    have HR1 := hid hr1
    have HR2 := hid hr2
    clear hr1 hr2
    have hbd : BoxE w e A cap w2.drew := hbx2.drew
    go_wp2_with fail
    go_region_with (first
      | (go_at_call 13; refine (HR1.out _ (by with_reducible assumption)).mono ?_; rintro r w3 ⟨rfl, hb3⟩; obtain ⟨y0, y1, y2, y3, y4, y5⟩ := hb3.cells)
      | (go_at_call 14; refine (HR2.out _ (by with_reducible assumption)).mono ?_; rintro r w3 ⟨rfl, hb3⟩; obtain ⟨y0, y1, y2, y3, y4, y5⟩ := hb3.cells))
    all_goals
      go_wp2_with fail
      go_ret
      refine ⟨ret_bool (by simp), BoxE.below (e := e) (A := A) (cap := cap) ?_⟩
      with_reducible assumption
end Go.Proofs.Ytiencmbbkbicnaa
