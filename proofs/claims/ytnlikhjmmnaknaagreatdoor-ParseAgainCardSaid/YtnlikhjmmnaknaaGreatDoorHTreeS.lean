/-
  The walks of Same, the code's (with slices.EqualFunc) and the reference's.
-/
import Derived.BigQuiet
import Derived.Deep.RegionWith
import Derived.Test.YtnlikhjmmnaknaaGreatDoorGC
namespace Go.Proofs.YtnlikhjmmnaknaaGreatDoor
open Go.RowKit

def allTo (f : Nat → Bool) : Nat → Bool
  | 0 => true
  | n + 1 => allTo f n && f n
theorem allTo_succ (f : Nat → Bool) (k : Nat) : allTo f (k + 1) = (allTo f k && f k) := rfl
theorem allTo_stop {f : Nat → Bool} {j k : Nat} (h : j < k) (hf : f j = false) : allTo f k = false := by
  induction k with
  | zero => omega
  | succ k ih =>
    rw [allTo_succ]
    by_cases hj : j = k
    · subst hj; rw [hf, Bool.and_false]
    · rw [ih (by omega), Bool.false_and]

/-- are two expressions one? -/
def Ex.same : Ex → Ex → Bool
  | .junk, _ => false
  | .mk op name n k arg _ _, b => op == b.op && name.data.toList == b.name.data.toList && n == b.num && k == b.k && allTo (fun i => (arg i).same (b.arg i)) k

/-- two lists of parts, one by one -/
def sameArgs (a b : Ex) : Bool := a.k == b.k && allTo (fun i => (a.arg i).same (b.arg i)) a.k

/-- the parts lie so -/
def ArgsAt (B : Nat) (w : World) (e : Ex) (A : Option Addr) (cap : Nat) : Prop :=
  (e.k ≤ cap ∧ cap ≤ maxLen) ∧ ∀ i, i < e.k → ∃ b o A' cap', A = some ⟨b, o, none⟩ ∧ b < B ∧ CellsAt w b (o + i * 6) (e.arg i) A' cap' ∧ ExAt B w (e.arg i) A' cap'
theorem ExAt.args {B : Nat} {w : World} {e : Ex} {A : Option Addr} {cap : Nat} (h : ExAt B w e A cap) : ArgsAt B w e A cap := by
  cases e with
  | junk => exact h.elim
  | mk op name n k arg l c => exact ⟨h.1.2.2.2.2.2, h.2⟩

/-- what a function value that tells whether two parts are one does -/
def SameFn (f : Nat) (a b : Ex) (B : Nat) : Prop :=
  ∀ i, i < a.k → ∀ (A A' : Option Addr) (cap cap' : Nat) (w : World), ExAt B w (a.arg i) A cap → ExAt B w (b.arg i) A' cap' → B ≤ w.heap.size →
    Calls Tryz.prog f #[(a.arg i).val A cap, (b.arg i).val A' cap'] w fun r w' => r = .returned (.bool ((a.arg i).same (b.arg i))) ∧ Below w.heap.size w w'

end Go.Proofs.YtnlikhjmmnaknaaGreatDoor
