/-
  Expressions as a plain Lean type, and how one lies in memory.
-/
import Derived.Test.YtnlikhjmmnaknaaDoorRows
import Derived.WalkKit
import Derived.WalkSpells
import Derived.WalkLawsBesides
namespace Go.Proofs.YtnlikhjmmnaknaaDoor
open Go.RowKit

/-- (Besides: junk: no expression at all, for the places behind the last part.) An expression: op, name, number, how many parts, the parts by their index, the place. -/
inductive Ex where
  | junk
  | mk (op : Int) (name : ByteArray) (n : Int) (k : Nat) (arg : Nat → Ex) (line col : Int)

namespace Ex
def op : Ex → Int | .mk o _ _ _ _ _ _ => o | .junk => 0
def name : Ex → ByteArray | .mk _ s _ _ _ _ _ => s | .junk => ⟨#[]⟩
def num : Ex → Int | .mk _ _ n _ _ _ _ => n | .junk => 0
def k : Ex → Nat | .mk _ _ _ k _ _ _ => k | .junk => 0
def arg : Ex → Nat → Ex | .mk _ _ _ _ a _ _ => a | .junk => fun _ => .junk
def line : Ex → Int | .mk _ _ _ _ _ l _ => l | .junk => 0
def col : Ex → Int | .mk _ _ _ _ _ _ c => c | .junk => 0

/-- An expression's value, its parts lying at A. -/
def val (e : Ex) (A : Option Addr) (cap : Nat) : Value := .agg #[.int .i64 e.op, .string e.name, .int .i64 e.num, .slice A e.k cap, .int .i64 e.line, .int .i64 e.col]
end Ex

/-- a fact kept from the walk -/
theorem hid {p : Prop} (h : p) : Hid p := h

/-- what an int of Go may be -/
def I64 (x : Int) : Prop := -9223372036854775808 ≤ x ∧ x ≤ 9223372036854775807

/-- An element of a slice of expressions: six cells. -/
structure CellsAt (w : World) (b o : Nat) (e : Ex) (A : Option Addr) (cap : Nat) : Prop where
  c0 : w.cell? ⟨b, o, none⟩ = some (.int .i64 e.op)
  c1 : w.cell? ⟨b, o + 1, none⟩ = some (.string e.name)
  c2 : w.cell? ⟨b, o + 2, none⟩ = some (.int .i64 e.num)
  c3 : w.cell? ⟨b, o + 3, none⟩ = some (.slice A e.k cap)
  c4 : w.cell? ⟨b, o + 4, none⟩ = some (.int .i64 e.line)
  c5 : w.cell? ⟨b, o + 5, none⟩ = some (.int .i64 e.col)

/-- An expression's parts lie at A, below block B. -/
def ExAt (B : Nat) (w : World) : Ex → Option Addr → Nat → Prop
  | .junk, _, _ => False
  | .mk op name n k arg l c, A, cap =>
    (I64 op ∧ name.size ≤ maxLen ∧ I64 n ∧ I64 l ∧ I64 c ∧ k ≤ cap ∧ cap ≤ maxLen) ∧
    ∀ i, i < k → ∃ b o A' cap', A = some ⟨b, o, none⟩ ∧ b < B ∧ CellsAt w b (o + i * 6) (arg i) A' cap' ∧ ExAt B w (arg i) A' cap'

theorem CellsAt.keep {w w' : World} {b o : Nat} {e : Ex} {A : Option Addr} {cap : Nat} (h : CellsAt w b o e A cap) (hk : ∀ i, w'.cell? ⟨b, i, none⟩ = w.cell? ⟨b, i, none⟩) : CellsAt w' b o e A cap :=
  ⟨by rw [hk]; exact h.c0, by rw [hk]; exact h.c1, by rw [hk]; exact h.c2, by rw [hk]; exact h.c3, by rw [hk]; exact h.c4, by rw [hk]; exact h.c5⟩

theorem ExAt.keep {B : Nat} {w w' : World} (hk : ∀ b i, b < B → w'.cell? ⟨b, i, none⟩ = w.cell? ⟨b, i, none⟩) : ∀ (e : Ex) (A : Option Addr) (cap : Nat), ExAt B w e A cap → ExAt B w' e A cap := by
  intro e
  induction e with
  | junk => exact fun _ _ h => h
  | mk op name n k arg l c ih =>
    rintro A cap ⟨h0, h⟩
    refine ⟨h0, fun i hi => ?_⟩
    obtain ⟨b, o, A', cap', hA, hb, hc, hr⟩ := h i hi
    exact ⟨b, o, A', cap', hA, hb, hc.keep fun j => hk b j hb, ih i _ _ hr⟩

theorem ExAt.below {B : Nat} {w w' : World} {e : Ex} {A : Option Addr} {cap : Nat} (h : ExAt B w e A cap) {B' : Nat} (hB : B ≤ B') (hb : Below B' w w') : ExAt B w' e A cap :=
  ExAt.keep (fun b i hbB => hb.cell (p := ⟨b, i, none⟩) (by simp; omega)) e A cap h

theorem ExAt.more {B B' : Nat} {w : World} (hB : B ≤ B') : ∀ (e : Ex) (A : Option Addr) (cap : Nat), ExAt B w e A cap → ExAt B' w e A cap := by
  intro e
  induction e with
  | junk => exact fun _ _ h => h
  | mk op name n k arg l c ih =>
    rintro A cap ⟨h0, h⟩
    refine ⟨h0, fun i hi => ?_⟩
    obtain ⟨b, o, A', cap', hA, hb, hc, hr⟩ := h i hi
    exact ⟨b, o, A', cap', hA, by omega, hc, ih i _ _ hr⟩

/-- A boxed parameter: its cells in every later world, and what lies below it. -/
theorem boxed_cell {w wr : World} {cs : Array Value} {t : TypeId} (h : Below (w.heap.size + 1) (w.alloc (.cells cs t)) wr) (i : Nat) : wr.cell? ⟨w.heap.size, i, none⟩ = cs[i]? := by
  rw [h.cell (p := ⟨w.heap.size, i, none⟩) (by simp), World.cell?_alloc_new]
theorem boxed_below {w wr : World} {o : Obj} (h : Below (w.heap.size + 1) (w.alloc o) wr) : Below w.heap.size w wr :=
  ((Below.refl w.heap.size w).alloc (Nat.le_refl _) o).trans (h.mono (by omega))
theorem boxed_size {w wr : World} {o : Obj} (h : Below (w.heap.size + 1) (w.alloc o) wr) : w.heap.size < wr.heap.size := by
  have := h.size
  simp at this
  omega

/-- the greatest of the first so many -/
def maxTo (f : Nat → Nat) : Nat → Nat
  | 0 => 0
  | n + 1 => max (maxTo f n) (f n)
def sumTo (f : Nat → Nat) : Nat → Nat
  | 0 => 0
  | n + 1 => sumTo f n + f n

namespace Ex
def height : Ex → Nat | .junk => 0 | .mk _ _ _ k arg _ _ => maxTo (fun i => (arg i).height) k + 1
def size : Ex → Nat | .junk => 0 | .mk _ _ _ k arg _ _ => 1 + sumTo (fun i => (arg i).size) k
end Ex

end Go.Proofs.YtnlikhjmmnaknaaDoor
