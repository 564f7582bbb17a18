/-
  The walk of the statement TreeSame.
-/
import Derived.Deep.RegionHeld3
import Derived.Test.YtiencmbbkbicnaaTreeS2
import Derived.Test.YtiencmbbkbicnaaLawRight
namespace Go.Proofs.Ytiencmbbkbicnaa
open Go.RowKit

/-- an expression without junk -/
def Ex.ok : Ex → Prop
  | .junk => False
  | .mk _ _ _ k arg _ _ => ∀ i, i < k → (arg i).ok
theorem ExAt.ok {B : Nat} {w : World} : ∀ (e : Ex) (A : Option Addr) (cap : Nat), ExAt B w e A cap → e.ok := by
  intro e
  induction e with
  | junk => intro A cap h; exact h
  | mk op name n k arg l c ih =>
    rintro A cap ⟨_, h⟩ i hi
    obtain ⟨b, o, A', cap', _, _, _, h'⟩ := h i hi
    exact ih i A' cap' h'
theorem allTo_congr {f g : Nat → Bool} (k : Nat) (h : ∀ i, i < k → f i = g i) : allTo f k = allTo g k := by
  induction k with
  | zero => rfl
  | succ k ih => rw [allTo_succ, allTo_succ, ih (fun i hi => h i (by omega)), h k (by omega)]
theorem allTo_true {f : Nat → Bool} (k : Nat) (h : ∀ i, i < k → f i = true) : allTo f k = true := by
  induction k with
  | zero => rfl
  | succ k ih => rw [allTo_succ, ih (fun i hi => h i (by omega)), h k (by omega)]; rfl
theorem same_self : ∀ a : Ex, a.ok → a.same a = true := by
  intro a
  induction a with
  | junk => intro h; exact h.elim
  | mk op name n k arg l c ih =>
    intro h
    rw [Ex.same]
    simp only [Ex.op, Ex.name, Ex.num, Ex.k, Ex.arg, beq_self_eq_true, Bool.true_and]
    exact allTo_true k fun i hi => ih i (h i hi)
theorem same_comm : ∀ a b : Ex, a.ok → b.ok → b.same a = a.same b := by
  intro a
  induction a with
  | junk => intro b h; exact h.elim
  | mk op name n k arg l c ih =>
    intro b h hb
    cases b with
    | junk => exact hb.elim
    | mk op' name' n' k' arg' l' c' =>
      rw [Ex.same, Ex.same]
      simp only [Ex.op, Ex.name, Ex.num, Ex.k, Ex.arg]
      rw [Bool.beq_comm (a := op'), Bool.beq_comm (a := name'.data.toList), Bool.beq_comm (a := n'), Bool.beq_comm (a := k')]
      by_cases hk : k = k'
      · subst hk
        rw [allTo_congr k fun i hi => ih i (arg' i) (h i hi) (hb i hi)]
      · rw [beq_eq_false_iff_ne.2 hk]; simp

/-- a world behind the boxing of two parameters that are expressions -/
def Box2E (w : World) (a : Ex) (A : Option Addr) (cap : Nat) (b : Ex) (A' : Option Addr) (cap' : Nat) (W : World) : Prop :=
  Below (w.heap.size + 1 + 1) ((w.alloc (.cells #[.int .i64 a.op, .string a.name, .int .i64 a.num, .slice A a.k cap, .int .i64 a.line, .int .i64 a.col] 26)).alloc (.cells #[.int .i64 b.op, .string b.name, .int .i64 b.num, .slice A' b.k cap', .int .i64 b.line, .int .i64 b.col] 26)) W
section
variable {w W W' : World} {a b : Ex} {A A' : Option Addr} {cap cap' : Nat}
theorem Box2E.then (h : Box2E w a A cap b A' cap' W) (h' : Below W.heap.size W W') : Box2E w a A cap b A' cap' W' := Below.trans h (h'.mono (boxed2_size h))
theorem Box2E.below (h : Box2E w a A cap b A' cap' W) : Below w.heap.size w W := boxed2_below h
theorem Box2E.drew (h : Box2E w a A cap b A' cap' W) : Box2E w a A cap b A' cap' W.drew := Below.drew h
theorem Box2E.cells (h : Box2E w a A cap b A' cap' W) :
    W.cell? ⟨w.heap.size, 0, none⟩ = some (.int .i64 a.op) ∧ W.cell? ⟨w.heap.size, 1, none⟩ = some (.string a.name) ∧ W.cell? ⟨w.heap.size, 2, none⟩ = some (.int .i64 a.num) ∧ W.cell? ⟨w.heap.size, 3, none⟩ = some (.slice A a.k cap) ∧
    W.cell? ⟨w.heap.size, 4, none⟩ = some (.int .i64 a.line) ∧ W.cell? ⟨w.heap.size, 5, none⟩ = some (.int .i64 a.col) ∧
    W.cell? ⟨w.heap.size + 1, 0, none⟩ = some (.int .i64 b.op) ∧ W.cell? ⟨w.heap.size + 1, 1, none⟩ = some (.string b.name) ∧ W.cell? ⟨w.heap.size + 1, 2, none⟩ = some (.int .i64 b.num) ∧ W.cell? ⟨w.heap.size + 1, 3, none⟩ = some (.slice A' b.k cap') ∧
    W.cell? ⟨w.heap.size + 1, 4, none⟩ = some (.int .i64 b.line) ∧ W.cell? ⟨w.heap.size + 1, 5, none⟩ = some (.int .i64 b.col) :=
  ⟨(boxed2_cell h 0).1, (boxed2_cell h 1).1, (boxed2_cell h 2).1, (boxed2_cell h 3).1, (boxed2_cell h 4).1, (boxed2_cell h 5).1, (boxed2_cell h 0).2, (boxed2_cell h 1).2, (boxed2_cell h 2).2, (boxed2_cell h 3).2, (boxed2_cell h 4).2, (boxed2_cell h 5).2⟩
end

set_option maxRecDepth 100000 in
set_option maxHeartbeats 2000000 in
theorem treeSame_any (a b : Ex) (B : Nat) (A A' : Option Addr) (cap cap' : Nat) (w : World) (hE : ExAt B w a A cap) (hE' : ExAt B w b A' cap') (hB : B ≤ w.heap.size) :
    Calls Try.prog 4 #[a.val A cap, b.val A' cap'] w fun r w' => r = .returned (.bool true) ∧ Below w.heap.size w w' := by
  have hEw := ExAt.more hB a A cap hE
  have hEw' := ExAt.more hB b A' cap' hE'
  have hfa : ∀ W, Box2E w a A cap b A' cap' W → Calls Try.prog 12 #[a.val A cap] W fun r w' => r = .returned (.bool a.few) ∧ Box2E w a A cap b A' cap' w' := fun W h =>
    (few_any a w.heap.size A cap W (hEw.below (Nat.le_refl _) h.below) h.below.size).mono fun r w' ⟨h1, h2⟩ => ⟨h1, h.then h2⟩
  have hfb : ∀ W, Box2E w a A cap b A' cap' W → Calls Try.prog 12 #[b.val A' cap'] W fun r w' => r = .returned (.bool b.few) ∧ Box2E w a A cap b A' cap' w' := fun W h =>
    (few_any b w.heap.size A' cap' W (hEw'.below (Nat.le_refl _) h.below) h.below.size).mono fun r w' ⟨h1, h2⟩ => ⟨h1, h.then h2⟩
  have hab : ∀ W, Box2E w a A cap b A' cap' W → Calls Try.prog 15 #[a.val A cap, b.val A' cap'] W fun r w' => r = .returned (.bool (a.same b)) ∧ Box2E w a A cap b A' cap' w' := fun W h =>
    (same_any a b w.heap.size A A' cap cap' W (hEw.below (Nat.le_refl _) h.below) (hEw'.below (Nat.le_refl _) h.below) h.below.size).mono fun r w' ⟨h1, h2⟩ => ⟨h1, h.then h2⟩
  have hba : ∀ W, Box2E w a A cap b A' cap' W → Calls Try.prog 15 #[b.val A' cap', a.val A cap] W fun r w' => r = .returned (.bool (a.same b)) ∧ Box2E w a A cap b A' cap' w' := fun W h =>
    (same_any b a w.heap.size A' A cap' cap W (hEw'.below (Nat.le_refl _) h.below) (hEw.below (Nat.le_refl _) h.below) h.below.size).mono fun r w' ⟨h1, h2⟩ => ⟨by rw [h1, same_comm a b hE.ok hE'.ok], h.then h2⟩
  have haa : ∀ W, Box2E w a A cap b A' cap' W → Calls Try.prog 15 #[a.val A cap, a.val A cap] W fun r w' => r = .returned (.bool true) ∧ Box2E w a A cap b A' cap' w' := fun W h =>
    (same_any a a w.heap.size A A cap cap W (hEw.below (Nat.le_refl _) h.below) (hEw.below (Nat.le_refl _) h.below) h.below.size).mono fun r w' ⟨h1, h2⟩ => ⟨by rw [h1, same_self a hE.ok], h.then h2⟩
  have hrr : ∀ W, Box2E w a A cap b A' cap' W → Calls Try.prog 16 #[a.val A cap, b.val A' cap'] W fun r w' => r = .returned (.bool (a.same b)) ∧ Box2E w a A cap b A' cap' w' := fun W h =>
    (rsame_any a b w.heap.size A A' cap cap' W (hEw.below (Nat.le_refl _) h.below) (hEw'.below (Nat.le_refl _) h.below) h.below.size).mono fun r w' ⟨h1, h2⟩ => ⟨h1, h.then h2⟩
  clear hE hE' hEw hEw'
  simp only [Ex.val] at hfa hfb hab hba haa hrr ⊢
  have HFA := hid hfa
  have HFB := hid hfb
  have HAB := hid hab
  have HBA := hid hba
  have HAA := hid haa
  have HRR := hid hrr
  have hb0 : Box2E w a A cap b A' cap' ((w.alloc (.cells #[.int .i64 a.op, .string a.name, .int .i64 a.num, .slice A a.k cap, .int .i64 a.line, .int .i64 a.col] 26)).alloc (.cells #[.int .i64 b.op, .string b.name, .int .i64 b.num, .slice A' b.k cap', .int .i64 b.line, .int .i64 b.col] 26)) := Below.refl _ _
  have HB0 := hid hb0
  clear hfa hfb hab hba haa hrr hb0
  go_enter Try.func4, Try.ntmps4
  go_wp2_with fail
  refine (awake12_any _).mono ?_
  rintro r w1 ⟨rfl, hb1⟩
  have k1 := HB0.out.then hb1
  clear HB0 hb1
  obtain ⟨x0, x1, x2, x3, x4, x5, y0, y1, y2, y3, y4, y5⟩ := k1.cells
  go_wp2_with fail
  refine (HFA.out w1 k1).mono ?_
  clear x0 x1 x2 x3 x4 x5 y0 y1 y2 y3 y4 y5
  rintro r w2 ⟨rfl, k2⟩
  obtain ⟨x0, x1, x2, x3, x4, x5, y0, y1, y2, y3, y4, y5⟩ := k2.cells
  cases hf1 : a.few with
  | false =>
    go_wp2_with fail
    go_ret
    exact ⟨rfl, k2.below⟩
  | true =>
    go_wp2_with fail
    refine (HFB.out w2 k2).mono ?_
    clear x0 x1 x2 x3 x4 x5 y0 y1 y2 y3 y4 y5
    rintro r w3 ⟨rfl, k3⟩
    obtain ⟨x0, x1, x2, x3, x4, x5, y0, y1, y2, y3, y4, y5⟩ := k3.cells
    cases hf2 : b.few with
    | false =>
      go_wp2_with fail
      go_ret
      exact ⟨rfl, k3.below⟩
    | true =>
      go_wp2_with fail
      have k4 : Box2E w a A cap b A' cap' w3.drew := k3.drew
      generalize a.same b = sm at *
      go_region_held3 (fun w' => w'.cell? ⟨w.heap.size, 0, none⟩ = some (.int .i64 a.op) ∧ w'.cell? ⟨w.heap.size, 1, none⟩ = some (.string a.name) ∧ w'.cell? ⟨w.heap.size, 2, none⟩ = some (.int .i64 a.num) ∧ w'.cell? ⟨w.heap.size, 3, none⟩ = some (.slice A a.k cap) ∧
        w'.cell? ⟨w.heap.size, 4, none⟩ = some (.int .i64 a.line) ∧ w'.cell? ⟨w.heap.size, 5, none⟩ = some (.int .i64 a.col) ∧
        w'.cell? ⟨w.heap.size + 1, 0, none⟩ = some (.int .i64 b.op) ∧ w'.cell? ⟨w.heap.size + 1, 1, none⟩ = some (.string b.name) ∧ w'.cell? ⟨w.heap.size + 1, 2, none⟩ = some (.int .i64 b.num) ∧ w'.cell? ⟨w.heap.size + 1, 3, none⟩ = some (.slice A' b.k cap') ∧
        w'.cell? ⟨w.heap.size + 1, 4, none⟩ = some (.int .i64 b.line) ∧ w'.cell? ⟨w.heap.size + 1, 5, none⟩ = some (.int .i64 b.col))
        (first | exact Box2E.cells (by with_reducible assumption) | go_keep)
        (first
          | (go_at_call 16; refine (HRR.out _ (by with_reducible assumption)).mono ?_; rintro r w5 ⟨rfl, k5⟩)
          | (go_at_call 15; with_reducible refine (HAB.out _ (by with_reducible assumption)).mono ?_; rintro r w5 ⟨rfl, k5⟩)
          | (go_at_call 15; with_reducible refine (HBA.out _ (by with_reducible assumption)).mono ?_; rintro r w5 ⟨rfl, k5⟩)
          | (go_at_call 15; with_reducible refine (HAA.out _ (by with_reducible assumption)).mono ?_; rintro r w5 ⟨rfl, k5⟩))
      all_goals
        go_wp2_with fail
        go_ret
        refine ⟨ret_bool (by simp), Box2E.below (a := a) (A := A) (cap := cap) (b := b) (A' := A') (cap' := cap') ?_⟩
        with_reducible assumption
end Go.Proofs.Ytiencmbbkbicnaa
