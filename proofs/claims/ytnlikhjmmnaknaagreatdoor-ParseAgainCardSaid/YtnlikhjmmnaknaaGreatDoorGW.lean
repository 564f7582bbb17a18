/-
  Texts of this claim, joined: LawSame LawTells SrcE SrcF SrcF2 SrcG SrcH SrcI.
-/
import Derived.Deep.RegionHeld3
import Derived.Test.YtnlikhjmmnaknaaGreatDoorHTreeS2
import Derived.Test.YtnlikhjmmnaknaaGreatDoorHLawRight
import Derived.Shelf.RegionOpen
import Derived.Test.YtnlikhjmmnaknaaGreatDoorHNames12b
import Derived.Test.YtnlikhjmmnaknaaGreatDoorHQuietRound
import Derived.Test.YtnlikhjmmnaknaaGreatDoorGF
import Derived.Test.YtnlikhjmmnaknaaGreatDoorHBox2
import Derived.Lib.QuietBelow
/-
  The walk of the statement TreeSame.
-/
namespace Go.Proofs.YtnlikhjmmnaknaaGreatDoor
open Go.RowKit

/-- an expression without junk -/
def Ex.live : Ex → Prop
  | .junk => False
  | .mk _ _ _ k arg _ _ => ∀ i, i < k → (arg i).live
theorem ExAt.live {B : Nat} {w : World} : ∀ (e : Ex) (A : Option Addr) (cap : Nat), ExAt B w e A cap → e.live := by
  intro e
  induction e with
  | junk => intro A cap h; exact h
  | mk op name n k arg l c ih =>
    rintro A cap ⟨_, h⟩ i hi
    obtain ⟨b, o, A', cap', _, _, _, h'⟩ := h i hi
    exact ih i A' cap' h'
theorem allTo_congr {f g : Nat → Bool} (k : Nat) (h : ∀ i, i < k → f i = g i) : allTo f k = allTo g k := by
  induction k with
  | zero => rfl
  | succ k ih => rw [allTo_succ, allTo_succ, ih (fun i hi => h i (by omega)), h k (by omega)]
theorem allTo_true {f : Nat → Bool} (k : Nat) (h : ∀ i, i < k → f i = true) : allTo f k = true := by
  induction k with
  | zero => rfl
  | succ k ih => rw [allTo_succ, ih (fun i hi => h i (by omega)), h k (by omega)]; rfl
theorem same_live : ∀ a : Ex, a.live → a.same a = true := by
  intro a
  induction a with
  | junk => intro h; exact h.elim
  | mk op name n k arg l c ih =>
    intro h
    rw [Ex.same]
    simp only [Ex.op, Ex.name, Ex.num, Ex.k, Ex.arg, beq_self_eq_true, Bool.true_and]
    exact allTo_true k fun i hi => ih i (h i hi)
theorem same_comm : ∀ a b : Ex, a.live → b.live → b.same a = a.same b := by
  intro a
  induction a with
  | junk => intro b h; exact h.elim
  | mk op name n k arg l c ih =>
    intro b h hb
    cases b with
    | junk => exact hb.elim
    | mk op' name' n' k' arg' l' c' =>
      rw [Ex.same, Ex.same]
      simp only [Ex.op, Ex.name, Ex.num, Ex.k, Ex.arg]
      rw [Bool.beq_comm (a := op'), Bool.beq_comm (a := name'.data.toList), Bool.beq_comm (a := n'), Bool.beq_comm (a := k')]
      by_cases hk : k = k'
      · subst hk
        rw [allTo_congr k fun i hi => ih i (arg' i) (h i hi) (hb i hi)]
      · rw [beq_eq_false_iff_ne.2 hk]; simp

/-- a world behind the boxing of two parameters that are expressions -/
def Box2E (w : World) (a : Ex) (A : Option Addr) (cap : Nat) (b : Ex) (A' : Option Addr) (cap' : Nat) (W : World) : Prop :=
  Below (w.heap.size + 1 + 1) ((w.alloc (.cells #[.int .i64 a.op, .string a.name, .int .i64 a.num, .slice A a.k cap, .int .i64 a.line, .int .i64 a.col] 41)).alloc (.cells #[.int .i64 b.op, .string b.name, .int .i64 b.num, .slice A' b.k cap', .int .i64 b.line, .int .i64 b.col] 41)) W
section
variable {w W W' : World} {a b : Ex} {A A' : Option Addr} {cap cap' : Nat}
theorem Box2E.then (h : Box2E w a A cap b A' cap' W) (h' : Below W.heap.size W W') : Box2E w a A cap b A' cap' W' := Below.trans h (h'.mono (boxed2_size h))
theorem Box2E.below (h : Box2E w a A cap b A' cap' W) : Below w.heap.size w W := boxed2_below h
theorem Box2E.drew (h : Box2E w a A cap b A' cap' W) : Box2E w a A cap b A' cap' W.drew := Below.drew h
theorem Box2E.cells (h : Box2E w a A cap b A' cap' W) :
    W.cell? ⟨w.heap.size, 0, none⟩ = some (.int .i64 a.op) ∧ W.cell? ⟨w.heap.size, 1, none⟩ = some (.string a.name) ∧ W.cell? ⟨w.heap.size, 2, none⟩ = some (.int .i64 a.num) ∧ W.cell? ⟨w.heap.size, 3, none⟩ = some (.slice A a.k cap) ∧
    W.cell? ⟨w.heap.size, 4, none⟩ = some (.int .i64 a.line) ∧ W.cell? ⟨w.heap.size, 5, none⟩ = some (.int .i64 a.col) ∧
    W.cell? ⟨w.heap.size + 1, 0, none⟩ = some (.int .i64 b.op) ∧ W.cell? ⟨w.heap.size + 1, 1, none⟩ = some (.string b.name) ∧ W.cell? ⟨w.heap.size + 1, 2, none⟩ = some (.int .i64 b.num) ∧ W.cell? ⟨w.heap.size + 1, 3, none⟩ = some (.slice A' b.k cap') ∧
    W.cell? ⟨w.heap.size + 1, 4, none⟩ = some (.int .i64 b.line) ∧ W.cell? ⟨w.heap.size + 1, 5, none⟩ = some (.int .i64 b.col) :=
  ⟨(boxed2_cell h 0).1, (boxed2_cell h 1).1, (boxed2_cell h 2).1, (boxed2_cell h 3).1, (boxed2_cell h 4).1, (boxed2_cell h 5).1, (boxed2_cell h 0).2, (boxed2_cell h 1).2, (boxed2_cell h 2).2, (boxed2_cell h 3).2, (boxed2_cell h 4).2, (boxed2_cell h 5).2⟩
end

end Go.Proofs.YtnlikhjmmnaknaaGreatDoor
/-
  The walk of the statement TreeTells.
-/
namespace Go.Proofs.YtnlikhjmmnaknaaGreatDoor
open Go.RowKit Go.Shelf Go.Sort
attribute [local go_sem] Oper.semAt_some

/-- a world behind another -/
def Hind (W0 W : World) : Prop := Below W0.heap.size W0 W
theorem Hind.refl (W : World) : Hind W W := Below.refl _ _
theorem Hind.then {W0 W W' : World} (h : Hind W0 W) (h' : Below W.heap.size W W') : Hind W0 W' := Below.trans h (h'.mono h.size)
theorem Hind.drew {W0 W : World} (h : Hind W0 W) : Hind W0 W.drew := Below.drew h
theorem Hind.drewN {W0 W : World} (h : Hind W0 W) (n : Nat) : Hind W0 (W.drewN n) := h.then ⟨rfl, rfl, rfl, Nat.le_refl _, fun _ _ => rfl⟩
theorem Hind.cell {W0 W : World} (h : Hind W0 W) {b : Nat} (hb : b < W0.heap.size) (k : Nat) : W.cell? ⟨b, k, none⟩ = W0.cell? ⟨b, k, none⟩ := Below.cell (p := ⟨b, k, none⟩) h hb
theorem Hind.block {W0 W : World} (h : Hind W0 W) {b : Nat} (hb : b < W0.heap.size) : W.heap[b]? = W0.heap[b]? := Below.block h b hb

theorem own_below {w w' : World} {base : Nat} {e : TypeId} {size : Nat} {v : Value} {n : Nat} {xs : List Value} (h : w.ownsRow base e size v n xs) (hb : Below w.heap.size w w') : w'.ownsRow base e size v n xs :=
  h.kept ⟨hb.os, hb.tape, hb.output, hb.size, fun i hi _ => hb.block i hi⟩ (row := none) (by cases v.ownBlock <;> simp)

end Go.Proofs.YtnlikhjmmnaknaaGreatDoor
/-
  Lists compared element by element: slices.Equal at strings and at conditions, the reference's Lits.
-/
namespace Go.Proofs.YtnlikhjmmnaknaaGreatDoor
open Go.RowKit

/-- are two lists one, element by element? -/
def zipB {α : Type} (p : α → α → Bool) : List α → List α → Bool
  | [], [] => true
  | a :: l, b :: m => p a b && zipB p l m
  | _, _ => false
theorem zip_len {α : Type} {p : α → α → Bool} : ∀ {xs ys : List α}, ¬ xs.length = ys.length → zipB p xs ys = false
  | [], [], h => absurd rfl h
  | [], _ :: _, _ => rfl
  | _ :: _, [], _ => rfl
  | _ :: l, _ :: m, h => by rw [zipB, zip_len (xs := l) (ys := m) (by simpa using h), Bool.and_false]
theorem zip_hit {α : Type} {p : α → α → Bool} : ∀ {xs ys : List α} {j : Nat} (h1 : j < xs.length) (h2 : j < ys.length), p xs[j] ys[j] = false → zipB p xs ys = false
  | a :: l, b :: m, 0, _, _, h => by rw [zipB]; rw [show p a b = false from h]; rfl
  | _ :: l, _ :: m, j + 1, h1, h2, h => by rw [zipB, zip_hit (xs := l) (ys := m) (j := j) (by simpa using h1) (by simpa using h2) (by simpa using h), Bool.and_false]
theorem zip_all {α : Type} {p : α → α → Bool} : ∀ {xs ys : List α}, xs.length = ys.length → (∀ j (h1 : j < xs.length) (h2 : j < ys.length), p xs[j] ys[j] = true) → zipB p xs ys = true
  | [], [], _, _ => rfl
  | [], _ :: _, h, _ => by simp at h
  | _ :: _, [], h, _ => by simp at h
  | a :: l, b :: m, hl, h => by
    rw [zipB, show p a b = true from h 0 (by simp) (by simp), zip_all (xs := l) (ys := m) (by simpa using hl) (fun j h1 h2 => h (j + 1) (by simpa using h1) (by simpa using h2))]; rfl
theorem zip_self {α : Type} {p : α → α → Bool} : ∀ {xs : List α}, (∀ x ∈ xs, p x x = true) → zipB p xs xs = true
  | [], _ => rfl
  | a :: l, h => by rw [zipB, h a (by simp), zip_self (xs := l) (fun x hx => h x (List.mem_cons_of_mem _ hx))]; rfl
def UptoZ {α : Type} (p : α → α → Bool) (xs ys : List α) (j : Nat) : Prop := ∀ m (h1 : m < xs.length) (h2 : m < ys.length), m < j → p xs[m] ys[m] = true
theorem UptoZ.zero {α : Type} (p : α → α → Bool) (xs ys : List α) : UptoZ p xs ys 0 := fun m _ _ h => absurd h (by omega)
theorem UptoZ.succ {α : Type} {p : α → α → Bool} {xs ys : List α} {j : Nat} (h : UptoZ p xs ys j) (h1 : j < xs.length) (h2 : j < ys.length) (hp : p xs[j] ys[j] = true) : UptoZ p xs ys (j + 1) := fun m hm1 hm2 hmj => by
  by_cases he : m = j
  · subst he; exact hp
  · exact h m hm1 hm2 (by omega)
theorem UptoZ.all {α : Type} {p : α → α → Bool} {xs ys : List α} (hl : xs.length = ys.length) (h : UptoZ p xs ys xs.length) : zipB p xs ys = true := zip_all hl fun j h1 h2 => h j h1 h2 h1

def strS (a b : ByteArray) : Bool := a.data.toList == b.data.toList
def litS (a b : LitE) : Bool := strS a.name b.name && a.neg == b.neg
theorem strS_eq (a b : ByteArray) : strS a b = (a.toList == b.toList) := by unfold strS; rw [ByteArray.toList_eq, ByteArray.toList_eq]
theorem zip_strs (xs ys : List ByteArray) : zipB strS xs ys = sameStrs xs ys := by
  by_cases hl : xs.length = ys.length
  · cases h : sameStrs xs ys with
    | true =>
      refine zip_all hl fun j h1 h2 => ?_
      cases hj : strS xs[j] ys[j] with
      | true => rfl
      | false => rw [strS_eq] at hj; rw [sameStrs_hit h1 h2 hj] at h; cases h
    | false =>
      cases hz : zipB strS xs ys with
      | false => rfl
      | true =>
        have := sameStrs_all hl fun j h1 h2 => by
          cases hj : strS xs[j] ys[j] with
          | true => rw [strS_eq] at hj; exact hj
          | false => rw [zip_hit h1 h2 hj] at hz; cases hz
        rw [this] at h; cases h
  · rw [zip_len hl, sameStrs_len hl]

set_option maxHeartbeats 1000000 in
theorem rlits_any (xs ys : List LitE) (S S' : Sl) (B : Nat) (w : World) (hf : S.fits xs.length) (hf' : S'.fits ys.length) (hx : SlAt 2 (LitAt B w) S.A xs) (hy : SlAt 2 (LitAt B w) S'.A ys) :
    Calls Tryz.prog 64 #[S.v xs.length, S'.v ys.length] w fun r w' => r = .returned (.bool (zipB litS xs ys)) ∧ ∃ n, w' = w.drewN n := by
  obtain ⟨A, cap⟩ := S
  obtain ⟨A', cap'⟩ := S'
  obtain ⟨hf1, hf2⟩ := hf
  obtain ⟨hg1, hg2⟩ := hf'
  simp only [Sl.v] at *
  unfold maxLen at hf2 hg2
  have hc1 : (xs.length : Int) ≤ 9223372036854775807 := by omega
  have hc2 : (ys.length : Int) ≤ 9223372036854775807 := by omega
  have HX := hid hx
  have HY := hid hy
  clear hx hy hf1 hf2 hg1 hg2
  by_cases hl : xs.length = ys.length
  · have HL := hid hl
    rw [← hl]
    clear hl hc2
    go_enter Tryz.func64, Tryz.ntmps64
    go_wp2_with fail
    go_loopw [5] (fun i wr => ∃ j n : Nat, j ≤ xs.length ∧ i = .int .i64 j ∧ wr = w.drewN n ∧ Hid (UptoZ litS xs ys j)) (fun i _ => xs.length - (intOf i).toNat)
    case atStart => exact ⟨0, 0, by omega, rfl, rfl, UptoZ.zero _ _ _⟩
    case round =>
      obtain ⟨j, n, hj, rfl, rfl, hup⟩ := hrel
      by_cases hlt : j < xs.length
      · have hlt' : j < ys.length := by have := HL.out; omega
        obtain ⟨b, o, rfl, hcx⟩ := HX.out j hlt
        obtain ⟨b', o', rfl, hcy⟩ := HY.out j hlt'
        obtain ⟨_, _, c0, c1⟩ := hcx
        obtain ⟨_, _, d0, d1⟩ := hcy
        have hi0 : (0 : Int) ≤ (j : Int) := by omega
        have hi1 : (j : Int) < (xs.length : Int) := by omega
        have hno := hid (fun hp : litS xs[j] ys[j] = false => zip_hit hlt hlt' hp)
        have hyes := hid (fun hp : litS xs[j] ys[j] = true => hup.out.succ hlt hlt' hp)
        clear hup
        generalize xs[j] = x at *
        generalize ys[j] = y at *
        obtain ⟨xn, xb⟩ := x
        obtain ⟨yn, yb⟩ := y
        simp only at *
        cases h1 : (xn.toList == yn.toList)
        · have HP : Hid (litS ⟨xn, xb⟩ ⟨yn, yb⟩ = false) := by show _ = _; unfold litS; rw [strS_eq, h1]; rfl
          go_wp2_with fail
          go_quiet (fail)
          go_wp2_with fail
          go_ret
          exact ⟨ret_bool (hno.out HP.out).symm, n + nq, by first | rfl | rw [World.drewN_drewN]⟩
        · cases h2 : (xb == yb)
          · have HP : Hid (litS ⟨xn, xb⟩ ⟨yn, yb⟩ = false) := by show _ = _; unfold litS; rw [strS_eq, h1, h2]; rfl
            go_wp2_with fail
            go_quiet (fail)
            go_wp2_with fail
            go_ret
            exact ⟨ret_bool (hno.out HP.out).symm, n + nq, by first | rfl | rw [World.drewN_drewN]⟩
          · have HP : Hid (litS ⟨xn, xb⟩ ⟨yn, yb⟩ = true) := by show _ = _; unfold litS; rw [strS_eq, h1, h2]; rfl
            go_wp2_with fail
            go_quiet (fail)
            go_wp2_with fail
            go_roundw
            case rel => exact ⟨j + 1, n + nq, by omega, by go_num, rfl, hyes.out HP.out⟩
            case measure => simp [intOf]; omega
      · have : j = xs.length := by omega
        subst this
        have HZ := hid (UptoZ.all HL.out hup.out)
        clear hup
        go_wp2_with fail
        go_ret
        exact ⟨ret_bool HZ.out.symm, n, rfl⟩
  · have HS := hid (zip_len (p := litS) hl)
    have hne : ((xs.length : Int) != (ys.length : Int)) = true := by simp; omega
    clear hl
    go_enter Tryz.func64, Tryz.ntmps64
    go_wp2_with fail
    go_ret
    exact ⟨ret_bool HS.out.symm, 0, rfl⟩
end Go.Proofs.YtnlikhjmmnaknaaGreatDoor
/-
  slices.EqualFunc at variables, equations and nodes; the closures that package tree hands it; vars and Equal.
-/
namespace Go.Proofs.YtnlikhjmmnaknaaGreatDoor
open Go.RowKit

def varS (a b : VarE) : Bool := strS a.name b.name && a.type == b.type && zipB litS a.clock b.clock
def eqnS (a b : EqE) : Bool := zipB strS a.left b.left && a.right.same b.right
def nodeS (a b : NodeE) : Bool := strS a.name b.name && zipB varS a.ins b.ins && zipB varS a.outs b.outs && zipB varS a.vars b.vars && zipB eqnS a.eqs b.eqs

end Go.Proofs.YtnlikhjmmnaknaaGreatDoor
/-
  slices.EqualFunc at equations and nodes; Equal of package tree.
-/
namespace Go.Proofs.YtnlikhjmmnaknaaGreatDoor
open Go.RowKit

theorem below_drewN {B : Nat} {w W : World} (h : Below B w W) (n : Nat) : Below B w (W.drewN n) := h.trans ⟨rfl, rfl, rfl, Nat.le_refl _, fun _ _ => rfl⟩

end Go.Proofs.YtnlikhjmmnaknaaGreatDoor
/-
  Equal of package tree: the closure over two nodes, and Equal itself.
-/
namespace Go.Proofs.YtnlikhjmmnaknaaGreatDoor
open Go.RowKit

end Go.Proofs.YtnlikhjmmnaknaaGreatDoor
/-
  The walk of the reference's sameVars.
-/
namespace Go.Proofs.YtnlikhjmmnaknaaGreatDoor
open Go.RowKit

theorem same_drewN {B : Nat} (w : World) (n : Nat) : Go.Proofs.YtnlikhjmmnaknaaGreatDoor.Same B w (w.drewN n) := fun _ _ _ => rfl

set_option maxHeartbeats 2000000 in
theorem rsameVars_any (xs ys : List VarE) (S S' : Sl) (B : Nat) (w : World) (hf : S.fits xs.length) (hf' : S'.fits ys.length) (hx : SlAt 5 (VarAt B w) S.A xs) (hy : SlAt 5 (VarAt B w) S'.A ys) :
    Calls Tryz.prog 31 #[S.v xs.length, S'.v ys.length] w fun r w' => r = .returned (.bool (zipB varS xs ys)) ∧ ∃ n, w' = w.drewN n := by
  obtain ⟨A, cap⟩ := S
  obtain ⟨A', cap'⟩ := S'
  obtain ⟨hf1, hf2⟩ := hf
  obtain ⟨hg1, hg2⟩ := hf'
  simp only [Sl.v] at *
  unfold maxLen at hf2 hg2
  have hc1 : (xs.length : Int) ≤ 9223372036854775807 := by omega
  have hc2 : (ys.length : Int) ≤ 9223372036854775807 := by omega
  have HX := hid hx
  have HY := hid hy
  clear hx hy hf1 hf2 hg1 hg2
  by_cases hl : xs.length = ys.length
  · have HL := hid hl
    rw [← hl]
    clear hl hc2
    go_enter Tryz.func31, Tryz.ntmps31
    go_wp2_with fail
    go_loopw [5] (fun i wr => ∃ j n : Nat, j ≤ xs.length ∧ i = .int .i64 j ∧ wr = w.drewN n ∧ Hid (UptoZ varS xs ys j)) (fun i _ => xs.length - (intOf i).toNat)
    case atStart => exact ⟨0, 0, by omega, rfl, rfl, UptoZ.zero _ _ _⟩
    case round =>
      obtain ⟨j, n, hj, rfl, hwr, hup⟩ := hrel
      have hsm : Go.Proofs.YtnlikhjmmnaknaaGreatDoor.Same B w wr := by rw [hwr]; exact same_drewN _ _
      have HWR := hid hwr
      clear hwr
      by_cases hlt : j < xs.length
      · have hlt' : j < ys.length := by have := HL.out; omega
        obtain ⟨b, o, rfl, hcx⟩ := HX.out j hlt
        obtain ⟨b', o', rfl, hcy⟩ := HY.out j hlt'
        have hno := hid (fun hp : varS xs[j] ys[j] = false => zip_hit hlt hlt' hp)
        have hyes := hid (fun hp : varS xs[j] ys[j] = true => hup.out.succ hlt hlt' hp)
        generalize xs[j] = x at *
        generalize ys[j] = y at *
        obtain ⟨_, S1, k1, i1⟩ := hcx.keep hsm
        obtain ⟨_, S2, k2, i2⟩ := hcy.keep hsm
        obtain ⟨c0, c1, c2, c3, c4⟩ := k1
        obtain ⟨d0, d1, d2, d3, d4⟩ := k2
        have hlit : ∀ k, Calls Tryz.prog 64 #[S1.v x.clock.length, S2.v y.clock.length] (wr.drewN k) fun e w' => e = .returned (.bool (zipB litS x.clock y.clock)) ∧ ∃ m, w' = wr.drewN m := fun k =>
          (rlits_any x.clock y.clock S1 S2 B _ i1.fits i2.fits (i1.clock.imp fun _ _ _ h => LitAt.keep (same_drewN _ k) h) (i2.clock.imp fun _ _ _ h => LitAt.keep (same_drewN _ k) h)).mono
            fun _ _ ⟨h1, m, h2⟩ => ⟨h1, k + m, by rw [h2, World.drewN_drewN]⟩
        have hi0 : (0 : Int) ≤ (j : Int) := by omega
        have hi1 : (j : Int) < (xs.length : Int) := by omega
        obtain ⟨xn, xt, xc, xl, xo⟩ := x
        obtain ⟨yn, yt, yc, yl, yo⟩ := y
        obtain ⟨A1, p1⟩ := S1
        obtain ⟨A2, p2⟩ := S2
        simp only [Sl.v] at *
        have HLIT := hid hlit
        clear hup hlit i1 i2 hsm
        cases h1 : (xn.toList == yn.toList)
        · have HP : Hid (varS ⟨xn, xt, xc, xl, xo⟩ ⟨yn, yt, yc, yl, yo⟩ = false) := by show _ = _; unfold varS; rw [strS_eq, h1]; rfl
          go_wp2_with fail
          go_quiet (fail)
          go_wp2_with fail
          go_ret
          exact ⟨ret_bool (hno.out HP.out).symm, n + nq, by rw [HWR.out, World.drewN_drewN]⟩
        · cases h2 : (xt == yt)
          · have HP : Hid (varS ⟨xn, xt, xc, xl, xo⟩ ⟨yn, yt, yc, yl, yo⟩ = false) := by show _ = _; unfold varS; rw [strS_eq, h1, h2]; rfl
            have h3 : (xt != yt) = true := by simp [bne, h2]
            go_wp2_with fail
            go_quiet (fail)
            go_wp2_with fail
            go_ret
            exact ⟨ret_bool (hno.out HP.out).symm, n + nq, by rw [HWR.out, World.drewN_drewN]⟩
          · have h3 : (xt != yt) = false := by simp [bne, h2]
            cases h4 : zipB litS xc yc
            · have HP : Hid (varS ⟨xn, xt, xc, xl, xo⟩ ⟨yn, yt, yc, yl, yo⟩ = false) := by show _ = _; unfold varS; rw [strS_eq, h1, h2, h4]; rfl
              rw [h4] at HLIT
              clear h4
              go_wp2_with fail
              go_quiet (exact HLIT.out _)
              go_wp2_with fail
              go_ret
              exact ⟨ret_bool (hno.out HP.out).symm, n + nq, by rw [HWR.out, World.drewN_drewN]⟩
            · have HP : Hid (varS ⟨xn, xt, xc, xl, xo⟩ ⟨yn, yt, yc, yl, yo⟩ = true) := by show _ = _; unfold varS; rw [strS_eq, h1, h2, h4]; rfl
              rw [h4] at HLIT
              clear h4
              go_wp2_with fail
              go_quiet (exact HLIT.out _)
              go_wp2_with fail
              go_roundw
              case rel => exact ⟨j + 1, n + nq, by omega, by go_num, by rw [HWR.out, World.drewN_drewN], hyes.out HP.out⟩
              case measure => simp [intOf]; omega
      · have : j = xs.length := by omega
        subst this
        have HZ := hid (UptoZ.all HL.out hup.out)
        clear hup
        go_wp2_with fail
        go_ret
        exact ⟨ret_bool HZ.out.symm, n, HWR.out⟩
  · have HS := hid (zip_len (p := varS) hl)
    have hne : ((xs.length : Int) != (ys.length : Int)) = true := by simp; omega
    clear hl
    go_enter Tryz.func31, Tryz.ntmps31
    go_wp2_with fail
    go_ret
    exact ⟨ret_bool HS.out.symm, 0, rfl⟩
end Go.Proofs.YtnlikhjmmnaknaaGreatDoor
/-
  The walk of the reference's Equal.
-/
namespace Go.Proofs.YtnlikhjmmnaknaaGreatDoor
open Go.RowKit Go.Sort Go.BigFrame

theorem below_of_drewN {w w' : World} (h : ∃ n, w' = w.drewN n) : Below w.heap.size w w' := by
  obtain ⟨n, rfl⟩ := h
  exact ⟨rfl, rfl, rfl, Nat.le_refl _, fun _ _ => rfl⟩

set_option maxHeartbeats 1000000 in
theorem rtexts2_any (xs ys : List ByteArray) (S S' : Sl) (B : Nat) (w : World) (hf : S.fits xs.length) (hf' : S'.fits ys.length) (hx : SlAt 1 (StrAt B w) S.A xs) (hy : SlAt 1 (StrAt B w) S'.A ys) :
    Calls Tryz.prog 32 #[S.v xs.length, S'.v ys.length] w fun r w' => r = .returned (.bool (zipB strS xs ys)) ∧ ∃ n, w' = w.drewN n := by
  obtain ⟨A, cap⟩ := S
  obtain ⟨A', cap'⟩ := S'
  obtain ⟨hf1, hf2⟩ := hf
  obtain ⟨hg1, hg2⟩ := hf'
  simp only [Sl.v] at *
  unfold maxLen at hf2 hg2
  have hc1 : (xs.length : Int) ≤ 9223372036854775807 := by omega
  have hc2 : (ys.length : Int) ≤ 9223372036854775807 := by omega
  have HX := hid hx
  have HY := hid hy
  clear hx hy hf1 hf2 hg1 hg2
  by_cases hl : xs.length = ys.length
  · have HL := hid hl
    rw [← hl]
    clear hl hc2
    go_enter Tryz.func32, Tryz.ntmps32
    go_wp2_with fail
    go_loopw [5] (fun i wr => ∃ j n : Nat, j ≤ xs.length ∧ i = .int .i64 j ∧ wr = w.drewN n ∧ Hid (UptoZ strS xs ys j)) (fun i _ => xs.length - (intOf i).toNat)
    case atStart => exact ⟨0, 0, by omega, rfl, rfl, UptoZ.zero _ _ _⟩
    case round =>
      obtain ⟨j, n, hj, rfl, rfl, hup⟩ := hrel
      by_cases hlt : j < xs.length
      · have hlt' : j < ys.length := by have := HL.out; omega
        obtain ⟨b, o, rfl, hcx⟩ := HX.out j hlt
        obtain ⟨b', o', rfl, hcy⟩ := HY.out j hlt'
        obtain ⟨_, _, c0⟩ := hcx
        obtain ⟨_, _, d0⟩ := hcy
        simp only [Nat.mul_one] at c0 d0
        have hi0 : (0 : Int) ≤ (j : Int) := by omega
        have hi1 : (j : Int) < (xs.length : Int) := by omega
        have hno := hid (fun hp : strS xs[j] ys[j] = false => zip_hit hlt hlt' hp)
        have hyes := hid (fun hp : strS xs[j] ys[j] = true => hup.out.succ hlt hlt' hp)
        clear hup
        cases h1 : (xs[j].toList == ys[j].toList)
        · have HP : Hid (strS xs[j] ys[j] = false) := by show _ = _; rw [strS_eq, h1]
          go_wp2_with fail
          go_quiet (fail)
          go_wp2_with fail
          go_ret
          exact ⟨ret_bool (hno.out HP.out).symm, n + nq, by first | rfl | rw [World.drewN_drewN]⟩
        · have HP : Hid (strS xs[j] ys[j] = true) := by show _ = _; rw [strS_eq, h1]
          go_wp2_with fail
          go_quiet (fail)
          go_wp2_with fail
          go_roundw
          case rel => exact ⟨j + 1, n + nq, by omega, by go_num, rfl, hyes.out HP.out⟩
          case measure => simp [intOf]; omega
      · have : j = xs.length := by omega
        subst this
        have HZ := hid (UptoZ.all HL.out hup.out)
        clear hup
        go_wp2_with fail
        go_ret
        exact ⟨ret_bool HZ.out.symm, n, rfl⟩
  · have HS := hid (zip_len (p := strS) hl)
    have hne : ((xs.length : Int) != (ys.length : Int)) = true := by simp; omega
    clear hl
    go_enter Tryz.func32, Tryz.ntmps32
    go_wp2_with fail
    go_ret
    exact ⟨ret_bool HS.out.symm, 0, rfl⟩

set_option maxRecDepth 100000 in
set_option maxHeartbeats 4000000 in
theorem requal_any (xs ys : List NodeE) (S S' : Sl) (B : Nat) (w : World) (hx : SrcIs B w xs S) (hy : SrcIs B w ys S') (hB : B ≤ w.heap.size) :
    Calls Tryz.prog 12 #[srcVal xs S, srcVal ys S'] w fun e w' => e = .returned (.bool (zipB nodeS xs ys)) ∧ Below w.heap.size w w' := by
  obtain ⟨A, cap⟩ := S
  obtain ⟨A', cap'⟩ := S'
  obtain ⟨⟨hf1, hf2⟩, hnx⟩ := hx
  obtain ⟨⟨hg1, hg2⟩, hny⟩ := hy
  simp only [srcVal, Sl.v] at *
  unfold maxLen at hf2 hg2
  have hc1 : (xs.length : Int) ≤ 9223372036854775807 := by omega
  have hc2 : (ys.length : Int) ≤ 9223372036854775807 := by omega
  have HX := hid hnx
  have HY := hid hny
  obtain ⟨W0, hW0⟩ : ∃ W0, W0 = ((w.alloc (.cells #[.slice A xs.length cap] 25)).alloc (.cells #[.slice A' ys.length cap'] 25)) := ⟨_, rfl⟩
  have hb0 : Below w.heap.size w W0 := by rw [hW0]; exact ((Below.refl _ _).alloc (Nat.le_refl _) _).alloc (by simp) _
  have hz0 : w.heap.size + 1 < W0.heap.size := by rw [hW0]; simp
  have hx0 : W0.cell? ⟨w.heap.size, 0, none⟩ = some (.slice A xs.length cap) := by rw [hW0]; exact (boxed2_cell (Below.refl _ _) 0).1
  have hy0 : W0.cell? ⟨w.heap.size + 1, 0, none⟩ = some (.slice A' ys.length cap') := by rw [hW0]; exact (boxed2_cell (Below.refl _ _) 0).2
  have HW0 := hid hW0
  have HX0 := hid hx0
  have HY0 := hid hy0
  have HB0 := hid hb0
  clear hnx hny hf1 hf2 hg1 hg2 hW0 hx0 hy0 hb0
  by_cases hl : xs.length = ys.length
  · have HL := hid hl
    have hne : ((xs.length : Int) != (ys.length : Int)) = false := by rw [← hl]; simp
    clear hl
    go_enter Tryz.func12, Tryz.ntmps12
    go_wp2_with fail
    rw [← HW0.out]
    go_loopw [5, 6, 7, 8] (fun i _ _ _ wr => ∃ j : Nat, j ≤ xs.length ∧ i = .int .i64 j ∧ Hid (UptoZ nodeS xs ys j) ∧ Hind W0 wr) (fun i _ _ _ _ => xs.length - (intOf i).toNat)
    case atStart => exact ⟨0, by omega, rfl, UptoZ.zero _ _ _, Hind.refl W0⟩
    case round =>
      obtain ⟨j, hj, rfl, hup, hkr⟩ := hrel
      have hsz := Below.size hkr
      have z0 : wr.cell? ⟨w.heap.size, 0, none⟩ = some (.slice A xs.length cap) := (hkr.cell (by omega) 0).trans HX0.out
      have z1 : wr.cell? ⟨w.heap.size + 1, 0, none⟩ = some (.slice A' ys.length cap') := (hkr.cell hz0 0).trans HY0.out
      have hbr := HB0.out.trans (Below.mono hkr HB0.out.size)
      have hBr := Nat.le_trans hB hbr.size
      have hlt0 : w.heap.size < wr.heap.size := by omega
      have hlt1 : w.heap.size + 1 < wr.heap.size := by omega
      by_cases hlt : j < xs.length
      · have hlt' : j < ys.length := by have := HL.out; omega
        obtain ⟨b, o, rfl, hcx⟩ := HX.out j hlt
        obtain ⟨b', o', rfl, hcy⟩ := HY.out j hlt'
        have hno := hid (fun hp : nodeS xs[j] ys[j] = false => zip_hit hlt hlt' hp)
        have hyes := hid (fun hp : nodeS xs[j] ys[j] = true => hup.out.succ hlt hlt' hp)
        generalize xs[j] = x at *
        generalize ys[j] = y at *
        obtain ⟨hb1, S1, k1, i1⟩ := hcx.keep (same_below hB hbr)
        obtain ⟨hb2, S2, k2, i2⟩ := hcy.keep (same_below hB hbr)
        obtain ⟨c0, c1, c2, c3, c4, c5, c6⟩ := k1
        obtain ⟨d0, d1, d2, d3, d4, d5, d6⟩ := k2
        have hi0 : (0 : Int) ≤ (j : Int) := by omega
        have hi1 : (j : Int) < (xs.length : Int) := by omega
        have hi2 : (j : Int) < (ys.length : Int) := by omega
        have hlb1 : b < wr.heap.size := by omega
        have hlb2 : b' < wr.heap.size := by omega
        obtain ⟨xn, x1, x2, x3, x4, xl, xc⟩ := x
        obtain ⟨yn, y1, y2, y3, y4, yl, yc⟩ := y
        obtain ⟨⟨Ai, pi⟩, ⟨Ao, po⟩, ⟨Av, pv⟩, ⟨Ae, pe⟩⟩ := S1
        obtain ⟨⟨Bi, qi⟩, ⟨Bo, qo⟩, ⟨Bv, qv⟩, ⟨Be, qe⟩⟩ := S2
        simp only [Sl.v] at *
        obtain ⟨bx, hbx⟩ : ∃ bx : Array Value, bx = #[.string xn, .slice Ai x1.length pi, .slice Ao x2.length po, .slice Av x3.length pv, .slice Ae x4.length pe, .int .i64 xl, .int .i64 xc] := ⟨_, rfl⟩
        obtain ⟨bz, hbz⟩ : ∃ bz : Array Value, bz = #[.string yn, .slice Bi y1.length qi, .slice Bo y2.length qo, .slice Bv y3.length qv, .slice Be y4.length qe, .int .i64 yl, .int .i64 yc] := ⟨_, rfl⟩
        obtain ⟨V, hV⟩ : ∃ V, V = ((wr.alloc (.cells bx 61)).alloc (.cells bz 61)) := ⟨_, rfl⟩
        have hbV : Below wr.heap.size wr V := by rw [hV]; exact ((Below.refl _ _).alloc (Nat.le_refl _) _).alloc (by simp) _
        have hzV : wr.heap.size + 1 < V.heap.size := by rw [hV]; simp
        have hkV : Hind W0 V := hkr.then hbV
        have hVx : ∀ i, V.cell? ⟨wr.heap.size, i, none⟩ = bx[i]? := fun i => by rw [hV]; exact (boxed2_cell (Below.refl _ _) i).1
        have hVy : ∀ i, V.cell? ⟨wr.heap.size + 1, i, none⟩ = bz[i]? := fun i => by rw [hV]; exact (boxed2_cell (Below.refl _ _) i).2
        have HC : Hid (V.cell? ⟨wr.heap.size, 2, none⟩ = some (.slice Ao x2.length po) ∧ V.cell? ⟨wr.heap.size, 3, none⟩ = some (.slice Av x3.length pv) ∧ V.cell? ⟨wr.heap.size, 4, none⟩ = some (.slice Ae x4.length pe) ∧
            V.cell? ⟨wr.heap.size + 1, 2, none⟩ = some (.slice Bo y2.length qo) ∧ V.cell? ⟨wr.heap.size + 1, 3, none⟩ = some (.slice Bv y3.length qv) ∧ V.cell? ⟨wr.heap.size + 1, 4, none⟩ = some (.slice Be y4.length qe)) := by
          refine ⟨?_, ?_, ?_, ?_, ?_, ?_⟩
          · rw [hVx, hbx]; rfl
          · rw [hVx, hbx]; rfl
          · rw [hVx, hbx]; rfl
          · rw [hVy, hbz]; rfl
          · rw [hVy, hbz]; rfl
          · rw [hVy, hbz]; rfl
        have hsV : Go.Proofs.YtnlikhjmmnaknaaGreatDoor.Same B wr V := same_below hBr hbV
        have j1 := i1.keep hsV
        have j2 := i2.keep hsV
        have hv1 : ∀ n, Calls Tryz.prog 31 #[.slice Ai x1.length pi, .slice Bi y1.length qi] (V.drewN n) fun r w' => r = .returned (.bool (zipB varS x1 y1)) ∧ ∃ n, w' = V.drewN n := fun n =>
          (rsameVars_any x1 y1 ⟨Ai, pi⟩ ⟨Bi, qi⟩ B _ j1.fi j2.fi (j1.ins.imp fun _ _ _ => VarAt.keep (same_drewN _ n)) (j2.ins.imp fun _ _ _ => VarAt.keep (same_drewN _ n))).mono fun _ _ ⟨h1, m, h2⟩ => ⟨h1, n + m, by rw [h2, World.drewN_drewN]⟩
        have hv2 : ∀ n, Calls Tryz.prog 31 #[.slice Ao x2.length po, .slice Bo y2.length qo] (V.drewN n) fun r w' => r = .returned (.bool (zipB varS x2 y2)) ∧ ∃ n, w' = V.drewN n := fun n =>
          (rsameVars_any x2 y2 ⟨Ao, po⟩ ⟨Bo, qo⟩ B _ j1.fo j2.fo (j1.outs.imp fun _ _ _ => VarAt.keep (same_drewN _ n)) (j2.outs.imp fun _ _ _ => VarAt.keep (same_drewN _ n))).mono fun _ _ ⟨h1, m, h2⟩ => ⟨h1, n + m, by rw [h2, World.drewN_drewN]⟩
        have hv3 : ∀ n, Calls Tryz.prog 31 #[.slice Av x3.length pv, .slice Bv y3.length qv] (V.drewN n) fun r w' => r = .returned (.bool (zipB varS x3 y3)) ∧ ∃ n, w' = V.drewN n := fun n =>
          (rsameVars_any x3 y3 ⟨Av, pv⟩ ⟨Bv, qv⟩ B _ j1.fv j2.fv (j1.vars.imp fun _ _ _ => VarAt.keep (same_drewN _ n)) (j2.vars.imp fun _ _ _ => VarAt.keep (same_drewN _ n))).mono fun _ _ ⟨h1, m, h2⟩ => ⟨h1, n + m, by rw [h2, World.drewN_drewN]⟩
        have hv1' := hv1 0
        have h00 : V.drewN 0 = V := rfl
        rw [h00] at hv1'
        have HD : Hid (nodeS ⟨xn, x1, x2, x3, x4, xl, xc⟩ ⟨yn, y1, y2, y3, y4, yl, yc⟩ = (strS xn yn && zipB varS x1 y1 && zipB varS x2 y2 && zipB varS x3 y3 && zipB eqnS x4 y4)) := rfl
        obtain ⟨hfe1, hfe2⟩ := j1.fe
        obtain ⟨hfe3, hfe4⟩ := j2.fe
        have he1 := j1.eqs
        have he2 := j2.eqs
        simp only [maxLen] at hfe1 hfe2 hfe3 hfe4 he1 he2
        have hx4 : (x4.length : Int) ≤ 9223372036854775807 := by omega
        have hy4 : (y4.length : Int) ≤ 9223372036854775807 := by omega
        rw [hbx, hbz] at hV
        have HV := hid hV
        have HV1 := hid hv1'
        have HV2 := hid hv2
        have HV3 := hid hv3
        have HE1 := hid he1
        have HE2 := hid he2
        have hbf : Below w.heap.size w V := hbr.trans (hbV.mono hbr.size)
        clear hbx hbz bx bz hVx hVy hsV j1 j2 hv1 hv1' h00 hv2 hv3 hfe1 hfe2 hfe3 hfe4 he1 he2 hV i1 i2 hup hcx hcy
        cases h1 : (xn.toList == yn.toList)
        · have HS : Hid (nodeS ⟨xn, x1, x2, x3, x4, xl, xc⟩ ⟨yn, y1, y2, y3, y4, yl, yc⟩ = false) := by show _ = _; rw [HD.out, strS_eq, h1]; rfl
          have h1' : (xn.toList != yn.toList) = true := by simp [bne, h1]
          go_wp2_with fail
          go_ret
          refine ⟨ret_bool (hno.out HS.out).symm, ?_⟩
          rw [← HV.out]
          exact hbf
        · have h1' : (xn.toList != yn.toList) = false := by simp [bne, h1]
          cases q1 : zipB varS x1 y1
          · rw [q1] at HV1
            have HS : Hid (nodeS ⟨xn, x1, x2, x3, x4, xl, xc⟩ ⟨yn, y1, y2, y3, y4, yl, yc⟩ = false) := by show _ = _; rw [HD.out, strS_eq, h1, q1]; rfl
            go_wp2_with (first
              | (go_at_call 31; rw [← HV.out]; with_reducible refine HV1.out.mono ?_; rintro r w2 ⟨rfl, n2, rfl⟩; obtain ⟨e2, e3, e4, f2, f3, f4⟩ := HC.out))
            go_ret
            exact ⟨ret_bool (hno.out HS.out).symm, below_drewN hbf n2⟩
          · rw [q1] at HV1
            cases q2 : zipB varS x2 y2
            · rw [q2] at HV2
              have HS : Hid (nodeS ⟨xn, x1, x2, x3, x4, xl, xc⟩ ⟨yn, y1, y2, y3, y4, yl, yc⟩ = false) := by show _ = _; rw [HD.out, strS_eq, h1, q1, q2]; rfl
              go_wp2_with (first
                | (go_at_call 31; rw [← HV.out]; with_reducible refine HV1.out.mono ?_; rintro r w2 ⟨rfl, n2, rfl⟩; obtain ⟨e2, e3, e4, f2, f3, f4⟩ := HC.out)
                | (go_at_call 31; with_reducible refine (HV2.out _).mono ?_; rintro r w3 ⟨rfl, n3, rfl⟩))
              go_ret
              exact ⟨ret_bool (hno.out HS.out).symm, below_drewN hbf n3⟩
            · rw [q2] at HV2
              cases q3 : zipB varS x3 y3
              · rw [q3] at HV3
                have HS : Hid (nodeS ⟨xn, x1, x2, x3, x4, xl, xc⟩ ⟨yn, y1, y2, y3, y4, yl, yc⟩ = false) := by show _ = _; rw [HD.out, strS_eq, h1, q1, q2, q3]; rfl
                go_wp2_with (first
                  | (go_at_call 31; rw [← HV.out]; with_reducible refine HV1.out.mono ?_; rintro r w2 ⟨rfl, n2, rfl⟩; obtain ⟨e2, e3, e4, f2, f3, f4⟩ := HC.out)
                  | (go_at_call 31; with_reducible refine (HV2.out _).mono ?_; rintro r w3 ⟨rfl, n3, rfl⟩)
                  | (go_at_call 31; with_reducible refine (HV3.out _).mono ?_; rintro r w4 ⟨rfl, n4, rfl⟩))
                go_ret
                exact ⟨ret_bool (hno.out HS.out).symm, below_drewN hbf n4⟩
              · rw [q3] at HV3
                have HS : Hid (nodeS ⟨xn, x1, x2, x3, x4, xl, xc⟩ ⟨yn, y1, y2, y3, y4, yl, yc⟩ = zipB eqnS x4 y4) := by show _ = _; rw [HD.out, strS_eq, h1, q1, q2, q3]; rfl
                by_cases h4 : x4.length = y4.length
                · have HL4 := hid h4
                  have h4' : ((x4.length : Int) != (y4.length : Int)) = false := by rw [h4]; simp
                  clear h4
                  go_wp2_with (first
                    | (go_at_call 31; rw [← HV.out]; with_reducible refine HV1.out.mono ?_; rintro r w2 ⟨rfl, n2, rfl⟩; obtain ⟨e2, e3, e4, f2, f3, f4⟩ := HC.out)
                    | (go_at_call 31; with_reducible refine (HV2.out _).mono ?_; rintro r w3 ⟨rfl, n3, rfl⟩)
                    | (go_at_call 31; with_reducible refine (HV3.out _).mono ?_; rintro r w4 ⟨rfl, n4, rfl⟩))
                  generalize wr.heap.size = T at *
                  go_loopw [8] (fun i wr2 => ∃ k : Nat, k ≤ x4.length ∧ i = .int .i64 k ∧ Hid (UptoZ eqnS x4 y4 k) ∧ Hind V wr2) (fun i _ => x4.length - (intOf i).toNat)
                  case atStart => exact ⟨0, by omega, rfl, UptoZ.zero _ _ _, (Hind.refl V).drewN _⟩
                  case round =>
                    obtain ⟨k, hk, rfl, hupk, hk2⟩ := hrel
                    clear e2 e3 e4 f2 f3 f4
                    have e4 := (hk2.cell (show T < V.heap.size by omega) 4).trans HC.out.2.2.1
                    have f4 := (hk2.cell hzV 4).trans HC.out.2.2.2.2.2
                    have hzk := Below.size hk2
                    have hbk : Below w.heap.size w wr := hbf.trans (Below.mono hk2 hbf.size)
                    by_cases hltk : k < x4.length
                    · have hltk' : k < y4.length := by have := HL4.out; omega
                      obtain ⟨g1, o1, rfl, hc1⟩ := HE1.out k hltk
                      obtain ⟨g2, o2, rfl, hc2⟩ := HE2.out k hltk'
                      have hnok := hid (fun hp : eqnS x4[k] y4[k] = false => zip_hit hltk hltk' hp)
                      have hyesk := hid (fun hp : eqnS x4[k] y4[k] = true => hupk.out.succ hltk hltk' hp)
                      have hsk : Go.Proofs.YtnlikhjmmnaknaaGreatDoor.Same B V wr := same_below (by omega) hk2
                      generalize x4[k] = p at *
                      generalize y4[k] = q at *
                      obtain ⟨hg1, ⟨P1, r1⟩, C1, s1, k1, m1⟩ := hc1.keep hsk
                      obtain ⟨hg2, ⟨P2, r2⟩, C2, s2, k2, m2⟩ := hc2.keep hsk
                      obtain ⟨u0, u1, u2, u3, u4, u5, u6, u7, u8⟩ := k1
                      obtain ⟨v0, v1, v2, v3, v4, v5, v6, v7, v8⟩ := k2
                      obtain ⟨pl, pr, pa, pb⟩ := p
                      obtain ⟨ql, qr, qa, qb⟩ := q
                      have hk0 : (0 : Int) ≤ (k : Int) := by omega
                      have hk1 : (k : Int) < (x4.length : Int) := by omega
                      have hk3 : (k : Int) < (y4.length : Int) := by omega
                      have cT := fun d os => Calls.regrown_of (w := wr) (d := d) (os := os) ((rtexts2_any pl ql ⟨P1, r1⟩ ⟨P2, r2⟩ B (grow (redrawn wr d) os) m1.fits m2.fits (m1.left.imp fun _ _ _ => StrAt.keep (same_below (by omega) (below_regrown wr d os))) (m2.left.imp fun _ _ _ => StrAt.keep (same_below (by omega) (below_regrown wr d os)))).mono fun _ _ ⟨h1, h2⟩ => ⟨h1, below_of_drewN h2⟩)
                      have cS := fun d os => Calls.regrown_of (w := wr) (d := d) (os := os) (rsame_any pr qr B C1 C2 s1 s2 (grow (redrawn wr d) os) (ExAt.below m1.right (by omega) (below_regrown wr d os)) (ExAt.below m2.right (by omega) (below_regrown wr d os)) (by have := (below_regrown wr d os).size; omega))
                      simp only [Sl.v, Ex.val] at cT cS u0 v0
                      have HK : Hid (eqnS ⟨pl, pr, pa, pb⟩ ⟨ql, qr, qa, qb⟩ = (zipB strS pl ql && pr.same qr)) := rfl
                      have hge : g1 < wr.heap.size := by omega
                      have hgf : g2 < wr.heap.size := by omega
                      clear hc1 hc2 m1 m2 hsk hupk
                      go_wp2_with fail
                      have hmix : Tryz.prog.follows .mixedOrders = true := by kernel_rfl
                      have w0 := cell_regrown e4
                      have w1 := cell_regrown f4
                      have w2 := cell_regrown u0
                      have w3 := cell_regrown u1
                      have w4 := cell_regrown u2
                      have w5 := cell_regrown u3
                      have w6 := cell_regrown u4
                      have w7 := cell_regrown u5
                      have w8 := cell_regrown u6
                      have w9 := cell_regrown v0
                      have w10 := cell_regrown v1
                      have w11 := cell_regrown v2
                      have w12 := cell_regrown v3
                      have w13 := cell_regrown v4
                      have w14 := cell_regrown v5
                      have w15 := cell_regrown v6
                      clear u0 u1 u2 u3 u4 u5 u6 u7 u8 v0 v1 v2 v3 v4 v5 v6 v7 v8 e4 f4 c0 c1 c2 c3 c4 c5 c6 d0 d1 d2 d3 d4 d5 d6 z0 z1 hi0 hi1 hi2 hne hkr hbr hlt0 hlt1 hbV hkV hbf hzV h1 h1' hlb1 hlb2
                      cases t1 : zipB strS pl ql
                      · rw [t1] at cT HK
                        clear t1
                        refine wp_region_quiet_below hmix (by kernel_rfl) ?_
                        repeat (go_big_quiet_step (first | (go_at_call 32; with_reducible exact cT _ _) | (go_at_call 17; with_reducible exact cS _ _)))
                        refine wpQuiet_nil ?_
                        intro _ hw'
                        obtain ⟨⟨dq, osq⟩, hw''⟩ := hw'
                        subst hw''
                        have hzz : Hind wr (grow (redrawn wr dq) osq) := below_regrown wr dq osq
                        generalize grow (redrawn wr dq) osq = Wz at hzz ⊢
                        go_wp2_with fail
                        go_ret
                        exact ⟨ret_bool (hno.out (by rw [HS.out, hnok.out (by rw [HK.out]; rfl)])).symm, hbk.trans (Below.mono hzz hbk.size)⟩
                      · rw [t1] at cT HK
                        clear t1
                        cases t2 : pr.same qr
                        · rw [t2] at cS HK
                          clear t2
                          refine wp_region_quiet_below hmix (by kernel_rfl) ?_
                          repeat (go_big_quiet_step (first | (go_at_call 32; with_reducible exact cT _ _) | (go_at_call 17; with_reducible exact cS _ _)))
                          refine wpQuiet_nil ?_
                          intro _ hw'
                          obtain ⟨⟨dq, osq⟩, hw''⟩ := hw'
                          subst hw''
                          have hzz : Hind wr (grow (redrawn wr dq) osq) := below_regrown wr dq osq
                          generalize grow (redrawn wr dq) osq = Wz at hzz ⊢
                          go_wp2_with fail
                          go_ret
                          exact ⟨ret_bool (hno.out (by rw [HS.out, hnok.out (by rw [HK.out]; rfl)])).symm, hbk.trans (Below.mono hzz hbk.size)⟩
                        · rw [t2] at cS HK
                          clear t2
                          refine wp_region_quiet_below hmix (by kernel_rfl) ?_
                          repeat (go_big_quiet_step (first | (go_at_call 32; with_reducible exact cT _ _) | (go_at_call 17; with_reducible exact cS _ _)))
                          refine wpQuiet_nil ?_
                          intro _ hw'
                          obtain ⟨⟨dq, osq⟩, hw''⟩ := hw'
                          subst hw''
                          have hzz : Hind wr (grow (redrawn wr dq) osq) := below_regrown wr dq osq
                          generalize grow (redrawn wr dq) osq = Wz at hzz ⊢
                          go_wp2_with fail
                          go_roundw
                          case rel => exact ⟨k + 1, by omega, by go_num, hyesk.out (by rw [HK.out]; rfl), hk2.then hzz⟩
                          case measure => simp [intOf]; omega
                    · have : k = x4.length := by omega
                      subst this
                      have HZ := hid (UptoZ.all HL4.out hupk.out)
                      clear hupk
                      go_wp2_with fail
                      go_roundw
                      case rel => exact ⟨j + 1, by omega, by go_num, hyes.out (by rw [HS.out, HZ.out]), hkV.then (Below.mono hk2 (Nat.le_refl _))⟩
                      case measure => simp [intOf]; omega
                · have HN : Hid (zipB eqnS x4 y4 = false) := zip_len h4
                  have h4' : ((x4.length : Int) != (y4.length : Int)) = true := by simp; omega
                  clear h4
                  go_wp2_with (first
                    | (go_at_call 31; rw [← HV.out]; with_reducible refine HV1.out.mono ?_; rintro r w2 ⟨rfl, n2, rfl⟩; obtain ⟨e2, e3, e4, f2, f3, f4⟩ := HC.out)
                    | (go_at_call 31; with_reducible refine (HV2.out _).mono ?_; rintro r w3 ⟨rfl, n3, rfl⟩)
                    | (go_at_call 31; with_reducible refine (HV3.out _).mono ?_; rintro r w4 ⟨rfl, n4, rfl⟩))
                  go_ret
                  exact ⟨ret_bool (hno.out (by rw [HS.out, HN.out])).symm, below_drewN hbf n4⟩
      · have : j = xs.length := by omega
        subst this
        have HZ := hid (UptoZ.all HL.out hup.out)
        clear hup
        go_wp2_with fail
        go_ret
        exact ⟨ret_bool HZ.out.symm, hbr⟩
  · have HS := hid (zip_len (p := nodeS) hl)
    have hne : ((xs.length : Int) != (ys.length : Int)) = true := by simp; omega
    clear hl
    go_enter Tryz.func12, Tryz.ntmps12
    go_wp2_with fail
    go_ret
    refine ⟨ret_bool HS.out.symm, ?_⟩
    rw [← HW0.out]
    exact HB0.out
end Go.Proofs.YtnlikhjmmnaknaaGreatDoor
