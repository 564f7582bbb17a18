/-
  Sources as plain Lean types, and how they lie in memory.
-/
import Derived.Test.YtiencmbbkbicnaaStrs
namespace Go.Proofs.Ytiencmbbkbicnaa
open Go.RowKit

/-- a condition of a clock -/
structure LitE where
  name : ByteArray
  neg : Bool
/-- a variable -/
structure VarE where
  name : ByteArray
  type : Int
  clock : List LitE
  line : Int
  col : Int
/-- an equation -/
structure EqE where
  left : List ByteArray
  right : Ex
  line : Int
  col : Int
/-- a node -/
structure NodeE where
  name : ByteArray
  ins : List VarE
  outs : List VarE
  vars : List VarE
  eqs : List EqE
  line : Int
  col : Int

/-- where a slice lies, and its capacity -/
structure Sl where
  A : Option Addr
  cap : Nat
def Sl.v (s : Sl) (n : Nat) : Value := .slice s.A n s.cap
def Sl.fits (s : Sl) (n : Nat) : Prop := n ≤ s.cap ∧ s.cap ≤ maxLen

/-- elements that lie side by side, so many cells each -/
def SlAt {α : Type} (sz : Nat) (P : Nat → Nat → α → Prop) (A : Option Addr) (xs : List α) : Prop :=
  ∀ j (h : j < xs.length), ∃ b o, A = some ⟨b, o, none⟩ ∧ P b (o + j * sz) xs[j]
theorem SlAt.imp {α : Type} {sz : Nat} {P P' : Nat → Nat → α → Prop} {A : Option Addr} {xs : List α} (h : SlAt sz P A xs) (hp : ∀ b o x, P b o x → P' b o x) : SlAt sz P' A xs := fun j hj => by
  obtain ⟨b, o, hA, hc⟩ := h j hj
  exact ⟨b, o, hA, hp _ _ _ hc⟩

def StrAt (B : Nat) (w : World) (b o : Nat) (x : ByteArray) : Prop := b < B ∧ x.size ≤ maxLen ∧ w.cell? ⟨b, o, none⟩ = some (.string x)
structure LitAt (B : Nat) (w : World) (b o : Nat) (x : LitE) : Prop where
  lt : b < B
  name : x.name.size ≤ maxLen
  c0 : w.cell? ⟨b, o, none⟩ = some (.string x.name)
  c1 : w.cell? ⟨b, o + 1, none⟩ = some (.bool x.neg)

/-- a variable whose clock lies at S -/
structure VarIs (B : Nat) (w : World) (v : VarE) (S : Sl) : Prop where
  name : v.name.size ≤ maxLen
  type : I64 v.type
  line : I64 v.line
  col : I64 v.col
  fits : S.fits v.clock.length
  clock : SlAt 2 (LitAt B w) S.A v.clock
def VarE.val (v : VarE) (S : Sl) : Value := .agg #[.string v.name, .int .i64 v.type, S.v v.clock.length, .int .i64 v.line, .int .i64 v.col]
structure VarCells (w : World) (b o : Nat) (v : VarE) (S : Sl) : Prop where
  c0 : w.cell? ⟨b, o, none⟩ = some (.string v.name)
  c1 : w.cell? ⟨b, o + 1, none⟩ = some (.int .i64 v.type)
  c2 : w.cell? ⟨b, o + 2, none⟩ = some (S.v v.clock.length)
  c3 : w.cell? ⟨b, o + 3, none⟩ = some (.int .i64 v.line)
  c4 : w.cell? ⟨b, o + 4, none⟩ = some (.int .i64 v.col)
def VarAt (B : Nat) (w : World) (b o : Nat) (v : VarE) : Prop := b < B ∧ ∃ S, VarCells w b o v S ∧ VarIs B w v S

/-- an equation whose left side lies at S, its right side's parts at A -/
structure EqIs (B : Nat) (w : World) (q : EqE) (S : Sl) (A : Option Addr) (cap : Nat) : Prop where
  line : I64 q.line
  col : I64 q.col
  fits : S.fits q.left.length
  left : SlAt 1 (StrAt B w) S.A q.left
  right : ExAt B w q.right A cap
def EqE.val (q : EqE) (S : Sl) (A : Option Addr) (cap : Nat) : Value :=
  .agg #[S.v q.left.length, .int .i64 q.right.op, .string q.right.name, .int .i64 q.right.num, .slice A q.right.k cap, .int .i64 q.right.line, .int .i64 q.right.col, .int .i64 q.line, .int .i64 q.col]
structure EqCells (w : World) (b o : Nat) (q : EqE) (S : Sl) (A : Option Addr) (cap : Nat) : Prop where
  c0 : w.cell? ⟨b, o, none⟩ = some (S.v q.left.length)
  c1 : w.cell? ⟨b, o + 1, none⟩ = some (.int .i64 q.right.op)
  c2 : w.cell? ⟨b, o + 2, none⟩ = some (.string q.right.name)
  c3 : w.cell? ⟨b, o + 3, none⟩ = some (.int .i64 q.right.num)
  c4 : w.cell? ⟨b, o + 4, none⟩ = some (.slice A q.right.k cap)
  c5 : w.cell? ⟨b, o + 5, none⟩ = some (.int .i64 q.right.line)
  c6 : w.cell? ⟨b, o + 6, none⟩ = some (.int .i64 q.right.col)
  c7 : w.cell? ⟨b, o + 7, none⟩ = some (.int .i64 q.line)
  c8 : w.cell? ⟨b, o + 8, none⟩ = some (.int .i64 q.col)
def EqAt (B : Nat) (w : World) (b o : Nat) (q : EqE) : Prop := b < B ∧ ∃ S A cap, EqCells w b o q S A cap ∧ EqIs B w q S A cap

/-- where a node's slices lie -/
structure NSl where
  i : Sl
  o : Sl
  v : Sl
  e : Sl
structure NodeIs (B : Nat) (w : World) (n : NodeE) (S : NSl) : Prop where
  name : n.name.size ≤ maxLen
  line : I64 n.line
  col : I64 n.col
  fi : S.i.fits n.ins.length
  fo : S.o.fits n.outs.length
  fv : S.v.fits n.vars.length
  fe : S.e.fits n.eqs.length
  ins : SlAt 5 (VarAt B w) S.i.A n.ins
  outs : SlAt 5 (VarAt B w) S.o.A n.outs
  vars : SlAt 5 (VarAt B w) S.v.A n.vars
  eqs : SlAt 9 (EqAt B w) S.e.A n.eqs
def NodeE.val (n : NodeE) (S : NSl) : Value := .agg #[.string n.name, S.i.v n.ins.length, S.o.v n.outs.length, S.v.v n.vars.length, S.e.v n.eqs.length, .int .i64 n.line, .int .i64 n.col]
structure NodeCells (w : World) (b o : Nat) (n : NodeE) (S : NSl) : Prop where
  c0 : w.cell? ⟨b, o, none⟩ = some (.string n.name)
  c1 : w.cell? ⟨b, o + 1, none⟩ = some (S.i.v n.ins.length)
  c2 : w.cell? ⟨b, o + 2, none⟩ = some (S.o.v n.outs.length)
  c3 : w.cell? ⟨b, o + 3, none⟩ = some (S.v.v n.vars.length)
  c4 : w.cell? ⟨b, o + 4, none⟩ = some (S.e.v n.eqs.length)
  c5 : w.cell? ⟨b, o + 5, none⟩ = some (.int .i64 n.line)
  c6 : w.cell? ⟨b, o + 6, none⟩ = some (.int .i64 n.col)
def NodeAt (B : Nat) (w : World) (b o : Nat) (n : NodeE) : Prop := b < B ∧ ∃ S, NodeCells w b o n S ∧ NodeIs B w n S
/-- a source whose nodes lie at S -/
structure SrcIs (B : Nat) (w : World) (s : List NodeE) (S : Sl) : Prop where
  fits : S.fits s.length
  nodes : SlAt 7 (NodeAt B w) S.A s
def srcVal (s : List NodeE) (S : Sl) : Value := .agg #[S.v s.length]

/-- what lies below a block lies as it lay -/
def Same (B : Nat) (w w' : World) : Prop := ∀ b i, b < B → w'.cell? ⟨b, i, none⟩ = w.cell? ⟨b, i, none⟩
theorem same_below {B B' : Nat} {w w' : World} (hB : B ≤ B') (hb : Below B' w w') : Same B w w' := fun b i h => hb.cell (p := ⟨b, i, none⟩) (by simp; omega)

section
variable {B B' : Nat} {w w' : World}
theorem StrAt.keep (hk : Same B w w') {b o : Nat} {x : ByteArray} (h : StrAt B w b o x) : StrAt B w' b o x := ⟨h.1, h.2.1, (hk _ _ h.1).trans h.2.2⟩
theorem LitAt.keep (hk : Same B w w') {b o : Nat} {x : LitE} (h : LitAt B w b o x) : LitAt B w' b o x := ⟨h.lt, h.name, (hk _ _ h.lt).trans h.c0, (hk _ _ h.lt).trans h.c1⟩
theorem VarIs.keep (hk : Same B w w') {v : VarE} {S : Sl} (h : VarIs B w v S) : VarIs B w' v S := ⟨h.name, h.type, h.line, h.col, h.fits, h.clock.imp fun _ _ _ => LitAt.keep hk⟩
theorem VarCells.keep {b o : Nat} (hk : ∀ i, w'.cell? ⟨b, i, none⟩ = w.cell? ⟨b, i, none⟩) {v : VarE} {S : Sl} (h : VarCells w b o v S) : VarCells w' b o v S :=
  ⟨(hk _).trans h.c0, (hk _).trans h.c1, (hk _).trans h.c2, (hk _).trans h.c3, (hk _).trans h.c4⟩
theorem VarAt.keep (hk : Same B w w') {b o : Nat} {v : VarE} (h : VarAt B w b o v) : VarAt B w' b o v := by
  obtain ⟨hb, S, hc, hi⟩ := h
  exact ⟨hb, S, hc.keep fun i => hk _ _ hb, hi.keep hk⟩
theorem EqIs.keep (hk : Same B w w') {q : EqE} {S : Sl} {A : Option Addr} {cap : Nat} (h : EqIs B w q S A cap) : EqIs B w' q S A cap :=
  ⟨h.line, h.col, h.fits, h.left.imp fun _ _ _ => StrAt.keep hk, ExAt.keep hk _ _ _ h.right⟩
theorem EqCells.keep {b o : Nat} (hk : ∀ i, w'.cell? ⟨b, i, none⟩ = w.cell? ⟨b, i, none⟩) {q : EqE} {S : Sl} {A : Option Addr} {cap : Nat} (h : EqCells w b o q S A cap) : EqCells w' b o q S A cap :=
  ⟨(hk _).trans h.c0, (hk _).trans h.c1, (hk _).trans h.c2, (hk _).trans h.c3, (hk _).trans h.c4, (hk _).trans h.c5, (hk _).trans h.c6, (hk _).trans h.c7, (hk _).trans h.c8⟩
theorem EqAt.keep (hk : Same B w w') {b o : Nat} {q : EqE} (h : EqAt B w b o q) : EqAt B w' b o q := by
  obtain ⟨hb, S, A, cap, hc, hi⟩ := h
  exact ⟨hb, S, A, cap, hc.keep fun i => hk _ _ hb, hi.keep hk⟩
theorem NodeIs.keep (hk : Same B w w') {n : NodeE} {S : NSl} (h : NodeIs B w n S) : NodeIs B w' n S :=
  ⟨h.name, h.line, h.col, h.fi, h.fo, h.fv, h.fe, h.ins.imp fun _ _ _ => VarAt.keep hk, h.outs.imp fun _ _ _ => VarAt.keep hk, h.vars.imp fun _ _ _ => VarAt.keep hk, h.eqs.imp fun _ _ _ => EqAt.keep hk⟩
theorem NodeCells.keep {b o : Nat} (hk : ∀ i, w'.cell? ⟨b, i, none⟩ = w.cell? ⟨b, i, none⟩) {n : NodeE} {S : NSl} (h : NodeCells w b o n S) : NodeCells w' b o n S :=
  ⟨(hk _).trans h.c0, (hk _).trans h.c1, (hk _).trans h.c2, (hk _).trans h.c3, (hk _).trans h.c4, (hk _).trans h.c5, (hk _).trans h.c6⟩
theorem NodeAt.keep (hk : Same B w w') {b o : Nat} {n : NodeE} (h : NodeAt B w b o n) : NodeAt B w' b o n := by
  obtain ⟨hb, S, hc, hi⟩ := h
  exact ⟨hb, S, hc.keep fun i => hk _ _ hb, hi.keep hk⟩
theorem SrcIs.keep (hk : Same B w w') {s : List NodeE} {S : Sl} (h : SrcIs B w s S) : SrcIs B w' s S := ⟨h.fits, h.nodes.imp fun _ _ _ => NodeAt.keep hk⟩

theorem StrAt.more (hB : B ≤ B') {b o : Nat} {x : ByteArray} (h : StrAt B w b o x) : StrAt B' w b o x := ⟨by have := h.1; omega, h.2⟩
theorem LitAt.more (hB : B ≤ B') {b o : Nat} {x : LitE} (h : LitAt B w b o x) : LitAt B' w b o x := ⟨by have := h.lt; omega, h.name, h.c0, h.c1⟩
theorem VarIs.more (hB : B ≤ B') {v : VarE} {S : Sl} (h : VarIs B w v S) : VarIs B' w v S := ⟨h.name, h.type, h.line, h.col, h.fits, h.clock.imp fun _ _ _ => LitAt.more hB⟩
theorem VarAt.more (hB : B ≤ B') {b o : Nat} {v : VarE} (h : VarAt B w b o v) : VarAt B' w b o v := by
  obtain ⟨hb, S, hc, hi⟩ := h
  exact ⟨by omega, S, hc, hi.more hB⟩
theorem EqIs.more (hB : B ≤ B') {q : EqE} {S : Sl} {A : Option Addr} {cap : Nat} (h : EqIs B w q S A cap) : EqIs B' w q S A cap :=
  ⟨h.line, h.col, h.fits, h.left.imp fun _ _ _ => StrAt.more hB, ExAt.more hB _ _ _ h.right⟩
theorem EqAt.more (hB : B ≤ B') {b o : Nat} {q : EqE} (h : EqAt B w b o q) : EqAt B' w b o q := by
  obtain ⟨hb, S, A, cap, hc, hi⟩ := h
  exact ⟨by omega, S, A, cap, hc, hi.more hB⟩
theorem NodeIs.more (hB : B ≤ B') {n : NodeE} {S : NSl} (h : NodeIs B w n S) : NodeIs B' w n S :=
  ⟨h.name, h.line, h.col, h.fi, h.fo, h.fv, h.fe, h.ins.imp fun _ _ _ => VarAt.more hB, h.outs.imp fun _ _ _ => VarAt.more hB, h.vars.imp fun _ _ _ => VarAt.more hB, h.eqs.imp fun _ _ _ => EqAt.more hB⟩
theorem NodeAt.more (hB : B ≤ B') {b o : Nat} {n : NodeE} (h : NodeAt B w b o n) : NodeAt B' w b o n := by
  obtain ⟨hb, S, hc, hi⟩ := h
  exact ⟨by omega, S, hc, hi.more hB⟩
theorem SrcIs.more (hB : B ≤ B') {s : List NodeE} {S : Sl} (h : SrcIs B w s S) : SrcIs B' w s S := ⟨h.fits, h.nodes.imp fun _ _ _ => NodeAt.more hB⟩
theorem strs_of_sl {A : Option Addr} {xs : List ByteArray} (h : SlAt 1 (StrAt B w) A xs) : StrsAt w A xs := fun j hj => by
  obtain ⟨b, o, hA, hc⟩ := h j hj
  exact ⟨b, o, hA, by simpa using hc.2.2⟩
end

/-! loops over all -/
theorem all_hit {α : Type} {p : α → Bool} {xs : List α} {j : Nat} (h : j < xs.length) (hp : p xs[j] = false) : xs.all p = false := by
  rw [List.all_eq_false]; exact ⟨xs[j], List.getElem_mem _, by rw [hp]; simp⟩
theorem all_done {α : Type} {p : α → Bool} {xs : List α} (h : ∀ j (hj : j < xs.length), p xs[j] = true) : xs.all p = true := by
  rw [List.all_eq_true]
  intro x hx
  obtain ⟨j, hj, rfl⟩ := List.getElem_of_mem hx
  exact h j hj
theorem all_at {α : Type} {p : α → Bool} {xs : List α} (h : xs.all p = true) (j : Nat) (hj : j < xs.length) : p xs[j] = true := List.all_eq_true.1 h _ (List.getElem_mem _)
/-- so far all are so -/
def Upto {α : Type} (p : α → Bool) (xs : List α) (j : Nat) : Prop := ∀ m (h : m < xs.length), m < j → p xs[m] = true
theorem Upto.zero {α : Type} (p : α → Bool) (xs : List α) : Upto p xs 0 := fun m _ h => absurd h (by omega)
theorem Upto.succ {α : Type} {p : α → Bool} {xs : List α} {j : Nat} (h : Upto p xs j) (hj : j < xs.length) (hp : p xs[j] = true) : Upto p xs (j + 1) := fun m hm hmj => by
  by_cases h1 : m = j
  · subst h1; exact hp
  · exact h m hm (by omega)
theorem Upto.all {α : Type} {p : α → Bool} {xs : List α} (h : Upto p xs xs.length) : xs.all p = true := all_done fun j hj => h j hj hj
end Go.Proofs.Ytiencmbbkbicnaa
