/-
  Texts of this claim, joined: Strs Src SrcC SrcC2 SrcR SrcR2 SrcW SrcW2 OpenEx ClaimKit OpenSrc.
-/
import Derived.Deep.AppendLies
import Derived.Deep.QuietTactic
import Derived.BigQuiet
import Derived.Test.YtnlikhjmmnaknaaGreatDoorGC
import Derived.ProofKit
import Derived.Deep.Slices
import Derived.OpenShut
import Derived.Test.YtnlikhjmmnaknaaGreatDoorGA
/-
  Lists of strings in memory: In, Contains, Texts; the names of an expression (plain).
-/
namespace Go.Proofs.YtnlikhjmmnaknaaGreatDoor
open Go.RowKit

/-- strings that lie side by side -/
def StrsAt (w : World) (A : Option Addr) (xs : List ByteArray) : Prop :=
  ∀ j (h : j < xs.length), ∃ b o, A = some ⟨b, o, none⟩ ∧ w.cell? ⟨b, o + j, none⟩ = some (.string xs[j])
theorem StrsAt.keep {w w' : World} {A : Option Addr} {xs : List ByteArray} (h : StrsAt w A xs) (hk : ∀ b o, A = some ⟨b, o, none⟩ → ∀ i, w'.cell? ⟨b, i, none⟩ = w.cell? ⟨b, i, none⟩) : StrsAt w' A xs := fun j hj => by
  obtain ⟨b, o, hA, hc⟩ := h j hj
  exact ⟨b, o, hA, by rw [hk b o hA]; exact hc⟩
theorem StrsAt.drewN {w : World} {A : Option Addr} {xs : List ByteArray} (h : StrsAt w A xs) (n : Nat) : StrsAt (w.drewN n) A xs := h.keep fun _ _ _ _ => rfl
theorem strs_own {w : World} {base c : Nat} {A : Option Addr} {xs : List ByteArray} (h : w.ownsRow base 9 1 (.slice A xs.length c) xs.length (xs.map .string)) : StrsAt w A xs := fun j hj => by
  obtain ⟨g, cap, hv, _, _⟩ := h.form (by omega)
  injection hv with hA
  subst hA
  refine ⟨g, 0, rfl, ?_⟩
  rw [Nat.zero_add, h.cellAt j (by simpa using hj)]
  simp [List.getElem?_eq_getElem hj]

/-- is a text in a list? -/
def inB (xs : List ByteArray) (s : ByteArray) : Bool := xs.any fun x => x.data.toList == s.data.toList
theorem inB_hit {xs : List ByteArray} {s : ByteArray} {j : Nat} (h : j < xs.length) (he : (xs[j].toList == s.toList) = true) : inB xs s = true := by
  unfold inB
  rw [List.any_eq_true]
  refine ⟨xs[j], List.getElem_mem _, ?_⟩
  rwa [ByteArray.toList_eq, ByteArray.toList_eq] at he
theorem inB_miss {xs : List ByteArray} {s : ByteArray} (h : ∀ j (hj : j < xs.length), (xs[j].toList == s.toList) = false) : inB xs s = false := by
  unfold inB
  rw [List.any_eq_false]
  intro x hx
  obtain ⟨j, hj, rfl⟩ := List.getElem_of_mem hx
  have := h j hj
  rw [ByteArray.toList_eq, ByteArray.toList_eq] at this
  rw [this]; simp

def IndexPost (xs : List ByteArray) (s : ByteArray) (w : World) (r : Ending) (w' : World) : Prop := ∃ i : Int, r = .returned (.int .i64 i) ∧ -1 ≤ i ∧ i ≤ 9223372036854775807 ∧ decide (0 ≤ i) = inB xs s ∧ w = w'

/-- are two lists of texts one? -/
def sameStrs (xs ys : List ByteArray) : Bool := xs.map (fun x => x.data.toList) == ys.map (fun x => x.data.toList)
theorem sameStrs_len {xs ys : List ByteArray} (h : ¬ xs.length = ys.length) : sameStrs xs ys = false := by
  unfold sameStrs
  rw [beq_eq_false_iff_ne]
  intro he
  have := congrArg List.length he
  simp at this; exact h this
theorem sameStrs_hit {xs ys : List ByteArray} {j : Nat} (h1 : j < xs.length) (h2 : j < ys.length) (h : (xs[j].toList == ys[j].toList) = false) : sameStrs xs ys = false := by
  unfold sameStrs
  rw [beq_eq_false_iff_ne]
  intro he
  have := congrArg (fun l => l[j]?) he
  simp only [List.getElem?_map, List.getElem?_eq_getElem h1, List.getElem?_eq_getElem h2, Option.map_some, Option.some.injEq] at this
  rw [ByteArray.toList_eq, ByteArray.toList_eq, this] at h
  simp at h
theorem sameStrs_all {xs ys : List ByteArray} (hl : xs.length = ys.length) (h : ∀ j (h1 : j < xs.length) (h2 : j < ys.length), (xs[j].toList == ys[j].toList) = true) : sameStrs xs ys = true := by
  unfold sameStrs
  rw [beq_iff_eq]
  apply List.ext_getElem (by simpa using hl)
  intro j h1 h2
  simp only [List.length_map] at h1 h2
  have := h j h1 h2
  rw [ByteArray.toList_eq, ByteArray.toList_eq] at this
  simpa using this
theorem sameStrs_self (xs : List ByteArray) : sameStrs xs xs = true := by simp [sameStrs]

set_option maxHeartbeats 1000000 in
theorem rtexts_any (xs ys : List ByteArray) (A A' : Option Addr) (cap cap' : Nat) (w : World) (hx : StrsAt w A xs) (hy : StrsAt w A' ys) (hn : xs.length ≤ 1000000000) :
    Calls Tryz.prog 32 #[.slice A xs.length cap, .slice A' ys.length cap'] w fun r w' => r = .returned (.bool (sameStrs xs ys)) ∧ ∃ n, w' = w.drewN n := by
  have HX := hid hx
  have HY := hid hy
  clear hx hy
  by_cases hl : xs.length = ys.length
  · have HL := hid hl
    rw [← hl]
    clear hl
    go_enter Tryz.func32, Tryz.ntmps32
    go_wp2_with fail
    go_loopw [5] (fun i wr => ∃ j n : Nat, j ≤ xs.length ∧ i = .int .i64 j ∧ wr = w.drewN n ∧ Hid (∀ m (h1 : m < xs.length) (h2 : m < ys.length), m < j → (xs[m].toList == ys[m].toList) = true)) (fun i _ => xs.length - (intOf i).toNat)
    case atStart => exact ⟨0, 0, by omega, rfl, rfl, fun m _ _ hm => absurd hm (by omega)⟩
    case round =>
      obtain ⟨j, n, hj, rfl, rfl, hmiss⟩ := hrel
      by_cases hlt : j < xs.length
      · have hlt' : j < ys.length := by have := HL.out; omega
        obtain ⟨b, o, rfl, hc⟩ := HX.out j hlt
        obtain ⟨b', o', rfl, hc'⟩ := HY.out j hlt'
        have hi0 : (0 : Int) ≤ (j : Int) := by omega
        have hi1 : (j : Int) < (xs.length : Int) := by omega
        cases he : (xs[j].toList == ys[j].toList)
        · have HE := hid he
          go_wp2_with fail
          go_quiet (fail)
          go_wp2_with fail
          go_ret
          exact ⟨ret_bool (sameStrs_hit hlt hlt' HE.out).symm, n + nq, by first | rfl | rw [World.drewN_drewN]⟩
        · have HE := hid he
          go_wp2_with fail
          go_quiet (fail)
          go_wp2_with fail
          go_roundw
          case rel =>
            refine ⟨j + 1, n + nq, by omega, by go_num, rfl, fun m h1 h2 hmj => ?_⟩
            by_cases h : m = j
            · subst h; exact HE.out
            · exact hmiss.out m h1 h2 (by omega)
          case measure => simp [intOf]; omega
      · have : j = xs.length := by omega
        subst this
        go_wp2_with fail
        go_ret
        exact ⟨ret_bool (sameStrs_all HL.out fun m h1 h2 => hmiss.out m h1 h2 h1).symm, n, rfl⟩
  · have HS := hid (sameStrs_len hl)
    have hne : ((xs.length : Int) != (ys.length : Int)) = true := by simp; omega
    clear hl
    go_enter Tryz.func32, Tryz.ntmps32
    go_wp2_with fail
    go_ret
    exact ⟨ret_bool HS.out.symm, 0, rfl⟩

/-- the names of variables -/
def nmStep (acc : List ByteArray) (x : Ex) : List ByteArray := if (namesOp x.op && !inB acc x.name) = true then acc ++ [x.name] else acc
def nmOf (l : List Ex) : List ByteArray := l.foldl nmStep []
theorem nmOf_snoc (l : List Ex) (x : Ex) : nmOf (l ++ [x]) = nmStep (nmOf l) x := by simp [nmOf, List.foldl_append]
theorem nmStep_len (acc : List ByteArray) (x : Ex) : (nmStep acc x).length ≤ acc.length + 1 := by unfold nmStep; split <;> simp
theorem nmGo_len (l : List Ex) : ∀ acc : List ByteArray, (l.foldl nmStep acc).length ≤ acc.length + l.length := by
  induction l with
  | nil => intro acc; simp
  | cons x l ih => intro acc; rw [List.foldl_cons, List.length_cons]; have := ih (nmStep acc x); have := nmStep_len acc x; omega
theorem nmOf_len (l : List Ex) : (nmOf l).length ≤ l.length := by have := nmGo_len l []; simpa [nmOf] using this
end Go.Proofs.YtnlikhjmmnaknaaGreatDoor
/-
  Sources as plain Lean types, and how they lie in memory.
-/
namespace Go.Proofs.YtnlikhjmmnaknaaGreatDoor
open Go.RowKit

/-- a condition of a clock -/
structure LitE where
  name : ByteArray
  neg : Bool
/-- a variable -/
structure VarE where
  name : ByteArray
  type : Int
  clock : List LitE
  line : Int
  col : Int
/-- an equation -/
structure EqE where
  left : List ByteArray
  right : Ex
  line : Int
  col : Int
/-- a node -/
structure NodeE where
  name : ByteArray
  ins : List VarE
  outs : List VarE
  vars : List VarE
  eqs : List EqE
  line : Int
  col : Int

/-- where a slice lies, and its capacity -/
structure Sl where
  A : Option Addr
  cap : Nat
def Sl.v (s : Sl) (n : Nat) : Value := .slice s.A n s.cap
def Sl.fits (s : Sl) (n : Nat) : Prop := n ≤ s.cap ∧ s.cap ≤ maxLen

/-- elements that lie side by side, so many cells each -/
def SlAt {α : Type} (sz : Nat) (P : Nat → Nat → α → Prop) (A : Option Addr) (xs : List α) : Prop :=
  ∀ j (h : j < xs.length), ∃ b o, A = some ⟨b, o, none⟩ ∧ P b (o + j * sz) xs[j]
theorem SlAt.imp {α : Type} {sz : Nat} {P P' : Nat → Nat → α → Prop} {A : Option Addr} {xs : List α} (h : SlAt sz P A xs) (hp : ∀ b o x, P b o x → P' b o x) : SlAt sz P' A xs := fun j hj => by
  obtain ⟨b, o, hA, hc⟩ := h j hj
  exact ⟨b, o, hA, hp _ _ _ hc⟩

def StrAt (B : Nat) (w : World) (b o : Nat) (x : ByteArray) : Prop := b < B ∧ x.size ≤ maxLen ∧ w.cell? ⟨b, o, none⟩ = some (.string x)
structure LitAt (B : Nat) (w : World) (b o : Nat) (x : LitE) : Prop where
  lt : b < B
  name : x.name.size ≤ maxLen
  c0 : w.cell? ⟨b, o, none⟩ = some (.string x.name)
  c1 : w.cell? ⟨b, o + 1, none⟩ = some (.bool x.neg)

/-- a variable whose clock lies at S -/
structure VarIs (B : Nat) (w : World) (v : VarE) (S : Sl) : Prop where
  name : v.name.size ≤ maxLen
  type : I64 v.type
  line : I64 v.line
  col : I64 v.col
  fits : S.fits v.clock.length
  clock : SlAt 2 (LitAt B w) S.A v.clock
def VarE.val (v : VarE) (S : Sl) : Value := .agg #[.string v.name, .int .i64 v.type, S.v v.clock.length, .int .i64 v.line, .int .i64 v.col]
structure VarCells (w : World) (b o : Nat) (v : VarE) (S : Sl) : Prop where
  c0 : w.cell? ⟨b, o, none⟩ = some (.string v.name)
  c1 : w.cell? ⟨b, o + 1, none⟩ = some (.int .i64 v.type)
  c2 : w.cell? ⟨b, o + 2, none⟩ = some (S.v v.clock.length)
  c3 : w.cell? ⟨b, o + 3, none⟩ = some (.int .i64 v.line)
  c4 : w.cell? ⟨b, o + 4, none⟩ = some (.int .i64 v.col)
def VarAt (B : Nat) (w : World) (b o : Nat) (v : VarE) : Prop := b < B ∧ ∃ S, VarCells w b o v S ∧ VarIs B w v S

/-- an equation whose left side lies at S, its right side's parts at A -/
structure EqIs (B : Nat) (w : World) (q : EqE) (S : Sl) (A : Option Addr) (cap : Nat) : Prop where
  line : I64 q.line
  col : I64 q.col
  fits : S.fits q.left.length
  left : SlAt 1 (StrAt B w) S.A q.left
  right : ExAt B w q.right A cap
def EqE.val (q : EqE) (S : Sl) (A : Option Addr) (cap : Nat) : Value :=
  .agg #[S.v q.left.length, .int .i64 q.right.op, .string q.right.name, .int .i64 q.right.num, .slice A q.right.k cap, .int .i64 q.right.line, .int .i64 q.right.col, .int .i64 q.line, .int .i64 q.col]
structure EqCells (w : World) (b o : Nat) (q : EqE) (S : Sl) (A : Option Addr) (cap : Nat) : Prop where
  c0 : w.cell? ⟨b, o, none⟩ = some (S.v q.left.length)
  c1 : w.cell? ⟨b, o + 1, none⟩ = some (.int .i64 q.right.op)
  c2 : w.cell? ⟨b, o + 2, none⟩ = some (.string q.right.name)
  c3 : w.cell? ⟨b, o + 3, none⟩ = some (.int .i64 q.right.num)
  c4 : w.cell? ⟨b, o + 4, none⟩ = some (.slice A q.right.k cap)
  c5 : w.cell? ⟨b, o + 5, none⟩ = some (.int .i64 q.right.line)
  c6 : w.cell? ⟨b, o + 6, none⟩ = some (.int .i64 q.right.col)
  c7 : w.cell? ⟨b, o + 7, none⟩ = some (.int .i64 q.line)
  c8 : w.cell? ⟨b, o + 8, none⟩ = some (.int .i64 q.col)
def EqAt (B : Nat) (w : World) (b o : Nat) (q : EqE) : Prop := b < B ∧ ∃ S A cap, EqCells w b o q S A cap ∧ EqIs B w q S A cap

/-- where a node's slices lie -/
structure NSl where
  i : Sl
  o : Sl
  v : Sl
  e : Sl
structure NodeIs (B : Nat) (w : World) (n : NodeE) (S : NSl) : Prop where
  name : n.name.size ≤ maxLen
  line : I64 n.line
  col : I64 n.col
  fi : S.i.fits n.ins.length
  fo : S.o.fits n.outs.length
  fv : S.v.fits n.vars.length
  fe : S.e.fits n.eqs.length
  ins : SlAt 5 (VarAt B w) S.i.A n.ins
  outs : SlAt 5 (VarAt B w) S.o.A n.outs
  vars : SlAt 5 (VarAt B w) S.v.A n.vars
  eqs : SlAt 9 (EqAt B w) S.e.A n.eqs
def NodeE.val (n : NodeE) (S : NSl) : Value := .agg #[.string n.name, S.i.v n.ins.length, S.o.v n.outs.length, S.v.v n.vars.length, S.e.v n.eqs.length, .int .i64 n.line, .int .i64 n.col]
structure NodeCells (w : World) (b o : Nat) (n : NodeE) (S : NSl) : Prop where
  c0 : w.cell? ⟨b, o, none⟩ = some (.string n.name)
  c1 : w.cell? ⟨b, o + 1, none⟩ = some (S.i.v n.ins.length)
  c2 : w.cell? ⟨b, o + 2, none⟩ = some (S.o.v n.outs.length)
  c3 : w.cell? ⟨b, o + 3, none⟩ = some (S.v.v n.vars.length)
  c4 : w.cell? ⟨b, o + 4, none⟩ = some (S.e.v n.eqs.length)
  c5 : w.cell? ⟨b, o + 5, none⟩ = some (.int .i64 n.line)
  c6 : w.cell? ⟨b, o + 6, none⟩ = some (.int .i64 n.col)
def NodeAt (B : Nat) (w : World) (b o : Nat) (n : NodeE) : Prop := b < B ∧ ∃ S, NodeCells w b o n S ∧ NodeIs B w n S
/-- a source whose nodes lie at S -/
structure SrcIs (B : Nat) (w : World) (s : List NodeE) (S : Sl) : Prop where
  fits : S.fits s.length
  nodes : SlAt 7 (NodeAt B w) S.A s
def srcVal (s : List NodeE) (S : Sl) : Value := .agg #[S.v s.length]

/-- what lies below a block lies as it lay -/
def Same (B : Nat) (w w' : World) : Prop := ∀ b i, b < B → w'.cell? ⟨b, i, none⟩ = w.cell? ⟨b, i, none⟩
theorem same_below {B B' : Nat} {w w' : World} (hB : B ≤ B') (hb : Below B' w w') : Same B w w' := fun b i h => hb.cell (p := ⟨b, i, none⟩) (by simp; omega)

section
variable {B B' : Nat} {w w' : World}
theorem StrAt.keep (hk : Same B w w') {b o : Nat} {x : ByteArray} (h : StrAt B w b o x) : StrAt B w' b o x := ⟨h.1, h.2.1, (hk _ _ h.1).trans h.2.2⟩
theorem LitAt.keep (hk : Same B w w') {b o : Nat} {x : LitE} (h : LitAt B w b o x) : LitAt B w' b o x := ⟨h.lt, h.name, (hk _ _ h.lt).trans h.c0, (hk _ _ h.lt).trans h.c1⟩
theorem VarIs.keep (hk : Same B w w') {v : VarE} {S : Sl} (h : VarIs B w v S) : VarIs B w' v S := ⟨h.name, h.type, h.line, h.col, h.fits, h.clock.imp fun _ _ _ => LitAt.keep hk⟩
theorem VarCells.keep {b o : Nat} (hk : ∀ i, w'.cell? ⟨b, i, none⟩ = w.cell? ⟨b, i, none⟩) {v : VarE} {S : Sl} (h : VarCells w b o v S) : VarCells w' b o v S :=
  ⟨(hk _).trans h.c0, (hk _).trans h.c1, (hk _).trans h.c2, (hk _).trans h.c3, (hk _).trans h.c4⟩
theorem VarAt.keep (hk : Same B w w') {b o : Nat} {v : VarE} (h : VarAt B w b o v) : VarAt B w' b o v := by
  obtain ⟨hb, S, hc, hi⟩ := h
  exact ⟨hb, S, hc.keep fun i => hk _ _ hb, hi.keep hk⟩
theorem EqIs.keep (hk : Same B w w') {q : EqE} {S : Sl} {A : Option Addr} {cap : Nat} (h : EqIs B w q S A cap) : EqIs B w' q S A cap :=
  ⟨h.line, h.col, h.fits, h.left.imp fun _ _ _ => StrAt.keep hk, ExAt.keep hk _ _ _ h.right⟩
theorem EqCells.keep {b o : Nat} (hk : ∀ i, w'.cell? ⟨b, i, none⟩ = w.cell? ⟨b, i, none⟩) {q : EqE} {S : Sl} {A : Option Addr} {cap : Nat} (h : EqCells w b o q S A cap) : EqCells w' b o q S A cap :=
  ⟨(hk _).trans h.c0, (hk _).trans h.c1, (hk _).trans h.c2, (hk _).trans h.c3, (hk _).trans h.c4, (hk _).trans h.c5, (hk _).trans h.c6, (hk _).trans h.c7, (hk _).trans h.c8⟩
theorem EqAt.keep (hk : Same B w w') {b o : Nat} {q : EqE} (h : EqAt B w b o q) : EqAt B w' b o q := by
  obtain ⟨hb, S, A, cap, hc, hi⟩ := h
  exact ⟨hb, S, A, cap, hc.keep fun i => hk _ _ hb, hi.keep hk⟩
theorem NodeIs.keep (hk : Same B w w') {n : NodeE} {S : NSl} (h : NodeIs B w n S) : NodeIs B w' n S :=
  ⟨h.name, h.line, h.col, h.fi, h.fo, h.fv, h.fe, h.ins.imp fun _ _ _ => VarAt.keep hk, h.outs.imp fun _ _ _ => VarAt.keep hk, h.vars.imp fun _ _ _ => VarAt.keep hk, h.eqs.imp fun _ _ _ => EqAt.keep hk⟩
theorem NodeCells.keep {b o : Nat} (hk : ∀ i, w'.cell? ⟨b, i, none⟩ = w.cell? ⟨b, i, none⟩) {n : NodeE} {S : NSl} (h : NodeCells w b o n S) : NodeCells w' b o n S :=
  ⟨(hk _).trans h.c0, (hk _).trans h.c1, (hk _).trans h.c2, (hk _).trans h.c3, (hk _).trans h.c4, (hk _).trans h.c5, (hk _).trans h.c6⟩
theorem NodeAt.keep (hk : Same B w w') {b o : Nat} {n : NodeE} (h : NodeAt B w b o n) : NodeAt B w' b o n := by
  obtain ⟨hb, S, hc, hi⟩ := h
  exact ⟨hb, S, hc.keep fun i => hk _ _ hb, hi.keep hk⟩
theorem SrcIs.keep (hk : Same B w w') {s : List NodeE} {S : Sl} (h : SrcIs B w s S) : SrcIs B w' s S := ⟨h.fits, h.nodes.imp fun _ _ _ => NodeAt.keep hk⟩

theorem StrAt.more (hB : B ≤ B') {b o : Nat} {x : ByteArray} (h : StrAt B w b o x) : StrAt B' w b o x := ⟨by have := h.1; omega, h.2⟩
theorem LitAt.more (hB : B ≤ B') {b o : Nat} {x : LitE} (h : LitAt B w b o x) : LitAt B' w b o x := ⟨by have := h.lt; omega, h.name, h.c0, h.c1⟩
theorem VarIs.more (hB : B ≤ B') {v : VarE} {S : Sl} (h : VarIs B w v S) : VarIs B' w v S := ⟨h.name, h.type, h.line, h.col, h.fits, h.clock.imp fun _ _ _ => LitAt.more hB⟩
theorem VarAt.more (hB : B ≤ B') {b o : Nat} {v : VarE} (h : VarAt B w b o v) : VarAt B' w b o v := by
  obtain ⟨hb, S, hc, hi⟩ := h
  exact ⟨by omega, S, hc, hi.more hB⟩
theorem EqIs.more (hB : B ≤ B') {q : EqE} {S : Sl} {A : Option Addr} {cap : Nat} (h : EqIs B w q S A cap) : EqIs B' w q S A cap :=
  ⟨h.line, h.col, h.fits, h.left.imp fun _ _ _ => StrAt.more hB, ExAt.more hB _ _ _ h.right⟩
theorem EqAt.more (hB : B ≤ B') {b o : Nat} {q : EqE} (h : EqAt B w b o q) : EqAt B' w b o q := by
  obtain ⟨hb, S, A, cap, hc, hi⟩ := h
  exact ⟨by omega, S, A, cap, hc, hi.more hB⟩
theorem NodeIs.more (hB : B ≤ B') {n : NodeE} {S : NSl} (h : NodeIs B w n S) : NodeIs B' w n S :=
  ⟨h.name, h.line, h.col, h.fi, h.fo, h.fv, h.fe, h.ins.imp fun _ _ _ => VarAt.more hB, h.outs.imp fun _ _ _ => VarAt.more hB, h.vars.imp fun _ _ _ => VarAt.more hB, h.eqs.imp fun _ _ _ => EqAt.more hB⟩
theorem NodeAt.more (hB : B ≤ B') {b o : Nat} {n : NodeE} (h : NodeAt B w b o n) : NodeAt B' w b o n := by
  obtain ⟨hb, S, hc, hi⟩ := h
  exact ⟨by omega, S, hc, hi.more hB⟩
theorem SrcIs.more (hB : B ≤ B') {s : List NodeE} {S : Sl} (h : SrcIs B w s S) : SrcIs B' w s S := ⟨h.fits, h.nodes.imp fun _ _ _ => NodeAt.more hB⟩
theorem strs_of_sl {A : Option Addr} {xs : List ByteArray} (h : SlAt 1 (StrAt B w) A xs) : StrsAt w A xs := fun j hj => by
  obtain ⟨b, o, hA, hc⟩ := h j hj
  exact ⟨b, o, hA, by simpa using hc.2.2⟩
end

/-! loops over all -/
theorem all_hit {α : Type} {p : α → Bool} {xs : List α} {j : Nat} (h : j < xs.length) (hp : p xs[j] = false) : xs.all p = false := by
  rw [List.all_eq_false]; exact ⟨xs[j], List.getElem_mem _, by rw [hp]; simp⟩
theorem all_done {α : Type} {p : α → Bool} {xs : List α} (h : ∀ j (hj : j < xs.length), p xs[j] = true) : xs.all p = true := by
  rw [List.all_eq_true]
  intro x hx
  obtain ⟨j, hj, rfl⟩ := List.getElem_of_mem hx
  exact h j hj
theorem all_at {α : Type} {p : α → Bool} {xs : List α} (h : xs.all p = true) (j : Nat) (hj : j < xs.length) : p xs[j] = true := List.all_eq_true.1 h _ (List.getElem_mem _)
/-- so far all are so -/
def Upto {α : Type} (p : α → Bool) (xs : List α) (j : Nat) : Prop := ∀ m (h : m < xs.length), m < j → p xs[m] = true
theorem Upto.zero {α : Type} (p : α → Bool) (xs : List α) : Upto p xs 0 := fun m _ h => absurd h (by omega)
theorem Upto.succ {α : Type} {p : α → Bool} {xs : List α} {j : Nat} (h : Upto p xs j) (hj : j < xs.length) (hp : p xs[j] = true) : Upto p xs (j + 1) := fun m hm hmj => by
  by_cases h1 : m = j
  · subst h1; exact hp
  · exact h m hm (by omega)
theorem Upto.all {α : Type} {p : α → Bool} {xs : List α} (h : Upto p xs xs.length) : xs.all p = true := all_done fun j hj => h j hj hj
end Go.Proofs.YtnlikhjmmnaknaaGreatDoor
/-
  The walks of package tree's functions over sources: variable, many, equation, Node, Source.
-/
namespace Go.Proofs.YtnlikhjmmnaknaaGreatDoor
open Go.RowKit

def litB (c : LitE) : Bool := isName c.name.data.toList
/-- is a variable right? -/
def varB (v : VarE) : Bool := v.clock.all litB && isName v.name.data.toList && (v.type == 1 || v.type == 2) && decide (v.clock.length ≤ 4)
def manyB (l : List VarE) (least most : Nat) : Bool := l.all varB && decide (least ≤ l.length) && decide (l.length ≤ most)
def strB (x : ByteArray) : Bool := isName x.data.toList
def eqB (q : EqE) : Bool := q.left.all strB && decide (1 ≤ q.left.length) && decide (q.left.length ≤ 8) && q.right.right
def nodeB (n : NodeE) : Bool := n.eqs.all eqB && isName n.name.data.toList && decide (1 ≤ n.eqs.length) && decide (n.eqs.length ≤ 48) && manyB n.ins 1 8 && manyB n.outs 1 8 && manyB n.vars 0 40
def srcB (s : List NodeE) : Bool := s.all nodeB && decide (1 ≤ s.length) && decide (s.length ≤ 16)

theorem boxed_all {w wr : World} {cs : Array Value} {t : TypeId} (h : Below (w.heap.size + 1) (w.alloc (.cells cs t)) wr) : ∀ i, wr.cell? ⟨w.heap.size, i, none⟩ = cs[i]? := boxed_cell h
theorem boxed_then {w wr w' : World} {o : Obj} (h : Below (w.heap.size + 1) (w.alloc o) wr) (hb : Below wr.heap.size wr w') : Below (w.heap.size + 1) (w.alloc o) w' := h.trans (hb.mono (boxed_size h))

set_option maxHeartbeats 1000000 in
theorem variable_any (v : VarE) (S : Sl) (B : Nat) (w : World) (hv : VarIs B w v S) (hB : B ≤ w.heap.size) :
    Calls Tryz.prog 85 #[v.val S] w fun r w' => r = .returned (.bool (varB v)) ∧ Below w.heap.size w w' := by
  obtain ⟨A, cap⟩ := S
  obtain ⟨name, type, clock, line, col⟩ := v
  obtain ⟨hn, _, _, _, ⟨hf1, hf2⟩, hcl⟩ := hv
  simp only [VarE.val, Sl.v] at *
  unfold maxLen at hf2
  have hcap' : (clock.length : Int) ≤ 9223372036854775807 := by omega
  have HCL := hid hcl
  have hb0 : Below (w.heap.size + 1) (w.alloc (.cells #[.string name, .int .i64 type, .slice A clock.length cap, .int .i64 line, .int .i64 col] 103)) (w.alloc (.cells #[.string name, .int .i64 type, .slice A clock.length cap, .int .i64 line, .int .i64 col] 103)) := Below.refl _ _
  have HB0 := hid hb0
  clear hcl hb0 hf1 hf2
  go_enter Tryz.func85, Tryz.ntmps85
  go_wp2_with fail
  go_loopw [4, 8] (fun _ i wr => ∃ j : Nat, j ≤ clock.length ∧ i = .int .i64 j ∧ Hid (Upto litB clock j) ∧ Below (w.heap.size + 1) (w.alloc (.cells #[.string name, .int .i64 type, .slice A clock.length cap, .int .i64 line, .int .i64 col] 103)) wr) (fun _ i _ => clock.length - (intOf i).toNat)
  case atStart => exact ⟨0, by omega, rfl, Upto.zero _ _, HB0.out⟩
  case round =>
    obtain ⟨j, hj, rfl, hup, hbr⟩ := hrel
    have hsz := boxed_size hbr
    have hbw := boxed_below hbr
    by_cases hlt : j < clock.length
    · obtain ⟨b, o, rfl, hl⟩ := HCL.out j hlt
      obtain ⟨hb, hnl, c0, c1⟩ := hl.keep (same_below hB hbw)
      have hi0 : (0 : Int) ≤ (j : Int) := by omega
      have hi1 : (j : Int) < (clock.length : Int) := by omega
      have hw2 := hbr.alloc (show w.heap.size + 1 ≤ wr.heap.size by omega) (.cells #[.string (clock[j]).name, .bool (clock[j]).neg] 115)
      have hnm := name_any (clock[j]).name (wr.alloc (.cells #[.string (clock[j]).name, .bool (clock[j]).neg] 115)) hnl
      cases hp : litB clock[j]
      · have hp' : isName (clock[j]).name.data.toList = false := hp
        have HS := hid (all_hit hlt hp)
        rw [hp'] at hnm
        clear hp hp' hup
        go_wp2_with (go_at_call 48; refine hnm.mono ?_; rintro r w2 ⟨rfl, hb2⟩)
        go_ret
        refine ⟨ret_bool ?_, boxed_below (boxed_then hw2 hb2)⟩
        unfold varB; rw [HS.out]; rfl
      · have hp' : isName (clock[j]).name.data.toList = true := hp
        have HS := hid (hup.out.succ hlt hp)
        rw [hp'] at hnm
        clear hp hp' hup
        go_wp2_with (go_at_call 48; refine hnm.mono ?_; rintro r w2 ⟨rfl, hb2⟩)
        go_roundw
        case rel => exact ⟨j + 1, by omega, by go_num, HS, boxed_then hw2 hb2⟩
        case measure => simp [intOf]; omega
    · have : j = clock.length := by omega
      subst this
      have HS := hid hup.out.all
      obtain ⟨y0, y1, y2, y3, y4⟩ : wr.cell? ⟨w.heap.size, 0, none⟩ = some (.string name) ∧ wr.cell? ⟨w.heap.size, 1, none⟩ = some (.int .i64 type) ∧ wr.cell? ⟨w.heap.size, 2, none⟩ = some (.slice A clock.length cap) ∧ wr.cell? ⟨w.heap.size, 3, none⟩ = some (.int .i64 line) ∧ wr.cell? ⟨w.heap.size, 4, none⟩ = some (.int .i64 col) :=
        ⟨boxed_cell hbr 0, boxed_cell hbr 1, boxed_cell hbr 2, boxed_cell hbr 3, boxed_cell hbr 4⟩
      have hnm := name_any name wr hn
      cases hp : isName name.data.toList
      · rw [hp] at hnm
        have HP := hid hp
        clear hp hup
        go_wp2_with (go_at_call 48; refine hnm.mono ?_; rintro r w2 ⟨rfl, hb2⟩)
        go_ret
        refine ⟨ret_bool ?_, boxed_below (boxed_then hbr hb2)⟩
        unfold varB; simp [HS.out, HP.out]
      · rw [hp] at hnm
        have HP := hid hp
        clear hp hup
        go_wp2_with (go_at_call 48; refine hnm.mono ?_; rintro r w2 ⟨rfl, hb2⟩; have hbx := boxed_then hbr hb2; have z1 := boxed_cell hbx 1; have z2 := boxed_cell hbx 2)
        all_goals
          go_ret
          refine ⟨ret_bool ?_, boxed_below hbx⟩
          unfold varB; simp only [HS.out, HP.out, Bool.true_and]
          first | (simp_all; done) | (simp_all; omega)

set_option maxHeartbeats 1000000 in
theorem manyv_any (l : List VarE) (least most : Nat) (S : Sl) (B : Nat) (w : World) (hf : S.fits l.length) (hv : SlAt 5 (VarAt B w) S.A l) (hB : B ≤ w.heap.size) :
    Calls Tryz.prog 49 #[S.v l.length, .int .i64 least, .int .i64 most] w fun r w' => r = .returned (.bool (manyB l least most)) ∧ Below w.heap.size w w' := by
  obtain ⟨A, cap⟩ := S
  obtain ⟨hf1, hf2⟩ := hf
  simp only [Sl.v] at *
  unfold maxLen at hf2
  have hcap' : (l.length : Int) ≤ 9223372036854775807 := by omega
  have HV := hid hv
  clear hv hf1 hf2
  go_enter Tryz.func49, Tryz.ntmps49
  go_wp2_with fail
  go_loopw [8, 11] (fun _ i wr => ∃ j : Nat, j ≤ l.length ∧ i = .int .i64 j ∧ Hid (Upto varB l j) ∧ Below w.heap.size w wr) (fun _ i _ => l.length - (intOf i).toNat)
  case atStart => exact ⟨0, by omega, rfl, Upto.zero _ _, Below.refl _ _⟩
  case round =>
    obtain ⟨j, hj, rfl, hup, hbr⟩ := hrel
    have hsz := hbr.size
    by_cases hlt : j < l.length
    · obtain ⟨b, o, rfl, hl⟩ := HV.out j hlt
      obtain ⟨hb, ⟨A', cap'⟩, hc, hi⟩ := hl.keep (same_below hB hbr)
      obtain ⟨c0, c1, c2, c3, c4⟩ := hc
      have hi0 : (0 : Int) ≤ (j : Int) := by omega
      have hi1 : (j : Int) < (l.length : Int) := by omega
      have hw2 := hbr.alloc hsz (.cells #[.string (l[j]).name, .int .i64 (l[j]).type, .slice A' (l[j]).clock.length cap', .int .i64 (l[j]).line, .int .i64 (l[j]).col] 103)
      have hvr := variable_any l[j] ⟨A', cap'⟩ B (wr.alloc (.cells #[.string (l[j]).name, .int .i64 (l[j]).type, .slice A' (l[j]).clock.length cap', .int .i64 (l[j]).line, .int .i64 (l[j]).col] 103)) (hi.keep (same_below (Nat.le_refl B) ((Below.refl B wr).alloc (by omega) _))) (by simp; omega)
      simp only [VarE.val, Sl.v] at hvr c2
      cases hp : varB l[j]
      · have HS := hid (all_hit hlt hp)
        rw [hp] at hvr
        clear hp hup hi
        go_wp2_with (go_at_call 85; refine hvr.mono ?_; rintro r w2 ⟨rfl, hb2⟩)
        go_ret
        refine ⟨ret_bool ?_, hw2.trans (hb2.mono hw2.size)⟩
        unfold manyB; rw [HS.out]; rfl
      · have HS := hid (hup.out.succ hlt hp)
        rw [hp] at hvr
        clear hp hup hi
        go_wp2_with (go_at_call 85; refine hvr.mono ?_; rintro r w2 ⟨rfl, hb2⟩)
        go_roundw
        case rel => exact ⟨j + 1, by omega, by go_num, HS, hw2.trans (hb2.mono hw2.size)⟩
        case measure => simp [intOf]; omega
    · have : j = l.length := by omega
      subst this
      have HS := hid hup.out.all
      clear hup
      by_cases h1 : (least : Int) ≤ (l.length : Int)
      all_goals
        go_wp2_with fail
        go_ret
        refine ⟨ret_bool ?_, hbr⟩
        unfold manyB; rw [HS.out, Bool.eq_iff_iff]; simp; try omega

set_option maxHeartbeats 1000000 in
theorem equation_any (q : EqE) (S : Sl) (A' : Option Addr) (cap' : Nat) (B : Nat) (w : World) (hq : EqIs B w q S A' cap') (hB : B ≤ w.heap.size) (hh : q.right.height ≤ 1000000) :
    Calls Tryz.prog 47 #[q.val S A' cap'] w fun r w' => r = .returned (.bool (eqB q)) ∧ Below w.heap.size w w' := by
  obtain ⟨A, cap⟩ := S
  obtain ⟨left, right, line, col⟩ := q
  obtain ⟨_, _, ⟨hf1, hf2⟩, hcl, hr⟩ := hq
  simp only [EqE.val, Sl.v] at *
  unfold maxLen at hf2
  have hcap' : (left.length : Int) ≤ 9223372036854775807 := by omega
  have HCL := hid hcl
  obtain ⟨bx, hbx⟩ : ∃ bx : Array Value, bx = #[.slice A left.length cap, .int .i64 right.op, .string right.name, .int .i64 right.num, .slice A' right.k cap', .int .i64 right.line, .int .i64 right.col, .int .i64 line, .int .i64 col] := ⟨_, rfl⟩
  have hb0 : Below (w.heap.size + 1) (w.alloc (.cells bx 79)) (w.alloc (.cells bx 79)) := Below.refl _ _
  have HB0 := hid hb0
  have HBX := hid hbx
  clear hcl hb0 hf1 hf2
  go_enter Tryz.func47, Tryz.ntmps47
  go_wp2_with fail
  rw [← hbx]
  clear hbx
  go_loopw [4, 8] (fun _ i wr => ∃ j : Nat, j ≤ left.length ∧ i = .int .i64 j ∧ Hid (Upto strB left j) ∧ Below (w.heap.size + 1) (w.alloc (.cells bx 79)) wr) (fun _ i _ => left.length - (intOf i).toNat)
  case atStart => exact ⟨0, by omega, rfl, Upto.zero _ _, HB0.out⟩
  case round =>
    obtain ⟨j, hj, rfl, hup, hbr⟩ := hrel
    have hsz := boxed_size hbr
    have hbw := boxed_below hbr
    by_cases hlt : j < left.length
    · obtain ⟨b, o, rfl, hl⟩ := HCL.out j hlt
      obtain ⟨hb, hnl, c0⟩ := hl.keep (same_below hB hbw)
      simp only [Nat.mul_one] at c0
      have hi0 : (0 : Int) ≤ (j : Int) := by omega
      have hi1 : (j : Int) < (left.length : Int) := by omega
      have hnm := name_any left[j] wr hnl
      cases hp : strB left[j]
      · have hp' : isName (left[j]).data.toList = false := hp
        have HS := hid (all_hit hlt hp)
        rw [hp'] at hnm
        clear hp hp' hup
        go_wp2_with (go_at_call 48; refine hnm.mono ?_; rintro r w2 ⟨rfl, hb2⟩)
        go_ret
        refine ⟨ret_bool ?_, boxed_below (boxed_then hbr hb2)⟩
        unfold eqB; rw [HS.out]; rfl
      · have hp' : isName (left[j]).data.toList = true := hp
        have HS := hid (hup.out.succ hlt hp)
        rw [hp'] at hnm
        clear hp hp' hup
        go_wp2_with (go_at_call 48; refine hnm.mono ?_; rintro r w2 ⟨rfl, hb2⟩)
        go_roundw
        case rel => exact ⟨j + 1, by omega, by go_num, HS, boxed_then hbr hb2⟩
        case measure => simp [intOf]; omega
    · have : j = left.length := by omega
      subst this
      have HS := hid hup.out.all
      have hca := boxed_all hbr
      rw [HBX.out] at hca
      have y0 := hca 0
      have y1 := hca 1
      have y2 := hca 2
      have y3 := hca 3
      have y4 := hca 4
      have y5 := hca 5
      have y6 := hca 6
      simp only [List.getElem?_toArray, List.getElem?_cons_zero, List.getElem?_cons_succ] at y0 y1 y2 y3 y4 y5 y6
      have hrr := right_any right B A' cap' wr (ExAt.below hr hB hbw) (by omega) hh
      simp only [Ex.val] at hrr
      clear hup hca
      by_cases h1 : (1 : Int) ≤ (left.length : Int)
      · by_cases h2 : (left.length : Int) ≤ 8
        · go_wp2_with (go_at_call 35; refine hrr.mono ?_; rintro r w2 ⟨rfl, hb2⟩)
          go_ret
          refine ⟨ret_bool ?_, boxed_below (boxed_then hbr hb2)⟩
          unfold eqB; simp only [HS.out]
          rw [decide_eq_true (show 1 ≤ left.length by omega), decide_eq_true (show left.length ≤ 8 by omega)]; rfl
        · go_wp2_with fail
          go_ret
          refine ⟨ret_bool ?_, hbw⟩
          unfold eqB
          rw [decide_eq_false (show ¬ left.length ≤ 8 by omega)]; simp
      · go_wp2_with fail
        go_ret
        refine ⟨ret_bool ?_, hbw⟩
        unfold eqB
        rw [decide_eq_false (show ¬ 1 ≤ left.length by omega)]; simp
end Go.Proofs.YtnlikhjmmnaknaaGreatDoor
/-
  The walks of package tree's Node and Source.
-/
namespace Go.Proofs.YtnlikhjmmnaknaaGreatDoor
open Go.RowKit

set_option maxHeartbeats 2000000 in
theorem node_any (n : NodeE) (S : NSl) (B : Nat) (w : World) (hn : NodeIs B w n S) (hB : B ≤ w.heap.size) (hh : ∀ q ∈ n.eqs, q.right.height ≤ 1000000) :
    Calls Tryz.prog 24 #[n.val S] w fun r w' => r = .returned (.bool (nodeB n)) ∧ Below w.heap.size w w' := by
  obtain ⟨Si, So, Sv, ⟨A, cap⟩⟩ := S
  obtain ⟨name, ins, outs, vars, eqs, line, col⟩ := n
  obtain ⟨hnm, _, _, hfi, hfo, hfv, ⟨hf1, hf2⟩, hins, houts, hvars, heqs⟩ := hn
  simp only [NodeE.val] at *
  rw [show (Sl.mk A cap).v eqs.length = .slice A eqs.length cap from rfl]
  unfold maxLen at hf2
  have hcap' : (eqs.length : Int) ≤ 9223372036854775807 := by omega
  have hm1 : ∀ W, Below w.heap.size w W → Calls Tryz.prog 49 #[Si.v ins.length, .int .i64 1, .int .i64 8] W fun r w' => r = .returned (.bool (manyB ins 1 8)) ∧ Below W.heap.size W w' := fun W h =>
    manyv_any ins 1 8 Si B W hfi (hins.imp fun _ _ _ => VarAt.keep (same_below hB h)) (by have := h.size; omega)
  have hm2 : ∀ W, Below w.heap.size w W → Calls Tryz.prog 49 #[So.v outs.length, .int .i64 1, .int .i64 8] W fun r w' => r = .returned (.bool (manyB outs 1 8)) ∧ Below W.heap.size W w' := fun W h =>
    manyv_any outs 1 8 So B W hfo (houts.imp fun _ _ _ => VarAt.keep (same_below hB h)) (by have := h.size; omega)
  have hm3 : ∀ W, Below w.heap.size w W → Calls Tryz.prog 49 #[Sv.v vars.length, .int .i64 0, .int .i64 40] W fun r w' => r = .returned (.bool (manyB vars 0 40)) ∧ Below W.heap.size W w' := fun W h =>
    manyv_any vars 0 40 Sv B W hfv (hvars.imp fun _ _ _ => VarAt.keep (same_below hB h)) (by have := h.size; omega)
  have HM1 := hid hm1
  have HM2 := hid hm2
  have HM3 := hid hm3
  have HEQ := hid heqs
  have HH := hid hh
  obtain ⟨ci, hci⟩ : ∃ ci, Si.v ins.length = .slice Si.A ins.length ci := ⟨_, rfl⟩
  obtain ⟨co, hco⟩ : ∃ co, So.v outs.length = .slice So.A outs.length co := ⟨_, rfl⟩
  obtain ⟨cv, hcv⟩ : ∃ cv, Sv.v vars.length = .slice Sv.A vars.length cv := ⟨_, rfl⟩
  rw [hci, hco, hcv]
  rw [hci] at HM1
  rw [hco] at HM2
  rw [hcv] at HM3
  generalize Si.A = Ai at *
  generalize So.A = Ao at *
  generalize Sv.A = Av at *
  obtain ⟨bx, hbx⟩ : ∃ bx : Array Value, bx = #[.string name, .slice Ai ins.length ci, .slice Ao outs.length co, .slice Av vars.length cv, .slice A eqs.length cap, .int .i64 line, .int .i64 col] := ⟨_, rfl⟩
  have hb0 : Below (w.heap.size + 1) (w.alloc (.cells bx 61)) (w.alloc (.cells bx 61)) := Below.refl _ _
  have HB0 := hid hb0
  have HBX := hid hbx
  clear heqs hb0 hf1 hf2 hm1 hm2 hm3 hins houts hvars hfi hfo hfv hh hci hco hcv
  go_enter Tryz.func24, Tryz.ntmps24
  go_wp2_with fail
  rw [← hbx]
  clear hbx
  go_loopw [4, 8] (fun _ i wr => ∃ j : Nat, j ≤ eqs.length ∧ i = .int .i64 j ∧ Hid (Upto eqB eqs j) ∧ Below (w.heap.size + 1) (w.alloc (.cells bx 61)) wr) (fun _ i _ => eqs.length - (intOf i).toNat)
  case atStart => exact ⟨0, by omega, rfl, Upto.zero _ _, HB0.out⟩
  case round =>
    obtain ⟨j, hj, rfl, hup, hbr⟩ := hrel
    have hsz := boxed_size hbr
    have hbw := boxed_below hbr
    by_cases hlt : j < eqs.length
    · obtain ⟨b, o, rfl, hl⟩ := HEQ.out j hlt
      obtain ⟨hb, ⟨A1, cap1⟩, A2, cap2, hc, hi⟩ := hl.keep (same_below hB hbw)
      obtain ⟨c0, c1, c2, c3, c4, c5, c6, c7, c8⟩ := hc
      have hi0 : (0 : Int) ≤ (j : Int) := by omega
      have hi1 : (j : Int) < (eqs.length : Int) := by omega
      have hhj := HH.out eqs[j] (List.getElem_mem _)
      generalize hqj : eqs[j] = q at *
      have HQJ := hid hqj
      clear hqj
      have hw2 := hbr.alloc (show w.heap.size + 1 ≤ wr.heap.size by omega) (.cells #[.slice A1 q.left.length cap1, .int .i64 q.right.op, .string q.right.name, .int .i64 q.right.num, .slice A2 q.right.k cap2, .int .i64 q.right.line, .int .i64 q.right.col, .int .i64 q.line, .int .i64 q.col] 79)
      have hvr := equation_any q ⟨A1, cap1⟩ A2 cap2 B (wr.alloc (.cells #[.slice A1 q.left.length cap1, .int .i64 q.right.op, .string q.right.name, .int .i64 q.right.num, .slice A2 q.right.k cap2, .int .i64 q.right.line, .int .i64 q.right.col, .int .i64 q.line, .int .i64 q.col] 79))
        (hi.keep (same_below (Nat.le_refl B) ((Below.refl B wr).alloc (by omega) _))) (by simp; omega) hhj
      simp only [EqE.val, Sl.v] at hvr c0
      cases hp : eqB q
      · have HS := hid (all_hit (p := eqB) hlt (by rw [HQJ.out]; exact hp))
        rw [hp] at hvr
        clear hp hup hi hhj
        go_wp2_with (go_at_call 47; refine hvr.mono ?_; rintro r w2 ⟨rfl, hb2⟩)
        go_ret
        refine ⟨ret_bool ?_, boxed_below (boxed_then hw2 hb2)⟩
        unfold nodeB; rw [HS.out]; rfl
      · have HS := hid (hup.out.succ hlt (by rw [HQJ.out]; exact hp))
        rw [hp] at hvr
        clear hp hup hi hhj
        go_wp2_with (go_at_call 47; refine hvr.mono ?_; rintro r w2 ⟨rfl, hb2⟩)
        go_roundw
        case rel => exact ⟨j + 1, by omega, by go_num, HS, boxed_then hw2 hb2⟩
        case measure => simp [intOf]; omega
    · have : j = eqs.length := by omega
      subst this
      have HS := hid hup.out.all
      have hall : Hid (∀ W, Below (w.heap.size + 1) (w.alloc (.cells bx 61)) W → W.cell? ⟨w.heap.size, 1, none⟩ = some (.slice Ai ins.length ci) ∧ W.cell? ⟨w.heap.size, 2, none⟩ = some (.slice Ao outs.length co) ∧ W.cell? ⟨w.heap.size, 3, none⟩ = some (.slice Av vars.length cv) ∧ W.cell? ⟨w.heap.size, 4, none⟩ = some (.slice A eqs.length cap)) := fun W h => by
        have hca := boxed_all h
        rw [HBX.out] at hca
        exact ⟨hca 1, hca 2, hca 3, hca 4⟩
      have y0 := boxed_all hbr 0
      rw [HBX.out] at y0
      simp only [List.getElem?_toArray, List.getElem?_cons_zero] at y0
      have hnr := name_any name wr hnm
      clear hup
      cases hp : isName name.data.toList
      · rw [hp] at hnr
        have HP := hid hp
        clear hp
        go_wp2_with (go_at_call 48; refine hnr.mono ?_; rintro r w2 ⟨rfl, hb2⟩)
        go_ret
        refine ⟨ret_bool ?_, boxed_below (boxed_then hbr hb2)⟩
        unfold nodeB; simp [HP.out]
      · rw [hp] at hnr
        have HP := hid hp
        clear hp
        by_cases h1 : (1 : Int) ≤ (eqs.length : Int)
        · by_cases h2 : (eqs.length : Int) ≤ 48
          · have HD : Hid (nodeB ⟨name, ins, outs, vars, eqs, line, col⟩ = (manyB ins 1 8 && manyB outs 1 8 && manyB vars 0 40)) := by
              show _ = _
              unfold nodeB; simp only [HS.out, HP.out]
              rw [decide_eq_true (show 1 ≤ eqs.length by omega), decide_eq_true (show eqs.length ≤ 48 by omega)]; rfl
            cases q1 : manyB ins 1 8
            · have Q := hid q1
              rw [q1] at HM1
              clear q1
              go_wp2_with (first
                | (go_at_call 48; refine hnr.mono ?_; rintro r w2 ⟨rfl, hb2⟩; have k2 := boxed_then hbr hb2; obtain ⟨z1, z2, z3, z4⟩ := hall.out _ k2)
                | (go_at_call 49; refine (HM1.out _ (boxed_below k2)).mono ?_; rintro r w3 ⟨rfl, hb3⟩; have k3 := boxed_then k2 hb3))
              go_ret
              exact ⟨ret_bool (by rw [HD.out, Q.out]; rfl), boxed_below k3⟩
            · have Q := hid q1
              rw [q1] at HM1
              clear q1
              cases q2 : manyB outs 1 8
              · have Q2 := hid q2
                rw [q2] at HM2
                clear q2
                go_wp2_with (first
                  | (go_at_call 48; refine hnr.mono ?_; rintro r w2 ⟨rfl, hb2⟩; have k2 := boxed_then hbr hb2; obtain ⟨z1, z2, z3, z4⟩ := hall.out _ k2)
                  | (go_at_call 49; with_reducible refine (HM1.out _ (boxed_below k2)).mono ?_; rintro r w3 ⟨rfl, hb3⟩; have k3 := boxed_then k2 hb3; obtain ⟨u1, u2, u3, u4⟩ := hall.out _ k3)
                  | (go_at_call 49; refine (HM2.out _ (boxed_below k3)).mono ?_; rintro r w4 ⟨rfl, hb4⟩; have k4 := boxed_then k3 hb4))
                go_ret
                exact ⟨ret_bool (by rw [HD.out, Q.out, Q2.out]; rfl), boxed_below k4⟩
              · have Q2 := hid q2
                rw [q2] at HM2
                clear q2
                go_wp2_with (first
                  | (go_at_call 48; refine hnr.mono ?_; rintro r w2 ⟨rfl, hb2⟩; have k2 := boxed_then hbr hb2; obtain ⟨z1, z2, z3, z4⟩ := hall.out _ k2)
                  | (go_at_call 49; with_reducible refine (HM1.out _ (boxed_below k2)).mono ?_; rintro r w3 ⟨rfl, hb3⟩; have k3 := boxed_then k2 hb3; obtain ⟨u1, u2, u3, u4⟩ := hall.out _ k3)
                  | (go_at_call 49; with_reducible refine (HM2.out _ (boxed_below k3)).mono ?_; rintro r w4 ⟨rfl, hb4⟩; have k4 := boxed_then k3 hb4; obtain ⟨t1, t2, t3, t4⟩ := hall.out _ k4)
                  | (go_at_call 49; refine (HM3.out _ (boxed_below k4)).mono ?_; rintro r w5 ⟨rfl, hb5⟩; have k5 := boxed_then k4 hb5))
                go_ret
                exact ⟨ret_bool (by rw [HD.out, Q.out, Q2.out]; rfl), boxed_below k5⟩
          · go_wp2_with (go_at_call 48; refine hnr.mono ?_; rintro r w2 ⟨rfl, hb2⟩; have k2 := boxed_then hbr hb2; obtain ⟨z1, z2, z3, z4⟩ := hall.out _ k2)
            go_ret
            refine ⟨ret_bool ?_, boxed_below k2⟩
            unfold nodeB
            rw [decide_eq_false (show ¬ eqs.length ≤ 48 by omega)]; simp
        · go_wp2_with (go_at_call 48; refine hnr.mono ?_; rintro r w2 ⟨rfl, hb2⟩; have k2 := boxed_then hbr hb2; obtain ⟨z1, z2, z3, z4⟩ := hall.out _ k2)
          go_ret
          refine ⟨ret_bool ?_, boxed_below k2⟩
          unfold nodeB
          rw [decide_eq_false (show ¬ 1 ≤ eqs.length by omega)]; simp

set_option maxHeartbeats 1000000 in
theorem source_any (s : List NodeE) (S : Sl) (B : Nat) (w : World) (hs : SrcIs B w s S) (hB : B ≤ w.heap.size) (hh : ∀ n ∈ s, ∀ q ∈ n.eqs, q.right.height ≤ 1000000) :
    Calls Tryz.prog 7 #[srcVal s S] w fun r w' => r = .returned (.bool (srcB s)) ∧ Below w.heap.size w w' := by
  obtain ⟨A, cap⟩ := S
  obtain ⟨⟨hf1, hf2⟩, hnd⟩ := hs
  simp only [srcVal, Sl.v] at *
  unfold maxLen at hf2
  have hcap' : (s.length : Int) ≤ 9223372036854775807 := by omega
  have HND := hid hnd
  have HH := hid hh
  have hb0 : Below (w.heap.size + 1) (w.alloc (.cells #[.slice A s.length cap] 25)) (w.alloc (.cells #[.slice A s.length cap] 25)) := Below.refl _ _
  have HB0 := hid hb0
  clear hnd hb0 hf1 hf2 hh
  go_enter Tryz.func7, Tryz.ntmps7
  go_wp2_with fail
  go_loopw [4, 8] (fun _ i wr => ∃ j : Nat, j ≤ s.length ∧ i = .int .i64 j ∧ Hid (Upto nodeB s j) ∧ Below (w.heap.size + 1) (w.alloc (.cells #[.slice A s.length cap] 25)) wr) (fun _ i _ => s.length - (intOf i).toNat)
  case atStart => exact ⟨0, by omega, rfl, Upto.zero _ _, HB0.out⟩
  case round =>
    obtain ⟨j, hj, rfl, hup, hbr⟩ := hrel
    have hsz := boxed_size hbr
    have hbw := boxed_below hbr
    by_cases hlt : j < s.length
    · obtain ⟨b, o, rfl, hl⟩ := HND.out j hlt
      obtain ⟨hb, S, hc, hi⟩ := hl.keep (same_below hB hbw)
      obtain ⟨c0, c1, c2, c3, c4, c5, c6⟩ := hc
      have hi0 : (0 : Int) ≤ (j : Int) := by omega
      have hi1 : (j : Int) < (s.length : Int) := by omega
      have hhj := HH.out s[j] (List.getElem_mem _)
      generalize hqj : s[j] = n at *
      have HQJ := hid hqj
      clear hqj
      have hw2 := hbr.alloc (show w.heap.size + 1 ≤ wr.heap.size by omega) (.cells #[.string n.name, S.i.v n.ins.length, S.o.v n.outs.length, S.v.v n.vars.length, S.e.v n.eqs.length, .int .i64 n.line, .int .i64 n.col] 61)
      have hvr := node_any n S B (wr.alloc (.cells #[.string n.name, S.i.v n.ins.length, S.o.v n.outs.length, S.v.v n.vars.length, S.e.v n.eqs.length, .int .i64 n.line, .int .i64 n.col] 61))
        (hi.keep (same_below (Nat.le_refl B) ((Below.refl B wr).alloc (by omega) _))) (by simp; omega) hhj
      simp only [NodeE.val, Sl.v] at hvr c1 c2 c3 c4 hw2
      cases hp : nodeB n
      · have HS := hid (all_hit (p := nodeB) hlt (by rw [HQJ.out]; exact hp))
        rw [hp] at hvr
        clear hp hup hi hhj
        go_wp2_with (go_at_call 24; refine hvr.mono ?_; rintro r w2 ⟨rfl, hb2⟩)
        go_ret
        refine ⟨ret_bool ?_, boxed_below (boxed_then hw2 hb2)⟩
        unfold srcB; rw [HS.out]; rfl
      · have HS := hid (hup.out.succ hlt (by rw [HQJ.out]; exact hp))
        rw [hp] at hvr
        clear hp hup hi hhj
        go_wp2_with (go_at_call 24; refine hvr.mono ?_; rintro r w2 ⟨rfl, hb2⟩)
        go_roundw
        case rel => exact ⟨j + 1, by omega, by go_num, HS, boxed_then hw2 hb2⟩
        case measure => simp [intOf]; omega
    · have : j = s.length := by omega
      subst this
      have HS := hid hup.out.all
      have y0 := boxed_all hbr 0
      simp only [List.getElem?_toArray, List.getElem?_cons_zero] at y0
      clear hup
      by_cases h1 : (1 : Int) ≤ (s.length : Int)
      all_goals
        go_wp2_with fail
        go_ret
        refine ⟨ret_bool ?_, hbw⟩
        unfold srcB; rw [HS.out, Bool.eq_iff_iff]; simp; try omega
end Go.Proofs.YtnlikhjmmnaknaaGreatDoor
/-
  The walks of the reference's vars, Node and Source.
-/
namespace Go.Proofs.YtnlikhjmmnaknaaGreatDoor
open Go.RowKit

def VarE.few (v : VarE) : Prop := v.name.size ≤ 1000 ∧ ∀ c ∈ v.clock, c.name.size ≤ 1000
def EqE.few (q : EqE) : Prop := q.right.size ≤ 1000000 ∧ q.right.height ≤ 1000 ∧ q.right.short ∧ ∀ x ∈ q.left, x.size ≤ 1000
def NodeE.few (n : NodeE) : Prop := n.name.size ≤ 1000 ∧ (∀ v ∈ n.ins, v.few) ∧ (∀ v ∈ n.outs, v.few) ∧ (∀ v ∈ n.vars, v.few) ∧ ∀ q ∈ n.eqs, q.few

set_option maxHeartbeats 2000000 in
theorem rvars_any (l : List VarE) (least most : Nat) (S : Sl) (B : Nat) (w : World) (hf : S.fits l.length) (hv : SlAt 5 (VarAt B w) S.A l) (hB : B ≤ w.heap.size) (hfw : ∀ v ∈ l, v.few) :
    Calls Tryz.prog 51 #[S.v l.length, .int .i64 least, .int .i64 most] w fun r w' => r = .returned (.bool (manyB l least most)) ∧ Below w.heap.size w w' := by
  obtain ⟨A, cap⟩ := S
  obtain ⟨hf1, hf2⟩ := hf
  simp only [Sl.v] at *
  unfold maxLen at hf2
  have hcap' : (l.length : Int) ≤ 9223372036854775807 := by omega
  have HV := hid hv
  have HFW := hid hfw
  clear hv hf1 hf2 hfw
  go_enter Tryz.func51, Tryz.ntmps51
  go_wp2_with fail
  go_loopw [7, 8, 9] (fun i _ _ wr => ∃ j : Nat, j ≤ l.length ∧ i = .int .i64 j ∧ Hid (Upto varB l j) ∧ Below w.heap.size w wr) (fun i _ _ _ => l.length - (intOf i).toNat)
  case atStart => exact ⟨0, by omega, rfl, Upto.zero _ _, Below.refl _ _⟩
  case round =>
    obtain ⟨j, hj, rfl, hup, hbr⟩ := hrel
    have hsz := hbr.size
    by_cases hlt : j < l.length
    · obtain ⟨b, o, rfl, hl⟩ := HV.out j hlt
      obtain ⟨hb, ⟨A', cap'⟩, hc, hi⟩ := hl.keep (same_below hB hbr)
      obtain ⟨c0, c1, c2, c3, c4⟩ := hc
      have hi0 : (0 : Int) ≤ (j : Int) := by omega
      have hi1 : (j : Int) < (l.length : Int) := by omega
      obtain ⟨hfn, hfc⟩ := HFW.out l[j] (List.getElem_mem _)
      have hno : varB l[j] = false → Hid (manyB l least most = false) := fun hp => by show _ = _; unfold manyB; rw [all_hit hlt hp]; rfl
      have hyes : Hid (varB l[j] = true → Upto varB l (j + 1)) := fun hp => hup.out.succ hlt hp
      have HNO := hid hno
      clear hno hup
      obtain ⟨hn, _, _, _, ⟨hg1, hg2⟩, hcl⟩ := hi
      simp only [Sl.v] at *
      generalize l[j] = v at *
      obtain ⟨name, type, clock, line, col⟩ := v
      simp only at *
      have hw2 := hbr.alloc hsz (.cells #[.string name, .int .i64 type, .slice A' clock.length cap', .int .i64 line, .int .i64 col] 103)
      have hT := World.alloc_heap_new wr (.cells #[.string name, .int .i64 type, .slice A' clock.length cap', .int .i64 line, .int .i64 col] 103)
      have HCL := hid (SlAt.imp hcl fun _ _ _ => LitAt.keep (same_below (w' := wr.alloc (.cells #[.string name, .int .i64 type, .slice A' clock.length cap', .int .i64 line, .int .i64 col] 103)) (Nat.le_refl B) ((Below.refl B wr).alloc (by omega) _)))
      have HW2 := hid hw2
      have HT := hid hT
      have HFC := hid hfc
      unfold maxLen at hg2
      clear hcl hw2 hT hfc hn hl
      cases hp : isName name.data.toList
      · have HP := hid hp
        go_wp2_with (go_at_call 50; refine (rname_any name _ (by omega)).mono ?_; rintro r w2 ⟨rfl, rfl⟩; rw [HP.out])
        go_ret
        exact ⟨ret_bool ((HNO.out (by simp [varB, HP.out])).out).symm, HW2.out⟩
      · have HP := hid hp
        clear hp
        by_cases ht : type = 1 ∨ type = 2
        · by_cases h4 : clock.length ≤ 4
          · have hvb : Hid (varB ⟨name, type, clock, line, col⟩ = clock.all litB) := by
              show _ = _
              simp only [varB, HP.out]
              rcases ht with rfl | rfl <;> simp [h4]
            rcases ht with rfl | rfl
            all_goals
              go_wp2_with (go_at_call 50; refine (rname_any name _ (by omega)).mono ?_; rintro r w2 ⟨rfl, rfl⟩; rw [HP.out])
              clear c0 c1 c2 c3 c4
              have hW2 := HW2.out
              have hTT := HT.out
              have hHC := HCL.out
              have hlt2 : wr.heap.size < (wr.alloc (.cells #[.string name, .int .i64 _, .slice A' clock.length cap', .int .i64 line, .int .i64 col] 103)).heap.size := (Array.getElem?_eq_some_iff.1 hTT).1
              generalize wr.alloc (.cells #[.string name, .int .i64 _, .slice A' clock.length cap', .int .i64 line, .int .i64 col] 103) = V at *
              generalize wr.heap.size = T at *
              have d2 : V.cell? ⟨T, 2, none⟩ = some (.slice A' clock.length cap') := by simp [World.cell?, hTT]
              clear hTT HT
              go_loop [9] (fun i => ∃ k : Nat, k ≤ clock.length ∧ i = .int .i64 k ∧ Hid (Upto litB clock k)) (fun i => clock.length - (intOf i).toNat)
              case atStart => exact ⟨0, by omega, rfl, Upto.zero _ _⟩
              case round =>
                obtain ⟨k, hk, rfl, hupk⟩ := hrel
                by_cases hltk : k < clock.length
                · obtain ⟨b', o', rfl, hlk⟩ := hHC k hltk
                  obtain ⟨hbk, hnk, e0, e1⟩ := hlk
                  have hk0 : (0 : Int) ≤ (k : Int) := by omega
                  have hk1 : (k : Int) < (clock.length : Int) := by omega
                  have hnz := HFC.out clock[k] (List.getElem_mem _)
                  cases hq : litB clock[k]
                  · have hq' : isName (clock[k]).name.data.toList = false := hq
                    have HQ := hid hq'
                    have HS := hid (all_hit hltk hq)
                    clear hq hq'
                    go_wp2_with (go_at_call 50; refine (rname_any _ _ (by omega)).mono ?_; rintro r w2 ⟨rfl, rfl⟩; rw [HQ.out])
                    go_ret
                    exact ⟨ret_bool ((HNO.out (by rw [hvb.out, HS.out])).out).symm, hW2⟩
                  · have hq' : isName (clock[k]).name.data.toList = true := hq
                    have HQ := hid hq'
                    have HS := hid (hupk.out.succ hltk hq)
                    clear hq hq'
                    go_wp2_with (go_at_call 50; refine (rname_any _ _ (by omega)).mono ?_; rintro r w2 ⟨rfl, rfl⟩; rw [HQ.out])
                    go_round
                    case rel => exact ⟨k + 1, by omega, by go_num, HS⟩
                    case measure => simp [intOf]; omega
                · have : k = clock.length := by omega
                  subst this
                  have HS := hid hupk.out.all
                  clear hupk
                  go_wp2_with fail
                  go_roundw
                  case rel => exact ⟨j + 1, by omega, by go_num, hyes.out (by rw [hvb.out, HS.out]), hW2⟩
                  case measure => simp [intOf]; omega
          · have hvb : Hid (varB ⟨name, type, clock, line, col⟩ = false) := by show _ = _; simp [varB, h4]
            have h4' : (4 : Int) < (clock.length : Int) := by omega
            rcases ht with rfl | rfl
            all_goals
              go_wp2_with (go_at_call 50; refine (rname_any name _ (by omega)).mono ?_; rintro r w2 ⟨rfl, rfl⟩; rw [HP.out])
              go_ret
              exact ⟨ret_bool ((HNO.out hvb.out).out).symm, HW2.out⟩
        · have hvb : Hid (varB ⟨name, type, clock, line, col⟩ = false) := by
            show _ = _
            have h1 : (type == 1) = false := by simp; omega
            have h2 : (type == 2) = false := by simp; omega
            simp [varB, h1, h2]
          have h1 : (type != 1) = true := by simp; omega
          have h2 : (type != 2) = true := by simp; omega
          clear ht
          go_wp2_with (go_at_call 50; refine (rname_any name _ (by omega)).mono ?_; rintro r w2 ⟨rfl, rfl⟩; rw [HP.out])
          go_ret
          exact ⟨ret_bool ((HNO.out hvb.out).out).symm, HW2.out⟩
    · have : j = l.length := by omega
      subst this
      have HS := hid hup.out.all
      clear hup
      by_cases h1 : (least : Int) ≤ (l.length : Int)
      all_goals
        go_wp2_with fail
        go_ret
        refine ⟨ret_bool ?_, hbr⟩
        unfold manyB; rw [HS.out, Bool.eq_iff_iff]; simp; try omega
end Go.Proofs.YtnlikhjmmnaknaaGreatDoor
/-
  The walks of the reference's Node and Source.
-/
namespace Go.Proofs.YtnlikhjmmnaknaaGreatDoor
open Go.RowKit

set_option maxHeartbeats 4000000 in
theorem rnode_any (n : NodeE) (S : NSl) (B : Nat) (w : World) (hn : NodeIs B w n S) (hB : B ≤ w.heap.size) (hfw : n.few) :
    Calls Tryz.prog 25 #[n.val S] w fun r w' => r = .returned (.bool (nodeB n)) ∧ Below w.heap.size w w' := by
  obtain ⟨Si, So, Sv, ⟨A, cap⟩⟩ := S
  obtain ⟨name, ins, outs, vars, eqs, line, col⟩ := n
  obtain ⟨hnm, _, _, hfi, hfo, hfv, ⟨hf1, hf2⟩, hins, houts, hvars, heqs⟩ := hn
  obtain ⟨w1, w2, w3, w4, w5⟩ := hfw
  simp only [NodeE.val] at *
  rw [show (Sl.mk A cap).v eqs.length = .slice A eqs.length cap from rfl]
  unfold maxLen at hf2
  have hcap' : (eqs.length : Int) ≤ 9223372036854775807 := by omega
  have hm1 : ∀ W, Below w.heap.size w W → Calls Tryz.prog 51 #[Si.v ins.length, .int .i64 1, .int .i64 8] W fun r w' => r = .returned (.bool (manyB ins 1 8)) ∧ Below W.heap.size W w' := fun W h =>
    rvars_any ins 1 8 Si B W hfi (hins.imp fun _ _ _ => VarAt.keep (same_below hB h)) (by have := h.size; omega) w2
  have hm2 : ∀ W, Below w.heap.size w W → Calls Tryz.prog 51 #[So.v outs.length, .int .i64 1, .int .i64 8] W fun r w' => r = .returned (.bool (manyB outs 1 8)) ∧ Below W.heap.size W w' := fun W h =>
    rvars_any outs 1 8 So B W hfo (houts.imp fun _ _ _ => VarAt.keep (same_below hB h)) (by have := h.size; omega) w3
  have hm3 : ∀ W, Below w.heap.size w W → Calls Tryz.prog 51 #[Sv.v vars.length, .int .i64 0, .int .i64 40] W fun r w' => r = .returned (.bool (manyB vars 0 40)) ∧ Below W.heap.size W w' := fun W h =>
    rvars_any vars 0 40 Sv B W hfv (hvars.imp fun _ _ _ => VarAt.keep (same_below hB h)) (by have := h.size; omega) w4
  have HM1 := hid hm1
  have HM2 := hid hm2
  have HM3 := hid hm3
  have HEQ := hid heqs
  have HW5 := hid w5
  obtain ⟨ci, hci⟩ : ∃ ci, Si.v ins.length = .slice Si.A ins.length ci := ⟨_, rfl⟩
  obtain ⟨co, hco⟩ : ∃ co, So.v outs.length = .slice So.A outs.length co := ⟨_, rfl⟩
  obtain ⟨cv, hcv⟩ : ∃ cv, Sv.v vars.length = .slice Sv.A vars.length cv := ⟨_, rfl⟩
  rw [hci, hco, hcv]
  rw [hci] at HM1
  rw [hco] at HM2
  rw [hcv] at HM3
  generalize Si.A = Ai at *
  generalize So.A = Ao at *
  generalize Sv.A = Av at *
  obtain ⟨bx, hbx⟩ : ∃ bx : Array Value, bx = #[.string name, .slice Ai ins.length ci, .slice Ao outs.length co, .slice Av vars.length cv, .slice A eqs.length cap, .int .i64 line, .int .i64 col] := ⟨_, rfl⟩
  have hb0 : Below (w.heap.size + 1) (w.alloc (.cells bx 61)) (w.alloc (.cells bx 61)) := Below.refl _ _
  have HB0 := hid hb0
  have hall : Hid (∀ W, Below (w.heap.size + 1) (w.alloc (.cells bx 61)) W → W.cell? ⟨w.heap.size, 0, none⟩ = some (.string name) ∧ W.cell? ⟨w.heap.size, 1, none⟩ = some (.slice Ai ins.length ci) ∧ W.cell? ⟨w.heap.size, 2, none⟩ = some (.slice Ao outs.length co) ∧ W.cell? ⟨w.heap.size, 3, none⟩ = some (.slice Av vars.length cv) ∧ W.cell? ⟨w.heap.size, 4, none⟩ = some (.slice A eqs.length cap)) := fun W h => by
    have hca := boxed_all h
    rw [hbx] at hca
    exact ⟨hca 0, hca 1, hca 2, hca 3, hca 4⟩
  have hrn := hid (fun W : World => rname_any name W (by omega))
  clear heqs hb0 hf1 hf2 hm1 hm2 hm3 hins houts hvars hfi hfo hfv hci hco hcv w2 w3 w4 w5 hnm
  have HD : Hid (nodeB ⟨name, ins, outs, vars, eqs, line, col⟩ = (isName name.data.toList && manyB ins 1 8 && manyB outs 1 8 && manyB vars 0 40 && eqs.all eqB && decide (1 ≤ eqs.length) && decide (eqs.length ≤ 48))) := by
    show _ = _
    unfold nodeB
    simp only
    cases eqs.all eqB <;> cases isName name.data.toList <;> cases manyB ins 1 8 <;> cases manyB outs 1 8 <;> cases manyB vars 0 40 <;> simp
  by_cases hhead : (isName name.data.toList && manyB ins 1 8 && manyB outs 1 8 && manyB vars 0 40) = true
  · simp only [Bool.and_eq_true] at hhead
    obtain ⟨⟨⟨q0, q1⟩, q2⟩, q3⟩ := hhead
    rw [q0, q1, q2, q3] at HD
    rw [q1] at HM1
    rw [q2] at HM2
    rw [q3] at HM3
    rw [q0] at hrn
    clear q0 q1 q2 q3
    go_enter Tryz.func25, Tryz.ntmps25
    go_wp2_with (first
      | (go_at_call 50; refine (hrn.out _).mono ?_; rintro r w2 ⟨rfl, rfl⟩; have k2 := HB0.out; rw [hbx] at k2)
      | (go_at_call 51; with_reducible refine (HM1.out _ (boxed_below k2)).mono ?_; rintro r w3 ⟨rfl, hb3⟩; have k3 := boxed_then k2 hb3; rw [← hbx] at k3; obtain ⟨u0, u1, u2, u3, u4⟩ := hall.out _ k3)
      | (go_at_call 51; with_reducible refine (HM2.out _ (boxed_below k3)).mono ?_; rintro r w4 ⟨rfl, hb4⟩; have k4 := boxed_then k3 hb4; obtain ⟨t0, t1, t2, t3, t4⟩ := hall.out _ k4)
      | (go_at_call 51; with_reducible refine (HM3.out _ (boxed_below k4)).mono ?_; rintro r w5 ⟨rfl, hb5⟩; have k5 := boxed_then k4 hb5))
    clear u0 u1 u2 u3 u4 t0 t1 t2 t3 t4 k2 k3 k4
    clear hbx
    go_loopw [3, 4, 5] (fun i _ _ wr => ∃ j : Nat, j ≤ eqs.length ∧ i = .int .i64 j ∧ Hid (Upto eqB eqs j) ∧ Below (w.heap.size + 1) (w.alloc (.cells bx 61)) wr) (fun i _ _ _ => eqs.length - (intOf i).toNat)
    case atStart => exact ⟨0, by omega, rfl, Upto.zero _ _, k5⟩
    case round =>
      obtain ⟨j, hj, rfl, hup, hbr⟩ := hrel
      have hsz := boxed_size hbr
      have hbw := boxed_below hbr
      obtain ⟨u0, u1, u2, u3, u4⟩ := hall.out _ hbr
      by_cases hlt : j < eqs.length
      · obtain ⟨b, o, rfl, hl⟩ := HEQ.out j hlt
        obtain ⟨hb, ⟨A1, cap1⟩, A2, cap2, hc, hi⟩ := hl.keep (same_below hB hbw)
        obtain ⟨c0, c1, c2, c3, c4, c5, c6, c7, c8⟩ := hc
        have hi0 : (0 : Int) ≤ (j : Int) := by omega
        have hi1 : (j : Int) < (eqs.length : Int) := by omega
        obtain ⟨hf1, hf2, hf3, hf4⟩ := HW5.out eqs[j] (List.getElem_mem _)
        have hno : eqB eqs[j] = false → Hid (nodeB ⟨name, ins, outs, vars, eqs, line, col⟩ = false) := fun hp => by
          show _ = _; rw [HD.out, all_hit hlt hp]; rfl
        have hyes : Hid (eqB eqs[j] = true → Upto eqB eqs (j + 1)) := fun hp => hup.out.succ hlt hp
        have HNO := hid hno
        clear hno hup hl
        obtain ⟨_, _, ⟨hg1, hg2⟩, hlf, hrt⟩ := hi
        simp only [Sl.v] at *
        generalize eqs[j] = q at *
        obtain ⟨left, right, ql, qc⟩ := q
        simp only at *
        have hqb : Hid (eqB ⟨left, right, ql, qc⟩ = (left.all strB && decide (1 ≤ left.length) && decide (left.length ≤ 8) && right.right)) := rfl
        obtain ⟨ex, hex⟩ : ∃ ex : Array Value, ex = #[.slice A1 left.length cap1, .int .i64 right.op, .string right.name, .int .i64 right.num, .slice A2 right.k cap2, .int .i64 right.line, .int .i64 right.col, .int .i64 ql, .int .i64 qc] := ⟨_, rfl⟩
        have hw2 := hbr.alloc (show w.heap.size + 1 ≤ wr.heap.size by omega) (.cells ex 79)
        have hrr := rright_any right B A2 cap2 (wr.alloc (.cells ex 79)) (ExAt.below hrt (Nat.le_refl B) ((Below.refl B wr).alloc (by omega) _)) (by simp; omega) (by omega) (by omega) hf3
        simp only [Ex.val] at hrr
        have hT : Below (wr.heap.size + 1) (wr.alloc (.cells ex 79)) (wr.alloc (.cells ex 79)) := Below.refl _ _
        have HT := hid hT
        have HW2 := hid hw2
        have HF4 := hid hf4
        have HLF := hid hlf
        have HEX := hid hex
        unfold maxLen at hg2
        have hlc : (left.length : Int) ≤ 9223372036854775807 := by omega
        rw [hex] at hrr
        clear hw2 hT hf4 hlf hrt hex
        by_cases h1 : (1 : Int) ≤ (left.length : Int)
        · by_cases h8 : (left.length : Int) ≤ 8
          · cases hr : right.right
            · have HR := hid hr
              rw [hr] at hrr
              clear hr
              go_wp2_with (go_at_call 52; refine hrr.mono ?_; rintro r w6 ⟨rfl, hb6⟩)
              go_ret
              refine ⟨ret_bool ((HNO.out (by rw [hqb.out, HR.out]; simp)).out).symm, ?_⟩
              rw [← HEX.out] at hb6
              exact boxed_below (boxed_then HW2.out hb6)
            · have HR := hid hr
              rw [hr] at hrr
              clear hr
              go_wp2_with (go_at_call 52; refine hrr.mono ?_; rintro r w6 ⟨rfl, hb6⟩)
              rw [← HEX.out] at hb6
              have k6 := HT.out.trans (hb6.mono (by simp))
              have k7 := boxed_then HW2.out hb6
              have hz6 := boxed_size k6
              have d0 := boxed_all k6 0
              rw [HEX.out] at d0
              simp only [List.getElem?_toArray, List.getElem?_cons_zero] at d0
              have hLF := SlAt.imp HLF.out fun _ _ _ => StrAt.keep (same_below (w' := w6) (by omega) (boxed_below k6))
              clear hrr u0 u1 u2 u3 u4 c0 c1 c2 c3 c4 c5 c6 c7 c8 hb6
              generalize wr.heap.size = T at *
              have HLF2 := hid hLF
              clear hLF
              go_loop [5] (fun i => ∃ k : Nat, k ≤ left.length ∧ i = .int .i64 k ∧ Hid (Upto strB left k)) (fun i => left.length - (intOf i).toNat)
              case atStart => exact ⟨0, by omega, rfl, Upto.zero _ _⟩
              case round =>
                obtain ⟨k, hk, rfl, hupk⟩ := hrel
                by_cases hltk : k < left.length
                · obtain ⟨b', o', rfl, hlk⟩ := HLF2.out k hltk
                  obtain ⟨hbk, hnk, e0⟩ := hlk
                  simp only [Nat.mul_one] at e0
                  have hk0 : (0 : Int) ≤ (k : Int) := by omega
                  have hk1 : (k : Int) < (left.length : Int) := by omega
                  have hnz := HF4.out left[k] (List.getElem_mem _)
                  cases hq : strB left[k]
                  · have hq' : isName (left[k]).data.toList = false := hq
                    have HQ := hid hq'
                    have HS := hid (all_hit hltk hq)
                    clear hq hq'
                    go_wp2_with (go_at_call 50; refine (rname_any _ _ (by omega)).mono ?_; rintro r w2 ⟨rfl, rfl⟩; rw [HQ.out])
                    go_ret
                    exact ⟨ret_bool ((HNO.out (by rw [hqb.out, HS.out]; rfl)).out).symm, boxed_below k7⟩
                  · have hq' : isName (left[k]).data.toList = true := hq
                    have HQ := hid hq'
                    have HS := hid (hupk.out.succ hltk hq)
                    clear hq hq'
                    go_wp2_with (go_at_call 50; refine (rname_any _ _ (by omega)).mono ?_; rintro r w2 ⟨rfl, rfl⟩; rw [HQ.out])
                    go_round
                    case rel => exact ⟨k + 1, by omega, by go_num, HS⟩
                    case measure => simp [intOf]; omega
                · have : k = left.length := by omega
                  subst this
                  have HS := hid hupk.out.all
                  clear hupk
                  go_wp2_with fail
                  go_roundw
                  case rel => exact ⟨j + 1, by omega, by go_num, hyes.out (by rw [hqb.out, HS.out, HR.out, decide_eq_true (show 1 ≤ left.length by omega), decide_eq_true (show left.length ≤ 8 by omega)]; rfl), k7⟩
                  case measure => simp [intOf]; omega
          · have h9 : (8 : Int) < (left.length : Int) := by omega
            go_wp2_with fail
            go_ret
            refine ⟨ret_bool ((HNO.out (by rw [hqb.out, decide_eq_false (show ¬ left.length ≤ 8 by omega)]; simp)).out).symm, ?_⟩
            have := boxed_below HW2.out
            rwa [HEX.out] at this
        · have h9 : (left.length : Int) < 1 := by omega
          go_wp2_with fail
          go_ret
          refine ⟨ret_bool ((HNO.out (by rw [hqb.out, decide_eq_false (show ¬ 1 ≤ left.length by omega)]; simp)).out).symm, ?_⟩
          have := boxed_below HW2.out
          rwa [HEX.out] at this
      · have : j = eqs.length := by omega
        subst this
        have HS := hid hup.out.all
        clear hup
        by_cases h1 : (0 : Int) < (eqs.length : Int)
        all_goals
          go_wp2_with fail
          go_ret
          refine ⟨ret_bool ?_, hbw⟩
          rw [HD.out, HS.out, Bool.eq_iff_iff]; simp; try omega
  · have HN : Hid (nodeB ⟨name, ins, outs, vars, eqs, line, col⟩ = false) := by
      show _ = _
      rw [HD.out]
      cases h : (isName name.data.toList && manyB ins 1 8 && manyB outs 1 8 && manyB vars 0 40)
      · rfl
      · exact absurd h hhead
    cases q0 : isName name.data.toList
    · rw [q0] at hrn
      clear q0 hhead HD
      go_enter Tryz.func25, Tryz.ntmps25
      go_wp2_with (first
        | (go_at_call 50; refine (hrn.out _).mono ?_; rintro r w2 ⟨rfl, rfl⟩; have k2 := HB0.out; rw [hbx] at k2))
      go_ret
      exact ⟨ret_bool HN.out.symm, boxed_below k2⟩
    · rw [q0] at hrn hhead
      cases q1 : manyB ins 1 8
      · rw [q1] at HM1
        clear q0 q1 hhead HD
        go_enter Tryz.func25, Tryz.ntmps25
        go_wp2_with (first
          | (go_at_call 50; refine (hrn.out _).mono ?_; rintro r w2 ⟨rfl, rfl⟩; have k2 := HB0.out; rw [hbx] at k2)
          | (go_at_call 51; with_reducible refine (HM1.out _ (boxed_below k2)).mono ?_; rintro r w3 ⟨rfl, hb3⟩; have k3 := boxed_then k2 hb3; rw [← hbx] at k3; obtain ⟨u0, u1, u2, u3, u4⟩ := hall.out _ k3))
        go_ret
        exact ⟨ret_bool HN.out.symm, boxed_below k3⟩
      · rw [q1] at HM1 hhead
        cases q2 : manyB outs 1 8
        · rw [q2] at HM2
          clear q0 q1 q2 hhead HD
          go_enter Tryz.func25, Tryz.ntmps25
          go_wp2_with (first
            | (go_at_call 50; refine (hrn.out _).mono ?_; rintro r w2 ⟨rfl, rfl⟩; have k2 := HB0.out; rw [hbx] at k2)
            | (go_at_call 51; with_reducible refine (HM1.out _ (boxed_below k2)).mono ?_; rintro r w3 ⟨rfl, hb3⟩; have k3 := boxed_then k2 hb3; rw [← hbx] at k3; obtain ⟨u0, u1, u2, u3, u4⟩ := hall.out _ k3)
            | (go_at_call 51; with_reducible refine (HM2.out _ (boxed_below k3)).mono ?_; rintro r w4 ⟨rfl, hb4⟩; have k4 := boxed_then k3 hb4; obtain ⟨t0, t1, t2, t3, t4⟩ := hall.out _ k4))
          go_ret
          exact ⟨ret_bool HN.out.symm, boxed_below k4⟩
        · rw [q2] at HM2 hhead
          cases q3 : manyB vars 0 40
          · rw [q3] at HM3
            clear q0 q1 q2 q3 hhead HD
            go_enter Tryz.func25, Tryz.ntmps25
            go_wp2_with (first
              | (go_at_call 50; refine (hrn.out _).mono ?_; rintro r w2 ⟨rfl, rfl⟩; have k2 := HB0.out; rw [hbx] at k2)
              | (go_at_call 51; with_reducible refine (HM1.out _ (boxed_below k2)).mono ?_; rintro r w3 ⟨rfl, hb3⟩; have k3 := boxed_then k2 hb3; rw [← hbx] at k3; obtain ⟨u0, u1, u2, u3, u4⟩ := hall.out _ k3)
              | (go_at_call 51; with_reducible refine (HM2.out _ (boxed_below k3)).mono ?_; rintro r w4 ⟨rfl, hb4⟩; have k4 := boxed_then k3 hb4; obtain ⟨t0, t1, t2, t3, t4⟩ := hall.out _ k4)
              | (go_at_call 51; with_reducible refine (HM3.out _ (boxed_below k4)).mono ?_; rintro r w5 ⟨rfl, hb5⟩; have k5 := boxed_then k4 hb5))
            go_ret
            exact ⟨ret_bool HN.out.symm, boxed_below k5⟩
          · rw [q3] at hhead; simp at hhead

set_option maxHeartbeats 1000000 in
theorem rsource_any (s : List NodeE) (S : Sl) (B : Nat) (w : World) (hs : SrcIs B w s S) (hB : B ≤ w.heap.size) (hfw : ∀ n ∈ s, n.few) :
    Calls Tryz.prog 8 #[srcVal s S] w fun r w' => r = .returned (.bool (srcB s)) ∧ Below w.heap.size w w' := by
  obtain ⟨A, cap⟩ := S
  obtain ⟨⟨hf1, hf2⟩, hnd⟩ := hs
  simp only [srcVal, Sl.v] at *
  unfold maxLen at hf2
  have hcap' : (s.length : Int) ≤ 9223372036854775807 := by omega
  have HND := hid hnd
  have HH := hid hfw
  have hb0 : Below (w.heap.size + 1) (w.alloc (.cells #[.slice A s.length cap] 25)) (w.alloc (.cells #[.slice A s.length cap] 25)) := Below.refl _ _
  have HB0 := hid hb0
  clear hnd hb0 hf1 hf2 hfw
  go_enter Tryz.func8, Tryz.ntmps8
  go_wp2_with fail
  go_loopw [3] (fun i wr => ∃ j : Nat, j ≤ s.length ∧ i = .int .i64 j ∧ Hid (Upto nodeB s j) ∧ Below (w.heap.size + 1) (w.alloc (.cells #[.slice A s.length cap] 25)) wr) (fun i _ => s.length - (intOf i).toNat)
  case atStart => exact ⟨0, by omega, rfl, Upto.zero _ _, HB0.out⟩
  case round =>
    obtain ⟨j, hj, rfl, hup, hbr⟩ := hrel
    have hsz := boxed_size hbr
    have hbw := boxed_below hbr
    have y0 := boxed_all hbr 0
    simp only [List.getElem?_toArray, List.getElem?_cons_zero] at y0
    by_cases hlt : j < s.length
    · obtain ⟨b, o, rfl, hl⟩ := HND.out j hlt
      obtain ⟨hb, S, hc, hi⟩ := hl.keep (same_below hB hbw)
      obtain ⟨c0, c1, c2, c3, c4, c5, c6⟩ := hc
      have hi0 : (0 : Int) ≤ (j : Int) := by omega
      have hi1 : (j : Int) < (s.length : Int) := by omega
      have hhj := HH.out s[j] (List.getElem_mem _)
      generalize hqj : s[j] = n at *
      have HQJ := hid hqj
      clear hqj
      have hvr := rnode_any n S B wr hi (by omega) hhj
      simp only [NodeE.val, Sl.v] at hvr c1 c2 c3 c4
      cases hp : nodeB n
      · have HS := hid (all_hit (p := nodeB) hlt (by rw [HQJ.out]; exact hp))
        rw [hp] at hvr
        clear hp hup hi hhj
        go_wp2_with (go_at_call 25; refine hvr.mono ?_; rintro r w2 ⟨rfl, hb2⟩)
        go_ret
        refine ⟨ret_bool ?_, boxed_below (boxed_then hbr hb2)⟩
        unfold srcB; rw [HS.out]; rfl
      · have HS := hid (hup.out.succ hlt (by rw [HQJ.out]; exact hp))
        rw [hp] at hvr
        clear hp hup hi hhj
        go_wp2_with (go_at_call 25; refine hvr.mono ?_; rintro r w2 ⟨rfl, hb2⟩)
        go_roundw
        case rel => exact ⟨j + 1, by omega, by go_num, HS, boxed_then hbr hb2⟩
        case measure => simp [intOf]; omega
    · have : j = s.length := by omega
      subst this
      have HS := hid hup.out.all
      clear hup
      by_cases h1 : (0 : Int) < (s.length : Int)
      all_goals
        go_wp2_with fail
        go_ret
        refine ⟨ret_bool ?_, hbw⟩
        unfold srcB; rw [HS.out, Bool.eq_iff_iff]; simp; try omega
end Go.Proofs.YtnlikhjmmnaknaaGreatDoor
/-
  The walks of fewVars and FewNodes: of which sources the statements speak.
-/
namespace Go.Proofs.YtnlikhjmmnaknaaGreatDoor
open Go.RowKit

/-- an answer that, where it is yes, says so much -/
def FewP (p : Prop) (w : World) (r : Ending) (w' : World) : Prop := ∃ b : Bool, r = .returned (.bool b) ∧ (b = true → p) ∧ Below w.heap.size w w'

set_option maxHeartbeats 1000000 in
theorem fewVars_any (l : List VarE) (S : Sl) (B : Nat) (w : World) (hf : S.fits l.length) (hv : SlAt 5 (VarAt B w) S.A l) (hB : B ≤ w.heap.size) :
    Calls Tryz.prog 33 #[S.v l.length] w (FewP (∀ v ∈ l, v.few) w) := by
  obtain ⟨A, cap⟩ := S
  obtain ⟨hf1, hf2⟩ := hf
  simp only [Sl.v] at *
  unfold maxLen at hf2
  have hcap' : (l.length : Int) ≤ 9223372036854775807 := by omega
  have HV := hid hv
  clear hv hf1 hf2
  go_enter Tryz.func33, Tryz.ntmps33
  go_wp2_with fail
  go_loopw [4, 6, 9, 26] (fun _ _ i _ wr => ∃ j : Nat, j ≤ l.length ∧ i = .int .i64 j ∧ Hid (∀ m (h : m < l.length), m < j → (l[m]).few) ∧ Below w.heap.size w wr) (fun _ _ i _ _ => l.length - (intOf i).toNat)
  case atStart => exact ⟨0, by omega, rfl, fun m _ h => absurd h (by omega), Below.refl _ _⟩
  case round =>
    obtain ⟨j, hj, rfl, hup, hbr⟩ := hrel
    have hsz := hbr.size
    by_cases hlt : j < l.length
    · obtain ⟨b, o, rfl, hl⟩ := HV.out j hlt
      obtain ⟨hb, ⟨A', cap'⟩, hc, hi⟩ := hl.keep (same_below hB hbr)
      obtain ⟨c0, c1, c2, c3, c4⟩ := hc
      have hi0 : (0 : Int) ≤ (j : Int) := by omega
      have hi1 : (j : Int) < (l.length : Int) := by omega
      have hlb : b < wr.heap.size := by omega
      have hyes : Hid ((l[j]).few → ∀ m (h : m < l.length), m < j + 1 → (l[m]).few) := fun hp m hm hmj => by
        by_cases he : m = j
        · subst he; exact hp
        · exact hup.out m hm (by omega)
      clear hup hl
      obtain ⟨_, _, _, _, ⟨hg1, hg2⟩, hcl⟩ := hi
      simp only [Sl.v] at *
      generalize l[j] = v at *
      obtain ⟨name, type, clock, line, col⟩ := v
      simp only at *
      unfold maxLen at hg2
      have hw2 := hbr.alloc hsz (.cells #[.string name, .int .i64 type, .slice A' clock.length cap', .int .i64 line, .int .i64 col] 103)
      by_cases h30 : name.size ≤ 30
      · by_cases h6 : clock.length ≤ 6
        · go_wp2_with fail
          have hT := World.alloc_heap_new wr (.cells #[.string name, .int .i64 type, .slice A' clock.length cap', .int .i64 line, .int .i64 col] 103)
          have hlt2 : wr.heap.size < (wr.alloc (.cells #[.string name, .int .i64 type, .slice A' clock.length cap', .int .i64 line, .int .i64 col] 103)).heap.size := by simp
          have hHC := SlAt.imp hcl fun _ _ _ => LitAt.keep (same_below (w' := wr.alloc (.cells #[.string name, .int .i64 type, .slice A' clock.length cap', .int .i64 line, .int .i64 col] 103)) (Nat.le_refl B) ((Below.refl B wr).alloc (by omega) _))
          clear c0 c1 c2 c3 c4 hcl
          generalize wr.alloc (.cells #[.string name, .int .i64 type, .slice A' clock.length cap', .int .i64 line, .int .i64 col] 103) = V at *
          generalize wr.heap.size = T at *
          have hBV : B ≤ V.heap.size := by omega
          have HHC := hid hHC
          clear hHC hT hbr
          go_loopw [6, 26] (fun _ i wr3 => ∃ k : Nat, k ≤ clock.length ∧ i = .int .i64 k ∧ Hid (∀ m (h : m < clock.length), m < k → (clock[m]).name.size ≤ 1000) ∧ Below V.heap.size V wr3) (fun _ i _ => clock.length - (intOf i).toNat)
          case atStart => exact ⟨0, by omega, rfl, fun m _ h => absurd h (by omega), Below.refl _ _⟩
          case round =>
            obtain ⟨k, hk, rfl, hupk, hb3⟩ := hrel
            have hz3 := hb3.size
            by_cases hltk : k < clock.length
            · obtain ⟨b', o', rfl, hlk⟩ := HHC.out k hltk
              obtain ⟨hbk, hnk, e0, e1⟩ := hlk.keep (same_below hBV hb3)
              have hk0 : (0 : Int) ≤ (k : Int) := by omega
              have hk1 : (k : Int) < (clock.length : Int) := by omega
              have hlbk : b' < wr.heap.size := by omega
              have hnew := hb3.alloc hz3 (.cells #[.string (clock[k]).name, .bool (clock[k]).neg] 115)
              by_cases h30k : (clock[k]).name.size ≤ 30
              · have HN : Hid (∀ m (h : m < clock.length), m < k + 1 → (clock[m]).name.size ≤ 1000) := fun m hm hmk => by
                  by_cases he : m = k
                  · subst he; omega
                  · exact hupk.out m hm (by omega)
                clear hupk
                go_wp2_with fail
                go_roundw
                case rel => exact ⟨k + 1, by omega, by go_num, HN, hnew⟩
                case measure => simp [intOf]; omega
              · clear hupk
                go_wp2_with fail
                go_ret
                exact ⟨false, rfl, (fun h => by cases h), hw2.trans (hnew.mono hw2.size)⟩
            · have : k = clock.length := by omega
              subst this
              have HC : Hid (∀ c ∈ clock, c.name.size ≤ 1000) := fun c hc => by
                obtain ⟨m, hm, rfl⟩ := List.getElem_of_mem hc
                exact hupk.out m hm hm
              clear hupk
              go_wp2_with fail
              go_roundw
              case rel => exact ⟨j + 1, by omega, by go_num, hyes.out ⟨show name.size ≤ 1000 by omega, HC.out⟩, hw2.trans (hb3.mono hw2.size)⟩
              case measure => simp [intOf]; omega
        · go_wp2_with fail
          go_ret
          exact ⟨false, rfl, (fun h => by cases h), hw2⟩
      · go_wp2_with fail
        go_ret
        exact ⟨false, rfl, (fun h => by cases h), hw2⟩
    · have : j = l.length := by omega
      subst this
      have HS : Hid (∀ v ∈ l, v.few) := fun v hv => by
        obtain ⟨m, hm, rfl⟩ := List.getElem_of_mem hv
        exact hup.out m hm hm
      clear hup
      go_wp2_with fail
      go_ret
      exact ⟨_, rfl, fun _ => HS.out, hbr⟩
end Go.Proofs.YtnlikhjmmnaknaaGreatDoor
/-
  The walk of FewNodes.
-/
namespace Go.Proofs.YtnlikhjmmnaknaaGreatDoor
open Go.RowKit

/-- what room says of an equation's right side -/
theorem room_says {e : Ex} {left : Int} (h1 : left ≤ 600) (h : 0 ≤ e.room 50 left) : e.size ≤ 1000000 ∧ e.height ≤ 1000 ∧ e.short := by
  obtain ⟨h2, h3, h4⟩ := room_fits e 50 left h
  exact ⟨by omega, by omega, h4⟩

set_option maxRecDepth 100000 in
set_option maxHeartbeats 4000000 in
theorem fewNodes_any (s : List NodeE) (S : Sl) (B : Nat) (w : World) (hs : SrcIs B w s S) (hB : B ≤ w.heap.size) :
    Calls Tryz.prog 13 #[srcVal s S] w (FewP (∀ n ∈ s, n.few) w) := by
  obtain ⟨A, cap⟩ := S
  obtain ⟨⟨hf1, hf2⟩, hnd⟩ := hs
  simp only [srcVal, Sl.v] at *
  unfold maxLen at hf2
  have hcap' : (s.length : Int) ≤ 9223372036854775807 := by omega
  have HND := hid hnd
  have hb0 : Below (w.heap.size + 1) (w.alloc (.cells #[.slice A s.length cap] 25)) (w.alloc (.cells #[.slice A s.length cap] 25)) := Below.refl _ _
  have HB0 := hid hb0
  clear hnd hb0 hf1 hf2
  go_enter Tryz.func13, Tryz.ntmps13
  go_wp2_with fail
  go_loopw [3, 5, 7, 9, 13, 48, 63] (fun lf _ _ _ i _ _ wr => ∃ (j : Nat) (left : Int), j ≤ s.length ∧ i = .int .i64 j ∧ lf = .int .i64 left ∧ -1 ≤ left ∧ left ≤ 600 ∧ Hid (0 ≤ left → ∀ m (h : m < s.length), m < j → (s[m]).few) ∧ Below (w.heap.size + 1) (w.alloc (.cells #[.slice A s.length cap] 25)) wr) (fun _ _ _ _ i _ _ _ => s.length - (intOf i).toNat)
  case atStart => exact ⟨0, 600, by omega, rfl, rfl, by omega, by omega, fun _ m _ h => absurd h (by omega), HB0.out⟩
  case round =>
    obtain ⟨j, left, hj, rfl, rfl, hl1, hl2, hup, hbr⟩ := hrel
    have hsz := boxed_size hbr
    have hbw := boxed_below hbr
    have y0 := boxed_all hbr 0
    simp only [List.getElem?_toArray, List.getElem?_cons_zero] at y0
    by_cases hlt : j < s.length
    · obtain ⟨b, o, rfl, hl⟩ := HND.out j hlt
      obtain ⟨hb, S, hc, hi⟩ := hl.keep (same_below hB hbw)
      obtain ⟨c0, c1, c2, c3, c4, c5, c6⟩ := hc
      have hi0 : (0 : Int) ≤ (j : Int) := by omega
      have hi1 : (j : Int) < (s.length : Int) := by omega
      have hlb : b < wr.heap.size := by omega
      have hyes : Hid ((s[j]).few → 0 ≤ left → ∀ m (h : m < s.length), m < j + 1 → (s[m]).few) := fun hp h0 m hm hmj => by
        by_cases he : m = j
        · subst he; exact hp
        · exact hup.out h0 m hm (by omega)
      clear hup hl
      generalize s[j] = n at *
      obtain ⟨name, ins, outs, vars, eqs, nl, nc⟩ := n
      obtain ⟨⟨Ai, pi⟩, ⟨Ao, po⟩, ⟨Av, pv⟩, ⟨Ae, pe⟩⟩ := S
      simp only [Sl.v] at *
      obtain ⟨bx, hbx⟩ : ∃ bx : Array Value, bx = #[.string name, .slice Ai ins.length pi, .slice Ao outs.length po, .slice Av vars.length pv, .slice Ae eqs.length pe, .int .i64 nl, .int .i64 nc] := ⟨_, rfl⟩
      obtain ⟨V, hV⟩ : ∃ V, V = wr.alloc (.cells bx 61) := ⟨_, rfl⟩
      have hbV : Below wr.heap.size wr V := by rw [hV]; exact (Below.refl _ _).alloc (Nat.le_refl _) _
      have hzV : wr.heap.size < V.heap.size := by rw [hV]; simp
      have hVx : ∀ i, V.cell? ⟨wr.heap.size, i, none⟩ = bx[i]? := fun i => by rw [hV]; exact World.cell?_alloc_new _ _ _ _
      have HC : Hid (V.cell? ⟨wr.heap.size, 2, none⟩ = some (.slice Ao outs.length po) ∧ V.cell? ⟨wr.heap.size, 3, none⟩ = some (.slice Av vars.length pv) ∧ V.cell? ⟨wr.heap.size, 4, none⟩ = some (.slice Ae eqs.length pe)) :=
        ⟨by rw [hVx, hbx]; rfl, by rw [hVx, hbx]; rfl, by rw [hVx, hbx]; rfl⟩
      have hBr : B ≤ wr.heap.size := by omega
      have hsV : Go.Proofs.YtnlikhjmmnaknaaGreatDoor.Same B wr V := same_below hBr hbV
      have j1 := hi.keep hsV
      have hbV2 := boxed_then hbr hbV
      have hk : ∀ W, Below V.heap.size V W → Go.Proofs.YtnlikhjmmnaknaaGreatDoor.Same B V W := fun W h => same_below (by omega) h
      have hv1 := fewVars_any ins ⟨Ai, pi⟩ B V j1.fi j1.ins (by omega)
      have hv2 : ∀ W, Below V.heap.size V W → Calls Tryz.prog 33 #[.slice Ao outs.length po] W (FewP (∀ v ∈ outs, v.few) W) := fun W h =>
        fewVars_any outs ⟨Ao, po⟩ B W j1.fo (j1.outs.imp fun _ _ _ => VarAt.keep (hk W h)) (by have := h.size; omega)
      have hv3 : ∀ W, Below V.heap.size V W → Calls Tryz.prog 33 #[.slice Av vars.length pv] W (FewP (∀ v ∈ vars, v.few) W) := fun W h =>
        fewVars_any vars ⟨Av, pv⟩ B W j1.fv (j1.vars.imp fun _ _ _ => VarAt.keep (hk W h)) (by have := h.size; omega)
      obtain ⟨hg1, hg2⟩ := j1.fe
      simp only [maxLen, Sl.v] at hg1 hg2 hv1
      have hec : (eqs.length : Int) ≤ 9223372036854775807 := by omega
      have HE := hid j1.eqs
      rw [hbx] at hV
      have HV := hid hV
      have HV2 := hid hv2
      have HV3 := hid hv3
      have HV1 := hid hv1
      unfold FewP at HV1 HV2 HV3
      clear hbx bx hVx hsV j1 hi hv1 hv2 hv3 hV hk
      by_cases h30 : name.size ≤ 30
      · go_wp2_with fail
        rw [← HV.out]
        refine HV1.out.mono ?_
        rintro r w2 ⟨q1, rfl, hq1, hb2⟩
        obtain ⟨f2, f3, f4⟩ := HC.out
        have g2 := (hb2.cell (p := ⟨wr.heap.size, 2, none⟩) hzV).trans f2
        cases q1
        · have HK : Hid True := trivial
          go_wp2_with fail
          go_ret
          exact ⟨false, rfl, (fun h => by cases h), boxed_below (boxed_then hbV2 hb2)⟩
        · go_wp2_with fail
          refine (HV2.out w2 hb2).mono ?_
          rintro r w3 ⟨q2, rfl, hq2, hb3⟩
          have kb3 := hb2.trans (hb3.mono hb2.size)
          have g3 := (kb3.cell (p := ⟨wr.heap.size, 3, none⟩) hzV).trans f3
          cases q2
          · have HK : Hid True := trivial
            go_wp2_with fail
            go_ret
            exact ⟨false, rfl, (fun h => by cases h), boxed_below (boxed_then hbV2 kb3)⟩
          · go_wp2_with fail
            refine (HV3.out w3 kb3).mono ?_
            rintro r w4 ⟨q3, rfl, hq3, hb4⟩
            have kb4 := kb3.trans (hb4.mono kb3.size)
            have g4 := (kb4.cell (p := ⟨wr.heap.size, 4, none⟩) hzV).trans f4
            cases q3
            · have HK : Hid True := trivial
              go_wp2_with fail
              go_ret
              exact ⟨false, rfl, (fun h => by cases h), boxed_below (boxed_then hbV2 kb4)⟩
            · by_cases h60 : eqs.length ≤ 60
              · have HNF : Hid ((∀ q ∈ eqs, q.few) → NodeE.few ⟨name, ins, outs, vars, eqs, nl, nc⟩) := fun h => ⟨show name.size ≤ 1000 by omega, by first | exact hq1 rfl | exact hq1 trivial, by first | exact hq2 rfl | exact hq2 trivial, by first | exact hq3 rfl | exact hq3 trivial, h⟩
                clear hq1 hq2 hq3 f2 f3 f4 g2 g3
                go_wp2_with fail
                have hkV : Below V.heap.size V w4 := kb4
                clear c0 c1 c2 c3 c4 c5 c6 hb2 hb3 hb4 kb3 kb4
                generalize wr.heap.size = T at *
                go_loopw [3, 7, 9, 48, 63] (fun lf _ _ i _ wr2 => ∃ (k : Nat) (lft : Int), k ≤ eqs.length ∧ i = .int .i64 k ∧ lf = .int .i64 lft ∧ -1 ≤ lft ∧ lft ≤ 600 ∧ Hid (0 ≤ lft → 0 ≤ left ∧ ∀ m (h : m < eqs.length), m < k → (eqs[m]).few) ∧ Below V.heap.size V wr2) (fun _ _ _ i _ _ => eqs.length - (intOf i).toNat)
                case atStart => exact ⟨0, left, by omega, rfl, rfl, hl1, hl2, fun h => ⟨h, fun m _ h2 => absurd h2 (by omega)⟩, hkV⟩
                case round =>
                  obtain ⟨k, lft, hk, rfl, rfl, hm1, hm2, hupk, hb5⟩ := hrel
                  have hz5 := hb5.size
                  have e4 := (hb5.cell (p := ⟨T, 4, none⟩) hzV).trans HC.out.2.2
                  have hbf := boxed_below (boxed_then hbV2 hb5)
                  by_cases hltk : k < eqs.length
                  · obtain ⟨g, og, rfl, hcq⟩ := HE.out k hltk
                    obtain ⟨hgb, ⟨P, r1⟩, C, s1, kq, mq⟩ := hcq.keep (same_below (by omega) hb5)
                    obtain ⟨u0, u1, u2, u3, u4, u5, u6, u7, u8⟩ := kq
                    have hk0 : (0 : Int) ≤ (k : Int) := by omega
                    have hk1 : (k : Int) < (eqs.length : Int) := by omega
                    have hgl : g < wr.heap.size := by omega
                    have hyk : Hid ((eqs[k]).few → 0 ≤ lft → 0 ≤ left ∧ ∀ m (h : m < eqs.length), m < k + 1 → (eqs[m]).few) := fun hp h0 => ⟨(hupk.out h0).1, fun m hm hmk => by
                      by_cases he : m = k
                      · subst he; exact hp
                      · exact (hupk.out h0).2 m hm (by omega)⟩
                    clear hupk hcq
                    generalize eqs[k] = q at *
                    obtain ⟨ql, qr, qa, qb⟩ := q
                    obtain ⟨_, _, ⟨hh1, hh2⟩, hlf, hrt⟩ := mq
                    simp only [Sl.v, maxLen] at *
                    have hqc : (ql.length : Int) ≤ 9223372036854775807 := by omega
                    obtain ⟨ex, hex⟩ : ∃ ex : Array Value, ex = #[.slice P ql.length r1, .int .i64 qr.op, .string qr.name, .int .i64 qr.num, .slice C qr.k s1, .int .i64 qr.line, .int .i64 qr.col, .int .i64 qa, .int .i64 qb] := ⟨_, rfl⟩
                    obtain ⟨X, hX⟩ : ∃ X, X = wr.alloc (.cells ex 79) := ⟨_, rfl⟩
                    have hbX : Below wr.heap.size wr X := by rw [hX]; exact (Below.refl _ _).alloc (Nat.le_refl _) _
                    have hzX : wr.heap.size < X.heap.size := by rw [hX]; simp
                    have hXx : ∀ i, X.cell? ⟨wr.heap.size, i, none⟩ = ex[i]? := fun i => by rw [hX]; exact World.cell?_alloc_new _ _ _ _
                    have hbVX : Below V.heap.size V X := hb5.trans (hbX.mono hz5)
                    have HXC : Hid (X.cell? ⟨wr.heap.size, 1, none⟩ = some (.int .i64 qr.op) ∧ X.cell? ⟨wr.heap.size, 2, none⟩ = some (.string qr.name) ∧ X.cell? ⟨wr.heap.size, 3, none⟩ = some (.int .i64 qr.num) ∧ X.cell? ⟨wr.heap.size, 4, none⟩ = some (.slice C qr.k s1) ∧ X.cell? ⟨wr.heap.size, 5, none⟩ = some (.int .i64 qr.line) ∧ X.cell? ⟨wr.heap.size, 6, none⟩ = some (.int .i64 qr.col)) :=
                      ⟨by rw [hXx, hex]; rfl, by rw [hXx, hex]; rfl, by rw [hXx, hex]; rfl, by rw [hXx, hex]; rfl, by rw [hXx, hex]; rfl, by rw [hXx, hex]; rfl⟩
                    have hsX : Go.Proofs.YtnlikhjmmnaknaaGreatDoor.Same B wr X := same_below (by omega) hbX
                    have HLF := hid (SlAt.imp hlf fun _ _ _ => StrAt.keep hsX)
                    have hrX : ExAt B X qr C s1 := ExAt.keep hsX _ _ _ hrt
                    have hroom : 0 ≤ lft → Calls Tryz.prog 34 #[.agg #[.int .i64 qr.op, .string qr.name, .int .i64 qr.num, .slice C qr.k s1, .int .i64 qr.line, .int .i64 qr.col], .int .i64 lft, .int .i64 50] X fun r w' => r = .returned (.int .i64 (qr.room 50 lft)) ∧ Below X.heap.size X w' := fun h0 => by
                      have := room_any qr B C s1 lft 50 X hrX (by omega) h0 (by omega) (by omega) (by omega)
                      exact this
                    have hrb := fun h0 => room_bd qr 50 lft h0
                    have hsay := @room_says qr lft hm2
                    rw [hex] at hX
                    have HX := hid hX
                    have HRM := hid hroom
                    have HRB := hid hrb
                    have HSAY := hid hsay
                    clear hex ex hXx hX hroom hrb hsay hlf hrt hsX hrX
                    by_cases h0 : 0 ≤ lft
                    · by_cases h12 : ql.length ≤ 12
                      · have hb0 := HRB.out h0
                        go_wp2_with fail
                        rw [← HX.out]
                        clear u0 u1 u2 u3 u4 u5 u6 u7 u8 e4
                        generalize wr.heap.size = T2 at *
                        go_loop [9, 63] (fun _ i => ∃ t : Nat, t ≤ ql.length ∧ i = .int .i64 t ∧ Hid (∀ m (h : m < ql.length), m < t → (ql[m]).size ≤ 1000)) (fun _ i => ql.length - (intOf i).toNat)
                        case atStart => exact ⟨0, by omega, rfl, fun m _ h => absurd h (by omega)⟩
                        case round =>
                          obtain ⟨t, ht, rfl, hupt⟩ := hrel
                          by_cases hltt : t < ql.length
                          · obtain ⟨gb, go, rfl, hgc⟩ := HLF.out t hltt
                            obtain ⟨hgl2, hgs, hgx⟩ := hgc
                            simp only [Nat.mul_one] at hgx
                            have ht0 : (0 : Int) ≤ (t : Int) := by omega
                            have ht1 : (t : Int) < (ql.length : Int) := by omega
                            by_cases h30t : (ql[t]).size ≤ 30
                            · have HN : Hid (∀ m (h : m < ql.length), m < t + 1 → (ql[m]).size ≤ 1000) := fun m hm hmt => by
                                by_cases he : m = t
                                · subst he; omega
                                · exact hupt.out m hm (by omega)
                              clear hupt
                              go_wp2_with fail
                              go_round
                              case rel => exact ⟨t + 1, by omega, by go_num, HN⟩
                              case measure => simp [intOf]; omega
                            · clear hupt
                              go_wp2_with fail
                              go_ret
                              exact ⟨false, rfl, (fun h => by cases h), boxed_below (boxed_then hbV2 hbVX)⟩
                          · have : t = ql.length := by omega
                            subst this
                            have HQL : Hid (∀ x ∈ ql, x.size ≤ 1000) := fun x hx => by
                              obtain ⟨m, hm, rfl⟩ := List.getElem_of_mem hx
                              exact hupt.out m hm hm
                            obtain ⟨a1, a2, a3, a4, a5, a6⟩ := HXC.out
                            clear hupt
                            go_wp2_with fail
                            refine (HRM.out h0).mono ?_
                            rintro r w6 ⟨rfl, hb6⟩
                            have hb7 := hbVX.trans (hb6.mono (by have := hbVX.size; omega))
                            go_wp2_with fail
                            go_roundw
                            case rel => exact ⟨k + 1, qr.room 50 lft, by omega, by go_num, rfl, hb0.1, by omega, fun h1 => hyk.out ⟨(HSAY.out h1).1, (HSAY.out h1).2.1, (HSAY.out h1).2.2, HQL.out⟩ h0, hb7⟩
                            case measure => simp [intOf]; omega
                      · have h13 : (12 : Int) < (ql.length : Int) := by omega
                        go_wp2_with fail
                        rw [← HX.out]
                        go_ret
                        exact ⟨false, rfl, (fun h => by cases h), boxed_below (boxed_then hbV2 hbVX)⟩
                    · have h00 : lft < 0 := by omega
                      go_wp2_with fail
                      rw [← HX.out]
                      go_ret
                      exact ⟨false, rfl, (fun h => by cases h), boxed_below (boxed_then hbV2 hbVX)⟩
                  · have : k = eqs.length := by omega
                    subst this
                    have HQ : Hid (0 ≤ lft → 0 ≤ left ∧ ∀ q ∈ eqs, q.few) := fun h0 => ⟨(hupk.out h0).1, fun q hq => by
                      obtain ⟨m, hm, rfl⟩ := List.getElem_of_mem hq
                      exact (hupk.out h0).2 m hm hm⟩
                    clear hupk
                    go_wp2_with fail
                    go_roundw
                    case rel => exact ⟨j + 1, lft, by omega, by go_num, rfl, hm1, hm2, fun h0 => hyes.out (HNF.out (HQ.out h0).2) (HQ.out h0).1, boxed_then hbV2 hb5⟩
                    case measure => simp [intOf]; omega
              · have h61 : (60 : Int) < (eqs.length : Int) := by omega
                go_wp2_with fail
                go_ret
                exact ⟨false, rfl, (fun h => by cases h), boxed_below (boxed_then hbV2 kb4)⟩
      · go_wp2_with fail
        go_ret
        refine ⟨false, rfl, (fun h => by cases h), ?_⟩
        rw [← HV.out]
        exact boxed_below hbV2
    · have : j = s.length := by omega
      subst this
      have HS : Hid (0 ≤ left → ∀ n ∈ s, n.few) := fun h0 n hn => by
        obtain ⟨m, hm, rfl⟩ := List.getElem_of_mem hn
        exact hup.out h0 m hm hm
      clear hup
      by_cases h0 : 0 ≤ left
      · go_wp2_with fail
        go_ret
        exact ⟨_, rfl, fun _ => HS.out h0, hbw⟩
      · go_wp2_with fail
        go_ret
        exact ⟨false, rfl, (fun h => by cases h), hbw⟩
end Go.Proofs.YtnlikhjmmnaknaaGreatDoor
/-
  An argument that is an expression, opened; and the row's last step for a call that leaves all old memory as it was.
-/
namespace Go.Proofs.YtnlikhjmmnaknaaGreatDoor
open Go.ChangeShapes Go.WideShapes Go.ChangeAt Go.RowKit Go.Deep

theorem i64_of_wf {x : Int} (h : (Lit.int .i64 x).wf = true) : I64 x := by
  simpa [Lit.wf, IntKind.min, IntKind.max, IntKind.signed, IntKind.bits, I64] using h

theorem cells_int : Tryz.prog.cellsOf 3 = 1 := by kernel_rfl
theorem cells_string : Tryz.prog.cellsOf 9 = 1 := by kernel_rfl
theorem cells_exprs : Tryz.prog.cellsOf 39 = 1 := by kernel_rfl
theorem cells_pos : Tryz.prog.cellsOf 28 = 2 := by kernel_rfl
theorem cells_expr : Tryz.prog.cellsOf 41 = 6 := by kernel_rfl

theorem six {α : Type} {l : List α} (h : l.length = 6) : ∃ a b c d e f, l = [a, b, c, d, e, f] := by
  match l, h with
  | [a, b, c, d, e, f], _ => exact ⟨a, b, c, d, e, f, rfl⟩

theorem block_lt {w : World} {a : Addr} {v : Value} (h : w.cell? a = some v) : a.block < w.heap.size := by
  unfold World.cell? at h
  split at h
  · rename_i h1; exact (Array.getElem?_eq_some_iff.1 h1).1
  · cases h

section
variable {H : Type} {enc : TypeId × Value → H} {w : World} {base : Nat} {spare : Nat → Bool} {held : Bool}

theorem open_ex : ∀ (fuel : Nat) (cs : List Value) (x : DataW H × List MemPlace), DataW.trod enc Tryz.prog w base spare held fuel 41 cs = some x →
    ∃ (e : Ex) (A : Option Addr) (cap : Nat), cs = [.int .i64 e.op, .string e.name, .int .i64 e.num, .slice A e.k cap, .int .i64 e.line, .int .i64 e.col] ∧ ExAt w.heap.size w e A cap := by
  intro fuel
  induction fuel using Nat.strongRecOn with
  | ind fuel0 ih =>
    intro cs x h
    obtain ⟨xs, fuel, rfl, _, hcl, hxl, hf⟩ := DataW.trod_struct Tryz.underlying41 h
    rw [cells_expr] at hcl
    have hx : ∀ i, i < 5 → ∃ y, xs[i]? = some y := fun i hi => ⟨xs[i]'(by rw [hxl]; exact hi), List.getElem?_eq_getElem _⟩
    obtain ⟨y0, e0⟩ := hx 0 (by omega)
    obtain ⟨y1, e1⟩ := hx 1 (by omega)
    obtain ⟨y2, e2⟩ := hx 2 (by omega)
    obtain ⟨y3, e3⟩ := hx 3 (by omega)
    obtain ⟨y4, e4⟩ := hx 4 (by omega)
    have f0 : DataW.trod enc Tryz.prog w base spare held fuel 3 (List.take (Tryz.prog.cellsOf 3) (List.drop 0 cs)) = xs[0]? := hf 0 _ rfl
    have f1 : DataW.trod enc Tryz.prog w base spare held fuel 9 (List.take (Tryz.prog.cellsOf 9) (List.drop 1 cs)) = xs[1]? := hf 1 _ rfl
    have f2 : DataW.trod enc Tryz.prog w base spare held fuel 3 (List.take (Tryz.prog.cellsOf 3) (List.drop 2 cs)) = xs[2]? := hf 2 _ rfl
    have f3 : DataW.trod enc Tryz.prog w base spare held fuel 39 (List.take (Tryz.prog.cellsOf 39) (List.drop 3 cs)) = xs[3]? := hf 3 _ rfl
    have f4 : DataW.trod enc Tryz.prog w base spare held fuel 28 (List.take (Tryz.prog.cellsOf 28) (List.drop 4 cs)) = xs[4]? := hf 4 _ rfl
    rw [cells_int, e0] at f0
    rw [cells_string, e1] at f1
    rw [cells_int, e2] at f2
    rw [cells_exprs, e3] at f3
    rw [cells_pos, e4] at f4
    obtain ⟨op, c0, _, w0⟩ := DataW.trod_int Tryz.underlying3 f0
    obtain ⟨name, c1, _, w1⟩ := DataW.trod_string Tryz.underlying9 f1
    obtain ⟨num, c2, _, w2⟩ := DataW.trod_int Tryz.underlying3 f2
    obtain ⟨ps, m, _, _, hpl, hpx, hpf⟩ := DataW.trod_struct Tryz.underlying28 f4
    have hp : ∀ i, i < 2 → ∃ y, ps[i]? = some y := fun i hi => ⟨ps[i]'(by rw [hpx]; exact hi), List.getElem?_eq_getElem _⟩
    obtain ⟨z0, q0⟩ := hp 0 (by omega)
    obtain ⟨z1, q1⟩ := hp 1 (by omega)
    have g0 : DataW.trod enc Tryz.prog w base spare held m 3 (List.take (Tryz.prog.cellsOf 3) (List.drop 0 (List.take 2 (List.drop 4 cs)))) = ps[0]? := hpf 0 _ rfl
    have g1 : DataW.trod enc Tryz.prog w base spare held m 3 (List.take (Tryz.prog.cellsOf 3) (List.drop 1 (List.take 2 (List.drop 4 cs)))) = ps[1]? := hpf 1 _ rfl
    rw [cells_int, q0] at g0
    rw [cells_int, q1] at g1
    obtain ⟨ln, d0, _, u0⟩ := DataW.trod_int Tryz.underlying3 g0
    obtain ⟨cl, d1, _, u1⟩ := DataW.trod_int Tryz.underlying3 g1
    obtain ⟨a0, a1, a2, a3, a4, a5, rfl⟩ := six hcl
    simp only [List.drop_zero, List.drop_succ_cons, List.take_succ_cons, List.take_zero, List.cons.injEq, and_true] at c0 c1 c2 d0 d1 f3
    subst c0 c1 c2 d0 d1
    rcases DataW.trod_slice Tryz.underlying39 f3 with ⟨h0, _⟩ | ⟨a, len, cap, elems, rest, n2, rfl, h0, _, _, hlc, hcm, hll, hel, _⟩
    · simp only [List.cons.injEq, and_true] at h0
      subst h0
      refine ⟨.mk op name num 0 (fun _ => .junk) ln cl, none, 0, rfl, ⟨i64_of_wf w0, w1, i64_of_wf w2, i64_of_wf u0, i64_of_wf u1, Nat.le_refl _, Nat.zero_le _⟩, fun i hi => absurd hi (Nat.not_lt_zero _)⟩
    · simp only [List.cons.injEq, and_true] at h0
      subst h0
      rw [cells_expr] at hel
      have hspot : 0 < len → a.spot = none := fun h0 => by
        have h1 := hel 0 h0
        rw [List.getElem?_eq_getElem (by omega)] at h1
        obtain ⟨cs', hc, ht⟩ := Option.bind_eq_some_iff.1 h1
        obtain ⟨_, _, hcell⟩ := World.cells?_some hc
        obtain ⟨e, A, cp, hcs, hE⟩ := ih n2 (by omega) cs' _ ht
        subst hcs
        have c0 := hcell 0 (by omega)
        simpa [Addr.add] using World.cell?_spot c0
      have hch : ∀ i, i < len → ∃ y : Ex × Option Addr × Nat, CellsAt w a.block (a.off + i * 6) y.1 y.2.1 y.2.2 ∧ ExAt w.heap.size w y.1 y.2.1 y.2.2 ∧ a.spot = none ∧ a.block < w.heap.size := fun i hi => by
        have h1 := hel i hi
        rw [List.getElem?_eq_getElem (by omega)] at h1
        obtain ⟨cs', hc, ht⟩ := Option.bind_eq_some_iff.1 h1
        obtain ⟨_, _, hcell⟩ := World.cells?_some hc
        obtain ⟨e, A, cp, hcs, hE⟩ := ih n2 (by omega) cs' _ ht
        subst hcs
        have c0 := hcell 0 (by omega)
        have h0 : a.spot = none := hspot (by omega)
        have hadd : ∀ j, (a.add (i * 6)).add j = ⟨a.block, a.off + i * 6 + j, none⟩ := fun j => by
          obtain ⟨ab, ao, sp⟩ := a
          simp only at h0; subst h0
          rw [Go.WideShapes.add_plain, Go.WideShapes.add_plain]
        have hb := block_lt c0
        rw [hadd] at hb
        refine ⟨(e, A, cp), ⟨?_, ?_, ?_, ?_, ?_, ?_⟩, hE, h0, hb⟩
        · have := hcell 0 (by omega); rwa [hadd] at this
        · have := hcell 1 (by omega); rwa [hadd] at this
        · have := hcell 2 (by omega); rwa [hadd] at this
        · have := hcell 3 (by omega); rwa [hadd] at this
        · have := hcell 4 (by omega); rwa [hadd] at this
        · have := hcell 5 (by omega); rwa [hadd] at this
      haveI : Inhabited Ex := ⟨.junk⟩
      obtain ⟨f, hf'⟩ := choose_lt (α := Ex × Option Addr × Nat) hch
      refine ⟨.mk op name num len (fun i => (f i).1) ln cl, some a, cap, rfl, ⟨i64_of_wf w0, w1, i64_of_wf w2, i64_of_wf u0, i64_of_wf u1, hlc, hcm⟩, fun i hi => ?_⟩
      obtain ⟨h1, h2, h3, h4⟩ := hf' i hi
      obtain ⟨ab, ao, sp⟩ := a
      simp only at h3; subst h3
      exact ⟨ab, ao, (f i).2.1, (f i).2.2, rfl, h4, h1, h2⟩
end

/-- The row's last step where old memory is as it was. -/
theorem post_below {H : Type} {enc : TypeId × Value → H} {P : Program} {f : Func} {s : ChangeSpec} {apart fresh handsOn again : Bool} {W W' : World} {args : Array Value} {v : Value} {ds gs : List (DataW H)} {before : List MemPlace}
    (hW : DataW.Whole enc P f.params.toList s.vars apart W args.toList ds gs before)
    (hres : ∀ (b : Nat) (sp : Nat → Bool) (hd : Bool), DataW.TrodAll enc P W' b sp hd f.resultTypes.toList (v.resultList f.resultTypes.size) (s.fn H (ds ++ gs)).results [])
    (hargs : ∀ sp : Nat → Bool, (∀ p ∈ before, sp p.block = true) → DataW.TrodAll enc P W' 0 sp true f.params.toList args.toList (s.fn H (ds ++ gs)).args before)
    (hvars : ∀ sp : Nat → Bool, DataW.TrodVars enc P W' sp s.vars (s.fn H (ds ++ gs)).vars [])
    (hb : Below W.heap.size W W')
    (hok : ∀ (j : Nat) (t : TypeId) (r : Value), f.resultTypes[j]? = some t → (v.resultList f.resultTypes.size)[j]? = some r → Value.okWide P W' .any 0 t r) :
    s.post enc P f apart fresh handsOn again W args v W' := by
  have hold : ∀ p ∈ before, (fun b => decide (b < W.heap.size)) p.block = true := fun p hp => by simpa using hW.lt p hp
  refine ⟨ds, gs, before, [], before, [], hW, hres _ _ _, hargs _ hold, hvars _, World.keptBut_mono (fun p hp => ⟨hp, .inr (by simpa using hp)⟩) (hb.frame (· ∈ before)), fun _ => ?_⟩
  have hlt : ∀ p ∈ before, p.block < W.heap.size := fun p hp => hW.lt p hp
  obtain ⟨_, _, _, _, _, hz, hn⟩ := hW
  refine ⟨hok, _, _, ([] ++ before) ++ [], ⟨[] ++ before, [], trodAll_append (hargs _ (fun _ _ => rfl)) (hres _ _ _), hvars _, rfl, ?_, ?_⟩, ?_⟩
  · intro b off hp
    have hin : MemPlace.cell b off ∈ before := by simpa using hp
    rw [hb.frozen (hlt _ hin)]
    exact hz b off hin
  · intro ha
    simpa using hn ha
  · intro p hp _
    simpa using hp

/-- Arguments that are read again in a world in which nothing old has turned. -/
theorem args_again {H : Type} {enc : TypeId × Value → H} {W W' : World} (hl : laidOutB Tryz.prog = true) (hb : Below W.heap.size W W') :
    ∀ {ts : List TypeId} {vs : List Value} {ds : List (DataW H)} {ps : List MemPlace}, (∀ t ∈ ts, Tryz.prog.readableRec t = true ∧ t < Tryz.prog.types.size) →
      DataW.TrodAll enc Tryz.prog W 0 (fun _ => true) true ts vs ds ps → (∀ p ∈ ps, p.block < W.heap.size) → ∀ sp : Nat → Bool, (∀ p ∈ ps, sp p.block = true) → DataW.TrodAll enc Tryz.prog W' 0 sp true ts vs ds ps
  | [], [], [], _, _, h, _, _, _ => h
  | _ :: _, _ :: _, _ :: _, _, ht, ⟨p, q, h1, h2, e⟩, hlt, sp, hsp =>
    ⟨p, q, WideElems.Trod_stays hl (ht _ (by simp)).1 (ht _ (by simp)).2 h1 (fun x hx => hb.same (hlt x (by rw [e]; exact List.mem_append_left _ hx))) (fun x hx => hsp x (by rw [e]; exact List.mem_append_left _ hx)),
      args_again hl hb (fun t h => ht t (List.mem_cons_of_mem _ h)) h2 (fun x hx => hlt x (by rw [e]; exact List.mem_append_right _ hx)) sp (fun x hx => hsp x (by rw [e]; exact List.mem_append_right _ hx)), e⟩
end Go.Proofs.YtnlikhjmmnaknaaGreatDoor
/-
  What the last step of every statement of this seat shares.
-/
namespace Go.Proofs.YtnlikhjmmnaknaaGreatDoor
open Go.ChangeShapes Go.WideShapes Go.ChangeAt Go.RowKit

theorem kitOwn : ownKnob Tryz.prog.godebug = none := by kernel_rfl
theorem kitLaid : laidOutB Tryz.prog = true := by kernel_rfl
theorem kitExpr : Tryz.prog.readableRec 41 = true := by kernel_rfl
theorem kitExprLt : decide (41 < Tryz.prog.types.size) = true := by kernel_rfl
theorem kitInt : Tryz.prog.readableRec 3 = true := by kernel_rfl
theorem kitIntLt : decide (3 < Tryz.prog.types.size) = true := by kernel_rfl
theorem kitString : Tryz.prog.readableRec 9 = true := by kernel_rfl
theorem kitStringLt : decide (9 < Tryz.prog.types.size) = true := by kernel_rfl

set_option maxRecDepth 100000 in
/-- An argument that is an expression. -/
theorem open_ex_val {H : Type} {enc : TypeId × Value → H} {w : World} {base b0 : Nat} {r : Reach} {spare : Nat → Bool} {held : Bool} {v : Value} {d : DataW H} {ps : List MemPlace}
    (hval : Value.okWide Tryz.prog w r b0 41 v) (h : DataW.Trod enc Tryz.prog w base spare held 41 v d ps) : ∃ (e : Ex) (A : Option Addr) (cap : Nat), v = e.val A cap ∧ ExAt w.heap.size w e A cap := by
  obtain ⟨cs, rfl, hcs⟩ := okWide_struct Tryz.underlying41 hval
  obtain ⟨fuel, hf⟩ := h
  obtain ⟨e, A, cap, hv, hE⟩ := open_ex fuel _ _ hf
  refine ⟨e, A, cap, ?_, hE⟩
  have h1 : cs.toList = [.int .i64 e.op, .string e.name, .int .i64 e.num, .slice A e.k cap, .int .i64 e.line, .int .i64 e.col] := by simpa [Value.cells] using hv
  have h2 : cs = #[.int .i64 e.op, .string e.name, .int .i64 e.num, .slice A e.k cap, .int .i64 e.line, .int .i64 e.col] := by
    rw [← Array.toArray_toList (xs := cs), h1]
  rw [h2]; rfl
end Go.Proofs.YtnlikhjmmnaknaaGreatDoor
/-
  An argument that is a source, opened.
-/
namespace Go.Proofs.YtnlikhjmmnaknaaGreatDoor
open Go.ChangeShapes Go.WideShapes Go.ChangeAt Go.RowKit Go.Deep

theorem cells_bool : Tryz.prog.cellsOf 4 = 1 := by kernel_rfl
theorem cells_lit : Tryz.prog.cellsOf 115 = 2 := by kernel_rfl
theorem cells_lits : Tryz.prog.cellsOf 101 = 1 := by kernel_rfl
theorem cells_var : Tryz.prog.cellsOf 103 = 5 := by kernel_rfl
theorem cells_vars : Tryz.prog.cellsOf 58 = 1 := by kernel_rfl
theorem cells_strs : Tryz.prog.cellsOf 77 = 1 := by kernel_rfl
theorem cells_eq : Tryz.prog.cellsOf 79 = 9 := by kernel_rfl
theorem cells_eqs : Tryz.prog.cellsOf 59 = 1 := by kernel_rfl
theorem cells_node : Tryz.prog.cellsOf 61 = 7 := by kernel_rfl
theorem cells_nodes : Tryz.prog.cellsOf 23 = 1 := by kernel_rfl
theorem cells_src : Tryz.prog.cellsOf 25 = 1 := by kernel_rfl

section
variable {H : Type} {enc : TypeId × Value → H} {w : World} {base : Nat} {spare : Nat → Bool} {held : Bool}

/-- a slice whose elements open, opened -/
theorem open_sl {α : Type} [Inhabited α] (Q : List Value → α → Prop) {T E : TypeId} {sz : Nat} (ht : Tryz.prog.underlying T = some (.slice E)) (hc : Tryz.prog.cellsOf E = sz) (hsz : 0 < sz)
    (hQ : ∀ fuel cs x, DataW.trod enc Tryz.prog w base spare held fuel E cs = some x → ∃ y, Q cs y) {fuel : Nat} {cs : List Value} {x : DataW H × List MemPlace} (h : DataW.trod enc Tryz.prog w base spare held fuel T cs = some x) :
    ∃ (S : Sl) (xs : List α), cs = [S.v xs.length] ∧ S.fits xs.length ∧ SlAt sz (fun b o y => b < w.heap.size ∧ ∃ es : List Value, es.length = sz ∧ Q es y ∧ ∀ i, i < sz → w.cell? ⟨b, o + i, none⟩ = es[i]?) S.A xs := by
  rcases DataW.trod_slice ht h with ⟨h0, _⟩ | ⟨a, len, cap, elems, rest, n2, _, h0, _, _, hlc, hcm, hll, hel, _⟩
  · exact ⟨⟨none, 0⟩, [], h0, ⟨Nat.le_refl _, Nat.zero_le _⟩, fun j hj => absurd hj (Nat.not_lt_zero _)⟩
  · rw [hc] at hel
    have hspot : 0 < len → a.spot = none := fun h0 => by
      have h1 := hel 0 h0
      rw [List.getElem?_eq_getElem (by omega)] at h1
      obtain ⟨es, hcs, htr⟩ := Option.bind_eq_some_iff.1 h1
      obtain ⟨_, hlen, hcell⟩ := World.cells?_some hcs
      have c0 := hcell 0 hsz
      rw [List.getElem?_eq_getElem (by omega)] at c0
      simpa [Addr.add] using World.cell?_spot c0
    have hch : ∀ i, i < len → ∃ y : α, a.spot = none ∧ a.block < w.heap.size ∧ ∃ es : List Value, es.length = sz ∧ Q es y ∧ ∀ k, k < sz → w.cell? ((a.add (i * sz)).add k) = es[k]? := fun i hi => by
      have h1 := hel i hi
      rw [List.getElem?_eq_getElem (by omega)] at h1
      obtain ⟨es, hcs, htr⟩ := Option.bind_eq_some_iff.1 h1
      obtain ⟨_, hlen, hcell⟩ := World.cells?_some hcs
      obtain ⟨y, hy⟩ := hQ n2 es _ htr
      have c0 := hcell 0 hsz
      rw [List.getElem?_eq_getElem (by omega)] at c0
      have hbl := block_lt c0
      have h0 : a.spot = none := hspot (by omega)
      obtain ⟨ab, ao, sp⟩ := a
      simp only at h0; subst h0
      rw [Go.WideShapes.add_plain, Go.WideShapes.add_plain] at hbl
      exact ⟨y, rfl, hbl, es, hlen, hy, hcell⟩
    obtain ⟨f, hf⟩ := choose_lt (α := α) hch
    refine ⟨⟨some a, cap⟩, (List.range len).map f, by rw [h0]; simp [Sl.v], by simpa [Sl.fits] using ⟨hlc, hcm⟩, fun j hj => ?_⟩
    have hj' : j < len := by simpa using hj
    obtain ⟨h1, h2, es, h3, h4, h5⟩ := hf j hj'
    obtain ⟨ab, ao, sp⟩ := a
    simp only at h1 h2; subst h1
    refine ⟨ab, ao, rfl, h2, es, h3, by simpa using h4, fun i hi => ?_⟩
    rw [← h5 i hi, Go.WideShapes.add_plain, Go.WideShapes.add_plain]

theorem open_str {fuel : Nat} {cs : List Value} {x : DataW H × List MemPlace} (h : DataW.trod enc Tryz.prog w base spare held fuel 9 cs = some x) : ∃ y : ByteArray, cs = [.string y] ∧ y.size ≤ maxLen := by
  obtain ⟨s, h1, _, h2⟩ := DataW.trod_string Tryz.underlying9 h
  exact ⟨s, h1, h2⟩
set_option maxRecDepth 100000 in
theorem open_lit {fuel : Nat} {cs : List Value} {x : DataW H × List MemPlace} (h : DataW.trod enc Tryz.prog w base spare held fuel 115 cs = some x) : ∃ y : LitE, cs = [.string y.name, .bool y.neg] ∧ y.name.size ≤ maxLen := by
  obtain ⟨xs, fuel, rfl, _, hcl, hxl, hf⟩ := DataW.trod_struct Tryz.underlying115 h
  rw [cells_lit] at hcl
  have hx : ∀ i, i < 2 → ∃ y, xs[i]? = some y := fun i hi => ⟨xs[i]'(by rw [hxl]; exact hi), List.getElem?_eq_getElem _⟩
  obtain ⟨y0, e0⟩ := hx 0 (by omega)
  obtain ⟨y1, e1⟩ := hx 1 (by omega)
  have f0 : DataW.trod enc Tryz.prog w base spare held fuel 9 (List.take (Tryz.prog.cellsOf 9) (List.drop 0 cs)) = xs[0]? := hf 0 _ rfl
  have f1 : DataW.trod enc Tryz.prog w base spare held fuel 4 (List.take (Tryz.prog.cellsOf 4) (List.drop 1 cs)) = xs[1]? := hf 1 _ rfl
  rw [cells_string, e0] at f0
  rw [cells_bool, e1] at f1
  obtain ⟨name, c0, _, w0⟩ := DataW.trod_string Tryz.underlying9 f0
  obtain ⟨b, c1, _⟩ := DataW.trod_bool Tryz.underlying4 f1
  match cs, hcl with
  | [a0, a1], _ =>
    simp only [List.drop_zero, List.drop_succ_cons, List.take_succ_cons, List.take_zero, List.cons.injEq, and_true] at c0 c1
    subst c0 c1
    exact ⟨⟨name, b⟩, rfl, w0⟩
set_option maxRecDepth 100000 in
theorem open_pos {fuel : Nat} {cs : List Value} {x : DataW H × List MemPlace} (h : DataW.trod enc Tryz.prog w base spare held fuel 28 cs = some x) : ∃ l c : Int, cs = [.int .i64 l, .int .i64 c] ∧ I64 l ∧ I64 c := by
  obtain ⟨ps, m, _, _, hpl, hpx, hpf⟩ := DataW.trod_struct Tryz.underlying28 h
  rw [cells_pos] at hpl
  have hp : ∀ i, i < 2 → ∃ y, ps[i]? = some y := fun i hi => ⟨ps[i]'(by rw [hpx]; exact hi), List.getElem?_eq_getElem _⟩
  obtain ⟨z0, q0⟩ := hp 0 (by omega)
  obtain ⟨z1, q1⟩ := hp 1 (by omega)
  have g0 : DataW.trod enc Tryz.prog w base spare held m 3 (List.take (Tryz.prog.cellsOf 3) (List.drop 0 cs)) = ps[0]? := hpf 0 _ rfl
  have g1 : DataW.trod enc Tryz.prog w base spare held m 3 (List.take (Tryz.prog.cellsOf 3) (List.drop 1 cs)) = ps[1]? := hpf 1 _ rfl
  rw [cells_int, q0] at g0
  rw [cells_int, q1] at g1
  obtain ⟨ln, d0, _, u0⟩ := DataW.trod_int Tryz.underlying3 g0
  obtain ⟨cl, d1, _, u1⟩ := DataW.trod_int Tryz.underlying3 g1
  match cs, hpl with
  | [a0, a1], _ =>
    simp only [List.drop_zero, List.drop_succ_cons, List.take_succ_cons, List.take_zero, List.cons.injEq, and_true] at d0 d1
    subst d0 d1
    exact ⟨ln, cl, rfl, i64_of_wf u0, i64_of_wf u1⟩

theorem slat_str {A : Option Addr} {xs : List ByteArray} (h : SlAt 1 (fun b o y => b < w.heap.size ∧ ∃ es : List Value, es.length = 1 ∧ (es = [.string y] ∧ y.size ≤ maxLen) ∧ ∀ i, i < 1 → w.cell? ⟨b, o + i, none⟩ = es[i]?) A xs) : SlAt 1 (StrAt w.heap.size w) A xs :=
  h.imp fun b o y ⟨hb, es, _, ⟨he, hs⟩, hc⟩ => by subst he; exact ⟨hb, hs, hc 0 (by omega)⟩
theorem slat_lit {A : Option Addr} {xs : List LitE} (h : SlAt 2 (fun b o (y : LitE) => b < w.heap.size ∧ ∃ es : List Value, es.length = 2 ∧ (es = [.string y.name, .bool y.neg] ∧ y.name.size ≤ maxLen) ∧ ∀ i, i < 2 → w.cell? ⟨b, o + i, none⟩ = es[i]?) A xs) : SlAt 2 (LitAt w.heap.size w) A xs :=
  h.imp fun b o y ⟨hb, es, _, ⟨he, hs⟩, hc⟩ => by subst he; exact ⟨hb, hs, hc 0 (by omega), hc 1 (by omega)⟩

def VarQ (w : World) (es : List Value) (v : VarE) : Prop := ∃ S : Sl, es = [.string v.name, .int .i64 v.type, S.v v.clock.length, .int .i64 v.line, .int .i64 v.col] ∧ VarIs w.heap.size w v S
set_option maxRecDepth 100000 in
theorem open_var {fuel : Nat} {cs : List Value} {x : DataW H × List MemPlace} (h : DataW.trod enc Tryz.prog w base spare held fuel 103 cs = some x) : ∃ v : VarE, VarQ w cs v := by
  obtain ⟨xs, fuel, rfl, _, hcl, hxl, hf⟩ := DataW.trod_struct Tryz.underlying103 h
  rw [cells_var] at hcl
  have hx : ∀ i, i < 4 → ∃ y, xs[i]? = some y := fun i hi => ⟨xs[i]'(by rw [hxl]; exact hi), List.getElem?_eq_getElem _⟩
  obtain ⟨y0, e0⟩ := hx 0 (by omega)
  obtain ⟨y1, e1⟩ := hx 1 (by omega)
  obtain ⟨y2, e2⟩ := hx 2 (by omega)
  obtain ⟨y3, e3⟩ := hx 3 (by omega)
  have f0 : DataW.trod enc Tryz.prog w base spare held fuel 9 (List.take (Tryz.prog.cellsOf 9) (List.drop 0 cs)) = xs[0]? := hf 0 _ rfl
  have f1 : DataW.trod enc Tryz.prog w base spare held fuel 3 (List.take (Tryz.prog.cellsOf 3) (List.drop 1 cs)) = xs[1]? := hf 1 _ rfl
  have f2 : DataW.trod enc Tryz.prog w base spare held fuel 101 (List.take (Tryz.prog.cellsOf 101) (List.drop 2 cs)) = xs[2]? := hf 2 _ rfl
  have f3 : DataW.trod enc Tryz.prog w base spare held fuel 28 (List.take (Tryz.prog.cellsOf 28) (List.drop 3 cs)) = xs[3]? := hf 3 _ rfl
  rw [cells_string, e0] at f0
  rw [cells_int, e1] at f1
  rw [cells_lits, e2] at f2
  rw [cells_pos, e3] at f3
  obtain ⟨name, c0, _, w0⟩ := DataW.trod_string Tryz.underlying9 f0
  obtain ⟨type, c1, _, w1⟩ := DataW.trod_int Tryz.underlying3 f1
  haveI : Inhabited LitE := ⟨⟨⟨#[]⟩, false⟩⟩
  obtain ⟨S, l, c2, hfit, hsl⟩ := open_sl (sz := 2) (fun es (y : LitE) => es = [.string y.name, .bool y.neg] ∧ y.name.size ≤ maxLen) Tryz.underlying101 cells_lit (by omega) (fun _ _ _ h => open_lit h) f2
  obtain ⟨ln, cl, c3, u0, u1⟩ := open_pos f3
  match cs, hcl with
  | [a0, a1, a2, a3, a4], _ =>
    simp only [List.drop_zero, List.drop_succ_cons, List.take_succ_cons, List.take_zero, List.cons.injEq, and_true] at c0 c1 c2 c3
    obtain ⟨rfl, rfl⟩ := c3
    subst c0 c1 c2
    exact ⟨⟨name, type, l, ln, cl⟩, S, rfl, ⟨w0, i64_of_wf w1, u0, u1, hfit, slat_lit hsl⟩⟩
theorem slat_var {A : Option Addr} {xs : List VarE} (h : SlAt 5 (fun b o y => b < w.heap.size ∧ ∃ es : List Value, es.length = 5 ∧ VarQ w es y ∧ ∀ i, i < 5 → w.cell? ⟨b, o + i, none⟩ = es[i]?) A xs) : SlAt 5 (VarAt w.heap.size w) A xs :=
  h.imp fun b o y ⟨hb, es, _, ⟨S, he, hs⟩, hc⟩ => by subst he; exact ⟨hb, S, ⟨hc 0 (by omega), hc 1 (by omega), hc 2 (by omega), hc 3 (by omega), hc 4 (by omega)⟩, hs⟩

def EqQ (w : World) (es : List Value) (q : EqE) : Prop := ∃ (S : Sl) (A : Option Addr) (cap : Nat), es = [S.v q.left.length, .int .i64 q.right.op, .string q.right.name, .int .i64 q.right.num, .slice A q.right.k cap, .int .i64 q.right.line, .int .i64 q.right.col, .int .i64 q.line, .int .i64 q.col] ∧ EqIs w.heap.size w q S A cap
set_option maxRecDepth 100000 in
theorem open_eq {fuel : Nat} {cs : List Value} {x : DataW H × List MemPlace} (h : DataW.trod enc Tryz.prog w base spare held fuel 79 cs = some x) : ∃ q : EqE, EqQ w cs q := by
  obtain ⟨xs, fuel, rfl, _, hcl, hxl, hf⟩ := DataW.trod_struct Tryz.underlying79 h
  rw [cells_eq] at hcl
  have hx : ∀ i, i < 3 → ∃ y, xs[i]? = some y := fun i hi => ⟨xs[i]'(by rw [hxl]; exact hi), List.getElem?_eq_getElem _⟩
  obtain ⟨y0, e0⟩ := hx 0 (by omega)
  obtain ⟨y1, e1⟩ := hx 1 (by omega)
  obtain ⟨y2, e2⟩ := hx 2 (by omega)
  have f0 : DataW.trod enc Tryz.prog w base spare held fuel 77 (List.take (Tryz.prog.cellsOf 77) (List.drop 0 cs)) = xs[0]? := hf 0 _ rfl
  have f1 : DataW.trod enc Tryz.prog w base spare held fuel 41 (List.take (Tryz.prog.cellsOf 41) (List.drop 1 cs)) = xs[1]? := hf 1 _ rfl
  have f2 : DataW.trod enc Tryz.prog w base spare held fuel 28 (List.take (Tryz.prog.cellsOf 28) (List.drop 7 cs)) = xs[2]? := hf 2 _ rfl
  rw [cells_strs, e0] at f0
  rw [cells_expr, e1] at f1
  rw [cells_pos, e2] at f2
  haveI : Inhabited ByteArray := ⟨⟨#[]⟩⟩
  obtain ⟨S, l, c0, hfit, hsl⟩ := open_sl (sz := 1) (fun es (y : ByteArray) => es = [.string y] ∧ y.size ≤ maxLen) Tryz.underlying77 cells_string (by omega) (fun _ _ _ h => open_str h) f0
  obtain ⟨e, A, cap, c1, hE⟩ := open_ex _ _ _ f1
  obtain ⟨ln, cl, c2, u0, u1⟩ := open_pos f2
  match cs, hcl with
  | [a0, a1, a2, a3, a4, a5, a6, a7, a8], _ =>
    simp only [List.drop_zero, List.drop_succ_cons, List.take_succ_cons, List.take_zero, List.cons.injEq, and_true] at c0 c1 c2
    obtain ⟨rfl, rfl, rfl, rfl, rfl, rfl⟩ := c1
    obtain ⟨rfl, rfl⟩ := c2
    subst c0
    exact ⟨⟨l, e, ln, cl⟩, S, A, cap, rfl, ⟨u0, u1, hfit, slat_str hsl, hE⟩⟩
theorem slat_eq {A : Option Addr} {xs : List EqE} (h : SlAt 9 (fun b o y => b < w.heap.size ∧ ∃ es : List Value, es.length = 9 ∧ EqQ w es y ∧ ∀ i, i < 9 → w.cell? ⟨b, o + i, none⟩ = es[i]?) A xs) : SlAt 9 (EqAt w.heap.size w) A xs :=
  h.imp fun b o y ⟨hb, es, _, ⟨S, A, cap, he, hs⟩, hc⟩ => by subst he; exact ⟨hb, S, A, cap, ⟨hc 0 (by omega), hc 1 (by omega), hc 2 (by omega), hc 3 (by omega), hc 4 (by omega), hc 5 (by omega), hc 6 (by omega), hc 7 (by omega), hc 8 (by omega)⟩, hs⟩

def NodeQ (w : World) (es : List Value) (n : NodeE) : Prop := ∃ S : NSl, es = [.string n.name, S.i.v n.ins.length, S.o.v n.outs.length, S.v.v n.vars.length, S.e.v n.eqs.length, .int .i64 n.line, .int .i64 n.col] ∧ NodeIs w.heap.size w n S
set_option maxRecDepth 100000 in
theorem open_node {fuel : Nat} {cs : List Value} {x : DataW H × List MemPlace} (h : DataW.trod enc Tryz.prog w base spare held fuel 61 cs = some x) : ∃ n : NodeE, NodeQ w cs n := by
  obtain ⟨xs, fuel, rfl, _, hcl, hxl, hf⟩ := DataW.trod_struct Tryz.underlying61 h
  rw [cells_node] at hcl
  have hx : ∀ i, i < 6 → ∃ y, xs[i]? = some y := fun i hi => ⟨xs[i]'(by rw [hxl]; exact hi), List.getElem?_eq_getElem _⟩
  obtain ⟨y0, e0⟩ := hx 0 (by omega)
  obtain ⟨y1, e1⟩ := hx 1 (by omega)
  obtain ⟨y2, e2⟩ := hx 2 (by omega)
  obtain ⟨y3, e3⟩ := hx 3 (by omega)
  obtain ⟨y4, e4⟩ := hx 4 (by omega)
  obtain ⟨y5, e5⟩ := hx 5 (by omega)
  have f0 : DataW.trod enc Tryz.prog w base spare held fuel 9 (List.take (Tryz.prog.cellsOf 9) (List.drop 0 cs)) = xs[0]? := hf 0 _ rfl
  have f1 : DataW.trod enc Tryz.prog w base spare held fuel 58 (List.take (Tryz.prog.cellsOf 58) (List.drop 1 cs)) = xs[1]? := hf 1 _ rfl
  have f2 : DataW.trod enc Tryz.prog w base spare held fuel 58 (List.take (Tryz.prog.cellsOf 58) (List.drop 2 cs)) = xs[2]? := hf 2 _ rfl
  have f3 : DataW.trod enc Tryz.prog w base spare held fuel 58 (List.take (Tryz.prog.cellsOf 58) (List.drop 3 cs)) = xs[3]? := hf 3 _ rfl
  have f4 : DataW.trod enc Tryz.prog w base spare held fuel 59 (List.take (Tryz.prog.cellsOf 59) (List.drop 4 cs)) = xs[4]? := hf 4 _ rfl
  have f5 : DataW.trod enc Tryz.prog w base spare held fuel 28 (List.take (Tryz.prog.cellsOf 28) (List.drop 5 cs)) = xs[5]? := hf 5 _ rfl
  rw [cells_string, e0] at f0
  rw [cells_vars, e1] at f1
  rw [cells_vars, e2] at f2
  rw [cells_vars, e3] at f3
  rw [cells_eqs, e4] at f4
  rw [cells_pos, e5] at f5
  obtain ⟨name, c0, _, w0⟩ := DataW.trod_string Tryz.underlying9 f0
  haveI : Inhabited VarE := ⟨⟨⟨#[]⟩, 0, [], 0, 0⟩⟩
  haveI : Inhabited EqE := ⟨⟨[], .junk, 0, 0⟩⟩
  obtain ⟨S1, l1, c1, hf1, hs1⟩ := open_sl (sz := 5) (VarQ w) Tryz.underlying58 cells_var (by omega) (fun _ _ _ h => open_var h) f1
  obtain ⟨S2, l2, c2, hf2, hs2⟩ := open_sl (sz := 5) (VarQ w) Tryz.underlying58 cells_var (by omega) (fun _ _ _ h => open_var h) f2
  obtain ⟨S3, l3, c3, hf3, hs3⟩ := open_sl (sz := 5) (VarQ w) Tryz.underlying58 cells_var (by omega) (fun _ _ _ h => open_var h) f3
  obtain ⟨S4, l4, c4, hf4, hs4⟩ := open_sl (sz := 9) (EqQ w) Tryz.underlying59 cells_eq (by omega) (fun _ _ _ h => open_eq h) f4
  obtain ⟨ln, cl, c5, u0, u1⟩ := open_pos f5
  match cs, hcl with
  | [a0, a1, a2, a3, a4, a5, a6], _ =>
    simp only [List.drop_zero, List.drop_succ_cons, List.take_succ_cons, List.take_zero, List.cons.injEq, and_true] at c0 c1 c2 c3 c4 c5
    obtain ⟨rfl, rfl⟩ := c5
    subst c0 c1 c2 c3 c4
    exact ⟨⟨name, l1, l2, l3, l4, ln, cl⟩, ⟨S1, S2, S3, S4⟩, rfl, ⟨w0, u0, u1, hf1, hf2, hf3, hf4, slat_var hs1, slat_var hs2, slat_var hs3, slat_eq hs4⟩⟩
theorem slat_node {A : Option Addr} {xs : List NodeE} (h : SlAt 7 (fun b o y => b < w.heap.size ∧ ∃ es : List Value, es.length = 7 ∧ NodeQ w es y ∧ ∀ i, i < 7 → w.cell? ⟨b, o + i, none⟩ = es[i]?) A xs) : SlAt 7 (NodeAt w.heap.size w) A xs :=
  h.imp fun b o y ⟨hb, es, _, ⟨S, he, hs⟩, hc⟩ => by subst he; exact ⟨hb, S, ⟨hc 0 (by omega), hc 1 (by omega), hc 2 (by omega), hc 3 (by omega), hc 4 (by omega), hc 5 (by omega), hc 6 (by omega)⟩, hs⟩
set_option maxRecDepth 100000 in
theorem open_src {fuel : Nat} {cs : List Value} {x : DataW H × List MemPlace} (h : DataW.trod enc Tryz.prog w base spare held fuel 25 cs = some x) : ∃ (s : List NodeE) (S : Sl), cs = [S.v s.length] ∧ SrcIs w.heap.size w s S := by
  obtain ⟨xs, fuel, rfl, _, hcl, hxl, hf⟩ := DataW.trod_struct Tryz.underlying25 h
  rw [cells_src] at hcl
  have hx : ∀ i, i < 1 → ∃ y, xs[i]? = some y := fun i hi => ⟨xs[i]'(by rw [hxl]; exact hi), List.getElem?_eq_getElem _⟩
  obtain ⟨y0, e0⟩ := hx 0 (by omega)
  have f0 : DataW.trod enc Tryz.prog w base spare held fuel 23 (List.take (Tryz.prog.cellsOf 23) (List.drop 0 cs)) = xs[0]? := hf 0 _ rfl
  rw [cells_nodes, e0] at f0
  haveI : Inhabited NodeE := ⟨⟨⟨#[]⟩, [], [], [], [], 0, 0⟩⟩
  obtain ⟨S1, l1, c1, hf1, hs1⟩ := open_sl (sz := 7) (NodeQ w) Tryz.underlying23 cells_node (by omega) (fun _ _ _ h => open_node h) f0
  match cs, hcl with
  | [a0], _ =>
    simp only [List.drop_zero, List.take_succ_cons, List.take_zero, List.cons.injEq, and_true] at c1
    subst c1
    exact ⟨l1, S1, rfl, ⟨hf1, slat_node hs1⟩⟩
end

set_option maxRecDepth 100000 in
/-- An argument that is a source. -/
theorem open_src_val {H : Type} {enc : TypeId × Value → H} {w : World} {base b0 : Nat} {r : Reach} {spare : Nat → Bool} {held : Bool} {v : Value} {d : DataW H} {ps : List MemPlace}
    (hval : Value.okWide Tryz.prog w r b0 25 v) (h : DataW.Trod enc Tryz.prog w base spare held 25 v d ps) : ∃ (s : List NodeE) (S : Sl), v = srcVal s S ∧ SrcIs w.heap.size w s S := by
  obtain ⟨cs, rfl, hcs⟩ := okWide_struct Tryz.underlying25 hval
  obtain ⟨fuel, hf⟩ := h
  obtain ⟨s, S, hv, hE⟩ := open_src hf
  refine ⟨s, S, ?_, hE⟩
  have h1 : cs.toList = [S.v s.length] := by simpa [Value.cells] using hv
  have h2 : cs = #[S.v s.length] := by
    rw [← Array.toArray_toList (xs := cs), h1]
  rw [h2]; rfl
end Go.Proofs.YtnlikhjmmnaknaaGreatDoor
