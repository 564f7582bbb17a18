/-
  Texts of this claim, joined: Strs Src SrcC SrcC2 SrcR SrcR2 OpenEx ClaimKit.
-/
import Derived.Deep.AppendLies
import Derived.Deep.QuietTactic
import Derived.BigQuiet
import Derived.Test.YtnlikhjmmnaknaaGC
import Derived.ProofKit
import Derived.Deep.Slices
import Derived.OpenShut
import Derived.Test.YtnlikhjmmnaknaaGA
/-
  Lists of strings in memory: In, Contains, Texts; the names of an expression (plain).
-/
namespace Go.Proofs.Ytnlikhjmmnaknaa
open Go.RowKit

/-- strings that lie side by side -/
def StrsAt (w : World) (A : Option Addr) (xs : List ByteArray) : Prop :=
  ∀ j (h : j < xs.length), ∃ b o, A = some ⟨b, o, none⟩ ∧ w.cell? ⟨b, o + j, none⟩ = some (.string xs[j])
theorem StrsAt.keep {w w' : World} {A : Option Addr} {xs : List ByteArray} (h : StrsAt w A xs) (hk : ∀ b o, A = some ⟨b, o, none⟩ → ∀ i, w'.cell? ⟨b, i, none⟩ = w.cell? ⟨b, i, none⟩) : StrsAt w' A xs := fun j hj => by
  obtain ⟨b, o, hA, hc⟩ := h j hj
  exact ⟨b, o, hA, by rw [hk b o hA]; exact hc⟩
theorem StrsAt.drewN {w : World} {A : Option Addr} {xs : List ByteArray} (h : StrsAt w A xs) (n : Nat) : StrsAt (w.drewN n) A xs := h.keep fun _ _ _ _ => rfl
theorem strs_own {w : World} {base c : Nat} {A : Option Addr} {xs : List ByteArray} (h : w.ownsRow base 9 1 (.slice A xs.length c) xs.length (xs.map .string)) : StrsAt w A xs := fun j hj => by
  obtain ⟨g, cap, hv, _, _⟩ := h.form (by omega)
  injection hv with hA
  subst hA
  refine ⟨g, 0, rfl, ?_⟩
  rw [Nat.zero_add, h.cellAt j (by simpa using hj)]
  simp [List.getElem?_eq_getElem hj]

/-- is a text in a list? -/
def inB (xs : List ByteArray) (s : ByteArray) : Bool := xs.any fun x => x.data.toList == s.data.toList
theorem inB_hit {xs : List ByteArray} {s : ByteArray} {j : Nat} (h : j < xs.length) (he : (xs[j].toList == s.toList) = true) : inB xs s = true := by
  unfold inB
  rw [List.any_eq_true]
  refine ⟨xs[j], List.getElem_mem _, ?_⟩
  rwa [ByteArray.toList_eq, ByteArray.toList_eq] at he
theorem inB_miss {xs : List ByteArray} {s : ByteArray} (h : ∀ j (hj : j < xs.length), (xs[j].toList == s.toList) = false) : inB xs s = false := by
  unfold inB
  rw [List.any_eq_false]
  intro x hx
  obtain ⟨j, hj, rfl⟩ := List.getElem_of_mem hx
  have := h j hj
  rw [ByteArray.toList_eq, ByteArray.toList_eq] at this
  rw [this]; simp

def IndexPost (xs : List ByteArray) (s : ByteArray) (w : World) (r : Ending) (w' : World) : Prop := ∃ i : Int, r = .returned (.int .i64 i) ∧ -1 ≤ i ∧ i ≤ 9223372036854775807 ∧ decide (0 ≤ i) = inB xs s ∧ w = w'

/-- are two lists of texts one? -/
def sameStrs (xs ys : List ByteArray) : Bool := xs.map (fun x => x.data.toList) == ys.map (fun x => x.data.toList)
theorem sameStrs_len {xs ys : List ByteArray} (h : ¬ xs.length = ys.length) : sameStrs xs ys = false := by
  unfold sameStrs
  rw [beq_eq_false_iff_ne]
  intro he
  have := congrArg List.length he
  simp at this; exact h this
theorem sameStrs_hit {xs ys : List ByteArray} {j : Nat} (h1 : j < xs.length) (h2 : j < ys.length) (h : (xs[j].toList == ys[j].toList) = false) : sameStrs xs ys = false := by
  unfold sameStrs
  rw [beq_eq_false_iff_ne]
  intro he
  have := congrArg (fun l => l[j]?) he
  simp only [List.getElem?_map, List.getElem?_eq_getElem h1, List.getElem?_eq_getElem h2, Option.map_some, Option.some.injEq] at this
  rw [ByteArray.toList_eq, ByteArray.toList_eq, this] at h
  simp at h
theorem sameStrs_all {xs ys : List ByteArray} (hl : xs.length = ys.length) (h : ∀ j (h1 : j < xs.length) (h2 : j < ys.length), (xs[j].toList == ys[j].toList) = true) : sameStrs xs ys = true := by
  unfold sameStrs
  rw [beq_iff_eq]
  apply List.ext_getElem (by simpa using hl)
  intro j h1 h2
  simp only [List.length_map] at h1 h2
  have := h j h1 h2
  rw [ByteArray.toList_eq, ByteArray.toList_eq] at this
  simpa using this
theorem sameStrs_self (xs : List ByteArray) : sameStrs xs xs = true := by simp [sameStrs]

set_option maxHeartbeats 1000000 in
theorem rtexts_any (xs ys : List ByteArray) (A A' : Option Addr) (cap cap' : Nat) (w : World) (hx : StrsAt w A xs) (hy : StrsAt w A' ys) (hn : xs.length ≤ 1000000000) :
    Calls Try.prog 57 #[.slice A xs.length cap, .slice A' ys.length cap'] w fun r w' => r = .returned (.bool (sameStrs xs ys)) ∧ ∃ n, w' = w.drewN n := by
  have HX := hid hx
  have HY := hid hy
  clear hx hy
  by_cases hl : xs.length = ys.length
  · have HL := hid hl
    rw [← hl]
    clear hl
    go_enter Try.func57, Try.ntmps57
    go_wp2_with fail
    go_loopw [5] (fun i wr => ∃ j n : Nat, j ≤ xs.length ∧ i = .int .i64 j ∧ wr = w.drewN n ∧ Hid (∀ m (h1 : m < xs.length) (h2 : m < ys.length), m < j → (xs[m].toList == ys[m].toList) = true)) (fun i _ => xs.length - (intOf i).toNat)
    case atStart => exact ⟨0, 0, by omega, rfl, rfl, fun m _ _ hm => absurd hm (by omega)⟩
    case round =>
      obtain ⟨j, n, hj, rfl, rfl, hmiss⟩ := hrel
      by_cases hlt : j < xs.length
      · have hlt' : j < ys.length := by have := HL.out; omega
        obtain ⟨b, o, rfl, hc⟩ := HX.out j hlt
        obtain ⟨b', o', rfl, hc'⟩ := HY.out j hlt'
        have hi0 : (0 : Int) ≤ (j : Int) := by omega
        have hi1 : (j : Int) < (xs.length : Int) := by omega
        cases he : (xs[j].toList == ys[j].toList)
        · have HE := hid he
          go_wp2_with fail
          go_quiet (fail)
          go_wp2_with fail
          go_ret
          exact ⟨ret_bool (sameStrs_hit hlt hlt' HE.out).symm, n + nq, by first | rfl | rw [World.drewN_drewN]⟩
        · have HE := hid he
          go_wp2_with fail
          go_quiet (fail)
          go_wp2_with fail
          go_roundw
          case rel =>
            refine ⟨j + 1, n + nq, by omega, by go_num, rfl, fun m h1 h2 hmj => ?_⟩
            by_cases h : m = j
            · subst h; exact HE.out
            · exact hmiss.out m h1 h2 (by omega)
          case measure => simp [intOf]; omega
      · have : j = xs.length := by omega
        subst this
        go_wp2_with fail
        go_ret
        exact ⟨ret_bool (sameStrs_all HL.out fun m h1 h2 => hmiss.out m h1 h2 h1).symm, n, rfl⟩
  · have HS := hid (sameStrs_len hl)
    have hne : ((xs.length : Int) != (ys.length : Int)) = true := by simp; omega
    clear hl
    go_enter Try.func57, Try.ntmps57
    go_wp2_with fail
    go_ret
    exact ⟨ret_bool HS.out.symm, 0, rfl⟩

/-- the names of variables -/
def nmStep (acc : List ByteArray) (x : Ex) : List ByteArray := if (namesOp x.op && !inB acc x.name) = true then acc ++ [x.name] else acc
def nmOf (l : List Ex) : List ByteArray := l.foldl nmStep []
theorem nmOf_snoc (l : List Ex) (x : Ex) : nmOf (l ++ [x]) = nmStep (nmOf l) x := by simp [nmOf, List.foldl_append]
theorem nmStep_len (acc : List ByteArray) (x : Ex) : (nmStep acc x).length ≤ acc.length + 1 := by unfold nmStep; split <;> simp
theorem nmGo_len (l : List Ex) : ∀ acc : List ByteArray, (l.foldl nmStep acc).length ≤ acc.length + l.length := by
  induction l with
  | nil => intro acc; simp
  | cons x l ih => intro acc; rw [List.foldl_cons, List.length_cons]; have := ih (nmStep acc x); have := nmStep_len acc x; omega
theorem nmOf_len (l : List Ex) : (nmOf l).length ≤ l.length := by have := nmGo_len l []; simpa [nmOf] using this
end Go.Proofs.Ytnlikhjmmnaknaa
/-
  Sources as plain Lean types, and how they lie in memory.
-/
namespace Go.Proofs.Ytnlikhjmmnaknaa
open Go.RowKit

/-- a condition of a clock -/
structure LitE where
  name : ByteArray
  neg : Bool
/-- a variable -/
structure VarE where
  name : ByteArray
  type : Int
  clock : List LitE
  line : Int
  col : Int
/-- an equation -/
structure EqE where
  left : List ByteArray
  right : Ex
  line : Int
  col : Int
/-- a node -/
structure NodeE where
  name : ByteArray
  ins : List VarE
  outs : List VarE
  vars : List VarE
  eqs : List EqE
  line : Int
  col : Int

/-- where a slice lies, and its capacity -/
structure Sl where
  A : Option Addr
  cap : Nat
def Sl.v (s : Sl) (n : Nat) : Value := .slice s.A n s.cap
def Sl.fits (s : Sl) (n : Nat) : Prop := n ≤ s.cap ∧ s.cap ≤ maxLen

/-- elements that lie side by side, so many cells each -/
def SlAt {α : Type} (sz : Nat) (P : Nat → Nat → α → Prop) (A : Option Addr) (xs : List α) : Prop :=
  ∀ j (h : j < xs.length), ∃ b o, A = some ⟨b, o, none⟩ ∧ P b (o + j * sz) xs[j]
theorem SlAt.imp {α : Type} {sz : Nat} {P P' : Nat → Nat → α → Prop} {A : Option Addr} {xs : List α} (h : SlAt sz P A xs) (hp : ∀ b o x, P b o x → P' b o x) : SlAt sz P' A xs := fun j hj => by
  obtain ⟨b, o, hA, hc⟩ := h j hj
  exact ⟨b, o, hA, hp _ _ _ hc⟩

def StrAt (B : Nat) (w : World) (b o : Nat) (x : ByteArray) : Prop := b < B ∧ x.size ≤ maxLen ∧ w.cell? ⟨b, o, none⟩ = some (.string x)
structure LitAt (B : Nat) (w : World) (b o : Nat) (x : LitE) : Prop where
  lt : b < B
  name : x.name.size ≤ maxLen
  c0 : w.cell? ⟨b, o, none⟩ = some (.string x.name)
  c1 : w.cell? ⟨b, o + 1, none⟩ = some (.bool x.neg)

/-- a variable whose clock lies at S -/
structure VarIs (B : Nat) (w : World) (v : VarE) (S : Sl) : Prop where
  name : v.name.size ≤ maxLen
  type : I64 v.type
  line : I64 v.line
  col : I64 v.col
  fits : S.fits v.clock.length
  clock : SlAt 2 (LitAt B w) S.A v.clock
def VarE.val (v : VarE) (S : Sl) : Value := .agg #[.string v.name, .int .i64 v.type, S.v v.clock.length, .int .i64 v.line, .int .i64 v.col]
structure VarCells (w : World) (b o : Nat) (v : VarE) (S : Sl) : Prop where
  c0 : w.cell? ⟨b, o, none⟩ = some (.string v.name)
  c1 : w.cell? ⟨b, o + 1, none⟩ = some (.int .i64 v.type)
  c2 : w.cell? ⟨b, o + 2, none⟩ = some (S.v v.clock.length)
  c3 : w.cell? ⟨b, o + 3, none⟩ = some (.int .i64 v.line)
  c4 : w.cell? ⟨b, o + 4, none⟩ = some (.int .i64 v.col)
def VarAt (B : Nat) (w : World) (b o : Nat) (v : VarE) : Prop := b < B ∧ ∃ S, VarCells w b o v S ∧ VarIs B w v S

/-- an equation whose left side lies at S, its right side's parts at A -/
structure EqIs (B : Nat) (w : World) (q : EqE) (S : Sl) (A : Option Addr) (cap : Nat) : Prop where
  line : I64 q.line
  col : I64 q.col
  fits : S.fits q.left.length
  left : SlAt 1 (StrAt B w) S.A q.left
  right : ExAt B w q.right A cap
def EqE.val (q : EqE) (S : Sl) (A : Option Addr) (cap : Nat) : Value :=
  .agg #[S.v q.left.length, .int .i64 q.right.op, .string q.right.name, .int .i64 q.right.num, .slice A q.right.k cap, .int .i64 q.right.line, .int .i64 q.right.col, .int .i64 q.line, .int .i64 q.col]
structure EqCells (w : World) (b o : Nat) (q : EqE) (S : Sl) (A : Option Addr) (cap : Nat) : Prop where
  c0 : w.cell? ⟨b, o, none⟩ = some (S.v q.left.length)
  c1 : w.cell? ⟨b, o + 1, none⟩ = some (.int .i64 q.right.op)
  c2 : w.cell? ⟨b, o + 2, none⟩ = some (.string q.right.name)
  c3 : w.cell? ⟨b, o + 3, none⟩ = some (.int .i64 q.right.num)
  c4 : w.cell? ⟨b, o + 4, none⟩ = some (.slice A q.right.k cap)
  c5 : w.cell? ⟨b, o + 5, none⟩ = some (.int .i64 q.right.line)
  c6 : w.cell? ⟨b, o + 6, none⟩ = some (.int .i64 q.right.col)
  c7 : w.cell? ⟨b, o + 7, none⟩ = some (.int .i64 q.line)
  c8 : w.cell? ⟨b, o + 8, none⟩ = some (.int .i64 q.col)
def EqAt (B : Nat) (w : World) (b o : Nat) (q : EqE) : Prop := b < B ∧ ∃ S A cap, EqCells w b o q S A cap ∧ EqIs B w q S A cap

/-- where a node's slices lie -/
structure NSl where
  i : Sl
  o : Sl
  v : Sl
  e : Sl
structure NodeIs (B : Nat) (w : World) (n : NodeE) (S : NSl) : Prop where
  name : n.name.size ≤ maxLen
  line : I64 n.line
  col : I64 n.col
  fi : S.i.fits n.ins.length
  fo : S.o.fits n.outs.length
  fv : S.v.fits n.vars.length
  fe : S.e.fits n.eqs.length
  ins : SlAt 5 (VarAt B w) S.i.A n.ins
  outs : SlAt 5 (VarAt B w) S.o.A n.outs
  vars : SlAt 5 (VarAt B w) S.v.A n.vars
  eqs : SlAt 9 (EqAt B w) S.e.A n.eqs
def NodeE.val (n : NodeE) (S : NSl) : Value := .agg #[.string n.name, S.i.v n.ins.length, S.o.v n.outs.length, S.v.v n.vars.length, S.e.v n.eqs.length, .int .i64 n.line, .int .i64 n.col]
structure NodeCells (w : World) (b o : Nat) (n : NodeE) (S : NSl) : Prop where
  c0 : w.cell? ⟨b, o, none⟩ = some (.string n.name)
  c1 : w.cell? ⟨b, o + 1, none⟩ = some (S.i.v n.ins.length)
  c2 : w.cell? ⟨b, o + 2, none⟩ = some (S.o.v n.outs.length)
  c3 : w.cell? ⟨b, o + 3, none⟩ = some (S.v.v n.vars.length)
  c4 : w.cell? ⟨b, o + 4, none⟩ = some (S.e.v n.eqs.length)
  c5 : w.cell? ⟨b, o + 5, none⟩ = some (.int .i64 n.line)
  c6 : w.cell? ⟨b, o + 6, none⟩ = some (.int .i64 n.col)
def NodeAt (B : Nat) (w : World) (b o : Nat) (n : NodeE) : Prop := b < B ∧ ∃ S, NodeCells w b o n S ∧ NodeIs B w n S
/-- a source whose nodes lie at S -/
structure SrcIs (B : Nat) (w : World) (s : List NodeE) (S : Sl) : Prop where
  fits : S.fits s.length
  nodes : SlAt 7 (NodeAt B w) S.A s
def srcVal (s : List NodeE) (S : Sl) : Value := .agg #[S.v s.length]

/-- what lies below a block lies as it lay -/
def Same (B : Nat) (w w' : World) : Prop := ∀ b i, b < B → w'.cell? ⟨b, i, none⟩ = w.cell? ⟨b, i, none⟩
theorem same_below {B B' : Nat} {w w' : World} (hB : B ≤ B') (hb : Below B' w w') : Same B w w' := fun b i h => hb.cell (p := ⟨b, i, none⟩) (by simp; omega)

section
variable {B B' : Nat} {w w' : World}
theorem StrAt.keep (hk : Same B w w') {b o : Nat} {x : ByteArray} (h : StrAt B w b o x) : StrAt B w' b o x := ⟨h.1, h.2.1, (hk _ _ h.1).trans h.2.2⟩
theorem LitAt.keep (hk : Same B w w') {b o : Nat} {x : LitE} (h : LitAt B w b o x) : LitAt B w' b o x := ⟨h.lt, h.name, (hk _ _ h.lt).trans h.c0, (hk _ _ h.lt).trans h.c1⟩
theorem VarIs.keep (hk : Same B w w') {v : VarE} {S : Sl} (h : VarIs B w v S) : VarIs B w' v S := ⟨h.name, h.type, h.line, h.col, h.fits, h.clock.imp fun _ _ _ => LitAt.keep hk⟩
theorem VarCells.keep {b o : Nat} (hk : ∀ i, w'.cell? ⟨b, i, none⟩ = w.cell? ⟨b, i, none⟩) {v : VarE} {S : Sl} (h : VarCells w b o v S) : VarCells w' b o v S :=
  ⟨(hk _).trans h.c0, (hk _).trans h.c1, (hk _).trans h.c2, (hk _).trans h.c3, (hk _).trans h.c4⟩
theorem VarAt.keep (hk : Same B w w') {b o : Nat} {v : VarE} (h : VarAt B w b o v) : VarAt B w' b o v := by
  obtain ⟨hb, S, hc, hi⟩ := h
  exact ⟨hb, S, hc.keep fun i => hk _ _ hb, hi.keep hk⟩
theorem EqIs.keep (hk : Same B w w') {q : EqE} {S : Sl} {A : Option Addr} {cap : Nat} (h : EqIs B w q S A cap) : EqIs B w' q S A cap :=
  ⟨h.line, h.col, h.fits, h.left.imp fun _ _ _ => StrAt.keep hk, ExAt.keep hk _ _ _ h.right⟩
theorem EqCells.keep {b o : Nat} (hk : ∀ i, w'.cell? ⟨b, i, none⟩ = w.cell? ⟨b, i, none⟩) {q : EqE} {S : Sl} {A : Option Addr} {cap : Nat} (h : EqCells w b o q S A cap) : EqCells w' b o q S A cap :=
  ⟨(hk _).trans h.c0, (hk _).trans h.c1, (hk _).trans h.c2, (hk _).trans h.c3, (hk _).trans h.c4, (hk _).trans h.c5, (hk _).trans h.c6, (hk _).trans h.c7, (hk _).trans h.c8⟩
theorem EqAt.keep (hk : Same B w w') {b o : Nat} {q : EqE} (h : EqAt B w b o q) : EqAt B w' b o q := by
  obtain ⟨hb, S, A, cap, hc, hi⟩ := h
  exact ⟨hb, S, A, cap, hc.keep fun i => hk _ _ hb, hi.keep hk⟩
theorem NodeIs.keep (hk : Same B w w') {n : NodeE} {S : NSl} (h : NodeIs B w n S) : NodeIs B w' n S :=
  ⟨h.name, h.line, h.col, h.fi, h.fo, h.fv, h.fe, h.ins.imp fun _ _ _ => VarAt.keep hk, h.outs.imp fun _ _ _ => VarAt.keep hk, h.vars.imp fun _ _ _ => VarAt.keep hk, h.eqs.imp fun _ _ _ => EqAt.keep hk⟩
theorem NodeCells.keep {b o : Nat} (hk : ∀ i, w'.cell? ⟨b, i, none⟩ = w.cell? ⟨b, i, none⟩) {n : NodeE} {S : NSl} (h : NodeCells w b o n S) : NodeCells w' b o n S :=
  ⟨(hk _).trans h.c0, (hk _).trans h.c1, (hk _).trans h.c2, (hk _).trans h.c3, (hk _).trans h.c4, (hk _).trans h.c5, (hk _).trans h.c6⟩
theorem NodeAt.keep (hk : Same B w w') {b o : Nat} {n : NodeE} (h : NodeAt B w b o n) : NodeAt B w' b o n := by
  obtain ⟨hb, S, hc, hi⟩ := h
  exact ⟨hb, S, hc.keep fun i => hk _ _ hb, hi.keep hk⟩
theorem SrcIs.keep (hk : Same B w w') {s : List NodeE} {S : Sl} (h : SrcIs B w s S) : SrcIs B w' s S := ⟨h.fits, h.nodes.imp fun _ _ _ => NodeAt.keep hk⟩

theorem StrAt.more (hB : B ≤ B') {b o : Nat} {x : ByteArray} (h : StrAt B w b o x) : StrAt B' w b o x := ⟨by have := h.1; omega, h.2⟩
theorem LitAt.more (hB : B ≤ B') {b o : Nat} {x : LitE} (h : LitAt B w b o x) : LitAt B' w b o x := ⟨by have := h.lt; omega, h.name, h.c0, h.c1⟩
theorem VarIs.more (hB : B ≤ B') {v : VarE} {S : Sl} (h : VarIs B w v S) : VarIs B' w v S := ⟨h.name, h.type, h.line, h.col, h.fits, h.clock.imp fun _ _ _ => LitAt.more hB⟩
theorem VarAt.more (hB : B ≤ B') {b o : Nat} {v : VarE} (h : VarAt B w b o v) : VarAt B' w b o v := by
  obtain ⟨hb, S, hc, hi⟩ := h
  exact ⟨by omega, S, hc, hi.more hB⟩
theorem EqIs.more (hB : B ≤ B') {q : EqE} {S : Sl} {A : Option Addr} {cap : Nat} (h : EqIs B w q S A cap) : EqIs B' w q S A cap :=
  ⟨h.line, h.col, h.fits, h.left.imp fun _ _ _ => StrAt.more hB, ExAt.more hB _ _ _ h.right⟩
theorem EqAt.more (hB : B ≤ B') {b o : Nat} {q : EqE} (h : EqAt B w b o q) : EqAt B' w b o q := by
  obtain ⟨hb, S, A, cap, hc, hi⟩ := h
  exact ⟨by omega, S, A, cap, hc, hi.more hB⟩
theorem NodeIs.more (hB : B ≤ B') {n : NodeE} {S : NSl} (h : NodeIs B w n S) : NodeIs B' w n S :=
  ⟨h.name, h.line, h.col, h.fi, h.fo, h.fv, h.fe, h.ins.imp fun _ _ _ => VarAt.more hB, h.outs.imp fun _ _ _ => VarAt.more hB, h.vars.imp fun _ _ _ => VarAt.more hB, h.eqs.imp fun _ _ _ => EqAt.more hB⟩
theorem NodeAt.more (hB : B ≤ B') {b o : Nat} {n : NodeE} (h : NodeAt B w b o n) : NodeAt B' w b o n := by
  obtain ⟨hb, S, hc, hi⟩ := h
  exact ⟨by omega, S, hc, hi.more hB⟩
theorem SrcIs.more (hB : B ≤ B') {s : List NodeE} {S : Sl} (h : SrcIs B w s S) : SrcIs B' w s S := ⟨h.fits, h.nodes.imp fun _ _ _ => NodeAt.more hB⟩
theorem strs_of_sl {A : Option Addr} {xs : List ByteArray} (h : SlAt 1 (StrAt B w) A xs) : StrsAt w A xs := fun j hj => by
  obtain ⟨b, o, hA, hc⟩ := h j hj
  exact ⟨b, o, hA, by simpa using hc.2.2⟩
end

/-! loops over all -/
theorem all_hit {α : Type} {p : α → Bool} {xs : List α} {j : Nat} (h : j < xs.length) (hp : p xs[j] = false) : xs.all p = false := by
  rw [List.all_eq_false]; exact ⟨xs[j], List.getElem_mem _, by rw [hp]; simp⟩
theorem all_done {α : Type} {p : α → Bool} {xs : List α} (h : ∀ j (hj : j < xs.length), p xs[j] = true) : xs.all p = true := by
  rw [List.all_eq_true]
  intro x hx
  obtain ⟨j, hj, rfl⟩ := List.getElem_of_mem hx
  exact h j hj
theorem all_at {α : Type} {p : α → Bool} {xs : List α} (h : xs.all p = true) (j : Nat) (hj : j < xs.length) : p xs[j] = true := List.all_eq_true.1 h _ (List.getElem_mem _)
/-- so far all are so -/
def Upto {α : Type} (p : α → Bool) (xs : List α) (j : Nat) : Prop := ∀ m (h : m < xs.length), m < j → p xs[m] = true
theorem Upto.zero {α : Type} (p : α → Bool) (xs : List α) : Upto p xs 0 := fun m _ h => absurd h (by omega)
theorem Upto.succ {α : Type} {p : α → Bool} {xs : List α} {j : Nat} (h : Upto p xs j) (hj : j < xs.length) (hp : p xs[j] = true) : Upto p xs (j + 1) := fun m hm hmj => by
  by_cases h1 : m = j
  · subst h1; exact hp
  · exact h m hm (by omega)
theorem Upto.all {α : Type} {p : α → Bool} {xs : List α} (h : Upto p xs xs.length) : xs.all p = true := all_done fun j hj => h j hj hj
end Go.Proofs.Ytnlikhjmmnaknaa
/-
  The walks of package tree's functions over sources: variable, many, equation, Node, Source.
-/
namespace Go.Proofs.Ytnlikhjmmnaknaa
open Go.RowKit

def litB (c : LitE) : Bool := isName c.name.data.toList
/-- is a variable right? -/
def varB (v : VarE) : Bool := v.clock.all litB && isName v.name.data.toList && (v.type == 1 || v.type == 2) && decide (v.clock.length ≤ 4)
def manyB (l : List VarE) (least most : Nat) : Bool := l.all varB && decide (least ≤ l.length) && decide (l.length ≤ most)
def strB (x : ByteArray) : Bool := isName x.data.toList
def eqB (q : EqE) : Bool := q.left.all strB && decide (1 ≤ q.left.length) && decide (q.left.length ≤ 8) && q.right.right
def nodeB (n : NodeE) : Bool := n.eqs.all eqB && isName n.name.data.toList && decide (1 ≤ n.eqs.length) && decide (n.eqs.length ≤ 48) && manyB n.ins 1 8 && manyB n.outs 1 8 && manyB n.vars 0 40
def srcB (s : List NodeE) : Bool := s.all nodeB && decide (1 ≤ s.length) && decide (s.length ≤ 16)

theorem boxed_all {w wr : World} {cs : Array Value} {t : TypeId} (h : Below (w.heap.size + 1) (w.alloc (.cells cs t)) wr) : ∀ i, wr.cell? ⟨w.heap.size, i, none⟩ = cs[i]? := boxed_cell h
theorem boxed_then {w wr w' : World} {o : Obj} (h : Below (w.heap.size + 1) (w.alloc o) wr) (hb : Below wr.heap.size wr w') : Below (w.heap.size + 1) (w.alloc o) w' := h.trans (hb.mono (boxed_size h))

end Go.Proofs.Ytnlikhjmmnaknaa
/-
  The walks of package tree's Node and Source.
-/
namespace Go.Proofs.Ytnlikhjmmnaknaa
open Go.RowKit

end Go.Proofs.Ytnlikhjmmnaknaa
/-
  The walks of the reference's vars, Node and Source.
-/
namespace Go.Proofs.Ytnlikhjmmnaknaa
open Go.RowKit

def VarE.few (v : VarE) : Prop := v.name.size ≤ 1000 ∧ ∀ c ∈ v.clock, c.name.size ≤ 1000
def EqE.few (q : EqE) : Prop := q.right.size ≤ 1000 ∧ q.right.height ≤ 1000 ∧ q.right.short ∧ ∀ x ∈ q.left, x.size ≤ 1000
def NodeE.few (n : NodeE) : Prop := n.name.size ≤ 1000 ∧ (∀ v ∈ n.ins, v.few) ∧ (∀ v ∈ n.outs, v.few) ∧ (∀ v ∈ n.vars, v.few) ∧ ∀ q ∈ n.eqs, q.few

end Go.Proofs.Ytnlikhjmmnaknaa
/-
  The walks of the reference's Node and Source.
-/
namespace Go.Proofs.Ytnlikhjmmnaknaa
open Go.RowKit

end Go.Proofs.Ytnlikhjmmnaknaa
/-
  An argument that is an expression, opened; and the row's last step for a call that leaves all old memory as it was.
-/
namespace Go.Proofs.Ytnlikhjmmnaknaa
open Go.ChangeShapes Go.WideShapes Go.ChangeAt Go.RowKit Go.Deep

theorem i64_of_wf {x : Int} (h : (Lit.int .i64 x).wf = true) : I64 x := by
  simpa [Lit.wf, IntKind.min, IntKind.max, IntKind.signed, IntKind.bits, I64] using h

theorem cells_int : Try.prog.cellsOf 3 = 1 := by kernel_rfl
theorem cells_string : Try.prog.cellsOf 9 = 1 := by kernel_rfl
theorem cells_exprs : Try.prog.cellsOf 23 = 1 := by kernel_rfl
theorem cells_pos : Try.prog.cellsOf 25 = 2 := by kernel_rfl
theorem cells_expr : Try.prog.cellsOf 27 = 6 := by kernel_rfl

theorem six {α : Type} {l : List α} (h : l.length = 6) : ∃ a b c d e f, l = [a, b, c, d, e, f] := by
  match l, h with
  | [a, b, c, d, e, f], _ => exact ⟨a, b, c, d, e, f, rfl⟩

theorem block_lt {w : World} {a : Addr} {v : Value} (h : w.cell? a = some v) : a.block < w.heap.size := by
  unfold World.cell? at h
  split at h
  · rename_i h1; exact (Array.getElem?_eq_some_iff.1 h1).1
  · cases h

section
variable {H : Type} {enc : TypeId × Value → H} {w : World} {base : Nat} {spare : Nat → Bool} {held : Bool}

theorem open_ex : ∀ (fuel : Nat) (cs : List Value) (x : DataW H × List MemPlace), DataW.trod enc Try.prog w base spare held fuel 27 cs = some x →
    ∃ (e : Ex) (A : Option Addr) (cap : Nat), cs = [.int .i64 e.op, .string e.name, .int .i64 e.num, .slice A e.k cap, .int .i64 e.line, .int .i64 e.col] ∧ ExAt w.heap.size w e A cap := by
  intro fuel
  induction fuel using Nat.strongRecOn with
  | ind fuel0 ih =>
    intro cs x h
    obtain ⟨xs, fuel, rfl, _, hcl, hxl, hf⟩ := DataW.trod_struct Try.underlying27 h
    rw [cells_expr] at hcl
    have hx : ∀ i, i < 5 → ∃ y, xs[i]? = some y := fun i hi => ⟨xs[i]'(by rw [hxl]; exact hi), List.getElem?_eq_getElem _⟩
    obtain ⟨y0, e0⟩ := hx 0 (by omega)
    obtain ⟨y1, e1⟩ := hx 1 (by omega)
    obtain ⟨y2, e2⟩ := hx 2 (by omega)
    obtain ⟨y3, e3⟩ := hx 3 (by omega)
    obtain ⟨y4, e4⟩ := hx 4 (by omega)
    have f0 : DataW.trod enc Try.prog w base spare held fuel 3 (List.take (Try.prog.cellsOf 3) (List.drop 0 cs)) = xs[0]? := hf 0 _ rfl
    have f1 : DataW.trod enc Try.prog w base spare held fuel 9 (List.take (Try.prog.cellsOf 9) (List.drop 1 cs)) = xs[1]? := hf 1 _ rfl
    have f2 : DataW.trod enc Try.prog w base spare held fuel 3 (List.take (Try.prog.cellsOf 3) (List.drop 2 cs)) = xs[2]? := hf 2 _ rfl
    have f3 : DataW.trod enc Try.prog w base spare held fuel 23 (List.take (Try.prog.cellsOf 23) (List.drop 3 cs)) = xs[3]? := hf 3 _ rfl
    have f4 : DataW.trod enc Try.prog w base spare held fuel 25 (List.take (Try.prog.cellsOf 25) (List.drop 4 cs)) = xs[4]? := hf 4 _ rfl
    rw [cells_int, e0] at f0
    rw [cells_string, e1] at f1
    rw [cells_int, e2] at f2
    rw [cells_exprs, e3] at f3
    rw [cells_pos, e4] at f4
    obtain ⟨op, c0, _, w0⟩ := DataW.trod_int Try.underlying3 f0
    obtain ⟨name, c1, _, w1⟩ := DataW.trod_string Try.underlying9 f1
    obtain ⟨num, c2, _, w2⟩ := DataW.trod_int Try.underlying3 f2
    obtain ⟨ps, m, _, _, hpl, hpx, hpf⟩ := DataW.trod_struct Try.underlying25 f4
    have hp : ∀ i, i < 2 → ∃ y, ps[i]? = some y := fun i hi => ⟨ps[i]'(by rw [hpx]; exact hi), List.getElem?_eq_getElem _⟩
    obtain ⟨z0, q0⟩ := hp 0 (by omega)
    obtain ⟨z1, q1⟩ := hp 1 (by omega)
    have g0 : DataW.trod enc Try.prog w base spare held m 3 (List.take (Try.prog.cellsOf 3) (List.drop 0 (List.take 2 (List.drop 4 cs)))) = ps[0]? := hpf 0 _ rfl
    have g1 : DataW.trod enc Try.prog w base spare held m 3 (List.take (Try.prog.cellsOf 3) (List.drop 1 (List.take 2 (List.drop 4 cs)))) = ps[1]? := hpf 1 _ rfl
    rw [cells_int, q0] at g0
    rw [cells_int, q1] at g1
    obtain ⟨ln, d0, _, u0⟩ := DataW.trod_int Try.underlying3 g0
    obtain ⟨cl, d1, _, u1⟩ := DataW.trod_int Try.underlying3 g1
    obtain ⟨a0, a1, a2, a3, a4, a5, rfl⟩ := six hcl
    simp only [List.drop_zero, List.drop_succ_cons, List.take_succ_cons, List.take_zero, List.cons.injEq, and_true] at c0 c1 c2 d0 d1 f3
    subst c0 c1 c2 d0 d1
    rcases DataW.trod_slice Try.underlying23 f3 with ⟨h0, _⟩ | ⟨a, len, cap, elems, rest, n2, rfl, h0, _, _, hlc, hcm, hll, hel, _⟩
    · simp only [List.cons.injEq, and_true] at h0
      subst h0
      refine ⟨.mk op name num 0 (fun _ => .junk) ln cl, none, 0, rfl, ⟨i64_of_wf w0, w1, i64_of_wf w2, i64_of_wf u0, i64_of_wf u1, Nat.le_refl _, Nat.zero_le _⟩, fun i hi => absurd hi (Nat.not_lt_zero _)⟩
    · simp only [List.cons.injEq, and_true] at h0
      subst h0
      rw [cells_expr] at hel
      have hspot : 0 < len → a.spot = none := fun h0 => by
        have h1 := hel 0 h0
        rw [List.getElem?_eq_getElem (by omega)] at h1
        obtain ⟨cs', hc, ht⟩ := Option.bind_eq_some_iff.1 h1
        obtain ⟨_, _, hcell⟩ := World.cells?_some hc
        obtain ⟨e, A, cp, hcs, hE⟩ := ih n2 (by omega) cs' _ ht
        subst hcs
        have c0 := hcell 0 (by omega)
        simpa [Addr.add] using World.cell?_spot c0
      have hch : ∀ i, i < len → ∃ y : Ex × Option Addr × Nat, CellsAt w a.block (a.off + i * 6) y.1 y.2.1 y.2.2 ∧ ExAt w.heap.size w y.1 y.2.1 y.2.2 ∧ a.spot = none ∧ a.block < w.heap.size := fun i hi => by
        have h1 := hel i hi
        rw [List.getElem?_eq_getElem (by omega)] at h1
        obtain ⟨cs', hc, ht⟩ := Option.bind_eq_some_iff.1 h1
        obtain ⟨_, _, hcell⟩ := World.cells?_some hc
        obtain ⟨e, A, cp, hcs, hE⟩ := ih n2 (by omega) cs' _ ht
        subst hcs
        have c0 := hcell 0 (by omega)
        have h0 : a.spot = none := hspot (by omega)
        have hadd : ∀ j, (a.add (i * 6)).add j = ⟨a.block, a.off + i * 6 + j, none⟩ := fun j => by
          obtain ⟨ab, ao, sp⟩ := a
          simp only at h0; subst h0
          rw [Go.WideShapes.add_plain, Go.WideShapes.add_plain]
        have hb := block_lt c0
        rw [hadd] at hb
        refine ⟨(e, A, cp), ⟨?_, ?_, ?_, ?_, ?_, ?_⟩, hE, h0, hb⟩
        · have := hcell 0 (by omega); rwa [hadd] at this
        · have := hcell 1 (by omega); rwa [hadd] at this
        · have := hcell 2 (by omega); rwa [hadd] at this
        · have := hcell 3 (by omega); rwa [hadd] at this
        · have := hcell 4 (by omega); rwa [hadd] at this
        · have := hcell 5 (by omega); rwa [hadd] at this
      haveI : Inhabited Ex := ⟨.junk⟩
      obtain ⟨f, hf'⟩ := choose_lt (α := Ex × Option Addr × Nat) hch
      refine ⟨.mk op name num len (fun i => (f i).1) ln cl, some a, cap, rfl, ⟨i64_of_wf w0, w1, i64_of_wf w2, i64_of_wf u0, i64_of_wf u1, hlc, hcm⟩, fun i hi => ?_⟩
      obtain ⟨h1, h2, h3, h4⟩ := hf' i hi
      obtain ⟨ab, ao, sp⟩ := a
      simp only at h3; subst h3
      exact ⟨ab, ao, (f i).2.1, (f i).2.2, rfl, h4, h1, h2⟩
end

/-- The row's last step where old memory is as it was. -/
theorem post_below {H : Type} {enc : TypeId × Value → H} {P : Program} {f : Func} {s : ChangeSpec} {apart fresh handsOn again : Bool} {W W' : World} {args : Array Value} {v : Value} {ds gs : List (DataW H)} {before : List MemPlace}
    (hW : DataW.Whole enc P f.params.toList s.vars apart W args.toList ds gs before)
    (hres : ∀ (b : Nat) (sp : Nat → Bool) (hd : Bool), DataW.TrodAll enc P W' b sp hd f.resultTypes.toList (v.resultList f.resultTypes.size) (s.fn H (ds ++ gs)).results [])
    (hargs : ∀ sp : Nat → Bool, (∀ p ∈ before, sp p.block = true) → DataW.TrodAll enc P W' 0 sp true f.params.toList args.toList (s.fn H (ds ++ gs)).args before)
    (hvars : ∀ sp : Nat → Bool, DataW.TrodVars enc P W' sp s.vars (s.fn H (ds ++ gs)).vars [])
    (hb : Below W.heap.size W W')
    (hok : ∀ (j : Nat) (t : TypeId) (r : Value), f.resultTypes[j]? = some t → (v.resultList f.resultTypes.size)[j]? = some r → Value.okWide P W' .any 0 t r) :
    s.post enc P f apart fresh handsOn again W args v W' := by
  have hold : ∀ p ∈ before, (fun b => decide (b < W.heap.size)) p.block = true := fun p hp => by simpa using hW.lt p hp
  refine ⟨ds, gs, before, [], before, [], hW, hres _ _ _, hargs _ hold, hvars _, World.keptBut_mono (fun p hp => ⟨hp, .inr (by simpa using hp)⟩) (hb.frame (· ∈ before)), fun _ => ?_⟩
  have hlt : ∀ p ∈ before, p.block < W.heap.size := fun p hp => hW.lt p hp
  obtain ⟨_, _, _, _, _, hz, hn⟩ := hW
  refine ⟨hok, _, _, ([] ++ before) ++ [], ⟨[] ++ before, [], trodAll_append (hargs _ (fun _ _ => rfl)) (hres _ _ _), hvars _, rfl, ?_, ?_⟩, ?_⟩
  · intro b off hp
    have hin : MemPlace.cell b off ∈ before := by simpa using hp
    rw [hb.frozen (hlt _ hin)]
    exact hz b off hin
  · intro ha
    simpa using hn ha
  · intro p hp _
    simpa using hp

/-- Arguments that are read again in a world in which nothing old has turned. -/
theorem args_again {H : Type} {enc : TypeId × Value → H} {W W' : World} (hl : laidOutB Try.prog = true) (hb : Below W.heap.size W W') :
    ∀ {ts : List TypeId} {vs : List Value} {ds : List (DataW H)} {ps : List MemPlace}, (∀ t ∈ ts, Try.prog.readableRec t = true ∧ t < Try.prog.types.size) →
      DataW.TrodAll enc Try.prog W 0 (fun _ => true) true ts vs ds ps → (∀ p ∈ ps, p.block < W.heap.size) → ∀ sp : Nat → Bool, (∀ p ∈ ps, sp p.block = true) → DataW.TrodAll enc Try.prog W' 0 sp true ts vs ds ps
  | [], [], [], _, _, h, _, _, _ => h
  | _ :: _, _ :: _, _ :: _, _, ht, ⟨p, q, h1, h2, e⟩, hlt, sp, hsp =>
    ⟨p, q, WideElems.Trod_stays hl (ht _ (by simp)).1 (ht _ (by simp)).2 h1 (fun x hx => hb.same (hlt x (by rw [e]; exact List.mem_append_left _ hx))) (fun x hx => hsp x (by rw [e]; exact List.mem_append_left _ hx)),
      args_again hl hb (fun t h => ht t (List.mem_cons_of_mem _ h)) h2 (fun x hx => hlt x (by rw [e]; exact List.mem_append_right _ hx)) sp (fun x hx => hsp x (by rw [e]; exact List.mem_append_right _ hx)), e⟩
end Go.Proofs.Ytnlikhjmmnaknaa
/-
  What the last step of every statement of this seat shares.
-/
namespace Go.Proofs.Ytnlikhjmmnaknaa
open Go.ChangeShapes Go.WideShapes Go.ChangeAt Go.RowKit

theorem kitOwn : ownKnob Try.prog.godebug = none := by kernel_rfl
theorem kitLaid : laidOutB Try.prog = true := by kernel_rfl
theorem kitExpr : Try.prog.readableRec 27 = true := by kernel_rfl
theorem kitExprLt : decide (27 < Try.prog.types.size) = true := by kernel_rfl
theorem kitInt : Try.prog.readableRec 3 = true := by kernel_rfl
theorem kitIntLt : decide (3 < Try.prog.types.size) = true := by kernel_rfl
theorem kitString : Try.prog.readableRec 9 = true := by kernel_rfl
theorem kitStringLt : decide (9 < Try.prog.types.size) = true := by kernel_rfl

set_option maxRecDepth 100000 in
/-- An argument that is an expression. -/
theorem open_ex_val {H : Type} {enc : TypeId × Value → H} {w : World} {base b0 : Nat} {r : Reach} {spare : Nat → Bool} {held : Bool} {v : Value} {d : DataW H} {ps : List MemPlace}
    (hval : Value.okWide Try.prog w r b0 27 v) (h : DataW.Trod enc Try.prog w base spare held 27 v d ps) : ∃ (e : Ex) (A : Option Addr) (cap : Nat), v = e.val A cap ∧ ExAt w.heap.size w e A cap := by
  obtain ⟨cs, rfl, hcs⟩ := okWide_struct Try.underlying27 hval
  obtain ⟨fuel, hf⟩ := h
  obtain ⟨e, A, cap, hv, hE⟩ := open_ex fuel _ _ hf
  refine ⟨e, A, cap, ?_, hE⟩
  have h1 : cs.toList = [.int .i64 e.op, .string e.name, .int .i64 e.num, .slice A e.k cap, .int .i64 e.line, .int .i64 e.col] := by simpa [Value.cells] using hv
  have h2 : cs = #[.int .i64 e.op, .string e.name, .int .i64 e.num, .slice A e.k cap, .int .i64 e.line, .int .i64 e.col] := by
    rw [← Array.toArray_toList (xs := cs), h1]
  rw [h2]; rfl
end Go.Proofs.Ytnlikhjmmnaknaa
