/-
  Texts of this claim, joined: PlainW PlainW2 PlainW3 TreeW TreeW2 TreeW3 TreeR TreeR2 TreeL TreeRR.
-/
import Derived.Test.YtnlikhjmmnaknaaGA
import Derived.RangeFuncNested
import Derived.RangeFuncBound
import Derived.RangeFuncCalls
import Derived.RangeFuncLeaves
import Derived.Shelf.Abstract
import Derived.OwnWalkIn
import Derived.TacticsInMore
import Derived.LoopNIn
import Derived.LoopIn
import Derived.Deep.AppendLies
/-
  The walks of Parts, names and plain, the code's and the reference's.
-/
namespace Go.Proofs.Ytnlikhjmmnaknaa
open Go.RowKit

def partsOf (op : Int) : Int :=
  if op = 1 ∨ op = 2 ∨ op = 3 then 0 else if op = 4 then -1 else if op = 5 ∨ op = 6 ∨ op = 21 ∨ op = 24 ∨ op = 25 then 1
  else if (7 ≤ op ∧ op ≤ 20) ∨ op = 22 ∨ op = 23 ∨ op = 26 then 2 else if op = 27 then 3 else -2
def namesOp (op : Int) : Bool := op == 3 || op == 24 || op == 25 || op == 26

def partsL : List Int := [0, 0, 0, -1, 1, 1, 2, 2, 2, 2, 2, 2, 2, 2, 2, 2, 2, 2, 2, 2, 1, 2, 2, 1, 1, 2, 3]
theorem partsL_eq : ∀ j : Nat, j < 27 → partsL[j]?.getD 0 = partsOf ((j : Int) + 1) := by decide

theorem partsL_val (j : Nat) (h : j < 27) (h' : j < (partsL.map (Value.int .i64)).length) : (partsL.map (Value.int .i64))[j]'h' = .int .i64 (partsL[j]?.getD 0) := by
  rw [List.getElem_map, List.getElem?_eq_getElem (show j < partsL.length from h)]; rfl

end Go.Proofs.Ytnlikhjmmnaknaa
/-
  The walks of plain, the code's and the reference's.
-/
namespace Go.Proofs.Ytnlikhjmmnaknaa
open Go.RowKit

def plainOf (op : Int) (name : ByteArray) (n : Int) (k : Nat) : Bool :=
  if partsOf op = -2 then false
  else if partsOf op = -1 ∧ (k < 1 ∨ 8 < k) then false
  else if 0 ≤ partsOf op ∧ (k : Int) ≠ partsOf op then false
  else if namesOp op = true ∨ op = 4 then isName name.data.toList && n == 0
  else if op = 1 then name.data.toList.isEmpty && decide (0 ≤ n)
  else if op = 2 then name.data.toList.isEmpty && (n == 0 || n == 1)
  else name.data.toList.isEmpty && n == 0

end Go.Proofs.Ytnlikhjmmnaknaa
/-
  The walk of the reference's plain.
-/
namespace Go.Proofs.Ytnlikhjmmnaknaa
open Go.RowKit

end Go.Proofs.Ytnlikhjmmnaknaa
/-
  The walks of package tree's functions over expressions.
-/
namespace Go.Proofs.Ytnlikhjmmnaknaa
open Go.RowKit

theorem maxTo_succ (f : Nat → Nat) (k : Nat) : maxTo f (k + 1) = max (maxTo f k) (f k) := rfl
theorem maxTo_le {f : Nat → Nat} {k j : Nat} (h : j ≤ k) : maxTo f j ≤ maxTo f k := by
  induction k with
  | zero => have : j = 0 := by omega
            subst this; exact Nat.le_refl _
  | succ k ih =>
    by_cases hj : j = k + 1
    · subst hj; exact Nat.le_refl _
    · exact Nat.le_trans (ih (by omega)) (by rw [maxTo_succ]; omega)
theorem le_maxTo {f : Nat → Nat} {k j : Nat} (h : j < k) : f j ≤ maxTo f k :=
  Nat.le_trans (by rw [maxTo_succ]; omega) (maxTo_le (f := f) (show j + 1 ≤ k by omega))

end Go.Proofs.Ytnlikhjmmnaknaa
/-
  The walks over expressions: the reference's Height, the code's Size, room and Few.
-/
namespace Go.Proofs.Ytnlikhjmmnaknaa
open Go.RowKit

set_option maxHeartbeats 400000 in
theorem rheight_any (e : Ex) : ∀ (B : Nat) (A : Option Addr) (cap : Nat) (w : World), ExAt B w e A cap → B ≤ w.heap.size → e.height ≤ 1000000 →
    Calls Try.prog 71 #[e.val A cap] w fun r w' => r = .returned (.int .i64 e.height) ∧ Below w.heap.size w w' := by
  induction e with
  | junk => intro B A cap; intros; contradiction
  | mk op name n k arg l c ih =>
    intro B A cap w hE hB hh
    obtain ⟨⟨_, _, _, _, _, hk, hcap⟩, hargs⟩ := hE
    simp only [Ex.val, Ex.op, Ex.name, Ex.num, Ex.k, Ex.line, Ex.col]
    unfold maxLen at hcap
    have hmax : ∀ j, j ≤ k → maxTo (fun i => (arg i).height) j ≤ 999999 := fun j hj => by
      have := maxTo_le (f := fun i => (arg i).height) hj
      simp only [Ex.height] at hh; omega
    have hcap' : (k : Int) ≤ 9223372036854775807 := by omega
    go_enter Try.func71, Try.ntmps71
    go_wp2_with fail
    go_loopw [3, 4, 5] (fun h i x wr => ∃ j : Nat, j ≤ k ∧ i = .int .i64 j ∧ h = .int .i64 (maxTo (fun i => (arg i).height) j) ∧ Below (w.heap.size + 1) (w.alloc (.cells #[.int .i64 op, .string name, .int .i64 n, .slice A k cap, .int .i64 l, .int .i64 c] 27)) wr) (fun _ i _ _ => k - (intOf i).toNat)
    case atStart => exact ⟨0, by omega, rfl, rfl, Below.refl _ _⟩
    case round =>
      obtain ⟨j, hj, rfl, rfl, hbel⟩ := hrel
      have hsl := boxed_cell hbel 3
      have hsz := boxed_size hbel
      have hw := boxed_below hbel
      by_cases hlt : j < k
      · obtain ⟨b, o, A', cap', rfl, hb, hcells, hin⟩ := hargs j hlt
        have hc := hcells.keep (w' := wr) fun i => hw.cell (p := ⟨b, i, none⟩) (by simp; omega)
        obtain ⟨c0, c1, c2, c3, c4, c5⟩ := hc
        clear hcells
        have hm := hmax (j + 1) (by omega)
        rw [maxTo_succ] at hm
        go_wp2_with fail
        refine (ih j B A' cap' _ (hin.below hB hw) (by omega) (by omega)).mono ?_
        rintro r w1 ⟨rfl, hb1⟩
        go_wp2_with fail
        all_goals
          go_roundw
          case rel =>
            refine ⟨j + 1, by omega, by go_num, ?_, hbel.trans (hb1.mono (by omega))⟩
            rw [maxTo_succ]
            congr 1
            omega
          case measure => simp [intOf]; omega
      · have : j = k := by omega
        subst this
        have hm := hmax j (by omega)
        go_wp2_with fail
        go_ret
        exact ⟨ret_int (by simp [Ex.height]), hw⟩

theorem sumTo_succ (f : Nat → Nat) (k : Nat) : sumTo f (k + 1) = sumTo f k + f k := rfl
theorem sumTo_le {f : Nat → Nat} {k j : Nat} (h : j ≤ k) : sumTo f j ≤ sumTo f k := by
  induction k with
  | zero => have : j = 0 := by omega
            subst this; exact Nat.le_refl _
  | succ k ih =>
    by_cases hj : j = k + 1
    · subst hj; exact Nat.le_refl _
    · exact Nat.le_trans (ih (by omega)) (by rw [sumTo_succ]; omega)

def roomTo (f : Nat → Int → Int) : Nat → Int → Int
  | 0, left => left
  | n + 1, left => if roomTo f n left < 0 then -1 else f n (roomTo f n left)
/-- how much room is left behind an expression -/
def Ex.room : Ex → Nat → Int → Int
  | .junk, _, _ => -1
  | .mk _ name _ k arg _ _, deep, left => if deep = 0 ∨ 30 < name.size then -1 else roomTo (fun i x => (arg i).room (deep - 1) x) k (left - 1)
/-- all names are short -/
def Ex.short : Ex → Prop
  | .junk => True
  | .mk _ name _ k arg _ _ => name.size ≤ 30 ∧ ∀ i, i < k → (arg i).short

theorem roomTo_bd {f : Nat → Int → Int} (hf : ∀ i x, 0 ≤ x → -1 ≤ f i x ∧ f i x ≤ x - 1) (left : Int) (h0 : -1 ≤ left) : ∀ n, -1 ≤ roomTo f n left ∧ roomTo f n left ≤ left := by
  intro n
  induction n with
  | zero => exact ⟨h0, Int.le_refl _⟩
  | succ n ih =>
    unfold roomTo
    split
    · omega
    · have := hf n (roomTo f n left) (by omega); omega
theorem room_bd : ∀ (e : Ex) (deep : Nat) (left : Int), 0 ≤ left → -1 ≤ e.room deep left ∧ e.room deep left ≤ left - 1 := by
  intro e
  induction e with
  | junk => intro deep left h; simp only [Ex.room]; omega
  | mk op name n k arg l c ih =>
    intro deep left h
    rw [Ex.room]
    split
    · omega
    · have := roomTo_bd (f := fun i x => (arg i).room (deep - 1) x) (fun i x hx => ih i _ x hx) (left - 1) (by omega) k
      omega
theorem roomTo_stop {f : Nat → Int → Int} {left : Int} {j : Nat} (h : roomTo f j left < 0) : ∀ k, j < k → roomTo f k left = -1 := by
  intro k
  induction k with
  | zero => intro h; omega
  | succ k ih =>
    intro hk
    unfold roomTo
    by_cases hj : j = k
    · subst hj; rw [if_pos h]
    · rw [ih (by omega), if_pos (by omega)]
theorem roomTo_sum {f : Nat → Int → Int} {g : Nat → Nat} {left : Int} (hf : ∀ i x, 0 ≤ f i x → f i x = x - g i) : ∀ k, 0 ≤ roomTo f k left → roomTo f k left = left - sumTo g k ∧ ∀ j, j ≤ k → 0 ≤ roomTo f j left := by
  intro k
  induction k with
  | zero => intro h; exact ⟨by simp [roomTo, sumTo], fun j hj => by have : j = 0 := by omega
                                                                    subst this; exact h⟩
  | succ k ih =>
    intro h
    unfold roomTo at h
    by_cases hn : roomTo f k left < 0
    · rw [if_pos hn] at h; omega
    · rw [if_neg hn] at h
      obtain ⟨h1, h2⟩ := ih (by omega)
      refine ⟨?_, fun j hj => ?_⟩
      · rw [roomTo, if_neg hn, hf _ _ h, h1, sumTo_succ]; omega
      · by_cases hjk : j = k + 1
        · subst hjk; rw [roomTo, if_neg hn]; exact h
        · exact h2 j (by omega)
/-- WHERE THERE IS ROOM: how much is taken; no higher than so; short names. -/
theorem room_fits : ∀ (e : Ex) (deep : Nat) (left : Int), 0 ≤ e.room deep left → e.room deep left = left - e.size ∧ e.height ≤ deep ∧ e.short := by
  intro e
  induction e with
  | junk => intro deep left h; simp only [Ex.room] at h; omega
  | mk op name n k arg l c ih =>
    intro deep left h
    rw [Ex.room] at h ⊢
    by_cases hc : deep = 0 ∨ 30 < name.size
    · rw [if_pos hc] at h; omega
    · rw [if_neg hc] at h ⊢
      obtain ⟨h1, h2⟩ := roomTo_sum (f := fun i x => (arg i).room (deep - 1) x) (g := fun i => (arg i).size) (fun i x hx => (ih i _ _ hx).1) k h
      have h3 : ∀ j, j < k → (arg j).height ≤ deep - 1 ∧ (arg j).short := fun j hj => by
        have := h2 (j + 1) (by omega)
        rw [roomTo, if_neg (by have := h2 j (by omega); omega)] at this
        exact (ih j _ _ this).2
      refine ⟨by rw [h1, Ex.size]; omega, ?_, by omega, fun i hi => (h3 i hi).2⟩
      have h4 : ∀ j, j ≤ k → maxTo (fun i => (arg i).height) j ≤ deep - 1 := by
        intro j
        induction j with
        | zero => intro _; simp [maxTo]
        | succ j ihj => intro hj; rw [maxTo_succ]; have := (h3 j (by omega)).1; have := ihj (by omega); omega
      have := h4 k (Nat.le_refl _)
      rw [Ex.height]; omega
end Go.Proofs.Ytnlikhjmmnaknaa
/-
  The walks of room and Few: which expressions a statement speaks of.
-/
namespace Go.Proofs.Ytnlikhjmmnaknaa
open Go.RowKit

/-- the expressions of which the statements speak -/
def Ex.few (e : Ex) : Bool := decide (0 ≤ e.room 50 200)
theorem Ex.few_fits {e : Ex} (h : e.few = true) : e.size ≤ 200 ∧ e.height ≤ 50 ∧ e.short := by
  have h0 : 0 ≤ e.room 50 200 := by simpa [Ex.few] using h
  obtain ⟨h1, h2, h3⟩ := room_fits e 50 200 h0
  exact ⟨by omega, h2, h3⟩

end Go.Proofs.Ytnlikhjmmnaknaa
/-
  The iterator over an expression and all within it: its contract.
-/
namespace Go.Proofs.Ytnlikhjmmnaknaa
open Go.RowKit Go.Shelf
attribute [local go_sem] Oper.semAt_some

def flatTo {α : Type} (f : Nat → List α) : Nat → List α
  | 0 => []
  | n + 1 => flatTo f n ++ f n
theorem flatTo_succ {α : Type} (f : Nat → List α) (k : Nat) : flatTo f (k + 1) = flatTo f k ++ f k := rfl
theorem flatTo_prefix {α : Type} {f : Nat → List α} {k j : Nat} (h : j ≤ k) : flatTo f j <+: flatTo f k := by
  induction k with
  | zero => have : j = 0 := by omega
            subst this; exact List.prefix_refl _
  | succ k ih =>
    by_cases hj : j = k + 1
    · subst hj; exact List.prefix_refl _
    · exact (ih (by omega)).trans (by rw [flatTo_succ]; exact List.prefix_append _ _)
theorem flatTo_le {α : Type} {f : Nat → List α} {k j : Nat} (h : j ≤ k) : (flatTo f j).length ≤ (flatTo f k).length := (flatTo_prefix h).length_le
/-- an expression and all within it, in order -/
def Ex.pre : Ex → List Ex
  | .junk => []
  | .mk op name n k arg l c => .mk op name n k arg l c :: flatTo (fun i => (arg i).pre) k

/-- An expression that lies in a world, below a block. -/
def Loc (B : Nat) (w : World) : Type := { x : Ex × Option Addr × Nat // ExAt B w x.1 x.2.1 x.2.2 }
def Loc.e {B : Nat} {w : World} (x : Loc B w) : Ex := x.1.1
def Loc.val {B : Nat} {w : World} (x : Loc B w) : Value := x.1.1.val x.1.2.1 x.1.2.2

theorem room_none {F : Fence} (hd : F.depth = none) (k : Nat) : F.room k := fun d h => by rw [hd] at h; cases h
theorem round_any {F : Fence} (hd : F.depth = none) {m m' : Nat} {P : Program} {l : Nat} {f : FuncId} {tmps : Array Value} {assign body : Code} {w : World} {R : Ending → World → Prop}
    (h : RoundIn F m P l f tmps assign body w R) : RoundIn F m' P l f tmps assign body w R := ⟨h.1, fun c cs _ => h.2 c cs (room_none hd _)⟩
theorem yield_any {F : Fence} (hd : F.depth = none) {m : Nat} (m' : Nat) {P : Program} {l : Nat} {args : Array Value} {W : World} {R : Ending → World → Prop} (h : YieldAt F m P l args W R) : YieldAt F m' P l args W R := by
  obtain ⟨fn, tmps, assign, body, hy, hR⟩ := h
  exact ⟨fn, tmps, assign, body, hy, round_any hd hR⟩

/-- What a round keeps: what lies below a block; every block of expressions' cells. -/
structure KeepEx (B : Nat) (W W' : World) : Prop where
  below : Below B W W'
  ex : ∀ (k : Nat) (cs : Array Value), W.heap[k]? = some (.cells cs 27 (0, 0)) → W'.heap[k]? = some (.cells cs 27 (0, 0))
theorem KeepEx.refl (B : Nat) (W : World) : KeepEx B W W := ⟨Below.refl _ _, fun _ _ h => h⟩
theorem KeepEx.trans {B : Nat} {a b c : World} (h : KeepEx B a b) (k : KeepEx B b c) : KeepEx B a c := ⟨h.below.trans k.below, fun i cs hi => k.ex i cs (h.ex i cs hi)⟩
theorem KeepEx.alloc {B : Nat} {a w : World} (h : KeepEx B a w) (hB : B ≤ w.heap.size) (o : Obj) : KeepEx B a (w.alloc o) :=
  ⟨h.below.alloc hB o, fun i cs hi => by
    have h1 := h.ex i cs hi
    have hlt : i < w.heap.size := (Array.getElem?_eq_some_iff.1 h1).1
    exact (Below.heap_alloc w o i hlt).trans h1⟩
theorem KeepEx.boxed {B : Nat} {w wr : World} {cs : Array Value} (h : KeepEx B (w.alloc (.cells cs 27)) wr) (i : Nat) : wr.cell? ⟨w.heap.size, i, none⟩ = cs[i]? := by
  have := h.ex w.heap.size cs (World.alloc_heap_new w _)
  simp [World.cell?, this]
theorem keepEx_t {B : Nat} : ∀ {a b c : World}, KeepEx B a b → KeepEx B b c → KeepEx B a c := KeepEx.trans
theorem keepEx_b {B : Nat} {w : World} (hB : B ≤ w.heap.size) : ∀ (W : World) (l : Nat) (o o' : Obj), w.heap.size ≤ l → W.heap[l]? = some o → o.isCells = false → o.isWalk = false → KeepEx B W (W.putObj l o') := fun W l o o' hl ho hc hw =>
  ⟨belowK_b hB W l o o' hl ho hc hw, fun i cs hi => by
    have hne : i ≠ l := fun e => by subst e; rw [hi] at ho; cases ho; cases hc
    rw [World.putObj_heap_other hne]; exact hi⟩

/-- what the walk over an expression comes to -/
def Walked {B : Nat} {w0 : World} (J Jx : List (Loc B w0) → World → Prop) (e : Ex) (pre : List (Loc B w0)) (W : World) (r : Ending) (W' : World) : Prop :=
  (r = .returned (.bool true) ∧ ∃ ys : List (Loc B w0), ys.map (·.e) = e.pre ∧ J (pre ++ ys) W' ∧ KeepEx B W W') ∨
  (r = .returned (.bool false) ∧ ∃ ys : List (Loc B w0), ys.map (·.e) <+: e.pre ∧ Jx (pre ++ ys) W')

end Go.Proofs.Ytnlikhjmmnaknaa
/-
  The code's Right, a range over the iterator.
-/
namespace Go.Proofs.Ytnlikhjmmnaknaa
open Go.RowKit Go.Shelf
attribute [local go_sem] Oper.semAt_some

/-- what a quiet call keeps -/
theorem keepEx_of_below {B : Nat} {W W' : World} (h : Below W.heap.size W W') (hB : B ≤ W.heap.size) : KeepEx B W W' :=
  ⟨h.mono hB, fun k _ hk => (h.block k (Array.getElem?_eq_some_iff.1 hk).1).trans hk⟩
theorem keepsFrom_of_below {B : Nat} {W W' : World} (h : Below W.heap.size W W') : KeepsFrom B W W' :=
  ⟨h.size, fun k _ _ hk _ => (h.block k (Array.getElem?_eq_some_iff.1 hk).1).trans hk⟩
theorem ownFrom_keepEx {β : Type} {B B' : Nat} {w0 : World} (hn : B ≤ w0.heap.size) (hB : B ≤ B') : OwnFrom B' (fun (_ : β) W => KeepEx B w0 W) :=
  fun s X Y row hs hg hr => ⟨ownFrom_below (β := β) hn hB s X Y row hs.below hg hr, fun k cs hk => by
    have h1 := hs.ex k cs hk
    refine (hg.block k (Array.getElem?_eq_some_iff.1 h1).1 (fun e => ?_)).trans h1
    obtain ⟨_, o, ho, hc⟩ := hr k e.symm
    rw [h1] at ho; cases ho; cases hc⟩
/-- a loop variable's block of expression cells -/
def ExBox (W : World) (b : Nat) (e : Ex) (A : Option Addr) (cap : Nat) : Prop :=
  W.heap[b]? = some (.cells #[.int .i64 e.op, .string e.name, .int .i64 e.num, .slice A e.k cap, .int .i64 e.line, .int .i64 e.col] 27 (0, 0))
theorem ExBox.own {β : Type} (B b : Nat) (e : Ex) (A : Option Addr) (cap : Nat) : OwnFrom B (fun (_ : β) W => ExBox W b e A cap) :=
  fun s X Y row hs hg hr => by
    have h1 : X.heap[b]? = _ := hs
    refine (hg.block b (Array.getElem?_eq_some_iff.1 h1).1 (fun e => ?_)).trans h1
    obtain ⟨_, o, ho, hc⟩ := hr b e.symm
    rw [h1] at ho; cases ho; cases hc
theorem ExBox.keep {W W' : World} {B b : Nat} {e : Ex} {A : Option Addr} {cap : Nat} (h : ExBox W b e A cap) (hk : KeepEx B W W') : ExBox W' b e A cap := hk.ex _ _ h
theorem ExBox.cells {W : World} {b : Nat} {e : Ex} {A : Option Addr} {cap : Nat} (h : ExBox W b e A cap) :
    W.cell? ⟨b, 0, none⟩ = some (.int .i64 e.op) ∧ W.cell? ⟨b, 1, none⟩ = some (.string e.name) ∧ W.cell? ⟨b, 2, none⟩ = some (.int .i64 e.num) ∧ W.cell? ⟨b, 3, none⟩ = some (.slice A e.k cap) ∧
    W.cell? ⟨b, 4, none⟩ = some (.int .i64 e.line) ∧ W.cell? ⟨b, 5, none⟩ = some (.int .i64 e.col) := by
  unfold ExBox at h
  refine ⟨?_, ?_, ?_, ?_, ?_, ?_⟩ <;> simp [World.cell?, h]

theorem KeepEx.box {B b : Nat} {t : TypeId} {W : World} {v : Value} (h : Boxed W b t v) (hB : B ≤ b) (ht : t ≠ 27) (u : Value) : KeepEx B W (W.setCell ⟨b, 0, none⟩ u) :=
  ⟨(Below.refl _ _).setCell (p := ⟨b, 0, none⟩) hB u, fun k cs hk => by
    have hne : k ≠ b := fun e => by
      subst e
      rw [show W.heap[k]? = _ from h] at hk
      injection hk with hk; injection hk with _ hk; exact ht hk
    rw [Below.heap_setCell W ⟨b, 0, none⟩ u k hne]; exact hk⟩

def plainE (e : Ex) : Bool := plainOf e.op e.name e.num e.k
/-- is an expression right? -/
def Ex.right (e : Ex) : Bool := e.pre.all plainE && decide (e.height ≤ 30)

end Go.Proofs.Ytnlikhjmmnaknaa
/-
  The walk of the reference's List.
-/
namespace Go.Proofs.Ytnlikhjmmnaknaa
open Go.RowKit

theorem Ex.info : (Try.prog.info? 27).map (fun i => (i.zero, i.size, i.bytes)) = some (some (.agg #[.int .i64 0, .string ⟨#[]⟩, .int .i64 0, .slice none 0 0, .int .i64 0, .int .i64 0]), 6, 72) := by kernel_rfl

/-- an expression's cells -/
def Loc.cells {B : Nat} {w : World} (x : Loc B w) : List Value := [.int .i64 x.1.1.op, .string x.1.1.name, .int .i64 x.1.1.num, .slice x.1.2.1 x.1.1.k x.1.2.2, .int .i64 x.1.1.line, .int .i64 x.1.1.col]

theorem flat_len {B : Nat} {w : World} (ys : List (Loc B w)) : (ys.flatMap Loc.cells).length = ys.length * 6 := by
  induction ys with
  | nil => rfl
  | cons y ys ih => simp only [List.flatMap_cons, List.length_append, ih, Loc.cells, List.length_cons, List.length_nil]; omega
theorem flat_one {B : Nat} {w : World} (ys : List (Loc B w)) : ∀ u ∈ ys.flatMap Loc.cells, u.oneCell' = true := by
  intro u hu
  obtain ⟨y, _, hy⟩ := List.mem_flatMap.1 hu
  simp only [Loc.cells, List.mem_cons, List.not_mem_nil, or_false] at hy
  rcases hy with rfl | rfl | rfl | rfl | rfl | rfl <;> rfl
theorem flatTo_sum {α : Type} (f : Nat → List α) (k : Nat) : (flatTo f k).length = sumTo (fun i => (f i).length) k := by
  induction k with
  | zero => rfl
  | succ k ih => rw [flatTo_succ, List.length_append, ih, sumTo_succ]
theorem sumTo_congr {f g : Nat → Nat} (k : Nat) (h : ∀ i, i < k → f i = g i) : sumTo f k = sumTo g k := by
  induction k with
  | zero => rfl
  | succ k ih => rw [sumTo_succ, sumTo_succ, ih (fun i hi => h i (by omega)), h k (by omega)]
theorem pre_len : ∀ e : Ex, e.pre.length = e.size := by
  intro e
  induction e with
  | junk => rfl
  | mk op name n k arg l c ih =>
    rw [Ex.pre, Ex.size, List.length_cons, flatTo_sum, sumTo_congr k (fun i _ => ih i)]; omega
theorem size_pos {B : Nat} {w : World} {e : Ex} {A : Option Addr} {cap : Nat} (h : ExAt B w e A cap) : 0 < e.size := by
  cases e with
  | junk => exact h.elim
  | mk op name n k arg l c => simp only [Ex.size]; omega
theorem grown_of_below {w w' : World} (h : Below w.heap.size w w') : w.grownBy w' none := ⟨h.os, h.tape, h.output, h.size, fun i hi _ => h.block i hi⟩

theorem own_base {w : World} {base base' : Nat} {e : TypeId} {size : Nat} {v : Value} {n : Nat} {xs : List Value} (h : w.ownsRow base e size v n xs) (hb : base' ≤ base) : w.ownsRow base' e size v n xs := by
  refine ⟨h.1, ?_⟩
  rcases h.2 with h0 | ⟨g, cap, cur, h1, h2, h3⟩
  · exact .inl h0
  · exact .inr ⟨g, cap, cur, h1, by omega, h3⟩

/-- what List comes to -/
def Listed {B : Nat} {w0 : World} (e : Ex) (w : World) (r : Ending) (w' : World) : Prop :=
  ∃ (ys : List (Loc B w0)) (g c : Nat), r = .returned (.slice (some ⟨g, 0, none⟩) ys.length c) ∧ ys.map (·.e) = e.pre ∧ w'.ownsRow w.heap.size 27 6 (.slice (some ⟨g, 0, none⟩) ys.length c) ys.length (ys.flatMap Loc.cells) ∧ Below w.heap.size w w'

set_option maxHeartbeats 1000000 in
theorem rlist_any (B : Nat) (w0 : World) (hB0 : B ≤ w0.heap.size) (e : Ex) : ∀ (A : Option Addr) (cap : Nat) (w : World), ExAt B w0 e A cap → Below B w0 w → e.size ≤ 1000000 →
    Calls Try.prog 20 #[e.val A cap] w (Listed (B := B) (w0 := w0) e w) := by
  induction e with
  | junk => intro A cap w h; exact h.elim
  | mk op name n k arg l c ih =>
    intro A cap w hE hBw hsize
    have hx : ∃ x : Loc B w0, x.e = .mk op name n k arg l c ∧ x.cells = [.int .i64 op, .string name, .int .i64 n, .slice A k cap, .int .i64 l, .int .i64 c] := ⟨⟨(_, A, cap), hE⟩, rfl, rfl⟩
    obtain ⟨x, hxe, hxc⟩ := hx
    have HXE := hid hxe
    have HXC := hid hxc
    clear hxe hxc
    obtain ⟨⟨_, _, _, _, _, hk, hcap⟩, hargs⟩ := hE
    simp only [Ex.val, Ex.op, Ex.name, Ex.num, Ex.k, Ex.line, Ex.col]
    unfold maxLen at hcap
    have hcap' : (k : Int) ≤ 9223372036854775807 := by omega
    have hBs := Nat.le_trans hB0 hBw.size
    obtain ⟨i0, hi, hz0, hz1, hz2⟩ := info_parts Ex.info
    go_enter Try.func20, Try.ntmps20
    go_wp2_with fail
    go_loopw [3, 4] (fun v i wr => ∃ (j : Nat) (ys : List (Loc B w0)) (g cp : Nat), j ≤ k ∧ i = .int .i64 j ∧ v = .slice (some ⟨g, 0, none⟩) (ys.length + 1) cp ∧ Hid (ys.map (·.e) = flatTo (fun i => (arg i).pre) j) ∧
      wr.ownsRow (w.heap.size + 1) 27 6 (.slice (some ⟨g, 0, none⟩) (ys.length + 1) cp) (ys.length + 1) ((x :: ys).flatMap Loc.cells) ∧ Below (w.heap.size + 1) (w.alloc (.cells #[.int .i64 op, .string name, .int .i64 n, .slice A k cap, .int .i64 l, .int .i64 c] 27)) wr) (fun _ i _ => k - (intOf i).toNat)
    case atStart =>
      refine ⟨0, [], w.heap.size + 1, 1, by omega, rfl, rfl, rfl, ?_, (Below.refl _ _).alloc (by simp) _⟩
      have h := World.ownsRow_lit (base := w.heap.size + 1) (e := 27) (size := 6) (w.alloc (.cells #[.int .i64 op, .string name, .int .i64 n, .slice A k cap, .int .i64 l, .int .i64 c] 27)) #[.int .i64 op, .string name, .int .i64 n, .slice A k cap, .int .i64 l, .int .i64 c] 1 (by simp) (by unfold maxLen; omega) rfl
      rw [World.size_alloc] at h
      simpa [HXC.out] using h
    case round =>
      obtain ⟨j, ys, g, cp, hj, rfl, rfl, hys, hown, hbel⟩ := hrel
      have hsl := boxed_cell hbel 3
      have hsz := boxed_size hbel
      have hw := boxed_below hbel
      have hwB := hBw.trans (hw.mono hBs)
      by_cases hlt : j < k
      · obtain ⟨b, o, A', cap', rfl, hb, hcells, hin⟩ := hargs j hlt
        have hc := hcells.keep (w' := wr) fun i => hwB.cell (p := ⟨b, i, none⟩) (by simp; omega)
        obtain ⟨c0, c1, c2, c3, c4, c5⟩ := hc
        clear hcells
        have hsum : Hid (ys.length + (arg j).pre.length < 1000000) := by
          have h1 : ys.length = (flatTo (fun i => (arg i).pre) j).length := by rw [← hys.out, List.length_map]
          have h2 := flatTo_le (f := fun i => (arg i).pre) (show j + 1 ≤ k from hlt)
          have h3 := pre_len (.mk op name n k arg l c)
          rw [Ex.pre, List.length_cons] at h3
          rw [flatTo_succ, List.length_append] at h2
          show _ < _
          omega
        have hsj : (arg j).size ≤ 1000000 := by have := hsum.out; rw [pre_len] at this; omega
        go_wp2_with fail
        refine (ih j A' cap' _ hin hwB hsj).mono ?_
        rintro r w1 ⟨zs, g1, c1', rfl, hzs, hown1, hb1⟩
        have hzl : zs.length = (arg j).pre.length := by rw [← hzs, List.length_map]
        have hzp : 0 < zs.length := by rw [hzl, pre_len]; exact size_pos hin
        have hsum' : ys.length + zs.length < 1000000 := by rw [hzl]; exact hsum.out
        have hownk := hown.kept (grown_of_below hb1) (.inr (by simp [Value.ownBlock]))
        have HZS := hid hzs
        clear hzs hzl hsum
        have hs1 := hb1.size
        go_wp2_with (at_builtin; refine wpList_append_lies _ rfl _ _ _ rfl (w.heap.size + 1) 27 i0 _ 6 72 Try.underlying23 hi hz0 hz1 hz2 rfl (by omega) _ _ _ (by rfl) hownk ⟨g1, 0, none⟩ zs.length c1' (zs.flatMap Loc.cells) (by rfl) (flat_len zs) (hown1.cells rfl) (flat_one zs) (by omega) (by unfold maxLen; omega) (by omega) (by omega) _ rfl ?_; intro g2 cap2 w2 hown2 hgrow2 hat2 hlt2)
        have hbw2 : Below (w.heap.size + 1) wr w2 := (hb1.mono (by omega)).grown hgrow2 (by omega) (fun k hk => by
          have := (hownk.lt k (by rw [← hk])).1
          exact this)
        go_roundw
        case rel =>
          refine ⟨j + 1, ys ++ zs, g2, cap2, by omega, by go_num, ?_, ?_, ?_, hbel.trans hbw2⟩
          · rw [show (ys ++ zs).length + 1 = ys.length + 1 + zs.length by rw [List.length_append]; omega]
          · show _ = _
            rw [List.map_append, hys.out, HZS.out, flatTo_succ]
          · have e1 : (ys ++ zs).length + 1 = ys.length + 1 + zs.length := by rw [List.length_append]; omega
            rw [e1]
            simpa using hown2
        case measure => simp [intOf]; omega
      · have : j = k := by omega
        subst this
        go_wp2_with fail
        go_ret
        refine ⟨x :: ys, g, cp, rfl, by simp [HXE.out, hys.out, Ex.pre], ?_, hw⟩
        exact own_base hown (by omega)
end Go.Proofs.Ytnlikhjmmnaknaa
/-
  The walk of the reference's Right.
-/
namespace Go.Proofs.Ytnlikhjmmnaknaa
open Go.RowKit

theorem flat_get {B : Nat} {w : World} (ys : List (Loc B w)) (j : Nat) (h : j < ys.length) (i : Nat) (hi : i < 6) : (ys.flatMap Loc.cells)[j * 6 + i]? = (ys[j]).cells[i]? := by
  induction ys generalizing j with
  | nil => simp at h
  | cons y ys ih =>
    have hl : y.cells.length = 6 := rfl
    cases j with
    | zero => rw [List.flatMap_cons, List.getElem?_append_left (by omega)]; simp
    | succ j =>
      rw [List.flatMap_cons, List.getElem?_append_right (by omega), show (j + 1) * 6 + i - y.cells.length = j * 6 + i by omega, ih j (by simpa using h)]
      simp

theorem row_cells {B : Nat} {w0 w : World} {base g n c : Nat} {ys : List (Loc B w0)} (h : w.ownsRow base 27 6 (.slice (some ⟨g, 0, none⟩) n c) n (ys.flatMap Loc.cells)) (hn : n = ys.length) (j : Nat) (hj : j < ys.length) :
    CellsAt w g (j * 6) (ys[j]).1.1 (ys[j]).1.2.1 (ys[j]).1.2.2 := by
  subst hn
  have hc : ∀ i, i < 6 → w.cell? ⟨g, j * 6 + i, none⟩ = (ys[j]).cells[i]? := fun i hi => by
    rw [h.cellAt (j * 6 + i) (by omega), flat_get ys j hj i hi]
  exact ⟨hc 0 (by omega), hc 1 (by omega), hc 2 (by omega), hc 3 (by omega), hc 4 (by omega), hc 5 (by omega)⟩

theorem short_pre : ∀ e : Ex, e.short → ∀ x ∈ e.pre, x.name.size ≤ 30 := by
  intro e
  induction e with
  | junk => intro _ x hx; simp [Ex.pre] at hx
  | mk op name n k arg l c ih =>
    rintro ⟨h0, h⟩ x hx
    rw [Ex.pre, List.mem_cons] at hx
    rcases hx with rfl | hx
    · exact h0
    · have : ∀ m, m ≤ k → x ∈ flatTo (fun i => (arg i).pre) m → ∃ i, i < m ∧ x ∈ (arg i).pre := by
        intro m
        induction m with
        | zero => intro _ h; simp [flatTo] at h
        | succ m ihm =>
          intro hm h
          rw [flatTo_succ, List.mem_append] at h
          rcases h with h | h
          · obtain ⟨i, hi, hx⟩ := ihm (by omega) h; exact ⟨i, by omega, hx⟩
          · exact ⟨m, by omega, h⟩
      obtain ⟨i, hi, hx⟩ := this k (Nat.le_refl _) hx
      exact ih i (h i hi) x hx

end Go.Proofs.Ytnlikhjmmnaknaa
