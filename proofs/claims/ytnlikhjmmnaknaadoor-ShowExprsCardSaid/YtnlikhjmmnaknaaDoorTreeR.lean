/-
  The iterator over an expression and all within it: its contract.
-/
import Derived.RangeFuncNested
import Derived.RangeFuncBound
import Derived.RangeFuncCalls
import Derived.RangeFuncLeaves
import Derived.Shelf.Abstract
import Derived.OwnWalkIn
import Derived.TacticsInMore
import Derived.LoopNIn
import Derived.LoopIn
import Derived.Test.YtnlikhjmmnaknaaDoorTreeW3
import Derived.Test.YtnlikhjmmnaknaaDoorPlainW3
namespace Go.Proofs.YtnlikhjmmnaknaaDoor
open Go.RowKit Go.Shelf
attribute [local go_sem] Oper.semAt_some

def flatTo {α : Type} (f : Nat → List α) : Nat → List α
  | 0 => []
  | n + 1 => flatTo f n ++ f n
theorem flatTo_succ {α : Type} (f : Nat → List α) (k : Nat) : flatTo f (k + 1) = flatTo f k ++ f k := rfl
theorem flatTo_prefix {α : Type} {f : Nat → List α} {k j : Nat} (h : j ≤ k) : flatTo f j <+: flatTo f k := by
  induction k with
  | zero => have : j = 0 := by omega
            subst this; exact List.prefix_refl _
  | succ k ih =>
    by_cases hj : j = k + 1
    · subst hj; exact List.prefix_refl _
    · exact (ih (by omega)).trans (by rw [flatTo_succ]; exact List.prefix_append _ _)
theorem flatTo_le {α : Type} {f : Nat → List α} {k j : Nat} (h : j ≤ k) : (flatTo f j).length ≤ (flatTo f k).length := (flatTo_prefix h).length_le
/-- an expression and all within it, in order -/
def Ex.pre : Ex → List Ex
  | .junk => []
  | .mk op name n k arg l c => .mk op name n k arg l c :: flatTo (fun i => (arg i).pre) k

/-- An expression that lies in a world, below a block. -/
def Loc (B : Nat) (w : World) : Type := { x : Ex × Option Addr × Nat // ExAt B w x.1 x.2.1 x.2.2 }
def Loc.e {B : Nat} {w : World} (x : Loc B w) : Ex := x.1.1
def Loc.val {B : Nat} {w : World} (x : Loc B w) : Value := x.1.1.val x.1.2.1 x.1.2.2

theorem room_none {F : Fence} (hd : F.depth = none) (k : Nat) : F.room k := fun d h => by rw [hd] at h; cases h
theorem round_any {F : Fence} (hd : F.depth = none) {m m' : Nat} {P : Program} {l : Nat} {f : FuncId} {tmps : Array Value} {assign body : Code} {w : World} {R : Ending → World → Prop}
    (h : RoundIn F m P l f tmps assign body w R) : RoundIn F m' P l f tmps assign body w R := ⟨h.1, fun c cs _ => h.2 c cs (room_none hd _)⟩
theorem yield_any {F : Fence} (hd : F.depth = none) {m : Nat} (m' : Nat) {P : Program} {l : Nat} {args : Array Value} {W : World} {R : Ending → World → Prop} (h : YieldAt F m P l args W R) : YieldAt F m' P l args W R := by
  obtain ⟨fn, tmps, assign, body, hy, hR⟩ := h
  exact ⟨fn, tmps, assign, body, hy, round_any hd hR⟩

/-- What a round keeps: what lies below a block; every block of expressions' cells. -/
structure KeepEx (B : Nat) (W W' : World) : Prop where
  below : Below B W W'
  ex : ∀ (k : Nat) (cs : Array Value), W.heap[k]? = some (.cells cs 26 (0, 0)) → W'.heap[k]? = some (.cells cs 26 (0, 0))
theorem KeepEx.refl (B : Nat) (W : World) : KeepEx B W W := ⟨Below.refl _ _, fun _ _ h => h⟩
theorem KeepEx.trans {B : Nat} {a b c : World} (h : KeepEx B a b) (k : KeepEx B b c) : KeepEx B a c := ⟨h.below.trans k.below, fun i cs hi => k.ex i cs (h.ex i cs hi)⟩
theorem KeepEx.alloc {B : Nat} {a w : World} (h : KeepEx B a w) (hB : B ≤ w.heap.size) (o : Obj) : KeepEx B a (w.alloc o) :=
  ⟨h.below.alloc hB o, fun i cs hi => by
    have h1 := h.ex i cs hi
    have hlt : i < w.heap.size := (Array.getElem?_eq_some_iff.1 h1).1
    exact (Below.heap_alloc w o i hlt).trans h1⟩
theorem KeepEx.boxed {B : Nat} {w wr : World} {cs : Array Value} (h : KeepEx B (w.alloc (.cells cs 26)) wr) (i : Nat) : wr.cell? ⟨w.heap.size, i, none⟩ = cs[i]? := by
  have := h.ex w.heap.size cs (World.alloc_heap_new w _)
  simp [World.cell?, this]
theorem keepEx_t {B : Nat} : ∀ {a b c : World}, KeepEx B a b → KeepEx B b c → KeepEx B a c := KeepEx.trans
theorem keepEx_b {B : Nat} {w : World} (hB : B ≤ w.heap.size) : ∀ (W : World) (l : Nat) (o o' : Obj), w.heap.size ≤ l → W.heap[l]? = some o → o.isCells = false → o.isWalk = false → KeepEx B W (W.putObj l o') := fun W l o o' hl ho hc hw =>
  ⟨belowK_b hB W l o o' hl ho hc hw, fun i cs hi => by
    have hne : i ≠ l := fun e => by subst e; rw [hi] at ho; cases ho; cases hc
    rw [World.putObj_heap_other hne]; exact hi⟩

/-- what the walk over an expression comes to -/
def Walked {B : Nat} {w0 : World} (J Jx : List (Loc B w0) → World → Prop) (e : Ex) (pre : List (Loc B w0)) (W : World) (r : Ending) (W' : World) : Prop :=
  (r = .returned (.bool true) ∧ ∃ ys : List (Loc B w0), ys.map (·.e) = e.pre ∧ J (pre ++ ys) W' ∧ KeepEx B W W') ∨
  (r = .returned (.bool false) ∧ ∃ ys : List (Loc B w0), ys.map (·.e) <+: e.pre ∧ Jx (pre ++ ys) W')

set_option maxRecDepth 100000 in
set_option maxHeartbeats 1000000 in
theorem treeWalk_any (B : Nat) (w0 : World) (hB0 : B ≤ w0.heap.size) (l N B0 : Nat) (J Jx : List (Loc B w0) → World → Prop) (hJ : AbidesFrom B0 J)
    (hY : ∀ m pre x W, J pre W → pre.length < N → YieldAt Fence.wide m Tryd.prog l #[x.val] W fun e W' =>
      (e = .returned (.bool true) ∧ J (pre ++ [x]) W' ∧ KeepEx B W W') ∨ (e = .returned (.bool false) ∧ Jx (pre ++ [x]) W')) (e : Ex) :
    ∀ (n : Nat) (A : Option Addr) (cap : Nat) (pre : List (Loc B w0)) (W : World), ExAt B w0 e A cap → Below B w0 W → J pre W → pre.length + e.pre.length ≤ N →
      CallsIn Fence.wide n Tryd.prog 52 #[e.val A cap, .func (.yield l) #[] #[]] W (Walked J Jx e pre W) := by
  induction e with
  | junk => intro n A cap pre W h; exact h.elim
  | mk op name nn k arg ll c ih =>
    intro n A cap pre W hE hBW hJp hN
    have hBs := Nat.le_trans hB0 hBW.size
    have hdd : ∀ k : Nat, (Fence.wide.depth.isSome = true → 1 ≤ k) := fun k h => by cases h
    have hx : ∃ x : Loc B w0, x.e = .mk op name nn k arg ll c ∧ x.val = (Ex.mk op name nn k arg ll c).val A cap := ⟨⟨(_, A, cap), hE⟩, rfl, rfl⟩
    obtain ⟨x, hxe, hxv⟩ := hx
    have hxe' := hid hxe
    clear hxe
    obtain ⟨⟨_, _, _, _, _, hk, hcap⟩, hargs⟩ := hE
    unfold maxLen at hcap
    simp only [Ex.val, Ex.op, Ex.name, Ex.num, Ex.k, Ex.line, Ex.col] at hxv ⊢
    have hJ1 : J pre (W.alloc (.cells #[.int .i64 op, .string name, .int .i64 nn, .slice A k cap, .int .i64 ll, .int .i64 c] 26)) := hJ pre W _ none hJp (World.grownBy_alloc W _ none) (fun r e => by cases e)
    obtain ⟨fn, tmps, assign, body, hy, hR⟩ := hY (n - 1) pre x _ hJ1 (by simp [Ex.pre] at hN; omega)
    rw [hxv] at hy
    clear hxv hY hJ1
    refine callsIn_of_wp Tryd.func52 rfl trivial ?_ rfl
    simp only [Tryd.ntmps52, List.size_toArray, List.length_cons, List.length_nil, Nat.reduceAdd, Nat.reduceSub, Array.replicate_succ, Array.replicate_zero, List.push_toArray, List.append_toArray, List.nil_append, List.cons_append]
    gi_wp2_with ((try refine ⟨hdd _, ?_⟩); refine hR.mono ?_; clear hR; rintro e W2 (⟨rfl, hJ2, hb2⟩ | ⟨rfl, hx2⟩); have hsl := hb2.boxed 3)
    · have hcap' : (k : Int) ≤ 9223372036854775807 := by omega
      gi_loopw [6, 14] (fun v i wr => ∃ (j : Nat) (ys : List (Loc B w0)), j ≤ k ∧ i = .int .i64 j ∧ Hid (ys.map (·.e) = flatTo (fun i => (arg i).pre) j) ∧ J (pre ++ x :: ys) wr ∧ KeepEx B W wr) (fun _ i _ => k - (intOf i).toNat)
      case atStart => exact ⟨0, [], by omega, rfl, rfl, hJ2, ((KeepEx.refl _ _).alloc hBs _).trans hb2⟩
      case round =>
        obtain ⟨j, ys, hj, rfl, hys, hJw, hkw⟩ := hrel
        have hbw := hBW.trans hkw.below
        by_cases hlt : j < k
        · obtain ⟨b, o, A', cap', rfl, hb, hcells, hin⟩ := hargs j hlt
          have hc := hcells.keep (w' := wr) fun i => hbw.cell (p := ⟨b, i, none⟩) (by simp; omega)
          obtain ⟨c0, c1, c2, c3, c4, c5⟩ := hc
          clear hcells
          have hBr := Nat.le_trans hBs hkw.below.size
          have hflat := flatTo_le (f := fun i => (arg i).pre) (show j + 1 ≤ k from hlt)
          have hlen : (pre ++ x :: ys).length + (arg j).pre.length ≤ N := by
            have h1 : ys.length = (flatTo (fun i => (arg i).pre) j).length := by rw [← hys.out, List.length_map]
            simp only [Ex.pre, List.length_cons] at hN
            rw [flatTo_succ, List.length_append] at hflat
            simp only [List.length_append, List.length_cons]
            omega
          clear hflat
          gi_wp2_with fail
          refine ⟨trivial, hdd _, ?_⟩
          refine (ih j (n - 1) A' cap' (pre ++ x :: ys) _ hin (hbw.alloc hBr _) (hJ _ wr _ none hJw (World.grownBy_alloc wr _ none) (fun r e => by cases e)) hlen).mono ?_
          rintro e W3 (⟨rfl, zs, hzs, hJ3, hk3⟩ | ⟨rfl, zs, hzs, hx3⟩)
          · gi_wp2
            go_roundw
            case rel =>
              refine ⟨j + 1, ys ++ zs, by omega, by go_num, ?_, by simpa using hJ3, (hkw.alloc hBr _).trans hk3⟩
              show _ = _
              rw [List.map_append, hys.out, hzs, flatTo_succ]
            case measure => simp [intOf]; omega
          · gi_wp2
            go_ret
            refine .inr ⟨rfl, x :: (ys ++ zs), ?_, by simpa using hx3⟩
            obtain ⟨t, ht⟩ := hzs
            obtain ⟨t', ht'⟩ := flatTo_prefix (f := fun i => (arg i).pre) (show j + 1 ≤ k from hlt)
            refine ⟨t ++ t', ?_⟩
            simp only [List.map_cons, List.map_append, hys.out, hxe'.out, Ex.pre, List.cons_append]
            rw [flatTo_succ] at ht'
            rw [← ht', ← ht]
            simp
        · have : j = k := by omega
          subst this
          gi_wp2
          go_ret
          exact .inl ⟨rfl, x :: ys, by simp [hys.out, hxe'.out, Ex.pre], hJw, hkw⟩
    · go_ret
      exact .inr ⟨rfl, [x], by simp [hxe'.out, Ex.pre], hx2⟩
end Go.Proofs.YtnlikhjmmnaknaaDoor
