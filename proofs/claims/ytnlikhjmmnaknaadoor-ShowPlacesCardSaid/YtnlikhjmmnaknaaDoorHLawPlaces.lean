/-
  The walk of the statement ShowPlaces.
-/
import Derived.Test.YtnlikhjmmnaknaaDoorHMvP
import Derived.Test.YtnlikhjmmnaknaaDoorHLawShowS
import Derived.Test.YtnlikhjmmnaknaaDoorHSrcW3
namespace Go.Proofs.YtnlikhjmmnaknaaDoor
open Go.RowKit

theorem Eq.info : (Tryd.prog.info? 49).map (fun i => (i.zero, i.size, i.bytes)) = some (some (.agg #[.slice none 0 0, .int .i64 0, .string ⟨#[]⟩, .int .i64 0, .slice none 0 0, .int .i64 0, .int .i64 0, .int .i64 0, .int .i64 0]), 9, 112) := by kernel_rfl
theorem Node.info : (Tryd.prog.info? 46).map (fun i => (i.zero, i.size, i.bytes)) = some (some (.agg #[.string ⟨#[]⟩, .slice none 0 0, .slice none 0 0, .slice none 0 0, .slice none 0 0, .int .i64 0, .int .i64 0]), 7, 128) := by kernel_rfl

theorem cell_in {w : World} {b : Nat} {cs : Array Value} {T : TypeId} {fr : Nat × Nat} (hb : w.heap[b]? = some (.cells cs T fr)) (j : Nat) : w.cell? ⟨b, j, none⟩ = cs[j]? := by simp [World.cell?, hb]
/-- an equation, and where its parts lie -/
structure LEq where
  q : EqE
  S : Sl
  A : Option Addr
  cap : Nat
def LEq.cells (y : LEq) : List Value := [y.S.v y.q.left.length, .int .i64 y.q.right.op, .string y.q.right.name, .int .i64 y.q.right.num, .slice y.A y.q.right.k y.cap, .int .i64 y.q.right.line, .int .i64 y.q.right.col, .int .i64 y.q.line, .int .i64 y.q.col]
theorem LEq.len (y : LEq) : y.cells.length = 9 := rfl
theorem LEq.one (ys : List LEq) : ∀ u ∈ ys.flatMap LEq.cells, u.oneCell' = true := by
  intro u hu
  obtain ⟨y, _, hy⟩ := List.mem_flatMap.1 hu
  simp only [LEq.cells, List.mem_cons, List.not_mem_nil, or_false] at hy
  rcases hy with rfl | rfl | rfl | rfl | rfl | rfl | rfl | rfl | rfl <;> rfl
/-- a node, and where its parts lie -/
structure LNode where
  n : NodeE
  S : NSl
def LNode.cells (y : LNode) : List Value := [.string y.n.name, y.S.i.v y.n.ins.length, y.S.o.v y.n.outs.length, y.S.v.v y.n.vars.length, y.S.e.v y.n.eqs.length, .int .i64 y.n.line, .int .i64 y.n.col]
theorem LNode.len (y : LNode) : y.cells.length = 7 := rfl
theorem LNode.one (ys : List LNode) : ∀ u ∈ ys.flatMap LNode.cells, u.oneCell' = true := by
  intro u hu
  obtain ⟨y, _, hy⟩ := List.mem_flatMap.1 hu
  simp only [LNode.cells, List.mem_cons, List.not_mem_nil, or_false] at hy
  rcases hy with rfl | rfl | rfl | rfl | rfl | rfl | rfl <;> rfl

/-- a row of equations in a block of them; what their parts are lies below block B -/
structure EqRow (B : Nat) (w : World) (E : Sl) (qs : List EqE) : Prop where
  fits : E.fits qs.length
  at_ : ∀ j (h : j < qs.length), ∃ (g : Nat) (cs : Array Value) (fr : Nat × Nat) (S : Sl) (A : Option Addr) (cap : Nat), E.A = some ⟨g, 0, none⟩ ∧ w.heap[g]? = some (.cells cs 49 fr) ∧ EqIs B w qs[j] S A cap ∧ ∀ i, i < 9 → cs[j * 9 + i]? = (LEq.mk qs[j] S A cap).cells[i]?
/-- blocks of equations are kept -/
def EqKeep (w w' : World) : Prop := ∀ (k : Nat) (cs : Array Value) (fr : Nat × Nat), w.heap[k]? = some (.cells cs 49 fr) → w'.heap[k]? = some (.cells cs 49 fr)
theorem EqKeep.trans {a b c : World} (h : EqKeep a b) (k : EqKeep b c) : EqKeep a c := fun i cs fr hi => k i cs fr (h i cs fr hi)
theorem EqKeep.of_below {a b : World} (h : Below a.heap.size a b) : EqKeep a b := fun k _ _ hk => (h.block k (heap_lt hk)).trans hk
theorem EqRow.keep {B : Nat} {w w' : World} {E : Sl} {qs : List EqE} (h : EqRow B w E qs) (hb : Below B w w') (hk : EqKeep w w') : EqRow B w' E qs :=
  ⟨h.fits, fun j hj => by
    obtain ⟨g, cs, fr, S, A, cap, h1, h2, h3, h4⟩ := h.at_ j hj
    exact ⟨g, cs, fr, S, A, cap, h1, hk _ _ _ h2, h3.keep (same_below (Nat.le_refl _) hb), h4⟩⟩
theorem EqRow.sl {B : Nat} {w : World} {E : Sl} {qs : List EqE} (h : EqRow B w E qs) (hB : B ≤ w.heap.size) : SlAt 9 (EqAt w.heap.size w) E.A qs := fun j hj => by
  obtain ⟨g, cs, fr, S, A, cap, h1, h2, h3, h4⟩ := h.at_ j hj
  have hc : ∀ i, i < 9 → w.cell? ⟨g, 0 + j * 9 + i, none⟩ = (LEq.mk qs[j] S A cap).cells[i]? := fun i hi => by rw [Nat.zero_add, cell_in h2, h4 i hi]
  exact ⟨g, 0, h1, heap_lt h2, S, A, cap, ⟨hc 0 (by omega), hc 1 (by omega), hc 2 (by omega), hc 3 (by omega), hc 4 (by omega), hc 5 (by omega), hc 6 (by omega), hc 7 (by omega), hc 8 (by omega)⟩, h3.more hB⟩

/-- what a moved node has -/
structure MvAt (B : Nat) (w : World) (y : LNode) : Prop where
  name : y.n.name.size ≤ maxLen
  line : I64 y.n.line
  col : I64 y.n.col
  fi : y.S.i.fits y.n.ins.length
  fo : y.S.o.fits y.n.outs.length
  fv : y.S.v.fits y.n.vars.length
  ins : SlAt 5 (VarAt B w) y.S.i.A y.n.ins
  outs : SlAt 5 (VarAt B w) y.S.o.A y.n.outs
  vars : SlAt 5 (VarAt B w) y.S.v.A y.n.vars
  eqs : EqRow B w y.S.e y.n.eqs
theorem MvAt.keep {B : Nat} {w w' : World} {y : LNode} (h : MvAt B w y) (hb : Below B w w') (hk : EqKeep w w') : MvAt B w' y :=
  have hs := same_below (Nat.le_refl _) hb
  ⟨h.name, h.line, h.col, h.fi, h.fo, h.fv, h.ins.imp fun _ _ _ => VarAt.keep hs, h.outs.imp fun _ _ _ => VarAt.keep hs, h.vars.imp fun _ _ _ => VarAt.keep hs, h.eqs.keep hb hk⟩
theorem MvAt.is {B : Nat} {w : World} {y : LNode} (h : MvAt B w y) (hB : B ≤ w.heap.size) : NodeIs w.heap.size w y.n y.S :=
  ⟨h.name, h.line, h.col, h.fi, h.fo, h.fv, h.eqs.fits, h.ins.imp fun _ _ _ => VarAt.more hB, h.outs.imp fun _ _ _ => VarAt.more hB, h.vars.imp fun _ _ _ => VarAt.more hB, h.eqs.sl hB⟩

/-- an owned row, as it lies -/
theorem own_eqrow {B b0 : Nat} {w : World} {A : Option Addr} {c : Nat} {ys : List LEq} (h : w.ownsRow b0 49 9 (.slice A ys.length c) ys.length (ys.flatMap LEq.cells)) (hi : ∀ y ∈ ys, EqIs B w y.q y.S y.A y.cap) :
    EqRow B w ⟨A, c⟩ (ys.map (·.q)) := by
  rcases h.2 with ⟨h1, h2⟩ | ⟨g, cap, cur, h1, _, h3, h4, h5, h6, h7⟩
  · have h0 : ys = [] := List.length_eq_zero_iff.1 h2
    subst h0
    injection h1 with _ _ hc
    subst hc
    exact ⟨⟨Nat.le_refl _, Nat.zero_le _⟩, fun j hj => absurd hj (by simp)⟩
  · injection h1 with hA _ hc
    subst hA hc
    refine ⟨⟨by simpa using h4, h5⟩, fun j hj => ?_⟩
    have hj' : j < ys.length := by simpa using hj
    refine ⟨g, cur, (0, 0), ys[j].S, ys[j].A, ys[j].cap, rfl, h3, by simpa using hi _ (List.getElem_mem hj'), fun i hi9 => ?_⟩
    have h8 := flat_at LEq.cells 9 LEq.len ys j hj' i hi9
    rw [← h7, List.getElem?_take_of_lt (by omega)] at h8
    rw [Array.getElem?_toList] at h8
    rw [h8]
    simp
theorem own_src {B b0 : Nat} {w : World} {A : Option Addr} {c : Nat} {zs : List LNode} (h : w.ownsRow b0 46 7 (.slice A zs.length c) zs.length (zs.flatMap LNode.cells)) (hi : ∀ z ∈ zs, MvAt B w z) (hB : B ≤ w.heap.size) :
    SrcIs w.heap.size w (zs.map (·.n)) ⟨A, c⟩ := by
  rcases h.2 with ⟨h1, h2⟩ | ⟨g, cap, cur, h1, _, h3, h4, h5, h6, h7⟩
  · have h0 : zs = [] := List.length_eq_zero_iff.1 h2
    subst h0
    injection h1 with _ _ hc
    subst hc
    exact ⟨⟨Nat.le_refl _, Nat.zero_le _⟩, fun j hj => absurd hj (by simp)⟩
  · injection h1 with hA _ hc
    subst hA hc
    refine ⟨⟨by simpa using h4, h5⟩, fun j hj => ?_⟩
    have hj' : j < zs.length := by simpa using hj
    have hc : ∀ i, i < 7 → w.cell? ⟨g, 0 + j * 7 + i, none⟩ = (zs[j]).cells[i]? := fun i hi7 => by
      have h8 := flat_at LNode.cells 7 LNode.len zs j hj' i hi7
      rw [← h7, List.getElem?_take_of_lt (by omega), Array.getElem?_toList] at h8
      rw [Nat.zero_add, cell_in h3, h8]
    have he : (zs.map (·.n))[j] = zs[j].n := by simp
    rw [he]
    exact ⟨g, 0, rfl, heap_lt h3, zs[j].S, ⟨hc 0 (by omega), hc 1 (by omega), hc 2 (by omega), hc 3 (by omega), hc 4 (by omega), hc 5 (by omega), hc 6 (by omega)⟩, (hi _ (List.getElem_mem hj')).is hB⟩
theorem row_type {b0 : Nat} {w : World} {e : TypeId} {sz : Nat} {v : Value} {n : Nat} {xs : List Value} {k : Nat} {cs : Array Value} {t : TypeId} {fr : Nat × Nat} (h : w.ownsRow b0 e sz v n xs) (hk : w.heap[k]? = some (.cells cs t fr)) (ht : t ≠ e) : some k ≠ v.ownBlock := by
  rcases h.2 with ⟨h1, _⟩ | ⟨g, cap, cur, h1, _, h3, _⟩
  · subst h1; simp [Value.ownBlock]
  · subst h1
    intro he
    simp only [Value.ownBlock, Option.some.injEq] at he
    subst he
    rw [h3] at hk
    injection hk with hk
    injection hk with _ h8 _
    exact ht h8.symm
end Go.Proofs.YtnlikhjmmnaknaaDoor
