/-
  What all texts share: facts of parts of memory that are kept from world to world; slices and what lies in them.
-/
import Derived.Test.YtmdnmodjdgcmjaaDoorRows
import Derived.WalkKit
import Derived.WalkSpells
import Derived.WalkLawsBesides
import Derived.Deep.AppendLies
import Derived.RangeFuncRecord
namespace Go.Proofs.YtmdnmodjdgcmjaaDoor
open Go.RowKit

/-- a fact kept from the walk -/
theorem hid {p : Prop} (h : p) : Hid p := h
/-- what an int of Go may be -/
def I64 (x : Int) : Prop := -9223372036854775808 ≤ x ∧ x ≤ 9223372036854775807
/-- A boxed parameter: its cells in every later world, and what lies below it. -/
theorem boxed_cell {w wr : World} {cs : Array Value} {t : TypeId} (h : Below (w.heap.size + 1) (w.alloc (.cells cs t)) wr) (i : Nat) : wr.cell? ⟨w.heap.size, i, none⟩ = cs[i]? := by
  rw [h.cell (p := ⟨w.heap.size, i, none⟩) (by simp), World.cell?_alloc_new]
theorem boxed_below {w wr : World} {o : Obj} (h : Below (w.heap.size + 1) (w.alloc o) wr) : Below w.heap.size w wr :=
  ((Below.refl w.heap.size w).alloc (Nat.le_refl _) o).trans (h.mono (by omega))
theorem boxed_size {w wr : World} {o : Obj} (h : Below (w.heap.size + 1) (w.alloc o) wr) : w.heap.size < wr.heap.size := by
  have := h.size
  simp at this
  omega
theorem ret_bool {a b : Bool} (h : a = b) : Ending.returned (.bool a) = .returned (.bool b) := by rw [h]
theorem blk_set {w : World} {g : Nat} {cs : Array Value} {t : TypeId} {fr : Nat × Nat} (h : w.heap[g]? = some (.cells cs t fr)) (k : Nat) (v : Value) :
    (w.setCell ⟨g, k, none⟩ v).heap[g]? = some (.cells (cs.setIfInBounds k v) t fr) := by
  simp [World.setCell, Array.getElem?_modify, h]
theorem chg_set (w : World) (g k : Nat) (v : Value) : w.grownBy (w.setCell ⟨g, k, none⟩ v) (some g) :=
  ⟨rfl, rfl, rfl, by simp [World.setCell], fun i _ hne => Below.heap_setCell w ⟨g, k, none⟩ v i (fun e => hne (by rw [e]))⟩
theorem chg_drewN (w : World) (n : Nat) (row : Option Nat) : w.grownBy (w.drewN n) row := ⟨rfl, rfl, rfl, Nat.le_refl _, fun _ _ _ => rfl⟩
theorem row_base {w : World} {base base' : Nat} {e : TypeId} {size : Nat} {v : Value} {n : Nat} {xs : List Value} (h : w.ownsRow base e size v n xs) (hb : base' ≤ base) : w.ownsRow base' e size v n xs := by
  refine ⟨h.1, ?_⟩
  rcases h.2 with h0 | ⟨g, cap, cur, h1, h2, h3⟩
  · exact .inl h0
  · exact .inr ⟨g, cap, cur, h1, by omega, h3⟩
/-- the numbers from one on and below another -/
def Iv (lo hi : Nat) : Nat → Prop := fun n => lo ≤ n ∧ n < hi
theorem cell_lt {w : World} {b o : Nat} {v : Value} (h : w.cell? ⟨b, o, none⟩ = some v) : b < w.heap.size := by
  unfold World.cell? at h
  split at h
  · rename_i h1; exact (Array.getElem?_eq_some_iff.1 h1).1
  · cases h
theorem cell_kept {row : Option Nat} {b : Nat} {w w' : World} (hg : w.grownBy w' row) (hb : some b ≠ row) {o : Nat} {v : Value} (h : w.cell? ⟨b, o, none⟩ = some v) : w'.cell? ⟨b, o, none⟩ = some v := hg.cell h hb
theorem rows_at {α : Type} (cells : α → List Value) (sz : Nat) (hsz : ∀ y, (cells y).length = sz) (ys : List α) (j : Nat) (h : j < ys.length) (i : Nat) (hi : i < sz) : (ys.flatMap cells)[j * sz + i]? = (cells ys[j])[i]? := by
  induction ys generalizing j with
  | nil => simp at h
  | cons y ys ih =>
    have hl := hsz y
    cases j with
    | zero => rw [List.flatMap_cons, List.getElem?_append_left (by omega)]; simp
    | succ j =>
      rw [List.flatMap_cons, List.getElem?_append_right (by rw [hl, Nat.succ_mul]; omega), show (j + 1) * sz + i - (cells y).length = j * sz + i by rw [hl, Nat.succ_mul]; omega, ih j (by simpa using h)]
      simp
theorem rows_len {α : Type} (cells : α → List Value) (sz : Nat) (hsz : ∀ y, (cells y).length = sz) (ys : List α) : (ys.flatMap cells).length = ys.length * sz := by
  induction ys with
  | nil => simp
  | cons y ys ih => rw [List.flatMap_cons, List.length_append, ih, hsz, List.length_cons, Nat.succ_mul]; omega
theorem grown_refl (w : World) (row : Option Nat) : w.grownBy w row := ⟨rfl, rfl, rfl, Nat.le_refl _, fun _ _ _ => rfl⟩
theorem grown_trans {a b c : World} {P : Nat} (h : a.grownBy b (some P)) (k : b.grownBy c (some P)) : a.grownBy c (some P) :=
  ⟨k.os.trans h.os, k.tape.trans h.tape, k.output.trans h.output, Nat.le_trans h.size k.size, fun i hi hne => (k.block i (Nat.lt_of_lt_of_le hi h.size) hne).trans (h.block i hi hne)⟩
theorem grown_below {a b : World} (h : Below a.heap.size a b) (row : Option Nat) : a.grownBy b row := ⟨h.os, h.tape, h.output, h.size, fun i hi _ => h.block i hi⟩
theorem grown_alloc (w : World) (o : Obj) (row : Option Nat) : w.grownBy (w.alloc o) row := grown_below ((Below.refl _ _).alloc (Nat.le_refl _) o) row
theorem grown_set (w : World) (g k : Nat) (v : Value) : w.grownBy (w.setCell ⟨g, k, none⟩ v) (some g) := chg_set w g k v
/-- an append to a row of the call's own -/
theorem grown_own {a b c : World} {P : Nat} {row : Option Nat} (h : a.grownBy b (some P)) (k : b.grownBy c row) (hr : ∀ i, row = some i → a.heap.size ≤ i) : a.grownBy c (some P) :=
  ⟨k.os.trans h.os, k.tape.trans h.tape, k.output.trans h.output, Nat.le_trans h.size k.size, fun i hi hne => (k.block i (Nat.lt_of_lt_of_le hi h.size) (fun e => by have := hr i e.symm; omega)).trans (h.block i hi hne)⟩
theorem frozen_none {w : World} {T k : Nat} {cs : Array Value} {t : TypeId} (h : w.heap[T]? = some (.cells cs t (0, 0))) : w.frozen? ⟨T, k, none⟩ = false := by simp [World.frozen?, h]
theorem alloc_size (w : World) (o : Obj) : (w.alloc o).heap.size = w.heap.size + 1 := Array.size_push ..
/-- a goal at which the walk stands still -/
def Held (p : Prop) : Prop := p
theorem Held.stop {p : Prop} (h : Held p) : p := h
theorem Held.go {p : Prop} (h : p) : Held p := h
/-- a fact of some blocks -/
structure Kp where
  In : Nat → Prop
  Q : World → Prop
/-- .. it holds on while none of these blocks is written -/
def Kp.Ok (k : Kp) : Prop := ∀ (w w' : World) (row : Option Nat), (∀ n, k.In n → n < w.heap.size) → k.Q w → w.grownBy w' row → (∀ T, row = some T → ¬ k.In T) → k.Q w'
/-- .. and may be had from any world on -/
structure Kp.At (k : Kp) (b : Nat) (w : World) : Prop where
  lo : ∀ n, k.In n → b ≤ n
  hi : ∀ n, k.In n → n < w.heap.size
  q : k.Q w
  ok : k.Ok
def Kp.off (a b : Kp) : Prop := ∀ n, a.In n → ¬ b.In n
theorem Kp.off_symm {a b : Kp} (h : a.off b) : b.off a := fun n h1 h2 => h n h2 h1
/-- a block, whole -/
def blkK (T : Nat) (o : Obj) : Kp := ⟨fun n => n = T, fun w => w.heap[T]? = some o⟩
theorem blkK_ok (T : Nat) (o : Obj) : (blkK T o).Ok := fun _ _ _ _ hq hg hr =>
  (hg.block T (Array.getElem?_eq_some_iff.1 hq).1 (fun e => hr T e.symm rfl)).trans hq
/-- a row of the call's own -/
def rowK (w0 : World) (t : TypeId) (sz : Nat) (v : Value) (n : Nat) (xs : List Value) : Kp := ⟨fun n => v.ownBlock = some n, fun w => w.ownsRow w0.heap.size t sz v n xs⟩
theorem rowK_ok (w0 : World) (t : TypeId) (sz : Nat) (v : Value) (n : Nat) (xs : List Value) : (rowK w0 t sz v n xs).Ok := fun _ _ _ _ hq hg hr => by
  refine hq.kept hg ?_
  cases h : v.ownBlock with
  | none => exact .inl rfl
  | some g => exact .inr (fun e => hr g e.symm h)
/-- what is known in a world of what was made since another, with a state that lies below and one block that may be written -/
structure Fr (P : Option Nat) (S : World → Prop) (w0 w : World) (ks : List Kp) : Prop where
  st : S w
  ss : ∀ (w w' : World) (row : Option Nat), S w → w0.heap.size ≤ w.heap.size → w.grownBy w' row → (∀ T, row = some T → w0.heap.size ≤ T) → S w'
  gr : w0.grownBy w P
  lt : ∀ p, P = some p → p < w0.heap.size
  k : ∀ x ∈ ks, x.At w0.heap.size w
  ap : ks.Pairwise Kp.off
theorem grown_row {a b c : World} {P row : Option Nat} (h : a.grownBy b P) (k : b.grownBy c row) (hr : ∀ T, row = some T → a.heap.size ≤ T) : a.grownBy c P :=
  ⟨k.os.trans h.os, k.tape.trans h.tape, k.output.trans h.output, Nat.le_trans h.size k.size, fun i hi hne => (k.block i (Nat.lt_of_lt_of_le hi h.size) (fun e => by have := hr i e.symm; omega)).trans (h.block i hi hne)⟩
theorem grown_both {a b c : World} {P : Option Nat} (h : a.grownBy b P) (k : b.grownBy c P) : a.grownBy c P :=
  ⟨k.os.trans h.os, k.tape.trans h.tape, k.output.trans h.output, Nat.le_trans h.size k.size, fun i hi hne => (k.block i (Nat.lt_of_lt_of_le hi h.size) hne).trans (h.block i hi hne)⟩
theorem below_row {w w' : World} (h : Below w.heap.size w w') : w.grownBy w' none := grown_below h none
section
variable {P : Option Nat} {S : World → Prop} {w0 w w' : World} {ks : List Kp} {a b c d e f g : Kp} {x : Kp}
theorem Fr.start (h : S w) (hP : ∀ p, P = some p → p < w.heap.size) (ss : ∀ (w1 w' : World) (row : Option Nat), S w1 → w.heap.size ≤ w1.heap.size → w1.grownBy w' row → (∀ T, row = some T → w.heap.size ≤ T) → S w') : Fr P S w w [] :=
  ⟨h, ss, grown_refl _ _, hP, by simp, .nil⟩
/-- none of these blocks is written -/
theorem Fr.step (h : Fr P S w0 w ks) {row : Option Nat} (hg : w.grownBy w' row) (hr : ∀ T, row = some T → w0.heap.size ≤ T) (hk : ∀ x ∈ ks, ∀ T, row = some T → ¬ x.In T) : Fr P S w0 w' ks :=
  ⟨h.ss w w' row h.st h.gr.size hg hr, h.ss, grown_row h.gr hg hr, h.lt, fun x hx => by
    obtain ⟨h1, h3, h4, h5⟩ := h.k x hx
    exact ⟨h1, fun n hn => Nat.lt_of_lt_of_le (h3 n hn) hg.size, h5 w w' row h3 h4 hg (hk x hx), h5⟩, h.ap⟩
theorem Fr.below (h : Fr P S w0 w ks) (hb : Below w.heap.size w w') : Fr P S w0 w' ks := h.step (below_row hb) (by simp) (by simp)
/-- a call that writes the one block alone -/
theorem Fr.call {S' : World → Prop} (h : Fr P S w0 w ks) (hs : S' w') (ss : ∀ (w w' : World) (row : Option Nat), S' w → w0.heap.size ≤ w.heap.size → w.grownBy w' row → (∀ T, row = some T → w0.heap.size ≤ T) → S' w') (hg : w.grownBy w' P) : Fr P S' w0 w' ks :=
  ⟨hs, ss, grown_both h.gr hg, h.lt, fun x hx => by
    obtain ⟨h1, h3, h4, h5⟩ := h.k x hx
    exact ⟨h1, fun n hn => Nat.lt_of_lt_of_le (h3 n hn) hg.size, h5 w w' _ h3 h4 hg (fun T hT hn => by have := h.lt T hT; have := h1 T hn; omega), h5⟩, h.ap⟩
/-- a new fact of new blocks -/
theorem Fr.add (h : Fr P S w0 w ks) {n : Nat} (hx : x.At n w) (hn : w0.heap.size ≤ n) (hk : ∀ y ∈ ks, ∀ m, y.In m → m < n) : Fr P S w0 w (x :: ks) :=
  ⟨h.st, h.ss, h.gr, h.lt, fun y hy => by
    rcases List.mem_cons.1 hy with rfl | hy
    · exact ⟨fun m hm => Nat.le_trans hn (hx.lo m hm), hx.hi, hx.q, hx.ok⟩
    · exact h.k y hy, List.pairwise_cons.2 ⟨fun y hy m h1 h2 => by have := hk y hy m h2; have := hx.lo m h1; omega, h.ap⟩⟩
theorem Fr.alloc (h : Fr P S w0 w ks) (o : Obj) : Fr P S w0 (w.alloc o) (blkK w.heap.size o :: ks) := by
  have h1 := h.below ((Below.refl _ _).alloc (Nat.le_refl _) o)
  exact h1.add (x := blkK w.heap.size o) (n := w.heap.size) ⟨fun m hm => Nat.le_of_eq hm.symm, fun m hm => by have hm : m = _ := hm; rw [World.size_alloc]; omega, World.alloc_heap_new w o, blkK_ok _ _⟩ h.gr.size (fun y hy m hm => (h.k y hy).hi m hm)
/-- a walk that writes nothing that was there -/
theorem Fr.start0 (w : World) : Fr none (fun _ => True) w w [] := Fr.start trivial (by simp) (by simp)
theorem Fr.low (h : Fr none S w0 w ks) : Below w0.heap.size w0 w := ⟨h.gr.os, h.gr.tape, h.gr.output, h.gr.size, fun i hi => h.gr.block i hi (by simp)⟩
theorem Fr.perm {ks' : List Kp} (h : Fr P S w0 w ks) (hp : ks.Perm ks') : Fr P S w0 w ks' :=
  ⟨h.st, h.ss, h.gr, h.lt, fun x hx => h.k x (hp.mem_iff.2 hx), (hp.pairwise_iff (fun h => Kp.off_symm h)).1 h.ap⟩
theorem Fr.sub {ks' : List Kp} (h : Fr P S w0 w ks) (hp : ks'.Sublist ks) : Fr P S w0 w ks' :=
  ⟨h.st, h.ss, h.gr, h.lt, fun x hx => h.k x (hp.subset hx), h.ap.sublist hp⟩
/-- the head is written -/
theorem Fr.put {T : Nat} {o o' : Obj} (h : Fr P S w0 w (blkK T o :: ks)) (hg : w.grownBy w' (some T)) (ho : w'.heap[T]? = some o') : Fr P S w0 w' (blkK T o' :: ks) := by
  have h0 := h.k _ (.head _)
  have h1 := List.pairwise_cons.1 h.ap
  have h2 : Fr P S w0 w ks := h.sub (List.sublist_cons_self _ _)
  have h3 : Fr P S w0 w' ks := h2.step hg (fun U hU => by injection hU with hU; subst hU; exact h0.lo _ rfl) (fun y hy U hU => by injection hU with hU; subst hU; exact h1.1 y hy _ rfl)
  exact ⟨h3.st, h3.ss, h3.gr, h3.lt, fun y hy => by
    rcases List.mem_cons.1 hy with rfl | hy
    · exact ⟨h0.lo, fun n hn => Nat.lt_of_lt_of_le (h0.hi n hn) hg.size, ho, blkK_ok _ _⟩
    · exact h3.k y hy, List.pairwise_cons.2 ⟨h1.1, h3.ap⟩⟩
theorem Fr.set {T n : Nat} {cs : Array Value} {t : TypeId} {fr : Nat × Nat} (h : Fr P S w0 w (blkK T (.cells cs t fr) :: ks)) (v : Value) : Fr P S w0 (w.setCell ⟨T, n, none⟩ v) (blkK T (.cells (cs.setIfInBounds n v) t fr) :: ks) :=
  h.put (grown_set w T n v) (blk_set (h.k _ (.head _)).q n v)
/-- an append to the row at the head -/
theorem Fr.app {t : TypeId} {sz n m G cap : Nat} {v : Value} {xs ys : List Value} (h : Fr P S w0 w (rowK w0 t sz v n xs :: ks)) (hown : w'.ownsRow w0.heap.size t sz (.slice (some ⟨G, 0, none⟩) m cap) m ys) (hg : w.grownBy w' v.ownBlock) (hat : v.ownBlock = some G ∨ G = w.heap.size) (hlt : G < w'.heap.size) :
    Fr P S w0 w' (rowK w0 t sz (.slice (some ⟨G, 0, none⟩) m cap) m ys :: ks) := by
  have h0 := h.k _ (.head _)
  have h1 := List.pairwise_cons.1 h.ap
  have h2 : Fr P S w0 w ks := h.sub (List.sublist_cons_self _ _)
  have h3 : Fr P S w0 w' ks := h2.step hg (fun U hU => h0.lo U hU) (fun y hy U hU => h1.1 y hy U hU)
  have hG : w0.heap.size ≤ G := (hown.lt G rfl).1
  have hn : ∀ n, (rowK w0 t sz (.slice (some ⟨G, 0, none⟩) m cap) m ys).In n → n = G := fun n hn => by
    have hn : some G = some n := hn
    injection hn with hn
    exact hn.symm
  exact ⟨h3.st, h3.ss, h3.gr, h3.lt, fun y hy => by
    rcases List.mem_cons.1 hy with rfl | hy
    · exact ⟨fun n h => by rw [hn n h]; exact hG, fun n h => by rw [hn n h]; exact hlt, hown, rowK_ok _ _ _ _ _ _⟩
    · exact h3.k y hy, List.pairwise_cons.2 ⟨fun y hy n h => by
      rw [hn n h]
      rcases hat with hat | hat
      · exact h1.1 y hy G hat
      · intro h4
        have := (h2.k y hy).hi G h4
        omega, h3.ap⟩⟩
/-- a row that is nil -/
theorem Fr.nilRow (h : Fr P S w0 w ks) (t : TypeId) (sz : Nat) : Fr P S w0 w (rowK w0 t sz (.slice none 0 0) 0 [] :: ks) :=
  ⟨h.st, h.ss, h.gr, h.lt, fun y hy => by
    rcases List.mem_cons.1 hy with rfl | hy
    · exact ⟨(fun n hn => by cases hn), (fun n hn => by cases hn), World.ownsRow_nil _ _ _ _, rowK_ok _ _ _ _ _ _⟩
    · exact h.k y hy, List.pairwise_cons.2 ⟨(fun y hy n hn => by cases hn), h.ap⟩⟩
theorem Fr.rot1 (h : Fr P S w0 w (a :: b :: ks)) : Fr P S w0 w (b :: a :: ks) := h.perm (.swap _ _ _)
theorem Fr.rot2 (h : Fr P S w0 w (a :: b :: c :: ks)) : Fr P S w0 w (c :: a :: b :: ks) := h.perm ((List.Perm.cons _ (.swap _ _ _)).trans (.swap _ _ _))
theorem Fr.rot3 (h : Fr P S w0 w (a :: b :: c :: d :: ks)) : Fr P S w0 w (d :: a :: b :: c :: ks) := h.perm ((List.Perm.cons _ ((List.Perm.cons _ (.swap _ _ _)).trans (.swap _ _ _))).trans (.swap _ _ _))
theorem Fr.rot4 (h : Fr P S w0 w (a :: b :: c :: d :: e :: ks)) : Fr P S w0 w (e :: a :: b :: c :: d :: ks) := h.perm ((List.Perm.cons _ ((List.Perm.cons _ ((List.Perm.cons _ (.swap _ _ _)).trans (.swap _ _ _))).trans (.swap _ _ _))).trans (.swap _ _ _))
theorem Fr.rot5 (h : Fr P S w0 w (a :: b :: c :: d :: e :: f :: ks)) : Fr P S w0 w (f :: a :: b :: c :: d :: e :: ks) := h.perm ((List.Perm.cons _ ((List.Perm.cons _ ((List.Perm.cons _ ((List.Perm.cons _ (.swap _ _ _)).trans (.swap _ _ _))).trans (.swap _ _ _))).trans (.swap _ _ _))).trans (.swap _ _ _))
theorem Fr.rot6 (h : Fr P S w0 w (a :: b :: c :: d :: e :: f :: g :: ks)) : Fr P S w0 w (g :: a :: b :: c :: d :: e :: f :: ks) := h.perm ((List.Perm.cons _ ((List.Perm.cons _ ((List.Perm.cons _ ((List.Perm.cons _ ((List.Perm.cons _ (.swap _ _ _)).trans (.swap _ _ _))).trans (.swap _ _ _))).trans (.swap _ _ _))).trans (.swap _ _ _))).trans (.swap _ _ _))
theorem perm_last {α : Type} (xs : List α) (i : α) (ys : List α) : (xs ++ i :: ys).Perm (i :: (xs ++ ys)) := List.perm_middle
theorem Fr.rot7 {a b c d e f g i : Kp} (h : Fr P S w0 w (a :: b :: c :: d :: e :: f :: g :: i :: ks)) : Fr P S w0 w (i :: a :: b :: c :: d :: e :: f :: g :: ks) := h.perm (perm_last [a, b, c, d, e, f, g] i ks)
theorem Fr.rot8 {a b c d e f g i j : Kp} (h : Fr P S w0 w (a :: b :: c :: d :: e :: f :: g :: i :: j :: ks)) : Fr P S w0 w (j :: a :: b :: c :: d :: e :: f :: g :: i :: ks) := h.perm (perm_last [a, b, c, d, e, f, g, i] j ks)
theorem Fr.head (h : Fr P S w0 w (a :: ks)) : a.At w0.heap.size w := h.k _ (.head _)
theorem Fr.tail (h : Fr P S w0 w (a :: ks)) : Fr P S w0 w ks := h.sub (List.sublist_cons_self _ _)
theorem Fr.blk {T : Nat} {o : Obj} (h : Fr P S w0 w (blkK T o :: ks)) : w.heap[T]? = some o := h.head.q
/-- the walk's append: to the row behind the head, of what lies in the block at the head -/
theorem Fr.wpApp {Pr : Program} {ops : Array Oper} {rest : List Oper} {o : Oper} {a : Act} {Q : Exit → Act → World → Prop} {B : Nat} {cs : Array Value} {te : TypeId} {fr : Nat × Nat} {e : TypeId} {i : TypeInfo} {z : Value} {size bytes n m c : Nat} {v : Value} {xs : List Value}
    (f : Fr P S w0 w (blkK B (.cells cs te fr) :: rowK w0 e size v n xs :: ks)) (hgd : o.guard = none) (s x : Operand) (t : TypeId)
    (ho : o.op = .call { callee := .builtin .append, args := #[s, x], argTypes := #[t, t] })
    (ht : Pr.underlying t = some (.slice e)) (hi : Pr.info? e = some i) (hz : i.zero = some z) (hsize : i.size = size) (hby : i.bytes = bytes) (hzs : z.cells.size = size) (hsz : 0 < size)
    (hs : a.eval s = v) (hx : a.eval x = .slice (some ⟨B, 0, none⟩) m c) (hl : cs.toList.length = m * size) (h1 : ∀ u ∈ cs.toList, u.oneCell' = true) (hm : 0 < m) (h63 : n + m ≤ maxLen) (hbytes : (n + m) * bytes ≤ 140737488355328)
    (h : ∀ G cap w', Fr P S w0 w' (rowK w0 e size (.slice (some ⟨G, 0, none⟩) (n + m) cap) (n + m) (xs ++ cs.toList) :: blkK B (.cells cs te fr) :: ks) → wpList Pr ops Q rest (a.put o.dst (.slice (some ⟨G, 0, none⟩) (n + m) cap)) w') :
    wpList Pr ops Q (o :: rest) a w :=
  wpList_append_lies w hgd s x t ho w0.heap.size e i z size bytes ht hi hz hsize hby hzs hsz v n xs hs f.tail.head.q ⟨B, 0, none⟩ m c cs.toList hx hl (World.news_of_block f.blk) h1 hm h63 hbytes f.gr.size _ rfl fun G cap w' hown hg hat hlt => h G cap w' (f.rot1.app hown hg hat hlt)
/-- .. at a step of a region that draws its order -/
theorem Fr.stepApp {Pr : Program} {ops : Array Oper} {o : Oper} {a : Act} {K : Act → World → Prop} {Q : Exit → Act → World → Prop} {E : Prop} {B : Nat} {cs : Array Value} {te : TypeId} {fr : Nat × Nat} {e : TypeId} {i : TypeInfo} {z : Value} {size bytes n m c : Nat} {v : Value} {xs : List Value}
    (f : Fr P S w0 w (blkK B (.cells cs te fr) :: rowK w0 e size v n xs :: ks)) (hgd : o.guard = none) (s x : Operand) (t : TypeId)
    (ho : o.op = .call { callee := .builtin .append, args := #[s, x], argTypes := #[t, t] })
    (ht : Pr.underlying t = some (.slice e)) (hi : Pr.info? e = some i) (hz : i.zero = some z) (hsize : i.size = size) (hby : i.bytes = bytes) (hzs : z.cells.size = size) (hsz : 0 < size)
    (hs : a.eval s = v) (hx : a.eval x = .slice (some ⟨B, 0, none⟩) m c) (hl : cs.toList.length = m * size) (h1 : ∀ u ∈ cs.toList, u.oneCell' = true) (hm : 0 < m) (h63 : n + m ≤ maxLen) (hbytes : (n + m) * bytes ≤ 140737488355328)
    (h : ∀ G cap w', Fr P S w0 w' (rowK w0 e size (.slice (some ⟨G, 0, none⟩) (n + m) cap) (n + m) (xs ++ cs.toList) :: blkK B (.cells cs te fr) :: ks) → K (a.put o.dst (.slice (some ⟨G, 0, none⟩) (n + m) cap)) w') :
    if Region.wanted o (yielded ops a.tmps) = true then Oper.wp Pr o a w K Q else E :=
  step_append_lies w hgd s x t ho w0.heap.size e i z size bytes ht hi hz hsize hby hzs hsz v n xs hs f.tail.head.q ⟨B, 0, none⟩ m c cs.toList hx hl (World.news_of_block f.blk) h1 hm h63 hbytes f.gr.size _ rfl fun G cap w' hown hg hat hlt => h G cap w' (f.rot1.app hown hg hat hlt)
/-- a row that a call made -/
theorem Fr.addRow {t : TypeId} {sz n : Nat} {v : Value} {xs : List Value} (f : Fr none S w0 w ks) (hb : Below w.heap.size w w') (ho : w'.ownsRow w.heap.size t sz v n xs) : Fr none S w0 w' (rowK w0 t sz v n xs :: ks) := by
  refine (f.below hb).add (n := w.heap.size) ⟨fun n hn => (ho.lt n hn).1, fun n hn => (ho.lt n hn).2, row_base ho f.gr.size, rowK_ok _ _ _ _ _ _⟩ f.gr.size (fun y hy m hm => (f.k y hy).hi m hm)
end
theorem blk3 {w : World} {T : Nat} {v0 v1 v2 : Value} {t : TypeId} (h : w.heap[T]? = some (.cells #[v0, v1, v2] t (0, 0))) :
    w.cell? ⟨T, 0, none⟩ = some v0 ∧ w.cell? ⟨T, 1, none⟩ = some v1 ∧ w.cell? ⟨T, 2, none⟩ = some v2 ∧ w.frozen? ⟨T, 0, none⟩ = false ∧ w.frozen? ⟨T, 1, none⟩ = false ∧ w.frozen? ⟨T, 2, none⟩ = false :=
  ⟨Lib.cell_of_heap h 0, Lib.cell_of_heap h 1, Lib.cell_of_heap h 2, frozen_none h, frozen_none h, frozen_none h⟩
theorem Fr.set3 {P : Option Nat} {T : Nat} {S : World → Prop} {w0 w : World} {ks : List Kp} {a0 a1 a2 : Value} {t : TypeId} {fr : Nat × Nat} (h : Fr P S w0 w (blkK T (.cells #[a0, a1, a2] t fr) :: ks)) (v0 v1 v2 : Value) :
    Fr P S w0 (((w.setCell ⟨T, 0, none⟩ v0).setCell ⟨T, 1, none⟩ v1).setCell ⟨T, 2, none⟩ v2) (blkK T (.cells #[v0, v1, v2] t fr) :: ks) :=
  h.put (grown_trans (grown_set _ _ _ _) (grown_trans (grown_set _ _ _ _) (grown_set _ _ _ _))) (blk_set (blk_set (blk_set h.blk 0 v0) 1 v1) 2 v2)
theorem blk1 {w : World} {T : Nat} {v0 : Value} {t : TypeId} (h : w.heap[T]? = some (.cells #[v0] t (0, 0))) : w.cell? ⟨T, 0, none⟩ = some v0 ∧ w.frozen? ⟨T, 0, none⟩ = false := ⟨Lib.cell_of_heap h 0, frozen_none h⟩
theorem blk7 {w : World} {T : Nat} {v0 v1 v2 v3 v4 v5 v6 : Value} {t : TypeId} (h : w.heap[T]? = some (.cells #[v0, v1, v2, v3, v4, v5, v6] t (0, 0))) :
    w.cell? ⟨T, 0, none⟩ = some v0 ∧ w.cell? ⟨T, 1, none⟩ = some v1 ∧ w.cell? ⟨T, 2, none⟩ = some v2 ∧ w.cell? ⟨T, 3, none⟩ = some v3 ∧ w.cell? ⟨T, 4, none⟩ = some v4 ∧ w.cell? ⟨T, 5, none⟩ = some v5 ∧ w.cell? ⟨T, 6, none⟩ = some v6 ∧
    w.frozen? ⟨T, 0, none⟩ = false ∧ w.frozen? ⟨T, 1, none⟩ = false ∧ w.frozen? ⟨T, 2, none⟩ = false ∧ w.frozen? ⟨T, 3, none⟩ = false ∧ w.frozen? ⟨T, 4, none⟩ = false ∧ w.frozen? ⟨T, 5, none⟩ = false ∧ w.frozen? ⟨T, 6, none⟩ = false :=
  ⟨Lib.cell_of_heap h 0, Lib.cell_of_heap h 1, Lib.cell_of_heap h 2, Lib.cell_of_heap h 3, Lib.cell_of_heap h 4, Lib.cell_of_heap h 5, Lib.cell_of_heap h 6, frozen_none h, frozen_none h, frozen_none h, frozen_none h, frozen_none h, frozen_none h, frozen_none h⟩
theorem Fr.set7 {P : Option Nat} {T : Nat} {S : World → Prop} {w0 w : World} {ks : List Kp} {a0 a1 a2 a3 a4 a5 a6 : Value} {t : TypeId} {fr : Nat × Nat} (h : Fr P S w0 w (blkK T (.cells #[a0, a1, a2, a3, a4, a5, a6] t fr) :: ks)) (v0 v1 v2 v3 v4 v5 v6 : Value) :
    Fr P S w0 (((((((w.setCell ⟨T, 0, none⟩ v0).setCell ⟨T, 1, none⟩ v1).setCell ⟨T, 2, none⟩ v2).setCell ⟨T, 3, none⟩ v3).setCell ⟨T, 4, none⟩ v4).setCell ⟨T, 5, none⟩ v5).setCell ⟨T, 6, none⟩ v6) (blkK T (.cells #[v0, v1, v2, v3, v4, v5, v6] t fr) :: ks) := by
  have h0 := Fr.set (n := 0) h v0
  simp only [List.setIfInBounds_toArray, List.set_cons_zero] at h0
  have h1 := Fr.set (n := 1) h0 v1
  simp only [List.setIfInBounds_toArray, List.set_cons_zero, List.set_cons_succ] at h1
  have h2 := Fr.set (n := 2) h1 v2
  simp only [List.setIfInBounds_toArray, List.set_cons_zero, List.set_cons_succ] at h2
  have h3 := Fr.set (n := 3) h2 v3
  simp only [List.setIfInBounds_toArray, List.set_cons_zero, List.set_cons_succ] at h3
  have h4 := Fr.set (n := 4) h3 v4
  simp only [List.setIfInBounds_toArray, List.set_cons_zero, List.set_cons_succ] at h4
  have h5 := Fr.set (n := 5) h4 v5
  simp only [List.setIfInBounds_toArray, List.set_cons_zero, List.set_cons_succ] at h5
  have h6 := Fr.set (n := 6) h5 v6
  simp only [List.setIfInBounds_toArray, List.set_cons_zero, List.set_cons_succ] at h6
  exact h6
theorem blk9 {w : World} {T : Nat} {v0 v1 v2 v3 v4 v5 v6 v7 v8 : Value} {t : TypeId} (h : w.heap[T]? = some (.cells #[v0, v1, v2, v3, v4, v5, v6, v7, v8] t (0, 0))) :
    w.cell? ⟨T, 0, none⟩ = some v0 ∧ w.cell? ⟨T, 1, none⟩ = some v1 ∧ w.cell? ⟨T, 2, none⟩ = some v2 ∧ w.cell? ⟨T, 3, none⟩ = some v3 ∧ w.cell? ⟨T, 4, none⟩ = some v4 ∧ w.cell? ⟨T, 5, none⟩ = some v5 ∧ w.cell? ⟨T, 6, none⟩ = some v6 ∧ w.cell? ⟨T, 7, none⟩ = some v7 ∧ w.cell? ⟨T, 8, none⟩ = some v8 ∧
    w.frozen? ⟨T, 0, none⟩ = false ∧ w.frozen? ⟨T, 1, none⟩ = false ∧ w.frozen? ⟨T, 2, none⟩ = false ∧ w.frozen? ⟨T, 3, none⟩ = false ∧ w.frozen? ⟨T, 4, none⟩ = false ∧ w.frozen? ⟨T, 5, none⟩ = false ∧ w.frozen? ⟨T, 6, none⟩ = false ∧ w.frozen? ⟨T, 7, none⟩ = false ∧ w.frozen? ⟨T, 8, none⟩ = false :=
  ⟨Lib.cell_of_heap h 0, Lib.cell_of_heap h 1, Lib.cell_of_heap h 2, Lib.cell_of_heap h 3, Lib.cell_of_heap h 4, Lib.cell_of_heap h 5, Lib.cell_of_heap h 6, Lib.cell_of_heap h 7, Lib.cell_of_heap h 8, frozen_none h, frozen_none h, frozen_none h, frozen_none h, frozen_none h, frozen_none h, frozen_none h, frozen_none h, frozen_none h⟩
theorem Fr.set9 {P : Option Nat} {T : Nat} {S : World → Prop} {w0 w : World} {ks : List Kp} {a0 a1 a2 a3 a4 a5 a6 a7 a8 : Value} {t : TypeId} {fr : Nat × Nat} (h : Fr P S w0 w (blkK T (.cells #[a0, a1, a2, a3, a4, a5, a6, a7, a8] t fr) :: ks)) (v0 v1 v2 v3 v4 v5 v6 v7 v8 : Value) :
    Fr P S w0 (((((((((w.setCell ⟨T, 0, none⟩ v0).setCell ⟨T, 1, none⟩ v1).setCell ⟨T, 2, none⟩ v2).setCell ⟨T, 3, none⟩ v3).setCell ⟨T, 4, none⟩ v4).setCell ⟨T, 5, none⟩ v5).setCell ⟨T, 6, none⟩ v6).setCell ⟨T, 7, none⟩ v7).setCell ⟨T, 8, none⟩ v8) (blkK T (.cells #[v0, v1, v2, v3, v4, v5, v6, v7, v8] t fr) :: ks) := by
  have h0 := Fr.set (n := 0) h v0
  simp only [List.setIfInBounds_toArray, List.set_cons_zero] at h0
  have h1 := Fr.set (n := 1) h0 v1
  simp only [List.setIfInBounds_toArray, List.set_cons_zero, List.set_cons_succ] at h1
  have h2 := Fr.set (n := 2) h1 v2
  simp only [List.setIfInBounds_toArray, List.set_cons_zero, List.set_cons_succ] at h2
  have h3 := Fr.set (n := 3) h2 v3
  simp only [List.setIfInBounds_toArray, List.set_cons_zero, List.set_cons_succ] at h3
  have h4 := Fr.set (n := 4) h3 v4
  simp only [List.setIfInBounds_toArray, List.set_cons_zero, List.set_cons_succ] at h4
  have h5 := Fr.set (n := 5) h4 v5
  simp only [List.setIfInBounds_toArray, List.set_cons_zero, List.set_cons_succ] at h5
  have h6 := Fr.set (n := 6) h5 v6
  simp only [List.setIfInBounds_toArray, List.set_cons_zero, List.set_cons_succ] at h6
  have h7 := Fr.set (n := 7) h6 v7
  simp only [List.setIfInBounds_toArray, List.set_cons_zero, List.set_cons_succ] at h7
  have h8 := Fr.set (n := 8) h7 v8
  simp only [List.setIfInBounds_toArray, List.set_cons_zero, List.set_cons_succ] at h8
  exact h8
/-- where a slice lies, and its capacity -/
structure Sl where
  A : Option Addr
  cap : Nat
def Sl.v (s : Sl) (n : Nat) : Value := .slice s.A n s.cap
def Sl.fits (s : Sl) (n : Nat) : Prop := n ≤ s.cap ∧ s.cap ≤ maxLen
/-- elements that lie side by side, so many cells each -/
def SlAt {α : Type} (sz : Nat) (P : Nat → Nat → α → Prop) (A : Option Addr) (xs : List α) : Prop :=
  ∀ j (h : j < xs.length), ∃ b o, A = some ⟨b, o, none⟩ ∧ P b (o + j * sz) xs[j]
theorem SlAt.imp {α : Type} {sz : Nat} {P P' : Nat → Nat → α → Prop} {A : Option Addr} {xs : List α} (h : SlAt sz P A xs) (hp : ∀ b o x, P b o x → P' b o x) : SlAt sz P' A xs := fun j hj => by
  obtain ⟨b, o, hA, hc⟩ := h j hj
  exact ⟨b, o, hA, hp _ _ _ hc⟩
def StrAt (B : Nat) (w : World) (b o : Nat) (x : ByteArray) : Prop := b < B ∧ x.size ≤ maxLen ∧ w.cell? ⟨b, o, none⟩ = some (.string x)
/-- what lies below a block lies as it lay -/
def Same (B : Nat) (w w' : World) : Prop := ∀ b i, b < B → w'.cell? ⟨b, i, none⟩ = w.cell? ⟨b, i, none⟩
theorem same_below {B B' : Nat} {w w' : World} (hB : B ≤ B') (hb : Below B' w w') : Same B w w' := fun b i h => hb.cell (p := ⟨b, i, none⟩) (by simp; omega)
/-- rows of elements in an owned block -/
theorem sl_own {α : Type} (cells : α → List Value) (sz : Nat) (hsz : ∀ y, (cells y).length = sz) {D : Nat → Prop} {P : Nat → Nat → α → Prop} {t : TypeId} {b0 n c : Nat} {w : World} {A : Option Addr} {ys : List α} (hn : ys.length = n) (h : w.ownsRow b0 t sz (.slice A n c) n (ys.flatMap cells)) (hD : ∀ g, (Value.slice A n c).ownBlock = some g → D g)
    (hP : ∀ b o j (hj : j < ys.length), D b → (∀ i, i < sz → w.cell? ⟨b, o + i, none⟩ = (cells ys[j])[i]?) → P b o ys[j]) : (⟨A, c⟩ : Sl).fits n ∧ SlAt sz P A ys := by
  subst hn
  rcases h.2 with ⟨h1, h2⟩ | ⟨g, cap, cur, h1, hb, h3, h4, h5, h6, h7⟩
  · have h0 : ys = [] := List.length_eq_zero_iff.1 h2
    subst h0
    injection h1 with _ _ hc
    subst hc
    exact ⟨⟨Nat.le_refl _, Nat.zero_le _⟩, fun j hj => absurd hj (by simp)⟩
  · injection h1 with hA _ hc
    subst hA hc
    refine ⟨⟨h4, h5⟩, fun j hj => ⟨g, 0, rfl, hP _ _ j hj (hD g rfl) fun i hi => ?_⟩⟩
    have hlt : j * sz + i < ys.length * sz := by
      have h9 : (j + 1) * sz ≤ ys.length * sz := Nat.mul_le_mul_right sz hj
      rw [Nat.succ_mul] at h9
      omega
    rw [show 0 + j * sz + i = j * sz + i by omega, h.cellAt _ hlt, rows_at cells sz hsz ys j hj i hi]
section
variable (D : Nat → Prop) (w : World)
def StrIn (b o : Nat) (x : ByteArray) : Prop := D b ∧ x.size ≤ maxLen ∧ w.cell? ⟨b, o, none⟩ = some (.string x)
end
/-- what lies in blocks of a set lies as it lay -/
def Stay (D : Nat → Prop) (w w' : World) : Prop := ∀ b o v, D b → w.cell? ⟨b, o, none⟩ = some v → w'.cell? ⟨b, o, none⟩ = some v
theorem stay_grown {D : Nat → Prop} {w w' : World} {row : Option Nat} (hg : w.grownBy w' row) (hr : ∀ T, row = some T → ¬ D T) : Stay D w w' := fun _ _ _ hb h => cell_kept hg (fun e => hr _ e.symm hb) h
section
variable {D D' : Nat → Prop} {w w' : World}
theorem StrIn.keep (hk : Stay D w w') (hw : ∀ n, D n → D' n) {b o : Nat} {x : ByteArray} (h : StrIn D w b o x) : StrIn D' w' b o x := ⟨hw _ h.1, h.2.1, hk _ _ _ h.1 h.2.2⟩
theorem stay_rfl : Stay D w w := fun _ _ _ _ h => h
end
/-- names that lie side by side -/
def srowK (D : Nat → Prop) (S : Sl) (xs : List ByteArray) : Kp := ⟨D, fun w => S.fits xs.length ∧ SlAt 1 (StrIn D w) S.A xs⟩
theorem srowK_ok (D : Nat → Prop) (S : Sl) (xs : List ByteArray) : (srowK D S xs).Ok := fun _ _ _ _ hq hg hr => ⟨hq.1, hq.2.imp fun _ _ _ => StrIn.keep (stay_grown hg hr) fun _ h => h⟩
section
variable {P : Option Nat} {S : World → Prop} {w0 w w' : World} {ks : List Kp} {a b c d x : Kp}
/-- two facts become one -/
theorem Fr.fuse (h : Fr P S w0 w (a :: b :: ks)) (hin : ∀ n, x.In n → a.In n ∨ b.In n) (hx : x.Q w) (hok : x.Ok) : Fr P S w0 w (x :: ks) :=
  ⟨h.st, h.ss, h.gr, h.lt, fun y hy => by
    rcases List.mem_cons.1 hy with rfl | hy
    · exact ⟨fun n hn => (hin n hn).elim (h.head.lo n) (h.tail.head.lo n), fun n hn => (hin n hn).elim (h.head.hi n) (h.tail.head.hi n), hx, hok⟩
    · exact h.tail.tail.k y hy, List.pairwise_cons.2 ⟨fun y hy n hn => (hin n hn).elim ((List.pairwise_cons.1 h.ap).1 y (List.mem_cons_of_mem _ hy) n) ((List.pairwise_cons.1 h.tail.ap).1 y hy n), h.tail.tail.ap⟩⟩
/-- one becomes another of the same blocks -/
theorem Fr.turn1 (h : Fr P S w0 w (a :: ks)) (hin : ∀ n, x.In n → a.In n) (hx : x.Q w) (hok : x.Ok) : Fr P S w0 w (x :: ks) :=
  ⟨h.st, h.ss, h.gr, h.lt, fun y hy => by
    rcases List.mem_cons.1 hy with rfl | hy
    · exact ⟨fun n hn => h.head.lo n (hin n hn), fun n hn => h.head.hi n (hin n hn), hx, hok⟩
    · exact h.tail.k y hy, List.pairwise_cons.2 ⟨fun y hy n hn => (List.pairwise_cons.1 h.ap).1 y hy n (hin n hn), h.tail.ap⟩⟩
/-- a fact that speaks of no block -/
theorem Fr.free (h : Fr P S w0 w ks) (hin : ∀ n, ¬ x.In n) (hx : x.Q w) (hok : x.Ok) : Fr P S w0 w (x :: ks) :=
  ⟨h.st, h.ss, h.gr, h.lt, fun y hy => by
    rcases List.mem_cons.1 hy with rfl | hy
    · exact ⟨fun n hn => absurd hn (hin n), fun n hn => absurd hn (hin n), hx, hok⟩
    · exact h.k y hy, List.pairwise_cons.2 ⟨fun y hy n hn => absurd hn (hin n), h.ap⟩⟩
end
/-- a row that is not empty has a block -/
theorem row_some {t : TypeId} {sz b0 n c : Nat} {w : World} {A : Option Addr} {xs : List Value} (h : w.ownsRow b0 t sz (.slice A n c) n xs) (hn : 0 < n) : ∃ G, A = some ⟨G, 0, none⟩ ∧ ∃ cur, w.heap[G]? = some (.cells cur t (0, 0)) := by
  rcases h.2 with ⟨_, h2⟩ | ⟨g, cap, cur, h1, hb, h3, _⟩
  · omega
  · injection h1 with hA _ hc
    exact ⟨g, hA, cur, h3⟩
theorem row_set {t : TypeId} {sz b0 n c G : Nat} {w : World} {xs : List Value} (h : w.ownsRow b0 t sz (.slice (some ⟨G, 0, none⟩) n c) n xs) (k : Nat) (v : Value) : (w.setCell ⟨G, k, none⟩ v).ownsRow b0 t sz (.slice (some ⟨G, 0, none⟩) n c) n (xs.set k v) := by
  refine ⟨by rw [List.length_set]; exact h.1, ?_⟩
  rcases h.2 with ⟨h1, _⟩ | ⟨g, cap, cur, h1, hb, h3, h4, h5, h6, h7⟩
  · cases h1
  · injection h1 with hA _ hc
    injection hA with hA
    injection hA with hA
    subst hA hc
    refine .inr ⟨G, c, cur.setIfInBounds k v, rfl, hb, blk_set h3 k v, h4, h5, by simpa using h6, ?_⟩
    rw [← h7, Array.toList_setIfInBounds, List.take_set]
theorem Fr.setRow {P : Option Nat} {S : World → Prop} {w0 w : World} {ks : List Kp} {t : TypeId} {sz n c G : Nat} {xs : List Value} (h : Fr P S w0 w (rowK w0 t sz (.slice (some ⟨G, 0, none⟩) n c) n xs :: ks)) (k : Nat) (v : Value) :
    Fr P S w0 (w.setCell ⟨G, k, none⟩ v) (rowK w0 t sz (.slice (some ⟨G, 0, none⟩) n c) n (xs.set k v) :: ks) := by
  have h0 := h.head
  have h1 := List.pairwise_cons.1 h.ap
  have hg := grown_set w G k v
  have h3 : Fr P S w0 (w.setCell ⟨G, k, none⟩ v) ks := h.tail.step hg (fun U hU => by injection hU with hU; subst hU; exact h0.lo _ rfl) (fun y hy U hU => by injection hU with hU; subst hU; exact h1.1 y hy _ rfl)
  exact ⟨h3.st, h3.ss, h3.gr, h3.lt, fun y hy => by
    rcases List.mem_cons.1 hy with rfl | hy
    · exact ⟨h0.lo, fun n hn => Nat.lt_of_lt_of_le (h0.hi n hn) hg.size, row_set h0.q k v, rowK_ok _ _ _ _ _ _⟩
    · exact h3.k y hy, List.pairwise_cons.2 ⟨h1.1, h3.ap⟩⟩
theorem slat_map {α β : Type} {sz : Nat} {P : Nat → Nat → β → Prop} {f : α → β} {A : Option Addr} {xs : List α} (h : SlAt sz (fun b o x => P b o (f x)) A xs) : SlAt sz P A (xs.map f) := fun j hj => by
  obtain ⟨b, o, hA, hp⟩ := h j (by simpa using hj)
  exact ⟨b, o, hA, by simpa using hp⟩
section
variable {P : Option Nat} {S : World → Prop} {w0 w : World} {ks : List Kp} {A : Option Addr} {n c : Nat} {D : Nat → Prop}
theorem Fr.srow {xs : List ByteArray} (h : Fr P S w0 w (rowK w0 9 1 (.slice A n c) n (xs.flatMap fun x => [.string x]) :: ks)) (hn : xs.length = n) (hs : ∀ x ∈ xs, x.size ≤ maxLen) : ∃ D', Fr P S w0 w (srowK D' ⟨A, c⟩ xs :: ks) := by
  refine ⟨fun g => (Value.slice A n c).ownBlock = some g, h.turn1 (fun n h => h) ?_ (srowK_ok _ _ _)⟩
  have h1 := sl_own (fun x : ByteArray => [Value.string x]) 1 (fun _ => rfl) (D := fun g => (Value.slice A n c).ownBlock = some g) hn h.head.q (fun g hg => hg)
    (P := StrIn (fun g => (Value.slice A n c).ownBlock = some g) w) (fun b o j hj hD hc => ⟨hD, hs _ (List.getElem_mem hj), hc 0 (by omega)⟩)
  exact ⟨by rw [hn]; exact h1.1, h1.2⟩
end
theorem string.info : (Tryd.prog.info? 9).map (fun i => (i.zero, i.size, i.bytes)) = some (some (.string ⟨#[]⟩), 1, 16) := by kernel_rfl
theorem info_string : ∃ i z, Tryd.prog.info? 9 = some i ∧ i.zero = some z ∧ i.size = 1 ∧ i.bytes = 16 ∧ z.cells.size = 1 := by
  have hi := string.info
  cases h : Tryd.prog.info? 9 with
  | none => rw [h] at hi; cases hi
  | some i0 => rw [h] at hi; simp only [Option.map_some, Option.some.injEq, Prod.mk.injEq] at hi; exact ⟨i0, _, rfl, hi.1, hi.2.1, hi.2.2, rfl⟩
theorem str_one {a : ByteArray} : ∀ u ∈ (#[.string a] : Array Value).toList, u.oneCell' = true := by
  intro u hu
  simp only [List.mem_cons, List.not_mem_nil, or_false] at hu
  subst hu; rfl
theorem flat_upd {α : Type} (cells : α → List Value) (sz : Nat) (hsz : ∀ y, (cells y).length = sz) (ys : List α) : ∀ (j : Nat) (h : j < ys.length) (k : Nat) (v : Value) (y : α), k < sz → cells y = (cells ys[j]).set k v → (ys.flatMap cells).set (j * sz + k) v = (ys.set j y).flatMap cells := by
  induction ys with
  | nil => intro j h; exact absurd h (by simp)
  | cons y0 ys ih =>
    intro j h k v y hk hy
    cases j with
    | zero =>
      rw [List.flatMap_cons, List.set_append, if_pos (by rw [hsz]; omega), List.set_cons_zero, List.flatMap_cons, Nat.zero_mul, Nat.zero_add]
      rw [hy]; rfl
    | succ j =>
      rw [List.flatMap_cons, List.set_append, if_neg (by rw [hsz, Nat.succ_mul]; omega), List.set_cons_succ, List.flatMap_cons, hsz, show (j + 1) * sz + k - sz = j * sz + k by rw [Nat.succ_mul]; omega, ih j (by simpa using h) k v y hk (by simpa using hy)]
/-- a block becomes a row -/
theorem Fr.rowOf {P : Option Nat} {S : World → Prop} {w0 w : World} {ks : List Kp} {T sz n : Nat} {cs : Array Value} {t : TypeId} (h : Fr P S w0 w (blkK T (.cells cs t (0, 0)) :: ks)) (hcs : cs.size = n * sz) (hn : n ≤ maxLen) : Fr P S w0 w (rowK w0 t sz (.slice (some ⟨T, 0, none⟩) n n) n cs.toList :: ks) :=
  h.turn1 (x := rowK w0 t sz (.slice (some ⟨T, 0, none⟩) n n) n cs.toList) (fun g hg => by injection hg with hg; exact hg.symm)
    ⟨by simpa using hcs, .inr ⟨T, n, cs, rfl, h.head.lo T rfl, h.head.q, Nat.le_refl _, hn, hcs, List.take_of_length_le (by rw [Array.length_toList, hcs]; exact Nat.le_refl _)⟩⟩ (rowK_ok _ _ _ _ _ _)
end Go.Proofs.YtmdnmodjdgcmjaaDoor
