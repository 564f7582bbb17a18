/-
  Numbers, bytes, texts and events in memory.
-/
import Derived.Test.YtmdnmodjdgcmjaaDoorHBas
import Derived.Test.YtmdnmodjdgcmjaaDoorHScE
namespace Go.Proofs.YtmdnmodjdgcmjaaDoor
open Go.RowKit

section
variable (D : Nat → Prop) (w : World)
def IntIn (b o : Nat) (v : Int) : Prop := D b ∧ I64 v ∧ w.cell? ⟨b, o, none⟩ = some (.int .i64 v)
def ByteIn (b o : Nat) (c : UInt8) : Prop := D b ∧ w.cell? ⟨b, o, none⟩ = some (.int .u8 (c.toNat : Int))
/-- an event whose row lies at R, whose choices lie at C -/
structure EvOf (x : EvE) (R C : Sl) : Prop where
  kind : I64 x.kind
  num : I64 x.num
  fr : R.fits x.row.length
  fc : C.fits x.ch.length
  row : SlAt 1 (IntIn D w) R.A x.row
  ch : SlAt 1 (ByteIn D w) C.A x.ch
end
structure EvCells (w : World) (b o : Nat) (x : EvE) (R C : Sl) : Prop where
  c0 : w.cell? ⟨b, o, none⟩ = some (.int .i64 x.kind)
  c1 : w.cell? ⟨b, o + 1, none⟩ = some (.int .i64 x.num)
  c2 : w.cell? ⟨b, o + 2, none⟩ = some (R.v x.row.length)
  c3 : w.cell? ⟨b, o + 3, none⟩ = some (C.v x.ch.length)
def EvE.val (x : EvE) (R C : Sl) : Value := .agg #[.int .i64 x.kind, .int .i64 x.num, R.v x.row.length, C.v x.ch.length]
def EvIn (D : Nat → Prop) (w : World) (b o : Nat) (x : EvE) : Prop := D b ∧ ∃ R C, EvCells w b o x R C ∧ EvOf D w x R C
/-- a row of events that lies at S -/
structure EvsIs (D : Nat → Prop) (w : World) (l : List EvE) (S : Sl) : Prop where
  fits : S.fits l.length
  evs : SlAt 4 (EvIn D w) S.A l
section
variable {D D' : Nat → Prop} {w w' : World}
theorem IntIn.keep (hk : Stay D w w') (hw : ∀ n, D n → D' n) {b o : Nat} {v : Int} (h : IntIn D w b o v) : IntIn D' w' b o v := ⟨hw _ h.1, h.2.1, hk _ _ _ h.1 h.2.2⟩
theorem ByteIn.keep (hk : Stay D w w') (hw : ∀ n, D n → D' n) {b o : Nat} {v : UInt8} (h : ByteIn D w b o v) : ByteIn D' w' b o v := ⟨hw _ h.1, hk _ _ _ h.1 h.2⟩
theorem EvOf.keep (hk : Stay D w w') (hw : ∀ n, D n → D' n) {x : EvE} {R C : Sl} (h : EvOf D w x R C) : EvOf D' w' x R C :=
  ⟨h.kind, h.num, h.fr, h.fc, h.row.imp fun _ _ _ => IntIn.keep hk hw, h.ch.imp fun _ _ _ => ByteIn.keep hk hw⟩
theorem EvIn.keep (hk : Stay D w w') (hw : ∀ n, D n → D' n) {b o : Nat} {x : EvE} (h : EvIn D w b o x) : EvIn D' w' b o x := by
  obtain ⟨hb, R, C, hc, hi⟩ := h
  exact ⟨hw _ hb, R, C, ⟨hk _ _ _ hb hc.c0, hk _ _ _ hb hc.c1, hk _ _ _ hb hc.c2, hk _ _ _ hb hc.c3⟩, hi.keep hk hw⟩
theorem EvsIs.keep (hk : Stay D w w') (hw : ∀ n, D n → D' n) {l : List EvE} {S : Sl} (h : EvsIs D w l S) : EvsIs D' w' l S := ⟨h.fits, h.evs.imp fun _ _ _ => EvIn.keep hk hw⟩
end
theorem stay_below {B B' : Nat} {w w' : World} (hB : B ≤ B') (hb : Below B' w w') : Stay (· < B) w w' := fun b o v h hc => (hb.cell (p := ⟨b, o, none⟩) (by show b < B'; exact Nat.lt_of_lt_of_le h hB)).trans hc
theorem ev_fine {D : Nat → Prop} {w : World} {x : EvE} {R C : Sl} (h : EvOf D w x R C) : x.fine := ⟨h.num, fun v hv => by
  obtain ⟨j, hj, rfl⟩ := List.getElem_of_mem hv
  obtain ⟨b, o, _, h1⟩ := h.row j hj
  exact h1.2.1⟩

/-! facts for walks -/
def intC (v : Int) : List Value := [.int .i64 v]
def byteC (c : UInt8) : List Value := [.int .u8 (c.toNat : Int)]
def strC (x : ByteArray) : List Value := [.string x]
structure LEv where
  x : EvE
  R : Sl
  C : Sl
def LEv.cells (x : LEv) : List Value := [.int .i64 x.x.kind, .int .i64 x.x.num, x.R.v x.x.row.length, x.C.v x.x.ch.length]
def evK (D : Nat → Prop) (x : EvE) (R C : Sl) : Kp := ⟨D, fun w => EvOf D w x R C⟩
theorem evK_ok (D : Nat → Prop) (x : EvE) (R C : Sl) : (evK D x R C).Ok := fun _ _ _ _ hq hg hr => EvOf.keep (stay_grown hg hr) (fun _ h => h) hq
def evsK (D : Nat → Prop) (xs : List LEv) : Kp := ⟨D, fun w => ∀ x ∈ xs, EvOf D w x.x x.R x.C⟩
theorem evsK_ok (D : Nat → Prop) (xs : List LEv) : (evsK D xs).Ok := fun _ _ _ _ hq hg hr x hx => (hq x hx).keep (stay_grown hg hr) fun _ h => h
theorem evs_push {D D' : Nat → Prop} {w : World} {xs : List LEv} {x : LEv} (h : (evsK D xs).Q w) (hx : EvOf D' w x.x x.R x.C) : (evsK (fun n => D n ∨ D' n) (xs ++ [x])).Q w := by
  intro y hy
  rcases List.mem_append.1 hy with hy | hy
  · exact (h y hy).keep stay_rfl fun _ h => .inl h
  · rw [List.mem_singleton.1 hy]; exact hx.keep stay_rfl fun _ h => .inr h
section
variable {P : Option Nat} {S : World → Prop} {w0 w : World} {ks : List Kp} {A : Option Addr} {n c : Nat} {D : Nat → Prop}
/-- a row of events that is done -/
theorem Fr.evsDone {xs : List LEv} (h : Fr P S w0 w (rowK w0 40 4 (.slice A n c) n (xs.flatMap LEv.cells) :: evsK D xs :: ks)) (hn : xs.length = n) : EvsIs (Iv w0.heap.size w.heap.size) w (xs.map (·.x)) ⟨A, c⟩ := by
  have h1 := sl_own LEv.cells 4 (fun _ => rfl) (D := Iv w0.heap.size w.heap.size) hn h.head.q (fun g hg => ⟨h.head.lo g hg, h.head.hi g hg⟩)
    (P := fun b o (x : LEv) => EvIn (Iv w0.heap.size w.heap.size) w b o x.x) (fun b o j hj hD hc => ⟨hD, xs[j].R, xs[j].C, ⟨hc 0 (by omega), hc 1 (by omega), hc 2 (by omega), hc 3 (by omega)⟩, (h.tail.head.q _ (List.getElem_mem hj)).keep (fun _ _ _ _ h => h) (fun n hn => ⟨h.tail.head.lo n hn, h.tail.head.hi n hn⟩)⟩)
  exact ⟨by rw [List.length_map, hn]; exact h1.1, slat_map h1.2⟩
theorem Fr.noEvs (h : Fr P S w0 w ks) : Fr P S w0 w (rowK w0 40 4 (.slice none 0 0) 0 (([] : List LEv).flatMap LEv.cells) :: evsK (fun _ => False) [] :: ks) :=
  (h.free (x := evsK (fun _ => False) []) (fun _ h => h) (fun x hx => by cases hx) (evsK_ok _ _)).nilRow _ _
end
theorem int_one {v : Int} : ∀ u ∈ (#[.int .i64 v] : Array Value).toList, u.oneCell' = true := by
  intro u hu
  have : u = _ := List.mem_singleton.1 hu
  subst this; rfl
theorem byte_one {v : Int} : ∀ u ∈ (#[.int .u8 v] : Array Value).toList, u.oneCell' = true := by
  intro u hu
  have : u = _ := List.mem_singleton.1 hu
  subst this; rfl
theorem ev_one {a b : Int} {A A' : Option Addr} {n n' c c' : Nat} : ∀ u ∈ (#[.int .i64 a, .int .i64 b, .slice A n c, .slice A' n' c'] : Array Value).toList, u.oneCell' = true := by
  intro u hu
  simp only [List.mem_cons, List.not_mem_nil, or_false] at hu
  rcases hu with rfl | rfl | rfl | rfl <;> rfl
theorem int.info : (Tryd.prog.info? 3).map (fun i => (i.zero, i.size, i.bytes)) = some (some (.int .i64 0), 1, 8) := by kernel_rfl
theorem info_int : ∃ i z, Tryd.prog.info? 3 = some i ∧ i.zero = some z ∧ i.size = 1 ∧ i.bytes = 8 ∧ z.cells.size = 1 := by
  have hi := int.info
  cases h : Tryd.prog.info? 3 with
  | none => rw [h] at hi; cases hi
  | some i0 => rw [h] at hi; simp only [Option.map_some, Option.some.injEq, Prod.mk.injEq] at hi; exact ⟨i0, _, rfl, hi.1, hi.2.1, hi.2.2, rfl⟩
theorem byte.info : (Tryd.prog.info? 5).map (fun i => (i.zero, i.size, i.bytes)) = some (some (.int .u8 0), 1, 1) := by kernel_rfl
theorem info_byte : ∃ i z, Tryd.prog.info? 5 = some i ∧ i.zero = some z ∧ i.size = 1 ∧ i.bytes = 1 ∧ z.cells.size = 1 := by
  have hi := byte.info
  cases h : Tryd.prog.info? 5 with
  | none => rw [h] at hi; cases hi
  | some i0 => rw [h] at hi; simp only [Option.map_some, Option.some.injEq, Prod.mk.injEq] at hi; exact ⟨i0, _, rfl, hi.1, hi.2.1, hi.2.2, rfl⟩
theorem Event.info : (Tryd.prog.info? 40).map (fun i => (i.zero, i.size, i.bytes)) = some (some (.agg #[.int .i64 0, .int .i64 0, .slice none 0 0, .slice none 0 0]), 4, 64) := by kernel_rfl
theorem info_Event : ∃ i z, Tryd.prog.info? 40 = some i ∧ i.zero = some z ∧ i.size = 4 ∧ i.bytes = 64 ∧ z.cells.size = 4 := by
  have hi := Event.info
  cases h : Tryd.prog.info? 40 with
  | none => rw [h] at hi; cases hi
  | some i0 => rw [h] at hi; simp only [Option.map_some, Option.some.injEq, Prod.mk.injEq] at hi; exact ⟨i0, _, rfl, hi.1, hi.2.1, hi.2.2, rfl⟩
theorem blk4 {w : World} {T : Nat} {v0 v1 v2 v3 : Value} {t : TypeId} (h : w.heap[T]? = some (.cells #[v0, v1, v2, v3] t (0, 0))) :
    w.cell? ⟨T, 0, none⟩ = some v0 ∧ w.cell? ⟨T, 1, none⟩ = some v1 ∧ w.cell? ⟨T, 2, none⟩ = some v2 ∧ w.cell? ⟨T, 3, none⟩ = some v3 ∧ w.frozen? ⟨T, 0, none⟩ = false ∧ w.frozen? ⟨T, 1, none⟩ = false ∧ w.frozen? ⟨T, 2, none⟩ = false ∧ w.frozen? ⟨T, 3, none⟩ = false :=
  ⟨Lib.cell_of_heap h 0, Lib.cell_of_heap h 1, Lib.cell_of_heap h 2, Lib.cell_of_heap h 3, frozen_none h, frozen_none h, frozen_none h, frozen_none h⟩
theorem Fr.set4 {P : Option Nat} {T : Nat} {S : World → Prop} {w0 w : World} {ks : List Kp} {a0 a1 a2 a3 : Value} {t : TypeId} {fr : Nat × Nat} (h : Fr P S w0 w (blkK T (.cells #[a0, a1, a2, a3] t fr) :: ks)) (v0 v1 v2 v3 : Value) :
    Fr P S w0 ((((w.setCell ⟨T, 0, none⟩ v0).setCell ⟨T, 1, none⟩ v1).setCell ⟨T, 2, none⟩ v2).setCell ⟨T, 3, none⟩ v3) (blkK T (.cells #[v0, v1, v2, v3] t fr) :: ks) :=
  h.put (grown_trans (grown_set _ _ _ _) (grown_trans (grown_set _ _ _ _) (grown_trans (grown_set _ _ _ _) (grown_set _ _ _ _)))) (blk_set (blk_set (blk_set (blk_set h.blk 0 v0) 1 v1) 2 v2) 3 v3)
end Go.Proofs.YtmdnmodjdgcmjaaDoor
