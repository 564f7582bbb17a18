/-
  The walks of strings.Builder's methods of a builder that lies by itself.
-/
import Derived.Test.YtmdnmodjdgcmjaaDoorHBas
import Derived.Shelf.Strings.Builder1
namespace Go.Proofs.YtmdnmodjdgcmjaaDoor
open Go.RowKit

/-- a writer in block b that holds these bytes -/
def WrAt (B b : Nat) (p : Value) (l : List UInt8) (w : World) : Prop := Lib.BuilderAt 75 5 B b p (Lib.byteCells l) w
def Wr (B b : Nat) (l : List UInt8) (w : World) : Prop := WrAt B b (.pointer none) l w ∨ WrAt B b (.pointer (some ⟨b, 0, none⟩)) l w

/-- what a writer leaves as it was: what lies below; and every block that is no row of bytes, but its own -/
structure Wkeep (B b : Nat) (w w' : World) : Prop where
  below : Below B w w'
  other : ∀ (k : Nat) (cs : Array Value) (t : TypeId) (fr : Nat × Nat), k ≠ b → t ≠ 5 → w.heap[k]? = some (.cells cs t fr) → w'.heap[k]? = some (.cells cs t fr)
section
variable {B b : Nat} {w w' w'' : World}
theorem Wkeep.refl (B b : Nat) (w : World) : Wkeep B b w w := ⟨Below.refl _ _, fun _ _ _ _ _ _ h => h⟩
theorem Wkeep.trans (h : Wkeep B b w w') (h' : Wkeep B b w' w'') : Wkeep B b w w'' := ⟨h.below.trans h'.below, fun k cs t fr hk ht hc => h'.other k cs t fr hk ht (h.other k cs t fr hk ht hc)⟩
theorem heap_lt {k : Nat} {o : Obj} (h : w.heap[k]? = some o) : k < w.heap.size := (Array.getElem?_eq_some_iff.1 h).1
theorem Wkeep.of_below (h : Below w.heap.size w w') (hB : B ≤ w.heap.size) : Wkeep B b w w' := ⟨h.mono hB, fun k _ _ _ _ _ hc => (h.block k (heap_lt hc)).trans hc⟩
theorem Wkeep.alloc (h : Wkeep B b w w') (hB : B ≤ w'.heap.size) (o : Obj) : Wkeep B b w (w'.alloc o) := h.trans (.of_below ((Below.refl _ _).alloc (Nat.le_refl _) o) hB)
theorem Wkeep.set (h : Wkeep B b w w') (hb : B ≤ b) (i : Nat) (v : Value) : Wkeep B b w (w'.setCell ⟨b, i, none⟩ v) :=
  h.trans ⟨(Below.refl _ _).setCell (p := ⟨b, i, none⟩) hb v, fun _ _ _ _ hk _ hc => (Below.heap_setCell _ _ _ _ hk).trans hc⟩
theorem Wkeep.cell (h : Wkeep B b w w') {k : Nat} {cs : Array Value} {t : TypeId} {fr : Nat × Nat} (hk : k ≠ b) (ht : t ≠ 5) (hc : w.heap[k]? = some (.cells cs t fr)) (i : Nat) : w'.cell? ⟨k, i, none⟩ = cs[i]? := by
  have := h.other k cs t fr hk ht hc
  simp [World.cell?, this]
theorem Wr.lt {l : List UInt8} (h : Wr B b l w) : b < w.heap.size := by rcases h with h | h <;> exact h.lt
theorem Wr.le {l : List UInt8} (h : Wr B b l w) : B ≤ b := by rcases h with h | h <;> exact h.1
theorem WrAt.kept {p : Value} {l : List UInt8} (h : WrAt B b p l w) (hg : w.grownBy w' none) : WrAt B b p l w' := by
  obtain ⟨h1, v, h2, h3, h4⟩ := h
  exact ⟨h1, v, (hg.block b (heap_lt h2) (by simp)).trans h2, h3.kept hg (by cases hv : v.ownBlock <;> simp), h4⟩
theorem Wr.kept {l : List UInt8} (h : Wr B b l w) (hg : w.grownBy w' none) : Wr B b l w' := by
  rcases h with h | h
  · exact .inl (h.kept hg)
  · exact .inr (h.kept hg)
theorem Wr.below {l : List UInt8} (h : Wr B b l w) (hg : Below w.heap.size w w') : Wr B b l w' := h.kept ⟨hg.os, hg.tape, hg.output, hg.size, fun i hi _ => hg.block i hi⟩
theorem Wr.alloc {l : List UInt8} (h : Wr B b l w) (o : Obj) : Wr B b l (w.alloc o) := h.below ((Below.refl _ _).alloc (Nat.le_refl _) o)
end

theorem writer_info : (Tryd.prog.info? 75).map (·.size) = some 2 := by kernel_rfl
theorem writer_lies : liesAt Tryd.prog Tryd.prog.depth 75 (2 / Tryd.prog.cellsOf 75) 0 75 1 = true := by kernel_rfl
theorem byte_info : (Tryd.prog.info? 5).map (fun i => (i.zero, i.size, i.bytes)) = some (some (.int .u8 0), 1, 1) := by kernel_rfl
theorem byte_cells : Tryd.prog.cellsOf 5 = 1 := by kernel_rfl
theorem writer_ne : (75 : TypeId) ≠ 5 := by decide
set_option maxHeartbeats 1000000 in
set_option maxRecDepth 100000 in
theorem copy_used (b : Nat) (w : World) (h0 : w.cell? ⟨b, 0, none⟩ = some (.pointer (some ⟨b, 0, none⟩))) :
    Calls Tryd.prog 64 #[.pointer (some ⟨b, 0, none⟩)] w fun e w' => e = .returned (.tuple #[]) ∧ w = w' := by
  obtain ⟨j, hj, _⟩ := Option.map_eq_some_iff.1 writer_info
  go_enter Tryd.func64, Tryd.ntmps64
  go_wp2_with fail
  rw [Lib.run_neq_ptr_same w _ Tryd.underlying73 hj]
  go_wp2_with fail
  go_end0
  exact ⟨rfl, rfl⟩

set_option maxHeartbeats 1000000 in
set_option maxRecDepth 100000 in
theorem copy_fresh (b : Nat) (w : World) (h0 : w.cell? ⟨b, 0, none⟩ = some (.pointer none)) (hsh : w.shape? b = some (75, 2)) (hfz : w.frozen? ⟨b, 0, none⟩ = false) :
    Calls Tryd.prog 64 #[.pointer (some ⟨b, 0, none⟩)] w fun e w' => e = .returned (.tuple #[]) ∧ w' = w.setCell ⟨b, 0, none⟩ (.pointer (some ⟨b, 0, none⟩)) := by
  obtain ⟨j, hj, hjs⟩ := Option.map_eq_some_iff.1 writer_info
  go_enter Tryd.func64, Tryd.ntmps64
  go_wp2_with fail
  rw [Lib.run_to_unsafe w ⟨b, 0, none⟩ Tryd.underlying73 Tryd.underlying108 hj (by rw [hjs]; decide) hsh (Nat.zero_lt_succ 1)]
  simp only [Result.andThen]
  rw [Oper.upon_value]
  go_wp2_with fail
  rw [run_callFunc_extern Tryd.func75 (by kernel_rfl) (by kernel_rfl) (by kernel_rfl) (e := Extern.AbiNoEscape.same) (by kernel_rfl)]
  rw [Lib.run_noEscape]
  simp only [Result.andThen]
  rw [Oper.upon_value]
  go_wp2_with fail
  rw [Lib.run_from_unsafe w ⟨b, 0, none⟩ Tryd.underlying108 Tryd.underlying73 hj hsh writer_lies]
  simp only [Result.andThen]
  rw [Oper.upon_value]
  go_wp2_with fail
  go_end0
  exact ⟨rfl, rfl⟩

theorem copy_any (B b : Nat) (l : List UInt8) (w : World) (h : Wr B b l w) :
    Calls Tryd.prog 64 #[.pointer (some ⟨b, 0, none⟩)] w fun e w' => e = .returned (.tuple #[]) ∧ (WrAt B b (.pointer (some ⟨b, 0, none⟩)) l w' ∧ Wkeep B b w w') := by
  rcases h with h | h
  · refine (copy_fresh b w h.cell0 h.shape h.frozen0).mono ?_
    rintro e w' ⟨rfl, rfl⟩
    exact ⟨rfl, h.used _, (Wkeep.refl B b w).set h.1 0 _⟩
  · refine (copy_used b w h.cell0).mono ?_
    rintro e w' ⟨rfl, rfl⟩
    exact ⟨rfl, h, Wkeep.refl B b _⟩

set_option maxHeartbeats 2000000 in
set_option maxRecDepth 100000 in
theorem writeString_any (B b : Nat) (l : List UInt8) (s : ByteArray) (w : World) (h : Wr B b l w) (hlen : l.length + s.size ≤ 140737488355328) (hBw : B ≤ w.heap.size) :
    Calls Tryd.prog 40 #[.pointer (some ⟨b, 0, none⟩), .string s] w fun e w' => e = .returned (.tuple #[.int .i64 s.size, .nilIface]) ∧ (Wr B b (l ++ s.data.toList) w' ∧ Wkeep B b w w') := by
  obtain ⟨i0, hi, hz0, hz1, hz2⟩ := info_parts byte_info
  go_enter Tryd.func40, Tryd.ntmps40
  go_wp2_with fail
  refine (copy_any B b l _ h).mono ?_
  rintro e w1 ⟨rfl, h1, hk1⟩
  have hb1 := hk1.below
  obtain ⟨hB, v, hbk, hown, hne⟩ := h1
  rw [Lib.byteCells_length] at hown
  have c0 : w1.cell? ⟨b, 0, none⟩ = some (.pointer (some ⟨b, 0, none⟩)) := by rw [Lib.cell_of_heap hbk]; rfl
  have c1 : w1.cell? ⟨b, 1, none⟩ = some v := by rw [Lib.cell_of_heap hbk]; rfl
  go_wp2_with (at_builtin; refine Lib.wpList_append_own_string _ rfl _ _ 36 9 rfl B 5 i0 Tryd.underlying36 Tryd.underlying9 hi hz0 hz1 hz2 _ _ _ rfl hown s rfl ?c3 ?c4 ?c5 ?_)
  case c3 => unfold maxLen; omega
  case c4 => omega
  case c5 => have := hb1.size; omega
  intro v' w2 hown' hgrow _
  have hlt : b < w1.heap.size := by
    rcases Nat.lt_or_ge b w1.heap.size with h' | h'
    · exact h'
    · simp [Array.getElem?_eq_none h'] at hbk
  have hb2 : w2.heap[b]? = some (.cells #[.pointer (some ⟨b, 0, none⟩), v] 75 (0, 0)) := by
    rw [hgrow.block b hlt (fun e => hne e.symm)]
    exact hbk
  have d0 : w2.cell? ⟨b, 0, none⟩ = some (.pointer (some ⟨b, 0, none⟩)) := by rw [Lib.cell_of_heap hb2]; rfl
  have d1 : w2.cell? ⟨b, 1, none⟩ = some v := by rw [Lib.cell_of_heap hb2]; rfl
  have f1 : w2.frozen? ⟨b, 1, none⟩ = false := Lib.frozen_of_heap hb2 1
  obtain ⟨ao, n', cap, rfl⟩ : ∃ ao n' cap, v' = .slice ao n' cap := by
    rcases hown'.2 with ⟨hv, _⟩ | ⟨g, cap, cur, hv, _⟩
    · exact ⟨_, _, _, hv⟩
    · exact ⟨_, _, _, hv⟩
  go_wp2_with fail
  go_ret2
  refine ⟨rfl, .inr ?_, ?_⟩
  · exact Lib.BuilderAt.put (T := 75) (e := 5) hB hb2 (bs' := Lib.byteCells (l ++ s.data.toList)) (by rw [Lib.byteCells_length, Lib.byteCells_append, List.length_append, show s.data.toList.length = s.size from by rw [Array.length_toList]; rfl]; exact hown') writer_ne
  · refine (hk1.trans ⟨(Below.refl _ _).grown hgrow (by have := hb1.size; omega) (fun k hk => (hown.lt k hk).1), fun k cs t fr hk ht hc => ?_⟩).set hB 1 _
    exact (hgrow.block k (heap_lt hc) (fun e => Lib.ownBlock_ne hown hc ht e.symm)).trans hc

set_option maxHeartbeats 1000000 in
set_option maxRecDepth 100000 in
/-- what was written, of a writer that holds a byte -/
theorem wrote_any (B b : Nat) (l : List UInt8) (w : World) (h : Wr B b l w) (h0 : l ≠ []) :
    Calls Tryd.prog 42 #[.pointer (some ⟨b, 0, none⟩)] w fun e w' => e = .returned (.string ⟨l.toArray⟩) ∧ Below B w w' := by
  obtain ⟨p, hB, v, hbk, hown, hne⟩ : ∃ p, WrAt B b p l w := by
    rcases h with h | h
    · exact ⟨_, h⟩
    · exact ⟨_, h⟩
  have hl0 : l.length ≠ 0 := by simpa using h0
  rw [Lib.byteCells_length] at hown
  obtain ⟨g, cap, cur, rfl, hbg, hg, hnc, hcm, hcs, htake⟩ : ∃ g cap cur, v = .slice (some ⟨g, 0, none⟩) l.length cap ∧ B ≤ g ∧ w.heap[g]? = some (.cells cur 5 (0, 0)) ∧ l.length ≤ cap ∧ cap ≤ maxLen ∧ cur.size = cap * 1 ∧ cur.toList.take (l.length * 1) = Lib.byteCells l := by
    rcases hown.2 with ⟨_, hz⟩ | ⟨g, cap, cur, hv, r⟩
    · exact absurd hz hl0
    · exact ⟨g, cap, cur, hv, r⟩
  have c1 : w.drew.cell? ⟨b, 1, none⟩ = some (.slice (some ⟨g, 0, none⟩) l.length cap) := by
    have : w.drew.heap[b]? = some (.cells #[p, .slice (some ⟨g, 0, none⟩) l.length cap] 75 (0, 0)) := hbk
    rw [Lib.cell_of_heap this]; rfl
  have hSD : (Builtin.unsafeSliceData_ #[36] 99 #[.slice (some ⟨g, 0, none⟩) l.length cap]).run Tryd.prog w.drew = .ok (.pointer (some ⟨g, 0, none⟩)) w.drew :=
    Lib.run_unsafeSliceData_row _ _ _ _ _ _ (by omega)
  have hUS : (Builtin.unsafeString_ #[99, 3] 9 #[.pointer (some ⟨g, 0, none⟩), .int .i64 l.length]).run Tryd.prog w.drew = .ok (.string ⟨l.toArray⟩) (w.drew.freeze ⟨g, 0, none⟩ l.length) := by
    refine Lib.run_unsafeString_row w.drew 99 3 9 5 Tryd.underlying99 byte_cells g cur.size (by have hg' : w.drew.heap[g]? = some (.cells cur 5 (0, 0)) := hg; simp [World.shape?, hg']) l h0 (by omega) (by unfold maxLen at hcm; omega) ?_
    intro j x hx
    have := hown.cells (g := g) rfl j (.int .u8 x.toNat) (by simp [Lib.byteCells, hx])
    exact this
  go_enter Tryd.func42, Tryd.ntmps42
  go_wp2_with fail
  go_region
  all_goals (go_wp2_with fail; go_ret; exact ⟨rfl, Lib.below_freeze (Below.drew (Below.refl B w)) (p := ⟨g, 0, none⟩) hbg _⟩)

end Go.Proofs.YtmdnmodjdgcmjaaDoor
