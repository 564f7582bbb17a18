/-
  The walk of awake of the trace's laws.
-/
import Derived.Test.YtmdnmodjdgcmjaaDoorHTrT
namespace Go.Proofs.YtmdnmodjdgcmjaaDoor
open Go.RowKit

theorem ints_of_blk {w : World} {b : Nat} {l : List Int} {fr : Nat × Nat} {t : TypeId} (h : w.heap[b]? = some (.cells (l.map fun v => Value.int .i64 v).toArray t fr)) : IntsAt w (some ⟨b, 0, none⟩) l := fun j hj => by
  refine ⟨b, 0, rfl, ?_⟩
  have := Lib.cell_of_heap h j
  rw [Nat.zero_add]
  rw [this]
  simp [hj]
theorem awake_text2 : textW [1, 2] [1] [[5, 1]] [[-1]] = ([48, 58, 32, 53, 32, 116, 114, 117, 101, 32, 45, 62, 32, 45, 49, 10], 0) := by decide +kernel
set_option maxRecDepth 100000 in
set_option maxHeartbeats 2000000 in
theorem tawake_any (w : World) (hT : Tabs w) : Calls Tryd.prog 20 #[] w fun e w' => e = .returned (.bool true) ∧ Below w.heap.size w w' := by
  have f_0 := ((Fr.start0 w).alloc (.cells #[.int .i64 1, .int .i64 2] 3)).alloc (.cells #[.int .i64 1] 3)
  rw [World.size_alloc] at f_0
  go_enter Tryd.func20, Tryd.ntmps20
  go_upto_region 2 with fail
  have f_1 := f_0.alloc (.cells #[.slice (some ⟨w.heap.size, 0, none⟩) 2 2, .slice (some ⟨w.heap.size + 1, 0, none⟩) 1 1, .int .i64 0, .slice none 0 0, .slice none 0 0] 55)
  simp only [World.size_alloc] at f_1
  have hbp := f_1.blk
  generalize ((w.alloc (.cells #[.int .i64 1, .int .i64 2] 3)).alloc (.cells #[.int .i64 1] 3)).alloc (.cells #[.slice (some ⟨w.heap.size, 0, none⟩) 2 2, .slice (some ⟨w.heap.size + 1, 0, none⟩) 1 1, .int .i64 0, .slice none 0 0, .slice none 0 0] 55) = W1 at *
  clear f_0
  generalize w.heap.size = B1 at *
  obtain ⟨p0, p1, p2, p3, p4⟩ := blkP hbp
  have f_2 := (((f_1.alloc (.cells #[.int .i64 5, .int .i64 1] 3)).alloc (.cells #[.slice (some ⟨W1.heap.size, 0, none⟩) 2 2] 38)).alloc (.cells #[.int .i64 (-1)] 3)).alloc (.cells #[.slice (some ⟨W1.heap.size + 1 + 1, 0, none⟩) 1 1] 38)
  simp only [World.size_alloc] at f_2
  have q1 : IntsAt _ (some ⟨B1, 0, none⟩) [1, 2] := ints_of_blk (t := 3) (fr := (0, 0)) (f_2.k (blkK B1 (.cells #[.int .i64 1, .int .i64 2] 3 (0, 0))) (by simp)).q
  have q2 : IntsAt _ (some ⟨B1 + 1, 0, none⟩) [1] := ints_of_blk (t := 3) (fr := (0, 0)) (f_2.k (blkK (B1 + 1) (.cells #[.int .i64 1] 3 (0, 0))) (by simp)).q
  have q3 : IntsAt _ (some ⟨W1.heap.size, 0, none⟩) [5, 1] := ints_of_blk (t := 3) (fr := (0, 0)) (f_2.k (blkK W1.heap.size (.cells #[.int .i64 5, .int .i64 1] 3 (0, 0))) (by simp)).q
  have q4 : IntsAt _ (some ⟨W1.heap.size + 1 + 1, 0, none⟩) [-1] := ints_of_blk (t := 3) (fr := (0, 0)) (f_2.k (blkK (W1.heap.size + 1 + 1) (.cells #[.int .i64 (-1)] 3 (0, 0))) (by simp)).q
  have q5 := (f_2.k (blkK (W1.heap.size + 1) (.cells #[.slice (some ⟨W1.heap.size, 0, none⟩) 2 2] 38 (0, 0))) (by simp)).q
  have q6 := (f_2.k (blkK (W1.heap.size + 1 + 1 + 1) (.cells #[.slice (some ⟨W1.heap.size + 1 + 1, 0, none⟩) 1 1] 38 (0, 0))) (by simp)).q
  have hrs : RowsAt _ (some ⟨W1.heap.size + 1, 0, none⟩) [⟨[5, 1], ⟨some ⟨W1.heap.size, 0, none⟩, 2⟩⟩] := fun j hj => by
    obtain rfl : j = 0 := by simpa using hj
    exact ⟨W1.heap.size + 1, 0, rfl, Lib.cell_of_heap q5 0, q3, by show 2 ≤ maxLen; decide, fun v hv => by
      have : v = 5 ∨ v = 1 := by simpa using hv
      unfold I64; omega⟩
  have hqs : RowsAt _ (some ⟨W1.heap.size + 1 + 1 + 1, 0, none⟩) [⟨[-1], ⟨some ⟨W1.heap.size + 1 + 1, 0, none⟩, 1⟩⟩] := fun j hj => by
    obtain rfl : j = 0 := by simpa using hj
    exact ⟨W1.heap.size + 1 + 1 + 1, 0, rfl, Lib.cell_of_heap q6 0, q4, by show 1 ≤ maxLen; decide, fun v hv => by
      have : v = -1 := by simpa using hv
      unfold I64; omega⟩
  have htx := ttext_any [1, 2] [1] _ _ _ _ none none _ _ 2 1 0 0 0 0 1 1 0 _ q1 q2 hrs hqs (by decide) (by decide) (by show 1 ≤ 100000; decide) (by show 1 ≤ maxLen; decide) (hT.below f_2.low)
  rw [show textW [1, 2] [1] (rosL [⟨[5, 1], ⟨some ⟨W1.heap.size, 0, none⟩, 2⟩⟩]) (rosL [⟨[-1], ⟨some ⟨W1.heap.size + 1 + 1, 0, none⟩, 1⟩⟩]) = _ from awake_text2] at htx
  replace htx := hid htx
  clear q1 q2 q3 q4 q5 q6 hrs hqs hbp
  go_wp2_with fail
  refine htx.out.mono ?_
  rintro e W2 ⟨rfl, hb⟩
  go_wp2_with fail
  go_ret
  exact ⟨rfl, (f_2.below hb).low⟩
end Go.Proofs.YtmdnmodjdgcmjaaDoor
