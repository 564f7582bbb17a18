/-
  The walk of the reference's plain.
-/
import Derived.Test.YtnlikhjmmnaknaaDoorPlainW2
namespace Go.Proofs.YtnlikhjmmnaknaaDoor
open Go.RowKit

set_option maxHeartbeats 1000000 in
theorem rplain_any (e : Ex) (B : Nat) (A : Option Addr) (cap : Nat) (w : World) (hE : ExAt B w e A cap) (hl : e.name.size ≤ 1000) :
    Calls Tryd.prog 22 #[e.val A cap] w fun r w' => r = .returned (.bool (plainOf e.op e.name e.num e.k)) ∧ Below w.heap.size w w' := by
  obtain _ | ⟨op, name, n, k, arg, l, c⟩ := e
  · exact hE.elim
  obtain ⟨⟨_, _, _, _, _, hk, hcap⟩, hargs⟩ := hE
  simp only [Ex.val, Ex.op, Ex.name, Ex.num, Ex.k, Ex.line, Ex.col] at *
  unfold maxLen at hcap
  have hcell : ∀ w', Below (w.heap.size + 1) (w.alloc (.cells #[.int .i64 op, .string name, .int .i64 n, .slice A k cap, .int .i64 l, .int .i64 c] 26)) w' →
      w'.cell? ⟨w.heap.size, 0, none⟩ = some (.int .i64 op) ∧ w'.cell? ⟨w.heap.size, 1, none⟩ = some (.string name) ∧ w'.cell? ⟨w.heap.size, 2, none⟩ = some (.int .i64 n) ∧ w'.cell? ⟨w.heap.size, 3, none⟩ = some (.slice A k cap) := fun w' h => by
    refine ⟨?_, ?_, ?_, ?_⟩
    · rw [h.cell (p := ⟨w.heap.size, 0, none⟩) (by simp), World.cell?_alloc_new]; rfl
    · rw [h.cell (p := ⟨w.heap.size, 1, none⟩) (by simp), World.cell?_alloc_new]; rfl
    · rw [h.cell (p := ⟨w.heap.size, 2, none⟩) (by simp), World.cell?_alloc_new]; rfl
    · rw [h.cell (p := ⟨w.heap.size, 3, none⟩) (by simp), World.cell?_alloc_new]; rfl
  have HC := hid hcell
  have HB : Hid (Below w.heap.size w (w.alloc (.cells #[.int .i64 op, .string name, .int .i64 n, .slice A k cap, .int .i64 l, .int .i64 c] 26))) := (Below.refl _ _).alloc (Nat.le_refl _) _
  clear hcell
  go_enter Tryd.func22, Tryd.ntmps22
  go_wp2_with fail
  refine (rparts_any _ _).mono ?_
  rintro e w1 ⟨rfl, hb⟩
  obtain ⟨c0, c1, c2, c3⟩ := HC.out w1 (by simpa using hb)
  have hb0 := HB.out.trans (hb.mono (by simp))
  clear HC HB hb
  go_wp2_with (go_at_call 40; refine (rname_any _ _ (by omega)).mono ?_; rintro e w' ⟨rfl, rfl⟩)
  all_goals
    go_ret
    refine ⟨ret_bool ?_, (by assumption)⟩
    unfold plainOf
    try simp only [ByteArray.toList_eq] at *
    clear hb0 c0 c1 c2 c3
    clear hargs
    first
      | grind [List.isEmpty_iff, namesOp]
      | (have e0 : (n == 0) = false := by simp; omega
         have e1 : (n == 1) = false := by simp; omega
         grind [List.isEmpty_iff, namesOp])
end Go.Proofs.YtnlikhjmmnaknaaDoor
