/-
  The walks of plain, the code's and the reference's.
-/
import Derived.Test.YtnlikhjmmnaknaaDoorPlainW
namespace Go.Proofs.YtnlikhjmmnaknaaDoor
open Go.RowKit

def plainOf (op : Int) (name : ByteArray) (n : Int) (k : Nat) : Bool :=
  if partsOf op = -2 then false
  else if partsOf op = -1 ∧ (k < 1 ∨ 8 < k) then false
  else if 0 ≤ partsOf op ∧ (k : Int) ≠ partsOf op then false
  else if namesOp op = true ∨ op = 4 then isName name.data.toList && n == 0
  else if op = 1 then name.data.toList.isEmpty && decide (0 ≤ n)
  else if op = 2 then name.data.toList.isEmpty && (n == 0 || n == 1)
  else name.data.toList.isEmpty && n == 0

set_option maxHeartbeats 1000000 in
theorem plain_any (e : Ex) (B : Nat) (A : Option Addr) (cap : Nat) (w : World) (hE : ExAt B w e A cap) :
    Calls Tryd.prog 34 #[e.val A cap] w fun r w' => r = .returned (.bool (plainOf e.op e.name e.num e.k)) ∧ Below w.heap.size w w' := by
  obtain _ | ⟨op, name, n, k, arg, l, c⟩ := e
  · exact hE.elim
  obtain ⟨⟨_, hn, _, _, _, hk, hcap⟩, hargs⟩ := hE
  simp only [Ex.val, Ex.op, Ex.name, Ex.num, Ex.k, Ex.line, Ex.col]
  have hn' := hn
  unfold maxLen at hcap hn'
  have hcell : ∀ w', Below (w.heap.size + 1) (w.alloc (.cells #[.int .i64 op, .string name, .int .i64 n, .slice A k cap, .int .i64 l, .int .i64 c] 26)) w' → w'.cell? ⟨w.heap.size, 2, none⟩ = some (.int .i64 n) := fun w' h => by
    rw [h.cell (p := ⟨w.heap.size, 2, none⟩) (by simp), World.cell?_alloc_new]; rfl
  have HC := hid hcell
  have hb0 : Below w.heap.size w (w.alloc (.cells #[.int .i64 op, .string name, .int .i64 n, .slice A k cap, .int .i64 l, .int .i64 c] 26)) := (Below.refl _ _).alloc (Nat.le_refl _) _
  clear hcell
  go_enter Tryd.func34, Tryd.ntmps34
  go_wp2_with (first
    | (go_at_call 53; refine (parts_any _ _).mono ?_; rintro e w' ⟨rfl, rfl⟩)
    | (go_at_call 54; refine (names_any _ _).mono ?_; rintro e w' ⟨rfl, rfl⟩)
    | (go_at_call 55; refine (name_any _ _ hn).mono ?_; rintro e w' ⟨rfl, hb⟩; have hc2 := HC.out w' (by simpa using hb); replace hb := hb0.trans (hb.mono (by simp))))
  all_goals
    go_ret
    refine ⟨ret_bool ?_, (by first | assumption | exact (Below.refl _ _).alloc (Nat.le_refl _) _)⟩
    unfold plainOf
    try simp only [ByteArray.toList_eq] at *
    clear hb0 HC
    clear hargs
    grind [List.isEmpty_iff, namesOp]
end Go.Proofs.YtnlikhjmmnaknaaDoor
