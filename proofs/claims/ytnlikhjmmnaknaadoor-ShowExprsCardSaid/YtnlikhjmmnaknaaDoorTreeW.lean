/-
  The walks of package tree's functions over expressions.
-/
import Derived.Test.YtnlikhjmmnaknaaDoorTok
namespace Go.Proofs.YtnlikhjmmnaknaaDoor
open Go.RowKit

theorem maxTo_succ (f : Nat → Nat) (k : Nat) : maxTo f (k + 1) = max (maxTo f k) (f k) := rfl
theorem maxTo_le {f : Nat → Nat} {k j : Nat} (h : j ≤ k) : maxTo f j ≤ maxTo f k := by
  induction k with
  | zero => have : j = 0 := by omega
            subst this; exact Nat.le_refl _
  | succ k ih =>
    by_cases hj : j = k + 1
    · subst hj; exact Nat.le_refl _
    · exact Nat.le_trans (ih (by omega)) (by rw [maxTo_succ]; omega)
theorem le_maxTo {f : Nat → Nat} {k j : Nat} (h : j < k) : f j ≤ maxTo f k :=
  Nat.le_trans (by rw [maxTo_succ]; omega) (maxTo_le (f := f) (show j + 1 ≤ k by omega))

set_option maxHeartbeats 400000 in
theorem height_any (e : Ex) : ∀ (B : Nat) (A : Option Addr) (cap : Nat) (w : World), ExAt B w e A cap → B ≤ w.heap.size → e.height ≤ 1000000 →
    Calls Tryd.prog 35 #[e.val A cap] w fun r w' => r = .returned (.int .i64 e.height) ∧ Below w.heap.size w w' := by
  induction e with
  | junk => intro B A cap; intros; contradiction
  | mk op name n k arg l c ih =>
    intro B A cap w hE hB hh
    obtain ⟨⟨_, _, _, _, _, hk, hcap⟩, hargs⟩ := hE
    simp only [Ex.val, Ex.op, Ex.name, Ex.num, Ex.k, Ex.line, Ex.col]
    unfold maxLen at hcap
    have hmax : ∀ j, j ≤ k → maxTo (fun i => (arg i).height) j ≤ 999999 := fun j hj => by
      have := maxTo_le (f := fun i => (arg i).height) hj
      simp only [Ex.height] at hh; omega
    have hcap' : (k : Int) ≤ 9223372036854775807 := by omega
    go_enter Tryd.func35, Tryd.ntmps35
    go_wp2_with fail
    go_loopw [3, 9] (fun h i wr => ∃ j : Nat, j ≤ k ∧ i = .int .i64 j ∧ h = .int .i64 (maxTo (fun i => (arg i).height) j) ∧ Below w.heap.size w wr ∧ w.heap.size < wr.heap.size) (fun _ i _ => k - (intOf i).toNat)
    case atStart => exact ⟨0, by omega, rfl, rfl, (Below.refl _ _).alloc (Nat.le_refl _) _, by simp⟩
    case round =>
      obtain ⟨j, hj, rfl, rfl, hbel, hsz⟩ := hrel
      by_cases hlt : j < k
      · obtain ⟨b, o, A', cap', rfl, hb, hcells, hin⟩ := hargs j hlt
        have hc := hcells.keep (w' := wr) fun i => hbel.cell (p := ⟨b, i, none⟩) (by simp; omega)
        obtain ⟨c0, c1, c2, c3, c4, c5⟩ := hc
        clear hcells
        have hm := hmax (j + 1) (by omega)
        rw [maxTo_succ] at hm
        go_wp2_with fail
        refine (ih j B A' cap' _ (hin.below hB (hbel.alloc (by omega) _)) (by simp; omega) (by omega)).mono ?_
        rintro r w1 ⟨rfl, hb1⟩
        go_wp2_with fail
        go_roundw
        case rel =>
          refine ⟨j + 1, by omega, by go_num, ?_, (hbel.alloc (by omega) _).trans (hb1.mono (by simp; omega)), by have := hb1.size; simp at this; omega⟩
          rw [maxTo_succ]
          congr 1
          split <;> omega
        case measure => simp [intOf]; omega
      · have : j = k := by omega
        subst this
        have hm := hmax j (by omega)
        go_wp2_with fail
        go_ret
        exact ⟨ret_int (by simp [Ex.height]), hbel⟩
end Go.Proofs.YtnlikhjmmnaknaaDoor
