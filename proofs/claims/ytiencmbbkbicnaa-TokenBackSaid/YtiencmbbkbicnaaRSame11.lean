/-
  The walk of the reference's Same of layer 11, at lists that are one but for places.
-/
import Derived.Test.YtiencmbbkbicnaaBackP
namespace Go.Proofs.Ytiencmbbkbicnaa
open Go.RowKit

set_option maxRecDepth 100000 in
set_option maxHeartbeats 1000000 in
theorem rsame11_any (s1 s2 : ByteArray) (l1 l2 : List Tk) (h : Alike l1 l2) (n b1 b2 g1 g2 c1 c2 : Nat) (w : World) (hn1 : n = l1.length) (hn2 : n = l2.length) (hn : n ≤ 5000)
    (ho1 : w.ownsRow b1 47 5 (.slice (some ⟨g1, 0, none⟩) n c1) n (l1.flatMap (Tk.cells s1))) (ho2 : w.ownsRow b2 47 5 (.slice (some ⟨g2, 0, none⟩) n c2) n (l2.flatMap (Tk.cells s2))) :
    Calls Try.prog 31 #[.slice (some ⟨g1, 0, none⟩) n c1, .slice (some ⟨g2, 0, none⟩) n c2] w fun r w' => r = .returned (.bool true) ∧ ∃ m, w' = w.drewN m := by
  have HN1 := hid hn1
  have HN2 := hid hn2
  have HO1 := hid ho1
  have HO2 := hid ho2
  clear hn1 hn2 ho1 ho2
  go_enter Try.func31, Try.ntmps31
  go_wp2_with fail
  go_loopw [5] (fun v wr => ∃ j m : Nat, j ≤ n ∧ v = .int .i64 j ∧ wr = w.drewN m) (fun v _ => n - (intOf v).toNat)
  case atStart => exact ⟨0, 0, by omega, rfl, rfl⟩
  case round =>
    obtain ⟨j, m, hj, rfl, rfl⟩ := hrel
    by_cases hlt : j < n
    · have hj1 : j < l1.length := by have := HN1.out; omega
      have hj2 : j < l2.length := by have := HN2.out; omega
      obtain ⟨x0, x1, x2, x3, x4⟩ := tk_row HO1.out HN1.out j hj1
      obtain ⟨y0, y1, y2, y3, y4⟩ := tk_row HO2.out HN2.out j hj2
      obtain ⟨e0, e1, e2⟩ := h.get j hj1 hj2
      rw [e0] at x0
      rw [e1] at x1
      rw [e2] at x2
      clear e0 e1 e2 x3 x4 y3 y4
      have hi0 : (0 : Int) ≤ (j : Int) := by omega
      have hi1 : (j : Int) < (n : Int) := by omega
      go_wp2_with fail
      go_quiet (fail)
      go_wp2_with fail
      go_roundw
      case rel => exact ⟨j + 1, m + nq, by omega, by go_num, rfl⟩
      case measure => simp [intOf]; omega
    · have : j = n := by omega
      subst this
      go_wp2_with fail
      go_ret
      exact ⟨rfl, m, rfl⟩
end Go.Proofs.Ytiencmbbkbicnaa
