/-
  The walk of the statement ShowExprs.
-/
import Derived.Test.YtnlikhjmmnaknaaDoorAwake13
import Derived.Test.YtnlikhjmmnaknaaDoorRShow2
import Derived.Test.YtnlikhjmmnaknaaDoorTreeW3
import Derived.Test.YtnlikhjmmnaknaaDoorTreeRR
namespace Go.Proofs.YtnlikhjmmnaknaaDoor
open Go.RowKit

theorem shown_not {e : Ex} (h : e.right = false) : shown e = (⟨#[]⟩, 2) := by unfold shown; rw [h]; rfl
theorem shown_big {e : Ex} (h : e.right = true) (hf : fitsT (e.txt 0) = false) : shown e = (⟨#[]⟩, 3) := by unfold shown; rw [h, hf]; rfl
theorem shown_fits {e : Ex} (h : e.right = true) (hf : fitsT (e.txt 0) = true) : shown e = (⟨(e.txt 0).toArray⟩, 0) := by unfold shown; rw [h, hf]; rfl

set_option maxRecDepth 100000 in
set_option maxHeartbeats 4000000 in
theorem showExprs_any (e : Ex) (op : Int) (A : Option Addr) (cap : Nat) (w : World) (hE : ExAt w.heap.size w e A cap) (hT : Tab w) :
    Calls Tryd.prog 3 #[e.val A cap, .int .i64 op] w fun r w' => r = .returned (.bool true) ∧ Below w.heap.size w w' := by
  have hX0 : ExBox (w.alloc (.cells #[.int .i64 e.op, .string e.name, .int .i64 e.num, .slice A e.k cap, .int .i64 e.line, .int .i64 e.col] 26)) w.heap.size e A cap := World.alloc_heap_new w _
  have hb0 : Below w.heap.size w (w.alloc (.cells #[.int .i64 e.op, .string e.name, .int .i64 e.num, .slice A e.k cap, .int .i64 e.line, .int .i64 e.col] 26)) := (Below.refl _ _).alloc (Nat.le_refl _) _
  have hz0 : w.heap.size < (w.alloc (.cells #[.int .i64 e.op, .string e.name, .int .i64 e.num, .slice A e.k cap, .int .i64 e.line, .int .i64 e.col] 26)).heap.size := by simp
  have hG := hT.lt
  have haw := awake13_any (w.alloc (.cells #[.int .i64 e.op, .string e.name, .int .i64 e.num, .slice A e.k cap, .int .i64 e.line, .int .i64 e.col] 26)) (hT.below hb0 hG)
  have hfw := fun W (h : Below w.heap.size w W) => few_any e w.heap.size A cap W (hE.below (Nat.le_refl _) h) h.size
  have HAW := hid haw
  have HFW := hid hfw
  clear haw hfw
  cases hfew : e.few with
  | false =>
    rw [hfew] at HFW
    unfold Ex.val at HFW ⊢
    go_enter Tryd.func3, Tryd.ntmps3
    go_wp2_with fail
    refine HAW.out.mono ?_
    rintro r w1 ⟨rfl, hb1⟩
    have hX1 := hX0.below hb1
    have hb1' := hb0.trans (hb1.mono (by omega))
    obtain ⟨c0, c1, c2, c3, c4, c5⟩ := hX1.cells
    go_wp2_with fail
    refine (HFW.out w1 hb1').mono ?_
    rintro r w2 ⟨rfl, hb2⟩
    go_wp2_with fail
    go_ret
    exact ⟨rfl, hb1'.trans (hb2.mono hb1'.size)⟩
  | true =>
    obtain ⟨hsz, hht, hsh⟩ := Ex.few_fits hfew
    rw [hfew] at HFW
    have hlen : e.right = true → (e.txt 0).length ≤ 140737488355328 := fun h => by
      have := txt_len hE (ok_of_right hE h) 0
      omega
    have hshow := fun W (h : Below w.heap.size w W) => showExpr_any e w.heap.size A cap W (hE.below (Nat.le_refl _) h) h.size (hT.below h hG) (by omega) hlen
    have hrr := fun W (h : Below w.heap.size w W) => rright_any e w.heap.size A cap W (hE.below (Nat.le_refl _) h) h.size (by omega) (by omega) hsh
    cases hri : e.right with
    | false =>
      rw [shown_not hri] at hshow
      rw [hri] at hrr
      have HSH := hid hshow
      have HRR := hid hrr
      clear hshow hrr
      unfold Ex.val at HFW HSH HRR ⊢
      go_enter Tryd.func3, Tryd.ntmps3
      go_wp2_with fail
      refine HAW.out.mono ?_
      rintro r w1 ⟨rfl, hb1⟩
      have hX1 := hX0.below hb1
      have hb1' := hb0.trans (hb1.mono (by omega))
      obtain ⟨c0, c1, c2, c3, c4, c5⟩ := hX1.cells
      go_wp2_with fail
      refine (HFW.out w1 hb1').mono ?_
      rintro r w2 ⟨rfl, hb2⟩
      have hb2' := hb1'.trans (hb2.mono hb1'.size)
      have hX2 := hX1.below hb2
      clear c0 c1 c2 c3 c4 c5
      obtain ⟨c0, c1, c2, c3, c4, c5⟩ := hX2.cells
      go_wp2_with fail
      refine (HSH.out w2 hb2').mono ?_
      rintro r w3 ⟨rfl, hb3⟩
      have hb3' := hb2'.trans (hb3.mono hb2'.size)
      have hX3 := hX2.below hb3
      clear c0 c1 c2 c3 c4 c5
      go_wp2_with fail
      refine (strength_any _ _).mono ?_
      rintro r w4 ⟨rfl, rfl⟩
      go_wp2_with fail
      refine (rstrength_any _ _).mono ?_
      rintro r w4 ⟨rfl, hb4⟩
      have hb4' := hb3'.trans (hb4.mono hb3'.size)
      have hX4 := hX3.below hb4
      obtain ⟨c0, c1, c2, c3, c4, c5⟩ := hX4.cells
      go_wp2_with fail
      refine (HRR.out w4 hb4').mono ?_
      rintro r w5 ⟨rfl, hb5⟩
      have hb5' := hb4'.trans (hb5.mono hb4'.size)
      go_wp2_with fail
      go_ret
      exact ⟨rfl, hb5'⟩
    | true =>
      have hok := ok_of_right hE hri
      have hlen' := hlen hri
      have hrx := fun W (h : Below w.heap.size w W) => rexpr_wr e hok w.heap.size A cap 0 W (hE.below (Nat.le_refl _) h) hok h.size (by omega) (by omega) hlen'
      have hft := fun W => rfits_any (e.txt 0) W hlen'
      rw [hri] at hrr
      have HRR := hid hrr
      have HRX := hid hrx
      clear hrr hrx
      cases hfit : fitsT (e.txt 0) with
      | false =>
        rw [shown_big hri hfit] at hshow
        rw [hfit] at hft
        have HSH := hid hshow
        have HFT := hid hft
        clear hshow hft hlen hri hfit
        unfold Ex.val at HFW HSH HRR HRX ⊢
        go_enter Tryd.func3, Tryd.ntmps3
        go_wp2_with fail
        refine HAW.out.mono ?_
        rintro r w1 ⟨rfl, hb1⟩
        have hX1 := hX0.below hb1
        have hb1' := hb0.trans (hb1.mono (by omega))
        obtain ⟨c0, c1, c2, c3, c4, c5⟩ := hX1.cells
        go_wp2_with fail
        refine (HFW.out w1 hb1').mono ?_
        rintro r w2 ⟨rfl, hb2⟩
        have hb2' := hb1'.trans (hb2.mono hb1'.size)
        have hX2 := hX1.below hb2
        clear c0 c1 c2 c3 c4 c5
        obtain ⟨c0, c1, c2, c3, c4, c5⟩ := hX2.cells
        go_wp2_with fail
        refine (HSH.out w2 hb2').mono ?_
        rintro r w3 ⟨rfl, hb3⟩
        have hb3' := hb2'.trans (hb3.mono hb2'.size)
        have hX3 := hX2.below hb3
        clear c0 c1 c2 c3 c4 c5
        go_wp2_with fail
        refine (strength_any _ _).mono ?_
        rintro r w4 ⟨rfl, rfl⟩
        go_wp2_with fail
        refine (rstrength_any _ _).mono ?_
        rintro r w4 ⟨rfl, hb4⟩
        have hb4' := hb3'.trans (hb4.mono hb3'.size)
        have hX4 := hX3.below hb4
        obtain ⟨c0, c1, c2, c3, c4, c5⟩ := hX4.cells
        go_wp2_with fail
        refine (HRR.out w4 hb4').mono ?_
        rintro r w5 ⟨rfl, hb5⟩
        have hb5' := hb4'.trans (hb5.mono hb4'.size)
        have hX5 := hX4.below hb5
        clear c0 c1 c2 c3 c4 c5
        obtain ⟨c0, c1, c2, c3, c4, c5⟩ := hX5.cells
        go_wp2_with fail
        refine (HRX.out w5 hb5').mono ?_
        rintro r w6 ⟨rfl, hb6⟩
        have hb6' := hb5'.trans (hb6.mono hb5'.size)
        go_wp2_with fail
        refine (HFT.out w6).mono ?_
        rintro r w7 ⟨rfl, hb7⟩
        go_wp2_with fail
        go_ret
        exact ⟨rfl, hb6'.trans (hb7.mono hb6'.size)⟩
      | true =>
        rw [shown_fits hri hfit] at hshow
        rw [hfit] at hft
        have HSH := hid hshow
        have HFT := hid hft
        clear hshow hft hlen hri hfit
        unfold Ex.val at HFW HSH HRR HRX ⊢
        go_enter Tryd.func3, Tryd.ntmps3
        go_wp2_with fail
        refine HAW.out.mono ?_
        rintro r w1 ⟨rfl, hb1⟩
        have hX1 := hX0.below hb1
        have hb1' := hb0.trans (hb1.mono (by omega))
        obtain ⟨c0, c1, c2, c3, c4, c5⟩ := hX1.cells
        go_wp2_with fail
        refine (HFW.out w1 hb1').mono ?_
        rintro r w2 ⟨rfl, hb2⟩
        have hb2' := hb1'.trans (hb2.mono hb1'.size)
        have hX2 := hX1.below hb2
        clear c0 c1 c2 c3 c4 c5
        obtain ⟨c0, c1, c2, c3, c4, c5⟩ := hX2.cells
        go_wp2_with fail
        refine (HSH.out w2 hb2').mono ?_
        rintro r w3 ⟨rfl, hb3⟩
        have hb3' := hb2'.trans (hb3.mono hb2'.size)
        have hX3 := hX2.below hb3
        clear c0 c1 c2 c3 c4 c5
        go_wp2_with fail
        refine (strength_any _ _).mono ?_
        rintro r w4 ⟨rfl, rfl⟩
        go_wp2_with fail
        refine (rstrength_any _ _).mono ?_
        rintro r w4 ⟨rfl, hb4⟩
        have hb4' := hb3'.trans (hb4.mono hb3'.size)
        have hX4 := hX3.below hb4
        obtain ⟨c0, c1, c2, c3, c4, c5⟩ := hX4.cells
        go_wp2_with fail
        refine (HRR.out w4 hb4').mono ?_
        rintro r w5 ⟨rfl, hb5⟩
        have hb5' := hb4'.trans (hb5.mono hb4'.size)
        have hX5 := hX4.below hb5
        clear c0 c1 c2 c3 c4 c5
        obtain ⟨c0, c1, c2, c3, c4, c5⟩ := hX5.cells
        go_wp2_with fail
        refine (HRX.out w5 hb5').mono ?_
        rintro r w6 ⟨rfl, hb6⟩
        have hb6' := hb5'.trans (hb6.mono hb5'.size)
        go_wp2_with fail
        refine (HFT.out w6).mono ?_
        rintro r w7 ⟨rfl, hb7⟩
        go_wp2_with fail
        go_ret
        exact ⟨rfl, hb6'.trans (hb7.mono hb6'.size)⟩
end Go.Proofs.YtnlikhjmmnaknaaDoor
