/-
  The walk of show's writer over an expression: merge, if, and all of it.
-/
import Derived.Test.YtnlikhjmmnaknaaDoorShowB
namespace Go.Proofs.YtnlikhjmmnaknaaDoor
open Go.RowKit

theorem flatTo_mono (f : Nat → List UInt8) {j k : Nat} (h : j ≤ k) : (flatTo f j).length ≤ (flatTo f k).length := flatTo_le h

set_option maxHeartbeats 2000000 in
theorem bare_26 (name : ByteArray) (n : Int) (arg : Nat → Ex) (ln cl : Int) (hx : ∀ i, i < 2 → ExprW (arg i)) : BareW (.mk 26 name n 2 arg ln cl) := by
  intro B b l A cap w hE hok hW hT hB3 hlen
  have hltb := hW.lt
  have hleb := hW.le
  have hP := parts_of hE
  have hO := hok.2
  have hI := hE.1
  rw [bare_mk] at hlen
  have HX := hid hx
  have HP := hid hP
  have HO := hid hO
  have hX0 : ExBox (w.alloc (.cells #[.int .i64 26, .string name, .int .i64 n, .slice A (2 : Nat) cap, .int .i64 ln, .int .i64 cl] 26)) w.heap.size (.mk 26 name n 2 arg ln cl) A cap := World.alloc_heap_new w _
  have hK0 : Wkeep B b w (w.alloc (.cells #[.int .i64 26, .string name, .int .i64 n, .slice A (2 : Nat) cap, .int .i64 ln, .int .i64 cl] 26)) := (Wkeep.refl _ _ _).alloc (by omega) _
  have hW0 := hW.alloc (.cells #[.int .i64 26, .string name, .int .i64 n, .slice A (2 : Nat) cap, .int .i64 ln, .int .i64 cl] 26)
  clear hx hP hO
  simp only [Ex.val, Ex.op, Ex.name, Ex.num, Ex.k, Ex.line, Ex.col]
  have hT0 := hT.below hK0.below hB3
  have hbare : (Ex.mk 26 name n 2 arg ln cl).bare = [109, 101, 114, 103, 101, 32] ++ (name.data.toList ++ flatTo (fun i => [32, 40] ++ ((arg i).txt 0 ++ [41])) 2) := by
    rw [show (Ex.mk 26 name n 2 arg ln cl).bare = [109, 101, 114, 103, 101, 32] ++ (name.data.toList ++ ([32, 40] ++ ((arg 0).txt 0 ++ ([41, 32, 40] ++ ((arg 1).txt 0 ++ [41]))))) from rfl]
    simp [flatTo]
  have hlen' : l.length + (6 + (name.data.toList.length + (flatTo (fun i => [32, 40] ++ ((arg i).txt 0 ++ [41])) 2).length)) ≤ 140737488355328 := by
    rw [← bare_mk 26 name n 2 arg ln cl, hbare] at hlen
    simp only [List.length_append, List.length_cons, List.length_nil] at hlen
    omega
  have HBR := hid hbare
  clear hlen hok hE hI hbare
  obtain ⟨d0, d1, d2, d3, d4, d5⟩ := hX0.cells
  simp only [Ex.op, Ex.name, Ex.num, Ex.k, Ex.line, Ex.col] at d0 d1 d2 d3 d4 d5
  go_enter Tryd.func36, Tryd.ntmps36
  go_wp2_with fail
  generalize hV : w.alloc (.cells #[.int .i64 26, .string name, .int .i64 n, .slice A (2 : Nat) cap, .int .i64 ln, .int .i64 cl] 26) = V at *
  have hV0 : w.heap.size + 1 = V.heap.size := by rw [← hV]; simp
  have HV := hid hV
  clear hV d0 d1 d2 d3 d4 d5
  refine (all_new B b l [⟨#[109, 101, 114, 103, 101, 32]⟩, name] _ _ _ _ V hW0 hV0 (by rfl) (by rfl) (by rw [joinB_two, List.length_append]; simp only [List.length_cons, List.length_nil]; omega) (by simp)).mono ?_
  rintro r w2 ⟨rfl, hW2, hK2⟩
  have hK2' := hK0.trans hK2
  have hX2 := hX0.wkeep hK2 (by omega)
  rw [joinB_two] at hW2
  obtain ⟨d0, d1, d2, d3, d4, d5⟩ := hX2.cells
  simp only [Ex.op, Ex.name, Ex.num, Ex.k, Ex.line, Ex.col] at d0 d1 d2 d3 d4 d5
  go_wp2_with fail
  clear d0 d1 d2 d3 d4 d5
  go_loopw [120] (fun i wr => ∃ j : Nat, j ≤ 2 ∧ i = .int .i64 j ∧ Wr B b (l ++ ([109, 101, 114, 103, 101, 32] ++ name.data.toList) ++ flatTo (fun i => [32, 40] ++ ((arg i).txt 0 ++ [41])) j) wr ∧ Wkeep B b w wr) (fun i _ => 2 - (intOf i).toNat)
  case atStart => exact ⟨0, by omega, rfl, by simpa [flatTo] using hW2, hK2'⟩
  case round =>
    obtain ⟨j, hj, rfl, hWr, hK⟩ := hrel
    by_cases hlt : j < 2
    · obtain ⟨b', o, A', cap', rfl, hb, hcells, hin⟩ := (HP.out.below (Nat.le_refl _) hK.below) j hlt
      obtain ⟨c0, c1, c2, c3, c4, c5⟩ := hcells
      have hm := flatTo_mono (fun i => [32, 40] ++ ((arg i).txt 0 ++ [41])) (show j + 1 ≤ 2 by omega)
      rw [flatTo_succ, List.length_append] at hm
      have hm1 : ([32, 40] ++ ((arg j).txt 0 ++ [41])).length = ((arg j).txt 0).length + 3 := by simp
      rw [hm1] at hm
      have hltr := hWr.lt
      have hXj : ExBox (wr.alloc (.cells #[.int .i64 (arg j).op, .string (arg j).name, .int .i64 (arg j).num, .slice A' (arg j).k cap', .int .i64 (arg j).line, .int .i64 (arg j).col] 26)) wr.heap.size (arg j) A' cap' := World.alloc_heap_new wr _
      have hKj : Wkeep B b wr (wr.alloc (.cells #[.int .i64 (arg j).op, .string (arg j).name, .int .i64 (arg j).num, .slice A' (arg j).k cap', .int .i64 (arg j).line, .int .i64 (arg j).col] 26)) := (Wkeep.refl _ _ _).alloc (by omega) _
      have hWj := hWr.alloc (.cells #[.int .i64 (arg j).op, .string (arg j).name, .int .i64 (arg j).num, .slice A' (arg j).k cap', .int .i64 (arg j).line, .int .i64 (arg j).col] 26)
      have HXJ := hid (HX.out j hlt)
      clear hm1
      go_wp2_with fail
      generalize hV : wr.alloc (.cells #[.int .i64 (arg j).op, .string (arg j).name, .int .i64 (arg j).num, .slice A' (arg j).k cap', .int .i64 (arg j).line, .int .i64 (arg j).col] 26) = V1 at *
      have hV1 : wr.heap.size + 1 = V1.heap.size := by rw [← hV]; simp
      have HV1 := hid hV
      clear hV
      refine (all_new B b _ [⟨#[32, 40]⟩] _ _ _ _ V1 hWj hV1 (by rfl) (by rfl) (by rw [joinB_one]; simp only [List.length_append, List.length_cons, List.length_nil]; omega) (by simp)).mono ?_
      rintro r w3 ⟨rfl, hW3, hK3⟩
      have hK3' := hKj.trans hK3
      have hX3 := hXj.wkeep hK3 (by omega)
      clear c0 c1 c2 c3 c4 c5
      obtain ⟨c0, c1, c2, c3, c4, c5⟩ := hX3.cells
      go_wp2_with fail
      clear c0 c1 c2 c3 c4 c5
      refine (HXJ.out B b _ A' cap' 0 w3 (hin.below (Nat.le_refl _) hK3'.below) (HO.out j hlt) hW3 (hT.below (hK.trans hK3').below hB3) hB3 (by rw [joinB_one]; simp only [List.length_append, List.length_cons, List.length_nil]; omega)).mono ?_
      rintro r w4 ⟨rfl, hW4, hK4⟩
      go_wp2_with fail
      refine (all_new B b _ [⟨#[41]⟩] _ _ _ _ w4 hW4 (by rfl) (by rfl) (by rfl) (by rw [joinB_one, joinB_one]; simp only [List.length_append, List.length_cons, List.length_nil]; omega) (by simp)).mono ?_
      rintro r w5 ⟨rfl, hW5, hK5⟩
      go_wp2_with fail
      go_roundw
      case rel => exact ⟨j + 1, by omega, by go_num, by rw [flatTo_succ]; rw [joinB_one, joinB_one] at hW5; simpa using hW5, hK.trans (hK3'.trans (hK4.trans hK5))⟩
      case measure => simp [intOf]; omega
    · have : j = 2 := by omega
      subst this
      go_wp2_with fail
      go_end0
      refine ⟨rfl, ?_, hK⟩
      rw [HBR.out]
      simpa using hWr

/-- what stands ahead of the parts of a choice -/
def ifL : List ByteArray := [⟨#[105, 102, 32]⟩, ⟨#[32, 116, 104, 101, 110, 32]⟩, ⟨#[32, 101, 108, 115, 101, 32]⟩]
def ifAt (j : Nat) : ByteArray := ifL[j]?.getD ⟨#[]⟩

set_option maxHeartbeats 2000000 in
theorem bare_27 (name : ByteArray) (n : Int) (arg : Nat → Ex) (ln cl : Int) (hx : ∀ i, i < 3 → ExprW (arg i)) : BareW (.mk 27 name n 3 arg ln cl) := by
  intro B b l A cap w hE hok hW hT hB3 hlen
  have hltb := hW.lt
  have hleb := hW.le
  have hP := parts_of hE
  have hO := hok.2
  have hI := hE.1
  rw [bare_mk] at hlen
  have HX := hid hx
  have HP := hid hP
  have HO := hid hO
  have hX0 : ExBox (w.alloc (.cells #[.int .i64 27, .string name, .int .i64 n, .slice A (3 : Nat) cap, .int .i64 ln, .int .i64 cl] 26)) w.heap.size (.mk 27 name n 3 arg ln cl) A cap := World.alloc_heap_new w _
  have hK0 : Wkeep B b w (w.alloc (.cells #[.int .i64 27, .string name, .int .i64 n, .slice A (3 : Nat) cap, .int .i64 ln, .int .i64 cl] 26)) := (Wkeep.refl _ _ _).alloc (by omega) _
  have hW0 := hW.alloc (.cells #[.int .i64 27, .string name, .int .i64 n, .slice A (3 : Nat) cap, .int .i64 ln, .int .i64 cl] 26)
  clear hx hP hO
  simp only [Ex.val, Ex.op, Ex.name, Ex.num, Ex.k, Ex.line, Ex.col]
  have hT0 := hT.below hK0.below hB3
  have hbare : (Ex.mk 27 name n 3 arg ln cl).bare = flatTo (fun i => (ifAt i).data.toList ++ (arg i).txt 0) 3 := by
    rw [show (Ex.mk 27 name n 3 arg ln cl).bare = [105, 102, 32] ++ ((arg 0).txt 0 ++ ([32, 116, 104, 101, 110, 32] ++ ((arg 1).txt 0 ++ ([32, 101, 108, 115, 101, 32] ++ (arg 2).txt 0)))) from rfl]
    simp [flatTo, ifAt, ifL]
  have hlen' : l.length + (flatTo (fun i => (ifAt i).data.toList ++ (arg i).txt 0) 3).length ≤ 140737488355328 := by
    rw [← bare_mk 27 name n 3 arg ln cl, hbare] at hlen
    exact hlen
  have HBR := hid hbare
  clear hlen hok hE hI hbare
  obtain ⟨d0, d1, d2, d3, d4, d5⟩ := hX0.cells
  simp only [Ex.op, Ex.name, Ex.num, Ex.k, Ex.line, Ex.col] at d0 d1 d2 d3 d4 d5
  go_enter Tryd.func36, Tryd.ntmps36
  go_wp2_with fail
  generalize hV : w.alloc (.cells #[.int .i64 27, .string name, .int .i64 n, .slice A (3 : Nat) cap, .int .i64 ln, .int .i64 cl] 26) = V at *
  have hV0 : w.heap.size + 1 = V.heap.size := by rw [← hV]; simp
  have HV := hid hV
  clear hV d0 d1 d2 d3 d4 d5
  have hS0 : (V.alloc (.cells (ifL.map Value.string).toArray 9)).heap[V.heap.size]? = some (.cells (ifL.map Value.string).toArray 9 (0, 0)) := World.alloc_heap_new V _
  have hW1 := hW0.alloc (.cells (ifL.map Value.string).toArray 9)
  have hK1 : Wkeep B b V (V.alloc (.cells (ifL.map Value.string).toArray 9)) := (Wkeep.refl _ _ _).alloc (by omega) _
  have hX1 := hX0.wkeep hK1 (by omega)
  have hK1' := hK0.trans hK1
  simp only [show (ifL.map Value.string).toArray = #[Value.string ⟨#[105, 102, 32]⟩, .string ⟨#[32, 116, 104, 101, 110, 32]⟩, .string ⟨#[32, 101, 108, 115, 101, 32]⟩] from rfl] at hW1 hK1 hX1 hK1' hS0
  generalize hU : V.alloc (.cells #[Value.string ⟨#[105, 102, 32]⟩, .string ⟨#[32, 116, 104, 101, 110, 32]⟩, .string ⟨#[32, 101, 108, 115, 101, 32]⟩] 9) = U at *
  have HU := hid hU
  clear hU
  rw [← hV0] at hS0
  have hne : w.heap.size + 1 ≠ b := by omega
  clear hV0
  go_loopw [6, 7, 138] (fun _ _ i wr => ∃ j : Nat, j ≤ 3 ∧ i = .int .i64 j ∧ Wr B b (l ++ flatTo (fun i => (ifAt i).data.toList ++ (arg i).txt 0) j) wr ∧ Wkeep B b U wr) (fun _ _ i _ => 3 - (intOf i).toNat)
  case atStart => exact ⟨0, by omega, rfl, by simpa [flatTo] using hW1, Wkeep.refl _ _ _⟩
  case round =>
    obtain ⟨j, hj, rfl, hWr, hK⟩ := hrel
    by_cases hlt : j < 3
    · have hKw := hK1'.trans hK
      obtain ⟨b', o, A', cap', rfl, hb, hcells, hin⟩ := (HP.out.below (Nat.le_refl _) hKw.below) j hlt
      have hsj : wr.cell? ⟨w.heap.size + 1, j, none⟩ = some (.string (ifAt j)) := by
        rw [hK.cell hne (by decide) hS0]
        rcases (by omega : j = 0 ∨ j = 1 ∨ j = 2) with rfl | rfl | rfl <;> rfl
      have hm := flatTo_mono (fun i => (ifAt i).data.toList ++ (arg i).txt 0) (show j + 1 ≤ 3 by omega)
      rw [flatTo_succ, List.length_append, List.length_append] at hm
      have hltr := hWr.lt
      have HXJ := hid (HX.out j hlt)
      go_wp2_with fail
      refine (all_new B b _ [ifAt j] _ _ _ _ wr hWr (by rfl) (by rfl) (by rfl) (by rw [joinB_one, List.length_append]; omega) (by simp)).mono ?_
      rintro r w3 ⟨rfl, hW3, hK3⟩
      have hK3' := hKw.trans hK3
      have hX3 := (hX1.wkeep hK (by omega)).wkeep hK3 (by omega)
      obtain ⟨d0, d1, d2, d3, d4, d5⟩ := hX3.cells
      simp only [Ex.op, Ex.name, Ex.num, Ex.k, Ex.line, Ex.col] at d0 d1 d2 d3 d4 d5
      obtain ⟨c0, c1, c2, c3, c4, c5⟩ := hcells.keep (w' := w3) fun i => hK3.below.cell (p := ⟨b', i, none⟩) (by simp; omega)
      go_wp2_with fail
      clear c0 c1 c2 c3 c4 c5 d0 d1 d2 d3 d4 d5
      refine (HXJ.out B b _ A' cap' 0 w3 (hin.below (Nat.le_refl _) hK3.below) (HO.out j hlt) hW3 (hT.below hK3'.below hB3) hB3 (by rw [joinB_one]; simp only [List.length_append]; omega)).mono ?_
      rintro r w4 ⟨rfl, hW4, hK4⟩
      go_wp2_with fail
      go_roundw
      case rel => exact ⟨j + 1, by omega, by go_num, by rw [flatTo_succ]; rw [joinB_one] at hW4; simpa using hW4, hK.trans (hK3.trans hK4)⟩
      case measure => simp [intOf]; omega
    · have : j = 3 := by omega
      subst this
      go_wp2_with fail
      go_end0
      refine ⟨rfl, ?_, hK1'.trans hK⟩
      rw [HBR.out]
      exact hWr

set_option maxHeartbeats 2000000 in
theorem bare_two (op : Int) (name : ByteArray) (n : Int) (arg : Nat → Ex) (ln cl : Int) (hs : signed op) (hx : ∀ i, i < 2 → ExprW (arg i)) : BareW (.mk op name n 2 arg ln cl) := by
  intro B b l A cap w hE hok hW hT hB3 hlen
  have hltb := hW.lt
  have hleb := hW.le
  have hP := parts_of hE
  have hO := hok.2
  rw [bare_mk] at hlen
  have HX := hid hx
  have HP := hid hP
  have HO := hid hO
  have hne : ∀ k : Int, (k = 1 ∨ k = 2 ∨ k = 3 ∨ k = 4 ∨ k = 5 ∨ k = 6 ∨ k = 21 ∨ k = 24 ∨ k = 25 ∨ k = 26 ∨ k = 27) → (op == k) = false := fun k hk => by unfold signed at hs; simp; omega
  have hbare : (Ex.mk op name n 2 arg ln cl).bare = (arg 0).txt (leftOf op) ++ (32 :: ((sgnOf op).data.toList ++ (32 :: (arg 1).txt (rightOf op)))) := by
    rw [bare_mk]; unfold signed at hs; unfold bareOf
    rw [if_neg (by omega), if_neg (by omega), if_neg (by omega), if_neg (by omega), if_neg (by omega), if_neg (by omega), if_neg (by omega), if_neg (by omega), if_neg (by omega), if_neg (by omega), if_neg (by omega)]
  have hlen' : l.length + (((arg 0).txt (leftOf op)).length + (((sgnOf op).data.toList).length + 2 + ((arg 1).txt (rightOf op)).length)) ≤ 140737488355328 := by
    rw [← bare_mk op name n 2 arg ln cl, hbare] at hlen
    simp only [List.length_append, List.length_cons] at hlen
    omega
  have HBR := hid hbare
  have HS := hid hs
  have n1 := hne 1 (by omega)
  have n2 := hne 2 (by omega)
  have n3 := hne 3 (by omega)
  have n4 := hne 4 (by omega)
  have n5 := hne 5 (by omega)
  have n6 := hne 6 (by omega)
  have n21 := hne 21 (by omega)
  have n24 := hne 24 (by omega)
  have n25 := hne 25 (by omega)
  have n26 := hne 26 (by omega)
  have n27 := hne 27 (by omega)
  have hX0 : ExBox (w.alloc (.cells #[.int .i64 op, .string name, .int .i64 n, .slice A (2 : Nat) cap, .int .i64 ln, .int .i64 cl] 26)) w.heap.size (.mk op name n 2 arg ln cl) A cap := World.alloc_heap_new w _
  have hK0 : Wkeep B b w (w.alloc (.cells #[.int .i64 op, .string name, .int .i64 n, .slice A (2 : Nat) cap, .int .i64 ln, .int .i64 cl] 26)) := (Wkeep.refl _ _ _).alloc (by omega) _
  have hW0 := hW.alloc (.cells #[.int .i64 op, .string name, .int .i64 n, .slice A (2 : Nat) cap, .int .i64 ln, .int .i64 cl] 26)
  clear hx hP hO hlen hok hE hbare hs hne
  simp only [Ex.val, Ex.op, Ex.name, Ex.num, Ex.k, Ex.line, Ex.col]
  have hT0 := hT.below hK0.below hB3
  obtain ⟨d0, d1, d2, d3, d4, d5⟩ := hX0.cells
  simp only [Ex.op, Ex.name, Ex.num, Ex.k, Ex.line, Ex.col] at d0 d1 d2 d3 d4 d5
  go_enter Tryd.func36, Tryd.ntmps36
  go_wp2_with fail
  clear d0 d1 d2 d3 d4 d5
  refine (pair_wr op name n arg ln cl HS.out (HX.out 0 (by omega)) (HX.out 1 (by omega)) B b l A cap _ (HP.out.below (Nat.le_refl _) hK0.below) HO.out hW0 hT0 hB3 hlen').mono ?_
  rintro r w2 ⟨rfl, hW2, hK2⟩
  go_wp2_with fail
  go_end0
  refine ⟨rfl, ?_, hK0.trans hK2⟩
  rw [HBR.out]
  exact hW2

theorem bare_wr : ∀ e : Ex, e.ok → BareW e := by
  intro e
  induction e with
  | junk => intro h; exact h.elim
  | mk op name n k arg ln cl ih =>
    intro hok
    have hF := plain_facts hok.1
    have hx : ∀ i, i < k → ExprW (arg i) := fun i hi => expr_of_bare _ (ih i (hok.2 i hi))
    have hlo := hF.lo
    have hhi := hF.hi
    by_cases h3 : op ≤ 3
    · have h0 := hF.k0 h3
      subst h0
      rcases (by omega : op = 1 ∨ op = 2 ∨ op = 3) with rfl | rfl | rfl
      · exact bare_1 name n arg ln cl hx
      · exact bare_2 name n arg ln cl hx
      · exact bare_3 name n arg ln cl hx
    · by_cases h4 : op = 4
      · subst h4; exact bare_4 name n k arg ln cl hx
      · by_cases h1 : op = 5 ∨ op = 6 ∨ op = 21 ∨ op = 24 ∨ op = 25
        · have hk := hF.k1 h1
          subst hk
          rcases h1 with rfl | rfl | rfl | rfl | rfl
          · exact bare_5 name n arg ln cl hx
          · exact bare_6 name n arg ln cl hx
          · exact bare_21 name n arg ln cl hx
          · exact bare_24 name n arg ln cl hx
          · exact bare_25 name n arg ln cl hx
        · by_cases h27 : op = 27
          · have hk := hF.k3 h27
            subst hk h27
            exact bare_27 name n arg ln cl hx
          · have hk := hF.k2 (by omega)
            subst hk
            by_cases h26 : op = 26
            · subst h26; exact bare_26 name n arg ln cl hx
            · exact bare_two op name n arg ln cl (by unfold signed; omega) hx
theorem expr_wr (e : Ex) (h : e.ok) : ExprW e := expr_of_bare e (bare_wr e h)
end Go.Proofs.YtnlikhjmmnaknaaDoor
