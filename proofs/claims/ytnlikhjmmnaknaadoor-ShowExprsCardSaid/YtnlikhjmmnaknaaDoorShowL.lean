/-
  The walks of show's writer over a list of expressions, and over an expression of two parts.
-/
import Derived.Test.YtnlikhjmmnaknaaDoorShowW
namespace Go.Proofs.YtnlikhjmmnaknaaDoor
open Go.RowKit

/-- the parts of an expression, as they lie -/
def PartsAt (B : Nat) (w : World) (A : Option Addr) (k : Nat) (arg : Nat → Ex) : Prop := ∀ i, i < k → ∃ b o A' cap', A = some ⟨b, o, none⟩ ∧ b < B ∧ CellsAt w b (o + i * 6) (arg i) A' cap' ∧ ExAt B w (arg i) A' cap'
theorem PartsAt.below {B B' : Nat} {w w' : World} {A : Option Addr} {k : Nat} {arg : Nat → Ex} (h : PartsAt B w A k arg) (hB : B ≤ B') (hb : Below B' w w') : PartsAt B w' A k arg := fun i hi => by
  obtain ⟨b, o, A', cap', h1, h2, h3, h4⟩ := h i hi
  exact ⟨b, o, A', cap', h1, h2, h3.keep fun i => hb.cell (p := ⟨b, i, none⟩) (by simp; omega), h4.below hB hb⟩

theorem commaTo_mono (f : Nat → List UInt8) {j k : Nat} (h : j ≤ k) : (commaTo f j).length ≤ (commaTo f k).length := by
  induction k with
  | zero => obtain rfl : j = 0 := by omega
            exact Nat.le_refl _
  | succ k ih =>
    by_cases e : j = k + 1
    · subst e; exact Nat.le_refl _
    · have := ih (by omega)
      rw [commaTo, List.length_append]; omega

set_option maxHeartbeats 1000000 in
theorem list_wr (k : Nat) (arg : Nat → Ex) (hx : ∀ i, i < k → ExprW (arg i)) (B b : Nat) (l : List UInt8) (A : Option Addr) (cap : Nat) (w : World) (hA : PartsAt B w A k arg) (hok : ∀ i, i < k → (arg i).ok)
    (hW : Wr B b l w) (hT : Tab w) (hB3 : tabG < B) (hk : k ≤ 1000000) (hlen : l.length + (commaTo (fun i => (arg i).txt 0) k).length ≤ 140737488355328) :
    Calls Tryd.prog 58 #[.pointer (some ⟨b, 0, none⟩), .slice A k cap] w (Writes B b l (commaTo (fun i => (arg i).txt 0) k) w) := by
  have HX := hid hx
  have HA := hid hA
  have HO := hid hok
  clear hx hA hok
  go_enter Tryd.func58, Tryd.ntmps58
  go_wp2_with fail
  go_loopw [8] (fun i wr => ∃ j : Nat, j ≤ k ∧ i = .int .i64 j ∧ Wr B b (l ++ commaTo (fun i => (arg i).txt 0) j) wr ∧ Wkeep B b w wr) (fun i _ => k - (intOf i).toNat)
  case atStart => exact ⟨0, by omega, rfl, by simpa [commaTo] using hW, Wkeep.refl _ _ _⟩
  case round =>
    obtain ⟨j, hj, rfl, hWr, hK⟩ := hrel
    by_cases hlt : j < k
    · obtain ⟨b', o, A', cap', rfl, hb, hcells, hin⟩ := (HA.out.below (Nat.le_refl _) hK.below) j hlt
      obtain ⟨c0, c1, c2, c3, c4, c5⟩ := hcells
      have hm := commaTo_mono (fun i => (arg i).txt 0) (show j + 1 ≤ k by omega)
      rw [commaTo, List.length_append, List.length_append] at hm
      have hltb := hWr.lt
      have hleb := hWr.le
      have hX0 : ExBox (wr.alloc (.cells #[.int .i64 (arg j).op, .string (arg j).name, .int .i64 (arg j).num, .slice A' (arg j).k cap', .int .i64 (arg j).line, .int .i64 (arg j).col] 26)) wr.heap.size (arg j) A' cap' := World.alloc_heap_new wr _
      have hK0 : Wkeep B b wr (wr.alloc (.cells #[.int .i64 (arg j).op, .string (arg j).name, .int .i64 (arg j).num, .slice A' (arg j).k cap', .int .i64 (arg j).line, .int .i64 (arg j).col] 26)) := (Wkeep.refl _ _ _).alloc (by omega) _
      have hW0 := hWr.alloc (.cells #[.int .i64 (arg j).op, .string (arg j).name, .int .i64 (arg j).num, .slice A' (arg j).k cap', .int .i64 (arg j).line, .int .i64 (arg j).col] 26)
      have hxj := HX.out j hlt
      have HXJ := hid hxj
      clear hxj
      by_cases h0 : 0 < j
      · have hm' : l.length + ((commaTo (fun i => (arg i).txt 0) j).length + (2 + ((arg j).txt 0).length)) ≤ 140737488355328 := by rw [if_neg (by omega)] at hm; simp only [List.length_cons, List.length_nil] at hm; omega
        have HC : Hid (commaTo (fun i => (arg i).txt 0) (j + 1) = commaTo (fun i => (arg i).txt 0) j ++ ([44, 32] ++ (arg j).txt 0)) := by show _ = _; rw [commaTo, if_neg (by omega)]
        clear hm
        go_wp2_with fail
        generalize hV : wr.alloc (.cells #[.int .i64 (arg j).op, .string (arg j).name, .int .i64 (arg j).num, .slice A' (arg j).k cap', .int .i64 (arg j).line, .int .i64 (arg j).col] 26) = V at *
        have hV0 : wr.heap.size + 1 = V.heap.size := by rw [← hV]; simp
        have HV := hid hV
        clear hV
        refine (all_new B b _ [⟨#[44, 32]⟩] _ _ _ _ V hW0 hV0 (by rfl) (by rfl) (by simp [joinB]; omega) (by decide)).mono ?_
        rintro r w1 ⟨rfl, hW1, hK1⟩
        have hX1 := hX0.wkeep hK1 (by omega)
        have hK1' := hK0.trans hK1
        obtain ⟨c0, c1, c2, c3, c4, c5⟩ := hX1.cells
        go_wp2_with fail
        refine (HXJ.out B b _ A' cap' 0 w1 (hin.below (Nat.le_refl _) hK1'.below) (HO.out j hlt) hW1 (hT.below (hK.trans hK1').below hB3) hB3 (by simp [joinB]; omega)).mono ?_
        rintro r w2 ⟨rfl, hW2, hK2⟩
        go_wp2_with fail
        go_roundw
        case rel => exact ⟨j + 1, by omega, by go_num, by rw [HC.out]; simpa [joinB] using hW2, hK.trans (hK1'.trans hK2)⟩
        case measure => simp [intOf]; omega
      · obtain rfl : j = 0 := by omega
        have hm' : l.length + ((commaTo (fun i => (arg i).txt 0) 0).length + ((arg 0).txt 0).length) ≤ 140737488355328 := by rw [if_pos rfl] at hm; simp only [List.length_nil] at hm; omega
        have HC : Hid (commaTo (fun i => (arg i).txt 0) (0 + 1) = commaTo (fun i => (arg i).txt 0) 0 ++ (arg 0).txt 0) := by show _ = _; simp [commaTo]
        clear hm
        simp only [Nat.zero_mul, Nat.add_zero] at c0 c1 c2 c3 c4 c5
        obtain ⟨d0, d1, d2, d3, d4, d5⟩ := hX0.cells
        go_wp2_with fail
        refine (HXJ.out B b _ A' cap' 0 _ (hin.below (Nat.le_refl _) hK0.below) (HO.out 0 hlt) hW0 (hT.below (hK.trans hK0).below hB3) hB3 (by rw [List.length_append]; omega)).mono ?_
        rintro r w2 ⟨rfl, hW2, hK2⟩
        go_wp2_with fail
        go_roundw
        case rel => exact ⟨1, by omega, by go_num, by rw [HC.out]; simpa [joinB] using hW2, hK.trans (hK0.trans hK2)⟩
        case measure => simp [intOf]; omega
    · have : j = k := by omega
      subst this
      go_wp2_with fail
      go_end0
      exact ⟨rfl, hWr, hK⟩

theorem joinB_sign (s : ByteArray) : joinB [⟨#[32]⟩, s, ⟨#[32]⟩] = 32 :: (s.data.toList ++ [32]) := by simp [joinB]
theorem strOf_ways (op : Int) : ∃ m L R : Int, strOf op = m ∧ leftOf op = L ∧ rightOf op = R ∧ 0 ≤ m ∧ m ≤ 10 ∧
    ((m = 6 ∧ L = 7 ∧ R = 7) ∨ (m = 1 ∧ L = 2 ∧ R = 1) ∨ (m = 2 ∧ L = 3 ∧ R = 2) ∨ (L = m ∧ R = m + 1 ∧ (m == 6) = false ∧ (m == 1) = false ∧ (m == 2) = false)) := by
  refine ⟨_, _, _, rfl, rfl, rfl, (strOf_bd op).1, (strOf_bd op).2, ?_⟩
  unfold leftOf rightOf
  by_cases h6 : strOf op = 6
  · exact .inl ⟨h6, by rw [if_pos h6], by rw [if_neg (by omega), h6]; rfl⟩
  · by_cases h1 : strOf op = 1
    · exact .inr (.inl ⟨h1, by rw [if_neg h6, if_pos (.inl h1), h1]; rfl, by rw [if_pos (.inl h1), h1]⟩)
    · by_cases h2 : strOf op = 2
      · exact .inr (.inr (.inl ⟨h2, by rw [if_neg h6, if_pos (.inr h2), h2]; rfl, by rw [if_pos (.inr h2), h2]⟩))
      · exact .inr (.inr (.inr ⟨by rw [if_neg h6, if_neg (by omega)], by rw [if_neg (by omega)], by simpa using h6, by simpa using h1, by simpa using h2⟩))

set_option maxHeartbeats 4000000 in
theorem pair_wr (op : Int) (name : ByteArray) (n : Int) (arg : Nat → Ex) (ln cl : Int) (hs : signed op) (hx0 : ExprW (arg 0)) (hx1 : ExprW (arg 1)) (B b : Nat) (l : List UInt8) (A : Option Addr) (cap : Nat) (w : World)
    (hA : PartsAt B w A 2 arg) (hok : ∀ i, i < 2 → (arg i).ok)
    (hW : Wr B b l w) (hT : Tab w) (hB3 : tabG < B) (hlen : l.length + (((arg 0).txt (leftOf op)).length + (((sgnOf op).data.toList).length + 2 + ((arg 1).txt (rightOf op)).length)) ≤ 140737488355328) :
    Calls Tryd.prog 59 #[.pointer (some ⟨b, 0, none⟩), (Ex.mk op name n 2 arg ln cl).val A cap] w
      (Writes B b l ((arg 0).txt (leftOf op) ++ (32 :: ((sgnOf op).data.toList ++ (32 :: (arg 1).txt (rightOf op))))) w) := by
  have hltb := hW.lt
  have hleb := hW.le
  have HX0 := hid hx0
  have HX1 := hid hx1
  have HS := hid hs
  have HO := hid hok
  obtain ⟨b0, o0, A0, cap0, rfl, hb0, hc0, hin0⟩ := hA 0 (by omega)
  have HA := hid hA
  have hX0 : ExBox (w.alloc (.cells #[.int .i64 op, .string name, .int .i64 n, .slice (some ⟨b0, o0, none⟩) 2 cap, .int .i64 ln, .int .i64 cl] 26)) w.heap.size (.mk op name n 2 arg ln cl) (some ⟨b0, o0, none⟩) cap := World.alloc_heap_new w _
  have hK0 : Wkeep B b w (w.alloc (.cells #[.int .i64 op, .string name, .int .i64 n, .slice (some ⟨b0, o0, none⟩) 2 cap, .int .i64 ln, .int .i64 cl] 26)) := (Wkeep.refl _ _ _).alloc (by omega) _
  have hW0 := hW.alloc (.cells #[.int .i64 op, .string name, .int .i64 n, .slice (some ⟨b0, o0, none⟩) 2 cap, .int .i64 ln, .int .i64 cl] 26)
  clear hx0 hx1 hs hok hA hin0 hc0
  obtain ⟨m, L, R, hm, hL, hR, hm0, hm10, hway⟩ := strOf_ways op
  rw [hL, hR] at hlen
  have HM := hid hm
  have HL := hid hL
  have HR := hid hR
  clear hm hL hR
  simp only [Ex.val, Ex.op, Ex.name, Ex.num, Ex.k, Ex.line, Ex.col]
  rcases hway with ⟨rfl, rfl, rfl⟩ | ⟨rfl, rfl, rfl⟩ | ⟨rfl, rfl, rfl⟩ | ⟨rfl, rfl, hq6, hq1, hq2⟩ <;>
  ( go_enter Tryd.func59, Tryd.ntmps59
    go_wp2_with fail
    refine (strength_any _ _).mono ?_
    rintro r w0 ⟨rfl, rfl⟩
    rw [HM.out]
    have hP1 := HA.out.below (Nat.le_refl _) hK0.below
    obtain ⟨b1, o1, A1, cap1, he, hb1, hc1, hin1⟩ := hP1 0 (by omega)
    injection he with he
    injection he with he1 he2
    subst he1 he2
    obtain ⟨c0, c1, c2, c3, c4, c5⟩ := hc1
    simp only [Nat.zero_mul, Nat.add_zero] at c0 c1 c2 c3 c4 c5
    obtain ⟨d0, d1, d2, d3, d4, d5⟩ := hX0.cells
    simp only [Ex.op, Ex.name, Ex.num, Ex.k, Ex.line, Ex.col] at d0 d1 d2 d3 d4 d5
    go_wp2_with fail
    refine (HX0.out B b _ A1 cap1 _ _ hin1 (HO.out 0 (by omega)) hW0 (hT.below hK0.below hB3) hB3 (by omega)).mono ?_
    clear c0 c1 c2 c3 c4 c5 d0 d1 d2 d3 d4 d5
    rintro r w2 ⟨rfl, hW2, hK2⟩
    have hK2' := hK0.trans hK2
    have hX2 := hX0.wkeep hK2 (by omega)
    obtain ⟨d0, d1, d2, d3, d4, d5⟩ := hX2.cells
    simp only [Ex.op, Ex.name, Ex.num, Ex.k, Ex.line, Ex.col] at d0 d1 d2 d3 d4 d5
    go_wp2_with fail
    refine (sign_show _ _ HS.out).mono ?_
    rintro r w3 ⟨rfl, rfl⟩
    go_wp2_with fail
    refine (all_new B b _ [⟨#[32]⟩, sgnOf op, ⟨#[32]⟩] _ _ _ _ w2 hW2 (by rfl) (by rfl) (by rfl) (by rw [joinB_sign, List.length_append, List.length_cons, List.length_append, List.length_cons, List.length_nil]; omega) (by simp)).mono ?_
    clear d0 d1 d2 d3 d4 d5
    rintro r w4 ⟨rfl, hW4, hK4⟩
    have hK4' := hK2'.trans hK4
    have hX4 := hX2.wkeep hK4 (by omega)
    have hP2 := HA.out.below (Nat.le_refl _) hK4'.below
    obtain ⟨b2, o2, A2, cap2, he, hb2, hc2, hin2⟩ := hP2 1 (by omega)
    injection he with he
    injection he with he1 he2
    subst he1 he2
    obtain ⟨c0, c1, c2, c3, c4, c5⟩ := hc2
    simp only [Nat.one_mul] at c0 c1 c2 c3 c4 c5
    obtain ⟨d0, d1, d2, d3, d4, d5⟩ := hX4.cells
    simp only [Ex.op, Ex.name, Ex.num, Ex.k, Ex.line, Ex.col] at d0 d1 d2 d3 d4 d5
    go_wp2_with fail
    refine (HX1.out B b _ A2 cap2 _ _ hin2 (HO.out 1 (by omega)) hW4 (hT.below hK4'.below hB3) hB3 (by rw [joinB_sign, List.length_append, List.length_append, List.length_cons, List.length_append, List.length_cons, List.length_nil]; omega)).mono ?_
    clear c0 c1 c2 c3 c4 c5 d0 d1 d2 d3 d4 d5
    rintro r w5 ⟨rfl, hW5, hK5⟩
    go_wp2_with fail
    go_end0
    refine ⟨rfl, ?_, hK4'.trans hK5⟩
    rw [HL.out, HR.out]
    simpa [joinB] using hW5)
end Go.Proofs.YtnlikhjmmnaknaaDoor
