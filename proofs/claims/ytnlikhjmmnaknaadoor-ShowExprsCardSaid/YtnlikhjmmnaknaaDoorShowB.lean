/-
  The walk of show's writer over an expression: every op.
-/
import Derived.Test.YtnlikhjmmnaknaaDoorShowL
namespace Go.Proofs.YtnlikhjmmnaknaaDoor
open Go.RowKit

theorem joinB_one (s : ByteArray) : joinB [s] = s.data.toList := by simp [joinB]
theorem joinB_two (s t : ByteArray) : joinB [s, t] = s.data.toList ++ t.data.toList := by simp [joinB]
theorem parts_of {B : Nat} {w : World} {op : Int} {name : ByteArray} {n : Int} {k : Nat} {arg : Nat → Ex} {l c : Int} {A : Option Addr} {cap : Nat} (h : ExAt B w (.mk op name n k arg l c) A cap) : PartsAt B w A k arg := h.2

set_option maxHeartbeats 2000000 in
theorem bare_1 (name : ByteArray) (n : Int) (arg : Nat → Ex) (ln cl : Int) (hx : ∀ i, i < 0 → ExprW (arg i)) : BareW (.mk 1 name n 0 arg ln cl) := by
  intro B b l A cap w hE hok hW hT hB3 hlen
  have hltb := hW.lt
  have hleb := hW.le
  have hP := parts_of hE
  have hF := plain_facts hok.1
  have hO := hok.2
  have hI := hE.1
  rw [bare_mk] at hlen
  have HX := hid hx
  have HP := hid hP
  have HO := hid hO
  have hX0 : ExBox (w.alloc (.cells #[.int .i64 1, .string name, .int .i64 n, .slice A (0 : Nat) cap, .int .i64 ln, .int .i64 cl] 26)) w.heap.size (.mk 1 name n 0 arg ln cl) A cap := World.alloc_heap_new w _
  have hK0 : Wkeep B b w (w.alloc (.cells #[.int .i64 1, .string name, .int .i64 n, .slice A (0 : Nat) cap, .int .i64 ln, .int .i64 cl] 26)) := (Wkeep.refl _ _ _).alloc (by omega) _
  have hW0 := hW.alloc (.cells #[.int .i64 1, .string name, .int .i64 n, .slice A (0 : Nat) cap, .int .i64 ln, .int .i64 cl] 26)
  clear hx hP hO
  simp only [Ex.val, Ex.op, Ex.name, Ex.num, Ex.k, Ex.line, Ex.col]
  have hT0 := hT.below hK0.below hB3
  have hlen' : l.length + (Lib.itoa n).length ≤ 140737488355328 := hlen
  have hI64 : I64 n := hI.2.2.1
  clear hlen hok hE hF hI
  obtain ⟨d0, d1, d2, d3, d4, d5⟩ := hX0.cells
  simp only [Ex.op, Ex.name, Ex.num, Ex.k, Ex.line, Ex.col] at d0 d1 d2 d3 d4 d5
  go_enter Tryd.func36, Tryd.ntmps36
  go_wp2_with fail
  generalize hV : w.alloc (.cells #[.int .i64 1, .string name, .int .i64 n, .slice A (0 : Nat) cap, .int .i64 ln, .int .i64 cl] 26) = V at *
  have HV := hid hV
  clear hV
  refine (itoa_any n V hI64 hT0).mono ?_
  rintro r w1 ⟨rfl, hb1⟩
  have hW1 := hW0.below hb1
  have hlt0 := hW0.lt
  have hle0 := hW0.le
  have hK1 : Wkeep B b V w1 := Wkeep.of_below hb1 (by omega)
  go_wp2_with fail
  refine (all_new B b l [⟨(Lib.itoa n).toArray⟩] _ _ _ _ w1 hW1 (by rfl) (by rfl) (by rfl) (by rw [joinB_one]; exact hlen') (by simp)).mono ?_
  rintro r w2 ⟨rfl, hW2, hK2⟩
  go_wp2_with fail
  go_end0
  refine ⟨rfl, ?_, (hK0.trans hK1).trans hK2⟩
  rw [joinB_one] at hW2
  exact hW2

set_option maxHeartbeats 2000000 in
theorem bare_2 (name : ByteArray) (n : Int) (arg : Nat → Ex) (ln cl : Int) (hx : ∀ i, i < 0 → ExprW (arg i)) : BareW (.mk 2 name n 0 arg ln cl) := by
  intro B b l A cap w hE hok hW hT hB3 hlen
  have hltb := hW.lt
  have hleb := hW.le
  have hP := parts_of hE
  have hF := plain_facts hok.1
  have hO := hok.2
  have hI := hE.1
  rw [bare_mk] at hlen
  have HX := hid hx
  have HP := hid hP
  have HO := hid hO
  have hX0 : ExBox (w.alloc (.cells #[.int .i64 2, .string name, .int .i64 n, .slice A (0 : Nat) cap, .int .i64 ln, .int .i64 cl] 26)) w.heap.size (.mk 2 name n 0 arg ln cl) A cap := World.alloc_heap_new w _
  have hK0 : Wkeep B b w (w.alloc (.cells #[.int .i64 2, .string name, .int .i64 n, .slice A (0 : Nat) cap, .int .i64 ln, .int .i64 cl] 26)) := (Wkeep.refl _ _ _).alloc (by omega) _
  have hW0 := hW.alloc (.cells #[.int .i64 2, .string name, .int .i64 n, .slice A (0 : Nat) cap, .int .i64 ln, .int .i64 cl] 26)
  clear hx hP hO
  simp only [Ex.val, Ex.op, Ex.name, Ex.num, Ex.k, Ex.line, Ex.col]
  have hT0 := hT.below hK0.below hB3
  have hI64 : I64 n := hI.2.2.1
  have hfb : ((Lib.formatBool (n == 1)) : List UInt8) = bareOf 2 name n 0 (fun i least => (arg i).txt least) := by
    unfold bareOf
    rcases hF.n2 rfl with h | h <;> subst h <;> rfl
  have hlen' : l.length + (Lib.formatBool (n == 1)).length ≤ 140737488355328 := by rw [hfb]; exact hlen
  have HFB := hid hfb
  clear hlen hok hE hF hI hfb
  obtain ⟨d0, d1, d2, d3, d4, d5⟩ := hX0.cells
  simp only [Ex.op, Ex.name, Ex.num, Ex.k, Ex.line, Ex.col] at d0 d1 d2 d3 d4 d5
  go_enter Tryd.func36, Tryd.ntmps36
  go_wp2_with fail
  refine (Tryd.strconv_FormatBool _ _).mono ?_
  rintro r w1 ⟨rfl, rfl⟩
  go_wp2_with fail
  generalize hV : w.alloc (.cells #[.int .i64 2, .string name, .int .i64 n, .slice A (0 : Nat) cap, .int .i64 ln, .int .i64 cl] 26) = V at *
  have hV0 : w.heap.size + 1 = V.heap.size := by rw [← hV]; simp
  have HV := hid hV
  clear hV
  refine (all_new B b l [⟨(Lib.formatBool (n == 1)).toArray⟩] _ _ _ _ V hW0 hV0 (by rfl) (by rfl) (by rw [joinB_one]; exact hlen') (by simp)).mono ?_
  rintro r w2 ⟨rfl, hW2, hK2⟩
  go_wp2_with fail
  go_end0
  refine ⟨rfl, ?_, hK0.trans hK2⟩
  rw [joinB_one] at hW2
  rw [bare_mk, ← HFB.out]
  exact hW2

set_option maxHeartbeats 2000000 in
theorem bare_3 (name : ByteArray) (n : Int) (arg : Nat → Ex) (ln cl : Int) (hx : ∀ i, i < 0 → ExprW (arg i)) : BareW (.mk 3 name n 0 arg ln cl) := by
  intro B b l A cap w hE hok hW hT hB3 hlen
  have hltb := hW.lt
  have hleb := hW.le
  have hP := parts_of hE
  have hF := plain_facts hok.1
  have hO := hok.2
  have hI := hE.1
  rw [bare_mk] at hlen
  have HX := hid hx
  have HP := hid hP
  have HO := hid hO
  have hX0 : ExBox (w.alloc (.cells #[.int .i64 3, .string name, .int .i64 n, .slice A (0 : Nat) cap, .int .i64 ln, .int .i64 cl] 26)) w.heap.size (.mk 3 name n 0 arg ln cl) A cap := World.alloc_heap_new w _
  have hK0 : Wkeep B b w (w.alloc (.cells #[.int .i64 3, .string name, .int .i64 n, .slice A (0 : Nat) cap, .int .i64 ln, .int .i64 cl] 26)) := (Wkeep.refl _ _ _).alloc (by omega) _
  have hW0 := hW.alloc (.cells #[.int .i64 3, .string name, .int .i64 n, .slice A (0 : Nat) cap, .int .i64 ln, .int .i64 cl] 26)
  clear hx hP hO
  simp only [Ex.val, Ex.op, Ex.name, Ex.num, Ex.k, Ex.line, Ex.col]
  have hT0 := hT.below hK0.below hB3
  have hlen' : l.length + name.data.toList.length ≤ 140737488355328 := hlen
  clear hlen hok hE hF hI
  obtain ⟨d0, d1, d2, d3, d4, d5⟩ := hX0.cells
  simp only [Ex.op, Ex.name, Ex.num, Ex.k, Ex.line, Ex.col] at d0 d1 d2 d3 d4 d5
  go_enter Tryd.func36, Tryd.ntmps36
  go_wp2_with fail
  generalize hV : w.alloc (.cells #[.int .i64 3, .string name, .int .i64 n, .slice A (0 : Nat) cap, .int .i64 ln, .int .i64 cl] 26) = V at *
  have hV0 : w.heap.size + 1 = V.heap.size := by rw [← hV]; simp
  have HV := hid hV
  clear hV
  refine (all_new B b l [name] _ _ _ _ V hW0 hV0 (by rfl) (by rfl) (by rw [joinB_one]; exact hlen') (by simp)).mono ?_
  rintro r w2 ⟨rfl, hW2, hK2⟩
  go_wp2_with fail
  go_end0
  refine ⟨rfl, ?_, hK0.trans hK2⟩
  rw [joinB_one] at hW2
  exact hW2

set_option maxHeartbeats 2000000 in
theorem bare_4 (name : ByteArray) (n : Int) (k : Nat) (arg : Nat → Ex) (ln cl : Int) (hx : ∀ i, i < k → ExprW (arg i)) : BareW (.mk 4 name n k arg ln cl) := by
  intro B b l A cap w hE hok hW hT hB3 hlen
  have hltb := hW.lt
  have hleb := hW.le
  have hP := parts_of hE
  have hF := plain_facts hok.1
  have hO := hok.2
  have hI := hE.1
  rw [bare_mk] at hlen
  have HX := hid hx
  have HP := hid hP
  have HO := hid hO
  have hX0 : ExBox (w.alloc (.cells #[.int .i64 4, .string name, .int .i64 n, .slice A (k : Nat) cap, .int .i64 ln, .int .i64 cl] 26)) w.heap.size (.mk 4 name n k arg ln cl) A cap := World.alloc_heap_new w _
  have hK0 : Wkeep B b w (w.alloc (.cells #[.int .i64 4, .string name, .int .i64 n, .slice A (k : Nat) cap, .int .i64 ln, .int .i64 cl] 26)) := (Wkeep.refl _ _ _).alloc (by omega) _
  have hW0 := hW.alloc (.cells #[.int .i64 4, .string name, .int .i64 n, .slice A (k : Nat) cap, .int .i64 ln, .int .i64 cl] 26)
  clear hx hP hO
  simp only [Ex.val, Ex.op, Ex.name, Ex.num, Ex.k, Ex.line, Ex.col]
  have hT0 := hT.below hK0.below hB3
  have hk8 := (hF.k4 rfl).2
  have hlen' : l.length + (name.data.toList.length + ((commaTo (fun i => (arg i).txt 0) k).length + 2)) ≤ 140737488355328 := by
    rw [show bareOf 4 name n k (fun i least => (arg i).txt least) = name.data.toList ++ (40 :: (commaTo (fun i => (arg i).txt 0) k ++ [41])) from rfl] at hlen
    simp only [List.length_append, List.length_cons, List.length_nil] at hlen
    omega
  clear hlen hok hE hF hI
  obtain ⟨d0, d1, d2, d3, d4, d5⟩ := hX0.cells
  simp only [Ex.op, Ex.name, Ex.num, Ex.k, Ex.line, Ex.col] at d0 d1 d2 d3 d4 d5
  go_enter Tryd.func36, Tryd.ntmps36
  go_wp2_with fail
  generalize hV : w.alloc (.cells #[.int .i64 4, .string name, .int .i64 n, .slice A (k : Nat) cap, .int .i64 ln, .int .i64 cl] 26) = V at *
  have hV0 : w.heap.size + 1 = V.heap.size := by rw [← hV]; simp
  have HV := hid hV
  clear hV
  clear d0 d1 d2 d3 d4 d5
  refine (all_new B b l [name, ⟨#[40]⟩] _ _ _ _ V hW0 hV0 (by rfl) (by rfl) (by rw [joinB_two, List.length_append, List.length_cons, List.length_nil]; omega) (by simp)).mono ?_
  rintro r w2 ⟨rfl, hW2, hK2⟩
  have hK2' := hK0.trans hK2
  have hX2 := hX0.wkeep hK2 (by omega)
  obtain ⟨d0, d1, d2, d3, d4, d5⟩ := hX2.cells
  simp only [Ex.op, Ex.name, Ex.num, Ex.k, Ex.line, Ex.col] at d0 d1 d2 d3 d4 d5
  go_wp2_with fail
  clear d0 d1 d2 d3 d4 d5
  refine (list_wr k arg HX.out B b _ A cap w2 (HP.out.below (Nat.le_refl _) hK2'.below) HO.out hW2 (hT.below hK2'.below hB3) hB3 (by omega) (by rw [joinB_two, List.length_append, List.length_append, List.length_cons, List.length_nil]; omega)).mono ?_
  rintro r w3 ⟨rfl, hW3, hK3⟩
  go_wp2_with fail
  refine (all_new B b _ [⟨#[41]⟩] _ _ _ _ w3 hW3 (by rfl) (by rfl) (by rfl) (by rw [joinB_one, joinB_two, List.length_append, List.length_append, List.length_append, List.length_cons, List.length_nil, List.length_cons, List.length_nil]; omega) (by simp)).mono ?_
  rintro r w4 ⟨rfl, hW4, hK4⟩
  go_wp2_with fail
  go_end0
  refine ⟨rfl, ?_, hK2'.trans (hK3.trans hK4)⟩
  rw [joinB_one, joinB_two] at hW4
  rw [show (Ex.mk 4 name n k arg ln cl).bare = name.data.toList ++ (40 :: (commaTo (fun i => (arg i).txt 0) k ++ [41])) from rfl]
  simpa using hW4

set_option maxHeartbeats 2000000 in
theorem bare_5 (name : ByteArray) (n : Int) (arg : Nat → Ex) (ln cl : Int) (hx : ∀ i, i < 1 → ExprW (arg i)) : BareW (.mk 5 name n 1 arg ln cl) := by
  intro B b l A cap w hE hok hW hT hB3 hlen
  have hltb := hW.lt
  have hleb := hW.le
  have hP := parts_of hE
  have hF := plain_facts hok.1
  have hO := hok.2
  have hI := hE.1
  rw [bare_mk] at hlen
  have HX := hid hx
  have HP := hid hP
  have HO := hid hO
  have hX0 : ExBox (w.alloc (.cells #[.int .i64 5, .string name, .int .i64 n, .slice A (1 : Nat) cap, .int .i64 ln, .int .i64 cl] 26)) w.heap.size (.mk 5 name n 1 arg ln cl) A cap := World.alloc_heap_new w _
  have hK0 : Wkeep B b w (w.alloc (.cells #[.int .i64 5, .string name, .int .i64 n, .slice A (1 : Nat) cap, .int .i64 ln, .int .i64 cl] 26)) := (Wkeep.refl _ _ _).alloc (by omega) _
  have hW0 := hW.alloc (.cells #[.int .i64 5, .string name, .int .i64 n, .slice A (1 : Nat) cap, .int .i64 ln, .int .i64 cl] 26)
  clear hx hP hO
  simp only [Ex.val, Ex.op, Ex.name, Ex.num, Ex.k, Ex.line, Ex.col]
  have hT0 := hT.below hK0.below hB3
  have hlen' : l.length + (1 + ((arg 0).txt 9).length) ≤ 140737488355328 := by
    rw [show bareOf 5 name n 1 (fun i least => (arg i).txt least) = [45] ++ (arg 0).txt 9 from rfl] at hlen
    simp only [List.length_append, List.length_cons, List.length_nil] at hlen
    omega
  clear hlen hok hE hF hI
  obtain ⟨d0, d1, d2, d3, d4, d5⟩ := hX0.cells
  simp only [Ex.op, Ex.name, Ex.num, Ex.k, Ex.line, Ex.col] at d0 d1 d2 d3 d4 d5
  go_enter Tryd.func36, Tryd.ntmps36
  go_wp2_with fail
  generalize hV : w.alloc (.cells #[.int .i64 5, .string name, .int .i64 n, .slice A (1 : Nat) cap, .int .i64 ln, .int .i64 cl] 26) = V at *
  have hV0 : w.heap.size + 1 = V.heap.size := by rw [← hV]; simp
  have HV := hid hV
  clear hV
  clear d0 d1 d2 d3 d4 d5
  refine (all_new B b l [⟨#[45]⟩] _ _ _ _ V hW0 hV0 (by rfl) (by rfl) (by rw [joinB_one]; simp only [List.length_cons, List.length_nil]; omega) (by simp)).mono ?_
  rintro r w2 ⟨rfl, hW2, hK2⟩
  have hK2' := hK0.trans hK2
  have hX2 := hX0.wkeep hK2 (by omega)
  obtain ⟨d0, d1, d2, d3, d4, d5⟩ := hX2.cells
  simp only [Ex.op, Ex.name, Ex.num, Ex.k, Ex.line, Ex.col] at d0 d1 d2 d3 d4 d5
  obtain ⟨b1, o1, A1, cap1, he1, hb1, hc1, hin1⟩ := (HP.out.below (Nat.le_refl _) hK2'.below) 0 (by omega)
  subst he1
  obtain ⟨c0, c1, c2, c3, c4, c5⟩ := hc1
  simp only [Nat.zero_mul, Nat.add_zero] at c0 c1 c2 c3 c4 c5
  go_wp2_with fail
  clear d0 d1 d2 d3 d4 d5
  refine (HX.out 0 (by omega) B b _ A1 cap1 _ _ hin1 (HO.out 0 (by omega)) hW2 (hT.below hK2'.below hB3) hB3 (by rw [joinB_one]; simp only [List.length_append, List.length_cons, List.length_nil]; omega)).mono ?_
  clear c0 c1 c2 c3 c4 c5
  rintro r w3 ⟨rfl, hW3, hK3⟩
  go_wp2_with fail
  go_end0
  refine ⟨rfl, ?_, hK2'.trans hK3⟩
  rw [joinB_one] at hW3
  rw [show (Ex.mk 5 name n 1 arg ln cl).bare = [45] ++ (arg 0).txt 9 from rfl]
  simpa using hW3

set_option maxHeartbeats 2000000 in
theorem bare_6 (name : ByteArray) (n : Int) (arg : Nat → Ex) (ln cl : Int) (hx : ∀ i, i < 1 → ExprW (arg i)) : BareW (.mk 6 name n 1 arg ln cl) := by
  intro B b l A cap w hE hok hW hT hB3 hlen
  have hltb := hW.lt
  have hleb := hW.le
  have hP := parts_of hE
  have hF := plain_facts hok.1
  have hO := hok.2
  have hI := hE.1
  rw [bare_mk] at hlen
  have HX := hid hx
  have HP := hid hP
  have HO := hid hO
  have hX0 : ExBox (w.alloc (.cells #[.int .i64 6, .string name, .int .i64 n, .slice A (1 : Nat) cap, .int .i64 ln, .int .i64 cl] 26)) w.heap.size (.mk 6 name n 1 arg ln cl) A cap := World.alloc_heap_new w _
  have hK0 : Wkeep B b w (w.alloc (.cells #[.int .i64 6, .string name, .int .i64 n, .slice A (1 : Nat) cap, .int .i64 ln, .int .i64 cl] 26)) := (Wkeep.refl _ _ _).alloc (by omega) _
  have hW0 := hW.alloc (.cells #[.int .i64 6, .string name, .int .i64 n, .slice A (1 : Nat) cap, .int .i64 ln, .int .i64 cl] 26)
  clear hx hP hO
  simp only [Ex.val, Ex.op, Ex.name, Ex.num, Ex.k, Ex.line, Ex.col]
  have hT0 := hT.below hK0.below hB3
  have hlen' : l.length + (4 + ((arg 0).txt 9).length) ≤ 140737488355328 := by
    rw [show bareOf 6 name n 1 (fun i least => (arg i).txt least) = [110, 111, 116, 32] ++ (arg 0).txt 9 from rfl] at hlen
    simp only [List.length_append, List.length_cons, List.length_nil] at hlen
    omega
  clear hlen hok hE hF hI
  obtain ⟨d0, d1, d2, d3, d4, d5⟩ := hX0.cells
  simp only [Ex.op, Ex.name, Ex.num, Ex.k, Ex.line, Ex.col] at d0 d1 d2 d3 d4 d5
  go_enter Tryd.func36, Tryd.ntmps36
  go_wp2_with fail
  generalize hV : w.alloc (.cells #[.int .i64 6, .string name, .int .i64 n, .slice A (1 : Nat) cap, .int .i64 ln, .int .i64 cl] 26) = V at *
  have hV0 : w.heap.size + 1 = V.heap.size := by rw [← hV]; simp
  have HV := hid hV
  clear hV
  clear d0 d1 d2 d3 d4 d5
  refine (all_new B b l [⟨#[110, 111, 116, 32]⟩] _ _ _ _ V hW0 hV0 (by rfl) (by rfl) (by rw [joinB_one]; simp only [List.length_cons, List.length_nil]; omega) (by simp)).mono ?_
  rintro r w2 ⟨rfl, hW2, hK2⟩
  have hK2' := hK0.trans hK2
  have hX2 := hX0.wkeep hK2 (by omega)
  obtain ⟨d0, d1, d2, d3, d4, d5⟩ := hX2.cells
  simp only [Ex.op, Ex.name, Ex.num, Ex.k, Ex.line, Ex.col] at d0 d1 d2 d3 d4 d5
  obtain ⟨b1, o1, A1, cap1, he1, hb1, hc1, hin1⟩ := (HP.out.below (Nat.le_refl _) hK2'.below) 0 (by omega)
  subst he1
  obtain ⟨c0, c1, c2, c3, c4, c5⟩ := hc1
  simp only [Nat.zero_mul, Nat.add_zero] at c0 c1 c2 c3 c4 c5
  go_wp2_with fail
  clear d0 d1 d2 d3 d4 d5
  refine (HX.out 0 (by omega) B b _ A1 cap1 _ _ hin1 (HO.out 0 (by omega)) hW2 (hT.below hK2'.below hB3) hB3 (by rw [joinB_one]; simp only [List.length_append, List.length_cons, List.length_nil]; omega)).mono ?_
  clear c0 c1 c2 c3 c4 c5
  rintro r w3 ⟨rfl, hW3, hK3⟩
  go_wp2_with fail
  go_end0
  refine ⟨rfl, ?_, hK2'.trans hK3⟩
  rw [joinB_one] at hW3
  rw [show (Ex.mk 6 name n 1 arg ln cl).bare = [110, 111, 116, 32] ++ (arg 0).txt 9 from rfl]
  simpa using hW3

set_option maxHeartbeats 2000000 in
theorem bare_21 (name : ByteArray) (n : Int) (arg : Nat → Ex) (ln cl : Int) (hx : ∀ i, i < 1 → ExprW (arg i)) : BareW (.mk 21 name n 1 arg ln cl) := by
  intro B b l A cap w hE hok hW hT hB3 hlen
  have hltb := hW.lt
  have hleb := hW.le
  have hP := parts_of hE
  have hF := plain_facts hok.1
  have hO := hok.2
  have hI := hE.1
  rw [bare_mk] at hlen
  have HX := hid hx
  have HP := hid hP
  have HO := hid hO
  have hX0 : ExBox (w.alloc (.cells #[.int .i64 21, .string name, .int .i64 n, .slice A (1 : Nat) cap, .int .i64 ln, .int .i64 cl] 26)) w.heap.size (.mk 21 name n 1 arg ln cl) A cap := World.alloc_heap_new w _
  have hK0 : Wkeep B b w (w.alloc (.cells #[.int .i64 21, .string name, .int .i64 n, .slice A (1 : Nat) cap, .int .i64 ln, .int .i64 cl] 26)) := (Wkeep.refl _ _ _).alloc (by omega) _
  have hW0 := hW.alloc (.cells #[.int .i64 21, .string name, .int .i64 n, .slice A (1 : Nat) cap, .int .i64 ln, .int .i64 cl] 26)
  clear hx hP hO
  simp only [Ex.val, Ex.op, Ex.name, Ex.num, Ex.k, Ex.line, Ex.col]
  have hT0 := hT.below hK0.below hB3
  have hlen' : l.length + (4 + ((arg 0).txt 9).length) ≤ 140737488355328 := by
    rw [show bareOf 21 name n 1 (fun i least => (arg i).txt least) = [112, 114, 101, 32] ++ (arg 0).txt 9 from rfl] at hlen
    simp only [List.length_append, List.length_cons, List.length_nil] at hlen
    omega
  clear hlen hok hE hF hI
  obtain ⟨d0, d1, d2, d3, d4, d5⟩ := hX0.cells
  simp only [Ex.op, Ex.name, Ex.num, Ex.k, Ex.line, Ex.col] at d0 d1 d2 d3 d4 d5
  go_enter Tryd.func36, Tryd.ntmps36
  go_wp2_with fail
  generalize hV : w.alloc (.cells #[.int .i64 21, .string name, .int .i64 n, .slice A (1 : Nat) cap, .int .i64 ln, .int .i64 cl] 26) = V at *
  have hV0 : w.heap.size + 1 = V.heap.size := by rw [← hV]; simp
  have HV := hid hV
  clear hV
  clear d0 d1 d2 d3 d4 d5
  refine (all_new B b l [⟨#[112, 114, 101, 32]⟩] _ _ _ _ V hW0 hV0 (by rfl) (by rfl) (by rw [joinB_one]; simp only [List.length_cons, List.length_nil]; omega) (by simp)).mono ?_
  rintro r w2 ⟨rfl, hW2, hK2⟩
  have hK2' := hK0.trans hK2
  have hX2 := hX0.wkeep hK2 (by omega)
  obtain ⟨d0, d1, d2, d3, d4, d5⟩ := hX2.cells
  simp only [Ex.op, Ex.name, Ex.num, Ex.k, Ex.line, Ex.col] at d0 d1 d2 d3 d4 d5
  obtain ⟨b1, o1, A1, cap1, he1, hb1, hc1, hin1⟩ := (HP.out.below (Nat.le_refl _) hK2'.below) 0 (by omega)
  subst he1
  obtain ⟨c0, c1, c2, c3, c4, c5⟩ := hc1
  simp only [Nat.zero_mul, Nat.add_zero] at c0 c1 c2 c3 c4 c5
  go_wp2_with fail
  clear d0 d1 d2 d3 d4 d5
  refine (HX.out 0 (by omega) B b _ A1 cap1 _ _ hin1 (HO.out 0 (by omega)) hW2 (hT.below hK2'.below hB3) hB3 (by rw [joinB_one]; simp only [List.length_append, List.length_cons, List.length_nil]; omega)).mono ?_
  clear c0 c1 c2 c3 c4 c5
  rintro r w3 ⟨rfl, hW3, hK3⟩
  go_wp2_with fail
  go_end0
  refine ⟨rfl, ?_, hK2'.trans hK3⟩
  rw [joinB_one] at hW3
  rw [show (Ex.mk 21 name n 1 arg ln cl).bare = [112, 114, 101, 32] ++ (arg 0).txt 9 from rfl]
  simpa using hW3

set_option maxHeartbeats 2000000 in
theorem bare_24 (name : ByteArray) (n : Int) (arg : Nat → Ex) (ln cl : Int) (hx : ∀ i, i < 1 → ExprW (arg i)) : BareW (.mk 24 name n 1 arg ln cl) := by
  intro B b l A cap w hE hok hW hT hB3 hlen
  have hltb := hW.lt
  have hleb := hW.le
  have hP := parts_of hE
  have hF := plain_facts hok.1
  have hO := hok.2
  have hI := hE.1
  rw [bare_mk] at hlen
  have HX := hid hx
  have HP := hid hP
  have HO := hid hO
  have hX0 : ExBox (w.alloc (.cells #[.int .i64 24, .string name, .int .i64 n, .slice A (1 : Nat) cap, .int .i64 ln, .int .i64 cl] 26)) w.heap.size (.mk 24 name n 1 arg ln cl) A cap := World.alloc_heap_new w _
  have hK0 : Wkeep B b w (w.alloc (.cells #[.int .i64 24, .string name, .int .i64 n, .slice A (1 : Nat) cap, .int .i64 ln, .int .i64 cl] 26)) := (Wkeep.refl _ _ _).alloc (by omega) _
  have hW0 := hW.alloc (.cells #[.int .i64 24, .string name, .int .i64 n, .slice A (1 : Nat) cap, .int .i64 ln, .int .i64 cl] 26)
  clear hx hP hO
  simp only [Ex.val, Ex.op, Ex.name, Ex.num, Ex.k, Ex.line, Ex.col]
  have hT0 := hT.below hK0.below hB3
  have hlen' : l.length + (6 + ((arg 0).txt 3).length + name.data.toList.length) ≤ 140737488355328 := by
    rw [show bareOf 24 name n 1 (fun i least => (arg i).txt least) = (arg 0).txt 3 ++ ([32, 119, 104, 101, 110, 32] ++ name.data.toList) from rfl] at hlen
    simp only [List.length_append, List.length_cons, List.length_nil] at hlen
    omega
  clear hlen hok hE hF hI
  obtain ⟨d0, d1, d2, d3, d4, d5⟩ := hX0.cells
  simp only [Ex.op, Ex.name, Ex.num, Ex.k, Ex.line, Ex.col] at d0 d1 d2 d3 d4 d5
  obtain ⟨b1, o1, A1, cap1, he1, hb1, hc1, hin1⟩ := (HP.out.below (Nat.le_refl _) hK0.below) 0 (by omega)
  subst he1
  obtain ⟨c0, c1, c2, c3, c4, c5⟩ := hc1
  simp only [Nat.zero_mul, Nat.add_zero] at c0 c1 c2 c3 c4 c5
  go_enter Tryd.func36, Tryd.ntmps36
  go_wp2_with fail
  clear d0 d1 d2 d3 d4 d5
  refine (HX.out 0 (by omega) B b _ A1 cap1 _ _ hin1 (HO.out 0 (by omega)) hW0 hT0 hB3 (by omega)).mono ?_
  clear c0 c1 c2 c3 c4 c5
  rintro r w3 ⟨rfl, hW3, hK3⟩
  have hK3' := hK0.trans hK3
  have hX3 := hX0.wkeep hK3 (by omega)
  obtain ⟨d0, d1, d2, d3, d4, d5⟩ := hX3.cells
  simp only [Ex.op, Ex.name, Ex.num, Ex.k, Ex.line, Ex.col] at d0 d1 d2 d3 d4 d5
  go_wp2_with fail
  refine (all_new B b _ [⟨#[32, 119, 104, 101, 110, 32]⟩, name] _ _ _ _ w3 hW3 (by rfl) (by rfl) (by rfl) (by rw [joinB_two]; simp only [List.length_append, List.length_cons, List.length_nil]; omega) (by simp)).mono ?_
  clear d0 d1 d2 d3 d4 d5
  rintro r w4 ⟨rfl, hW4, hK4⟩
  go_wp2_with fail
  go_end0
  refine ⟨rfl, ?_, hK3'.trans hK4⟩
  rw [joinB_two] at hW4
  rw [show (Ex.mk 24 name n 1 arg ln cl).bare = (arg 0).txt 3 ++ ([32, 119, 104, 101, 110, 32] ++ name.data.toList) from rfl]
  simpa using hW4

set_option maxHeartbeats 2000000 in
theorem bare_25 (name : ByteArray) (n : Int) (arg : Nat → Ex) (ln cl : Int) (hx : ∀ i, i < 1 → ExprW (arg i)) : BareW (.mk 25 name n 1 arg ln cl) := by
  intro B b l A cap w hE hok hW hT hB3 hlen
  have hltb := hW.lt
  have hleb := hW.le
  have hP := parts_of hE
  have hF := plain_facts hok.1
  have hO := hok.2
  have hI := hE.1
  rw [bare_mk] at hlen
  have HX := hid hx
  have HP := hid hP
  have HO := hid hO
  have hX0 : ExBox (w.alloc (.cells #[.int .i64 25, .string name, .int .i64 n, .slice A (1 : Nat) cap, .int .i64 ln, .int .i64 cl] 26)) w.heap.size (.mk 25 name n 1 arg ln cl) A cap := World.alloc_heap_new w _
  have hK0 : Wkeep B b w (w.alloc (.cells #[.int .i64 25, .string name, .int .i64 n, .slice A (1 : Nat) cap, .int .i64 ln, .int .i64 cl] 26)) := (Wkeep.refl _ _ _).alloc (by omega) _
  have hW0 := hW.alloc (.cells #[.int .i64 25, .string name, .int .i64 n, .slice A (1 : Nat) cap, .int .i64 ln, .int .i64 cl] 26)
  clear hx hP hO
  simp only [Ex.val, Ex.op, Ex.name, Ex.num, Ex.k, Ex.line, Ex.col]
  have hT0 := hT.below hK0.below hB3
  have hlen' : l.length + (10 + ((arg 0).txt 3).length + name.data.toList.length) ≤ 140737488355328 := by
    rw [show bareOf 25 name n 1 (fun i least => (arg i).txt least) = (arg 0).txt 3 ++ ([32, 119, 104, 101, 110, 32, 110, 111, 116, 32] ++ name.data.toList) from rfl] at hlen
    simp only [List.length_append, List.length_cons, List.length_nil] at hlen
    omega
  clear hlen hok hE hF hI
  obtain ⟨d0, d1, d2, d3, d4, d5⟩ := hX0.cells
  simp only [Ex.op, Ex.name, Ex.num, Ex.k, Ex.line, Ex.col] at d0 d1 d2 d3 d4 d5
  obtain ⟨b1, o1, A1, cap1, he1, hb1, hc1, hin1⟩ := (HP.out.below (Nat.le_refl _) hK0.below) 0 (by omega)
  subst he1
  obtain ⟨c0, c1, c2, c3, c4, c5⟩ := hc1
  simp only [Nat.zero_mul, Nat.add_zero] at c0 c1 c2 c3 c4 c5
  go_enter Tryd.func36, Tryd.ntmps36
  go_wp2_with fail
  clear d0 d1 d2 d3 d4 d5
  refine (HX.out 0 (by omega) B b _ A1 cap1 _ _ hin1 (HO.out 0 (by omega)) hW0 hT0 hB3 (by omega)).mono ?_
  clear c0 c1 c2 c3 c4 c5
  rintro r w3 ⟨rfl, hW3, hK3⟩
  have hK3' := hK0.trans hK3
  have hX3 := hX0.wkeep hK3 (by omega)
  obtain ⟨d0, d1, d2, d3, d4, d5⟩ := hX3.cells
  simp only [Ex.op, Ex.name, Ex.num, Ex.k, Ex.line, Ex.col] at d0 d1 d2 d3 d4 d5
  go_wp2_with fail
  refine (all_new B b _ [⟨#[32, 119, 104, 101, 110, 32, 110, 111, 116, 32]⟩, name] _ _ _ _ w3 hW3 (by rfl) (by rfl) (by rfl) (by rw [joinB_two]; simp only [List.length_append, List.length_cons, List.length_nil]; omega) (by simp)).mono ?_
  clear d0 d1 d2 d3 d4 d5
  rintro r w4 ⟨rfl, hW4, hK4⟩
  go_wp2_with fail
  go_end0
  refine ⟨rfl, ?_, hK3'.trans hK4⟩
  rw [joinB_two] at hW4
  rw [show (Ex.mk 25 name n 1 arg ln cl).bare = (arg 0).txt 3 ++ ([32, 119, 104, 101, 110, 32, 110, 111, 116, 32] ++ name.data.toList) from rfl]
  simpa using hW4
end Go.Proofs.YtnlikhjmmnaknaaDoor
