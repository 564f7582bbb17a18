/-
  The walk of the reference's Expr: the same text.
-/
import Derived.Test.YtnlikhjmmnaknaaDoorShowX
import Derived.Lib.QuietBelow
import Derived.Deep.QuietTactic
import Derived.BigQuiet
namespace Go.Proofs.YtnlikhjmmnaknaaDoor
open Go.RowKit Go.Sort

theorem hmix : Tryd.prog.follows .mixedOrders = true := by kernel_rfl
theorem ba_ext {a b : ByteArray} (h : a.data.toList = b.data.toList) : a = b := by
  apply ByteArray.ext
  apply Array.toList_inj.1
  exact h
theorem ret_str {a b : ByteArray} (h : a.data.toList = b.data.toList) : Ending.returned (.string a) = .returned (.string b) := by rw [ba_ext h]

def RExprW (e : Ex) : Prop := ∀ (B : Nat) (A : Option Addr) (cap : Nat) (least : Int) (w : World), ExAt B w e A cap → e.ok → B ≤ w.heap.size → 0 ≤ least → least ≤ 20 → (e.txt least).length ≤ 140737488355328 →
  Calls Tryd.prog 12 #[e.val A cap, .int .i64 least] w fun r w' => r = .returned (.string ⟨(e.txt least).toArray⟩) ∧ Below w.heap.size w w'
def RBareW (e : Ex) : Prop := ∀ (B : Nat) (A : Option Addr) (cap : Nat) (least : Int) (w : World), ExAt B w e A cap → e.ok → B ≤ w.heap.size → 0 ≤ least → least ≤ strOf e.op → e.bare.length ≤ 140737488355328 →
  Calls Tryd.prog 12 #[e.val A cap, .int .i64 least] w fun r w' => r = .returned (.string ⟨e.bare.toArray⟩) ∧ Below w.heap.size w w'

set_option maxRecDepth 100000 in
set_option maxHeartbeats 1000000 in
theorem rexpr_of_bare (e : Ex) (hB : RBareW e) : RExprW e := by
  intro B A cap least w hE hok hB0 hl0 hl20 hlen
  have hE' := ExAt.more hB0 e A cap hE
  by_cases hs : strOf e.op < least
  · have HT : Hid (e.txt least = 40 :: (e.bare ++ [41])) := by show _ = _; unfold Ex.txt wrapT; rw [if_pos hs]
    have hlen' : e.bare.length + 2 ≤ 140737488355328 := by rw [HT.out] at hlen; simpa using hlen
    have hb0 : Below w.heap.size w (w.alloc (.cells #[.int .i64 e.op, .string e.name, .int .i64 e.num, .slice A e.k cap, .int .i64 e.line, .int .i64 e.col] 26)) := (Below.refl _ _).alloc (Nat.le_refl _) _
    have hX0 : ExBox (w.alloc (.cells #[.int .i64 e.op, .string e.name, .int .i64 e.num, .slice A e.k cap, .int .i64 e.line, .int .i64 e.col] 26)) w.heap.size e A cap := World.alloc_heap_new w _
    have HB := hid hB
    clear hB hlen
    have hbd := strOf_bd e.op
    unfold Ex.val
    go_enter Tryd.func12, Tryd.ntmps12
    go_wp2_with fail
    refine (rstrength_any _ _).mono ?_
    rintro r w1 ⟨rfl, hb1⟩
    have hX1 := hX0.below hb1
    have hb1' := hb0.trans (hb1.mono (by simp))
    obtain ⟨c0, c1, c2, c3, c4, c5⟩ := hX1.cells
    go_wp2_with fail
    refine (HB.out w.heap.size A cap 0 w1 (hE'.below (Nat.le_refl _) hb1') hok hb1'.size (by omega) (by omega) (by omega)).mono ?_
    rintro r w2 ⟨rfl, hb2⟩
    have hls : (⟨e.bare.toArray⟩ : ByteArray).size = e.bare.length := rfl
    go_wp2_with fail
    go_ret
    refine ⟨ret_str ?_, hb1'.trans (hb2.mono hb1'.size)⟩
    rw [HT.out]
    simp
  · have HT : Hid (e.txt least = e.bare) := by show _ = _; unfold Ex.txt wrapT; rw [if_neg hs]
    rw [HT.out] at hlen ⊢
    exact hB B A cap least w hE hok hB0 hl0 (by omega) hlen

set_option maxRecDepth 100000 in
set_option maxHeartbeats 2000000 in
theorem rbare_24 (name : ByteArray) (n : Int) (arg : Nat → Ex) (ln cl : Int) (hx : ∀ i, i < 1 → RExprW (arg i)) : RBareW (.mk 24 name n 1 arg ln cl) := by
  intro B A cap least w hE hok hB0 hl0 hls hlen
  have hE' := ExAt.more hB0 _ A cap hE
  have hP := parts_of hE'
  have hF := plain_facts hok.1
  have hO := hok.2
  have hI := hE.1
  simp only [Ex.op] at hls
  have hbd := strOf_bd 24
  have HX := hid hx
  have HP := hid hP
  have HO := hid hO
  have hX0 : ExBox (w.alloc (.cells #[.int .i64 24, .string name, .int .i64 n, .slice A (1 : Nat) cap, .int .i64 ln, .int .i64 cl] 26)) w.heap.size (.mk 24 name n 1 arg ln cl) A cap := World.alloc_heap_new w _
  have hb0 : Below w.heap.size w (w.alloc (.cells #[.int .i64 24, .string name, .int .i64 n, .slice A (1 : Nat) cap, .int .i64 ln, .int .i64 cl] 26)) := (Below.refl _ _).alloc (Nat.le_refl _) _
  clear hx hP hO hE hE'
  have hbare : (Ex.mk 24 name n 1 arg ln cl).bare = (arg 0).txt 3 ++ ([32, 119, 104, 101, 110, 32] ++ name.data.toList) := rfl
  have hlen' : ((arg 0).txt 3).length + (6 + name.size) ≤ 140737488355328 := by
    rw [hbare] at hlen
    simp only [List.length_append, List.length_cons, List.length_nil, Array.length_toList] at hlen
    have : name.data.size = name.size := rfl
    omega
  have HBR := hid hbare
  clear hlen hok hF hI hbare
  simp only [Ex.val, Ex.op, Ex.name, Ex.num, Ex.k, Ex.line, Ex.col]
  go_enter Tryd.func12, Tryd.ntmps12
  go_wp2_with fail
  refine (rstrength_any _ _).mono ?_
  rintro r w1 ⟨rfl, hb1⟩
  have hX1 := hX0.below hb1
  have hb1' := hb0.trans (hb1.mono (by simp))
  have hz1 := hb1'.size
  obtain ⟨d0, d1, d2, d3, d4, d5⟩ := hX1.cells
  simp only [Ex.op, Ex.name, Ex.num, Ex.k, Ex.line, Ex.col] at d0 d1 d2 d3 d4 d5
  obtain ⟨b1, o1, A1, cap1, he1, hb1x, hc1, hin1⟩ := (HP.out.below (Nat.le_refl _) hb1') 0 (by omega)
  subst he1
  obtain ⟨c10, c11, c12, c13, c14, c15⟩ := hc1
  simp only [Nat.zero_mul, Nat.add_zero] at c10 c11 c12 c13 c14 c15
  clear hX0 hX1
  have k1 : ∀ d os, Calls Tryd.prog 12 #[(arg 0).val A1 cap1, .int .i64 (3)] (grow (redrawn w1 d) os) fun e w' => e = .returned (.string ⟨((arg 0).txt (3)).toArray⟩) ∧ ∃ p : Regrown, w' = grow (redrawn w1 p.d) p.os := fun d os =>
    Calls.regrown_of (HX.out 0 (by omega) w.heap.size A1 cap1 (3) _ (hin1.below (Nat.le_refl _) ((below_regrown w1 d os).mono hz1)) (HO.out 0 (by omega)) (Nat.le_trans hz1 (below_regrown w1 d os).size) (by omega) (by omega) (by omega))
  unfold Ex.val at k1
  have hs1 : (⟨((arg 0).txt (3)).toArray⟩ : ByteArray).size = ((arg 0).txt (3)).length := rfl
  have gc10 := cell_regrown c10
  have gc11 := cell_regrown c11
  have gc12 := cell_regrown c12
  have gc13 := cell_regrown c13
  have gc14 := cell_regrown c14
  have gc15 := cell_regrown c15
  have gd1 := cell_regrown d1
  go_wp2_with fail
  refine wp_region_quiet_below hmix (by kernel_rfl) ?_
  repeat (first | go_big_quiet_step (first | (go_at_call 12; with_reducible exact k1 _ _)) | quiet_step (first | (go_at_call 12; with_reducible exact k1 _ _)))
  refine wpQuiet_nil ?_
  intro _ hw'
  obtain ⟨⟨dq, osq⟩, hw''⟩ := hw'
  subst hw''
  go_wp2_with fail
  go_ret
  refine ⟨ret_str ?_, hb1'.trans ((below_regrown w1 _ _).mono hz1)⟩
  rw [HBR.out]
  simp

set_option maxRecDepth 100000 in
set_option maxHeartbeats 2000000 in
theorem rbare_25 (name : ByteArray) (n : Int) (arg : Nat → Ex) (ln cl : Int) (hx : ∀ i, i < 1 → RExprW (arg i)) : RBareW (.mk 25 name n 1 arg ln cl) := by
  intro B A cap least w hE hok hB0 hl0 hls hlen
  have hE' := ExAt.more hB0 _ A cap hE
  have hP := parts_of hE'
  have hF := plain_facts hok.1
  have hO := hok.2
  have hI := hE.1
  simp only [Ex.op] at hls
  have hbd := strOf_bd 25
  have HX := hid hx
  have HP := hid hP
  have HO := hid hO
  have hX0 : ExBox (w.alloc (.cells #[.int .i64 25, .string name, .int .i64 n, .slice A (1 : Nat) cap, .int .i64 ln, .int .i64 cl] 26)) w.heap.size (.mk 25 name n 1 arg ln cl) A cap := World.alloc_heap_new w _
  have hb0 : Below w.heap.size w (w.alloc (.cells #[.int .i64 25, .string name, .int .i64 n, .slice A (1 : Nat) cap, .int .i64 ln, .int .i64 cl] 26)) := (Below.refl _ _).alloc (Nat.le_refl _) _
  clear hx hP hO hE hE'
  have hbare : (Ex.mk 25 name n 1 arg ln cl).bare = (arg 0).txt 3 ++ ([32, 119, 104, 101, 110, 32, 110, 111, 116, 32] ++ name.data.toList) := rfl
  have hlen' : ((arg 0).txt 3).length + (10 + name.size) ≤ 140737488355328 := by
    rw [hbare] at hlen
    simp only [List.length_append, List.length_cons, List.length_nil, Array.length_toList] at hlen
    have : name.data.size = name.size := rfl
    omega
  have HBR := hid hbare
  clear hlen hok hF hI hbare
  simp only [Ex.val, Ex.op, Ex.name, Ex.num, Ex.k, Ex.line, Ex.col]
  go_enter Tryd.func12, Tryd.ntmps12
  go_wp2_with fail
  refine (rstrength_any _ _).mono ?_
  rintro r w1 ⟨rfl, hb1⟩
  have hX1 := hX0.below hb1
  have hb1' := hb0.trans (hb1.mono (by simp))
  have hz1 := hb1'.size
  obtain ⟨d0, d1, d2, d3, d4, d5⟩ := hX1.cells
  simp only [Ex.op, Ex.name, Ex.num, Ex.k, Ex.line, Ex.col] at d0 d1 d2 d3 d4 d5
  obtain ⟨b1, o1, A1, cap1, he1, hb1x, hc1, hin1⟩ := (HP.out.below (Nat.le_refl _) hb1') 0 (by omega)
  subst he1
  obtain ⟨c10, c11, c12, c13, c14, c15⟩ := hc1
  simp only [Nat.zero_mul, Nat.add_zero] at c10 c11 c12 c13 c14 c15
  clear hX0 hX1
  have k1 : ∀ d os, Calls Tryd.prog 12 #[(arg 0).val A1 cap1, .int .i64 (3)] (grow (redrawn w1 d) os) fun e w' => e = .returned (.string ⟨((arg 0).txt (3)).toArray⟩) ∧ ∃ p : Regrown, w' = grow (redrawn w1 p.d) p.os := fun d os =>
    Calls.regrown_of (HX.out 0 (by omega) w.heap.size A1 cap1 (3) _ (hin1.below (Nat.le_refl _) ((below_regrown w1 d os).mono hz1)) (HO.out 0 (by omega)) (Nat.le_trans hz1 (below_regrown w1 d os).size) (by omega) (by omega) (by omega))
  unfold Ex.val at k1
  have hs1 : (⟨((arg 0).txt (3)).toArray⟩ : ByteArray).size = ((arg 0).txt (3)).length := rfl
  have gc10 := cell_regrown c10
  have gc11 := cell_regrown c11
  have gc12 := cell_regrown c12
  have gc13 := cell_regrown c13
  have gc14 := cell_regrown c14
  have gc15 := cell_regrown c15
  have gd1 := cell_regrown d1
  go_wp2_with fail
  refine wp_region_quiet_below hmix (by kernel_rfl) ?_
  repeat (first | go_big_quiet_step (first | (go_at_call 12; with_reducible exact k1 _ _)) | quiet_step (first | (go_at_call 12; with_reducible exact k1 _ _)))
  refine wpQuiet_nil ?_
  intro _ hw'
  obtain ⟨⟨dq, osq⟩, hw''⟩ := hw'
  subst hw''
  go_wp2_with fail
  go_ret
  refine ⟨ret_str ?_, hb1'.trans ((below_regrown w1 _ _).mono hz1)⟩
  rw [HBR.out]
  simp

set_option maxRecDepth 100000 in
set_option maxHeartbeats 2000000 in
theorem rbare_1 (name : ByteArray) (n : Int) (arg : Nat → Ex) (ln cl : Int) (hx : ∀ i, i < 0 → RExprW (arg i)) : RBareW (.mk 1 name n 0 arg ln cl) := by
  intro B A cap least w hE hok hB0 hl0 hls hlen
  have hE' := ExAt.more hB0 _ A cap hE
  have hP := parts_of hE'
  have hF := plain_facts hok.1
  have hO := hok.2
  have hI := hE.1
  simp only [Ex.op] at hls
  have hbd := strOf_bd 1
  have HX := hid hx
  have HP := hid hP
  have HO := hid hO
  have hX0 : ExBox (w.alloc (.cells #[.int .i64 1, .string name, .int .i64 n, .slice A (0 : Nat) cap, .int .i64 ln, .int .i64 cl] 26)) w.heap.size (.mk 1 name n 0 arg ln cl) A cap := World.alloc_heap_new w _
  have hb0 : Below w.heap.size w (w.alloc (.cells #[.int .i64 1, .string name, .int .i64 n, .slice A (0 : Nat) cap, .int .i64 ln, .int .i64 cl] 26)) := (Below.refl _ _).alloc (Nat.le_refl _) _
  clear hx hP hO hE hE'
  have hI64 : n ≤ 9223372036854775807 := hI.2.2.1.2
  obtain ⟨u, rfl⟩ := Int.eq_ofNat_of_zero_le (hF.n1 rfl)
  have hbare : (Ex.mk 1 name u 0 arg ln cl).bare = Lib.decDigits u := Lib.itoa_nonneg u
  have HBR := hid hbare
  clear hlen hok hF hI hbare
  simp only [Ex.val, Ex.op, Ex.name, Ex.num, Ex.k, Ex.line, Ex.col]
  go_enter Tryd.func12, Tryd.ntmps12
  go_wp2_with fail
  refine (rstrength_any _ _).mono ?_
  rintro r w1 ⟨rfl, hb1⟩
  have hX1 := hX0.below hb1
  have hb1' := hb0.trans (hb1.mono (by simp))
  have hz1 := hb1'.size
  obtain ⟨d0, d1, d2, d3, d4, d5⟩ := hX1.cells
  simp only [Ex.op, Ex.name, Ex.num, Ex.k, Ex.line, Ex.col] at d0 d1 d2 d3 d4 d5
  clear hX0 hX1
  go_wp2_with fail
  refine (rdigits_any u u w1 (Nat.le_refl _) (by omega)).mono ?_
  rintro r w2 ⟨rfl, rfl⟩
  go_wp2_with fail
  go_ret
  refine ⟨?_, hb1'⟩
  rw [HBR.out]
  rfl

set_option maxRecDepth 100000 in
set_option maxHeartbeats 2000000 in
theorem rbare_2 (name : ByteArray) (n : Int) (arg : Nat → Ex) (ln cl : Int) (hx : ∀ i, i < 0 → RExprW (arg i)) : RBareW (.mk 2 name n 0 arg ln cl) := by
  intro B A cap least w hE hok hB0 hl0 hls hlen
  have hE' := ExAt.more hB0 _ A cap hE
  have hP := parts_of hE'
  have hF := plain_facts hok.1
  have hO := hok.2
  have hI := hE.1
  simp only [Ex.op] at hls
  have hbd := strOf_bd 2
  have HX := hid hx
  have HP := hid hP
  have HO := hid hO
  have hX0 : ExBox (w.alloc (.cells #[.int .i64 2, .string name, .int .i64 n, .slice A (0 : Nat) cap, .int .i64 ln, .int .i64 cl] 26)) w.heap.size (.mk 2 name n 0 arg ln cl) A cap := World.alloc_heap_new w _
  have hb0 : Below w.heap.size w (w.alloc (.cells #[.int .i64 2, .string name, .int .i64 n, .slice A (0 : Nat) cap, .int .i64 ln, .int .i64 cl] 26)) := (Below.refl _ _).alloc (Nat.le_refl _) _
  clear hx hP hO hE hE'
  rcases hF.n2 rfl with rfl | rfl
  all_goals
    clear hlen hok hF hI
    simp only [Ex.val, Ex.op, Ex.name, Ex.num, Ex.k, Ex.line, Ex.col]
    go_enter Tryd.func12, Tryd.ntmps12
    go_wp2_with fail
    refine (rstrength_any _ _).mono ?_
    rintro r w1 ⟨rfl, hb1⟩
    have hX1 := hX0.below hb1
    have hb1' := hb0.trans (hb1.mono (by simp))
    have hz1 := hb1'.size
    obtain ⟨d0, d1, d2, d3, d4, d5⟩ := hX1.cells
    simp only [Ex.op, Ex.name, Ex.num, Ex.k, Ex.line, Ex.col] at d0 d1 d2 d3 d4 d5
    clear hX0 hX1
    go_wp2_with fail
    go_ret
    exact ⟨rfl, hb1'⟩

set_option maxRecDepth 100000 in
set_option maxHeartbeats 2000000 in
theorem rbare_3 (name : ByteArray) (n : Int) (arg : Nat → Ex) (ln cl : Int) (hx : ∀ i, i < 0 → RExprW (arg i)) : RBareW (.mk 3 name n 0 arg ln cl) := by
  intro B A cap least w hE hok hB0 hl0 hls hlen
  have hE' := ExAt.more hB0 _ A cap hE
  have hP := parts_of hE'
  have hF := plain_facts hok.1
  have hO := hok.2
  have hI := hE.1
  simp only [Ex.op] at hls
  have hbd := strOf_bd 3
  have HX := hid hx
  have HP := hid hP
  have HO := hid hO
  have hX0 : ExBox (w.alloc (.cells #[.int .i64 3, .string name, .int .i64 n, .slice A (0 : Nat) cap, .int .i64 ln, .int .i64 cl] 26)) w.heap.size (.mk 3 name n 0 arg ln cl) A cap := World.alloc_heap_new w _
  have hb0 : Below w.heap.size w (w.alloc (.cells #[.int .i64 3, .string name, .int .i64 n, .slice A (0 : Nat) cap, .int .i64 ln, .int .i64 cl] 26)) := (Below.refl _ _).alloc (Nat.le_refl _) _
  clear hx hP hO hE hE'
  clear hlen hok hF hI
  simp only [Ex.val, Ex.op, Ex.name, Ex.num, Ex.k, Ex.line, Ex.col]
  go_enter Tryd.func12, Tryd.ntmps12
  go_wp2_with fail
  refine (rstrength_any _ _).mono ?_
  rintro r w1 ⟨rfl, hb1⟩
  have hX1 := hX0.below hb1
  have hb1' := hb0.trans (hb1.mono (by simp))
  have hz1 := hb1'.size
  obtain ⟨d0, d1, d2, d3, d4, d5⟩ := hX1.cells
  simp only [Ex.op, Ex.name, Ex.num, Ex.k, Ex.line, Ex.col] at d0 d1 d2 d3 d4 d5
  clear hX0 hX1
  go_wp2_with fail
  go_ret
  exact ⟨ret_str rfl, hb1'⟩

set_option maxRecDepth 100000 in
set_option maxHeartbeats 2000000 in
theorem rbare_5 (name : ByteArray) (n : Int) (arg : Nat → Ex) (ln cl : Int) (hx : ∀ i, i < 1 → RExprW (arg i)) : RBareW (.mk 5 name n 1 arg ln cl) := by
  intro B A cap least w hE hok hB0 hl0 hls hlen
  have hE' := ExAt.more hB0 _ A cap hE
  have hP := parts_of hE'
  have hF := plain_facts hok.1
  have hO := hok.2
  have hI := hE.1
  simp only [Ex.op] at hls
  have hbd := strOf_bd 5
  have HX := hid hx
  have HP := hid hP
  have HO := hid hO
  have hX0 : ExBox (w.alloc (.cells #[.int .i64 5, .string name, .int .i64 n, .slice A (1 : Nat) cap, .int .i64 ln, .int .i64 cl] 26)) w.heap.size (.mk 5 name n 1 arg ln cl) A cap := World.alloc_heap_new w _
  have hb0 : Below w.heap.size w (w.alloc (.cells #[.int .i64 5, .string name, .int .i64 n, .slice A (1 : Nat) cap, .int .i64 ln, .int .i64 cl] 26)) := (Below.refl _ _).alloc (Nat.le_refl _) _
  clear hx hP hO hE hE'
  have hbare : (Ex.mk 5 name n 1 arg ln cl).bare = [45] ++ (arg 0).txt 9 := rfl
  have hlen' : 1 + ((arg 0).txt 9).length ≤ 140737488355328 := by
    rw [hbare] at hlen
    simp only [List.length_append, List.length_cons, List.length_nil] at hlen
    omega
  have HBR := hid hbare
  clear hlen hok hF hI hbare
  simp only [Ex.val, Ex.op, Ex.name, Ex.num, Ex.k, Ex.line, Ex.col]
  go_enter Tryd.func12, Tryd.ntmps12
  go_wp2_with fail
  refine (rstrength_any _ _).mono ?_
  rintro r w1 ⟨rfl, hb1⟩
  have hX1 := hX0.below hb1
  have hb1' := hb0.trans (hb1.mono (by simp))
  have hz1 := hb1'.size
  obtain ⟨d0, d1, d2, d3, d4, d5⟩ := hX1.cells
  simp only [Ex.op, Ex.name, Ex.num, Ex.k, Ex.line, Ex.col] at d0 d1 d2 d3 d4 d5
  obtain ⟨b1, o1, A1, cap1, he1, hb1x, hc1, hin1⟩ := (HP.out.below (Nat.le_refl _) hb1') 0 (by omega)
  subst he1
  obtain ⟨c10, c11, c12, c13, c14, c15⟩ := hc1
  simp only [Nat.zero_mul, Nat.add_zero] at c10 c11 c12 c13 c14 c15
  clear hX0 hX1
  go_wp2_with fail
  refine (HX.out 0 (by omega) w.heap.size A1 cap1 9 w1 hin1 (HO.out 0 (by omega)) hz1 (by omega) (by omega) (by omega)).mono ?_
  rintro r w2 ⟨rfl, hb2⟩
  go_wp2_with fail
  go_ret
  refine ⟨ret_str ?_, hb1'.trans (hb2.mono hz1)⟩
  rw [HBR.out]
  simp

set_option maxRecDepth 100000 in
set_option maxHeartbeats 2000000 in
theorem rbare_6 (name : ByteArray) (n : Int) (arg : Nat → Ex) (ln cl : Int) (hx : ∀ i, i < 1 → RExprW (arg i)) : RBareW (.mk 6 name n 1 arg ln cl) := by
  intro B A cap least w hE hok hB0 hl0 hls hlen
  have hE' := ExAt.more hB0 _ A cap hE
  have hP := parts_of hE'
  have hF := plain_facts hok.1
  have hO := hok.2
  have hI := hE.1
  simp only [Ex.op] at hls
  have hbd := strOf_bd 6
  have HX := hid hx
  have HP := hid hP
  have HO := hid hO
  have hX0 : ExBox (w.alloc (.cells #[.int .i64 6, .string name, .int .i64 n, .slice A (1 : Nat) cap, .int .i64 ln, .int .i64 cl] 26)) w.heap.size (.mk 6 name n 1 arg ln cl) A cap := World.alloc_heap_new w _
  have hb0 : Below w.heap.size w (w.alloc (.cells #[.int .i64 6, .string name, .int .i64 n, .slice A (1 : Nat) cap, .int .i64 ln, .int .i64 cl] 26)) := (Below.refl _ _).alloc (Nat.le_refl _) _
  clear hx hP hO hE hE'
  have hbare : (Ex.mk 6 name n 1 arg ln cl).bare = [110, 111, 116, 32] ++ (arg 0).txt 9 := rfl
  have hlen' : 4 + ((arg 0).txt 9).length ≤ 140737488355328 := by
    rw [hbare] at hlen
    simp only [List.length_append, List.length_cons, List.length_nil] at hlen
    omega
  have HBR := hid hbare
  clear hlen hok hF hI hbare
  simp only [Ex.val, Ex.op, Ex.name, Ex.num, Ex.k, Ex.line, Ex.col]
  go_enter Tryd.func12, Tryd.ntmps12
  go_wp2_with fail
  refine (rstrength_any _ _).mono ?_
  rintro r w1 ⟨rfl, hb1⟩
  have hX1 := hX0.below hb1
  have hb1' := hb0.trans (hb1.mono (by simp))
  have hz1 := hb1'.size
  obtain ⟨d0, d1, d2, d3, d4, d5⟩ := hX1.cells
  simp only [Ex.op, Ex.name, Ex.num, Ex.k, Ex.line, Ex.col] at d0 d1 d2 d3 d4 d5
  obtain ⟨b1, o1, A1, cap1, he1, hb1x, hc1, hin1⟩ := (HP.out.below (Nat.le_refl _) hb1') 0 (by omega)
  subst he1
  obtain ⟨c10, c11, c12, c13, c14, c15⟩ := hc1
  simp only [Nat.zero_mul, Nat.add_zero] at c10 c11 c12 c13 c14 c15
  clear hX0 hX1
  go_wp2_with fail
  refine (HX.out 0 (by omega) w.heap.size A1 cap1 9 w1 hin1 (HO.out 0 (by omega)) hz1 (by omega) (by omega) (by omega)).mono ?_
  rintro r w2 ⟨rfl, hb2⟩
  go_wp2_with fail
  go_ret
  refine ⟨ret_str ?_, hb1'.trans (hb2.mono hz1)⟩
  rw [HBR.out]
  simp

set_option maxRecDepth 100000 in
set_option maxHeartbeats 2000000 in
theorem rbare_21 (name : ByteArray) (n : Int) (arg : Nat → Ex) (ln cl : Int) (hx : ∀ i, i < 1 → RExprW (arg i)) : RBareW (.mk 21 name n 1 arg ln cl) := by
  intro B A cap least w hE hok hB0 hl0 hls hlen
  have hE' := ExAt.more hB0 _ A cap hE
  have hP := parts_of hE'
  have hF := plain_facts hok.1
  have hO := hok.2
  have hI := hE.1
  simp only [Ex.op] at hls
  have hbd := strOf_bd 21
  have HX := hid hx
  have HP := hid hP
  have HO := hid hO
  have hX0 : ExBox (w.alloc (.cells #[.int .i64 21, .string name, .int .i64 n, .slice A (1 : Nat) cap, .int .i64 ln, .int .i64 cl] 26)) w.heap.size (.mk 21 name n 1 arg ln cl) A cap := World.alloc_heap_new w _
  have hb0 : Below w.heap.size w (w.alloc (.cells #[.int .i64 21, .string name, .int .i64 n, .slice A (1 : Nat) cap, .int .i64 ln, .int .i64 cl] 26)) := (Below.refl _ _).alloc (Nat.le_refl _) _
  clear hx hP hO hE hE'
  have hbare : (Ex.mk 21 name n 1 arg ln cl).bare = [112, 114, 101, 32] ++ (arg 0).txt 9 := rfl
  have hlen' : 4 + ((arg 0).txt 9).length ≤ 140737488355328 := by
    rw [hbare] at hlen
    simp only [List.length_append, List.length_cons, List.length_nil] at hlen
    omega
  have HBR := hid hbare
  clear hlen hok hF hI hbare
  simp only [Ex.val, Ex.op, Ex.name, Ex.num, Ex.k, Ex.line, Ex.col]
  go_enter Tryd.func12, Tryd.ntmps12
  go_wp2_with fail
  refine (rstrength_any _ _).mono ?_
  rintro r w1 ⟨rfl, hb1⟩
  have hX1 := hX0.below hb1
  have hb1' := hb0.trans (hb1.mono (by simp))
  have hz1 := hb1'.size
  obtain ⟨d0, d1, d2, d3, d4, d5⟩ := hX1.cells
  simp only [Ex.op, Ex.name, Ex.num, Ex.k, Ex.line, Ex.col] at d0 d1 d2 d3 d4 d5
  obtain ⟨b1, o1, A1, cap1, he1, hb1x, hc1, hin1⟩ := (HP.out.below (Nat.le_refl _) hb1') 0 (by omega)
  subst he1
  obtain ⟨c10, c11, c12, c13, c14, c15⟩ := hc1
  simp only [Nat.zero_mul, Nat.add_zero] at c10 c11 c12 c13 c14 c15
  clear hX0 hX1
  go_wp2_with fail
  refine (HX.out 0 (by omega) w.heap.size A1 cap1 9 w1 hin1 (HO.out 0 (by omega)) hz1 (by omega) (by omega) (by omega)).mono ?_
  rintro r w2 ⟨rfl, hb2⟩
  go_wp2_with fail
  go_ret
  refine ⟨ret_str ?_, hb1'.trans (hb2.mono hz1)⟩
  rw [HBR.out]
  simp

set_option maxRecDepth 100000 in
set_option maxHeartbeats 2000000 in
theorem rbare_26 (name : ByteArray) (n : Int) (arg : Nat → Ex) (ln cl : Int) (hx : ∀ i, i < 2 → RExprW (arg i)) : RBareW (.mk 26 name n 2 arg ln cl) := by
  intro B A cap least w hE hok hB0 hl0 hls hlen
  have hE' := ExAt.more hB0 _ A cap hE
  have hP := parts_of hE'
  have hF := plain_facts hok.1
  have hO := hok.2
  have hI := hE.1
  simp only [Ex.op] at hls
  have hbd := strOf_bd 26
  have HX := hid hx
  have HP := hid hP
  have HO := hid hO
  have hX0 : ExBox (w.alloc (.cells #[.int .i64 26, .string name, .int .i64 n, .slice A (2 : Nat) cap, .int .i64 ln, .int .i64 cl] 26)) w.heap.size (.mk 26 name n 2 arg ln cl) A cap := World.alloc_heap_new w _
  have hb0 : Below w.heap.size w (w.alloc (.cells #[.int .i64 26, .string name, .int .i64 n, .slice A (2 : Nat) cap, .int .i64 ln, .int .i64 cl] 26)) := (Below.refl _ _).alloc (Nat.le_refl _) _
  clear hx hP hO hE hE'
  have hbare : (Ex.mk 26 name n 2 arg ln cl).bare = [109, 101, 114, 103, 101, 32] ++ (name.data.toList ++ ([32, 40] ++ ((arg 0).txt 0 ++ ([41, 32, 40] ++ ((arg 1).txt 0 ++ [41]))))) := rfl
  have hlen' : ((arg 0).txt 0).length + ((arg 1).txt 0).length + name.size + 12 ≤ 140737488355328 := by
    rw [hbare] at hlen
    simp only [List.length_append, List.length_cons, List.length_nil, Array.length_toList] at hlen
    have : name.data.size = name.size := rfl
    omega
  have HBR := hid hbare
  clear hlen hok hF hI hbare
  simp only [Ex.val, Ex.op, Ex.name, Ex.num, Ex.k, Ex.line, Ex.col]
  go_enter Tryd.func12, Tryd.ntmps12
  go_wp2_with fail
  refine (rstrength_any _ _).mono ?_
  rintro r w1 ⟨rfl, hb1⟩
  have hX1 := hX0.below hb1
  have hb1' := hb0.trans (hb1.mono (by simp))
  have hz1 := hb1'.size
  obtain ⟨d0, d1, d2, d3, d4, d5⟩ := hX1.cells
  simp only [Ex.op, Ex.name, Ex.num, Ex.k, Ex.line, Ex.col] at d0 d1 d2 d3 d4 d5
  obtain ⟨b1, o1, A1, cap1, he1, hb1x, hc1, hin1⟩ := (HP.out.below (Nat.le_refl _) hb1') 0 (by omega)
  subst he1
  obtain ⟨c10, c11, c12, c13, c14, c15⟩ := hc1
  simp only [Nat.zero_mul, Nat.add_zero] at c10 c11 c12 c13 c14 c15
  obtain ⟨b2, o2, A2, cap2, he2, hb2x, hc2, hin2⟩ := (HP.out.below (Nat.le_refl _) hb1') 1 (by omega)
  injection he2 with he2
  injection he2 with he2a he2b
  subst he2a he2b
  obtain ⟨c20, c21, c22, c23, c24, c25⟩ := hc2
  simp only [Nat.one_mul] at c20 c21 c22 c23 c24 c25
  clear hX0 hX1
  have k1 : ∀ d os, Calls Tryd.prog 12 #[(arg 0).val A1 cap1, .int .i64 (0)] (grow (redrawn w1 d) os) fun e w' => e = .returned (.string ⟨((arg 0).txt (0)).toArray⟩) ∧ ∃ p : Regrown, w' = grow (redrawn w1 p.d) p.os := fun d os =>
    Calls.regrown_of (HX.out 0 (by omega) w.heap.size A1 cap1 (0) _ (hin1.below (Nat.le_refl _) ((below_regrown w1 d os).mono hz1)) (HO.out 0 (by omega)) (Nat.le_trans hz1 (below_regrown w1 d os).size) (by omega) (by omega) (by omega))
  unfold Ex.val at k1
  have hs1 : (⟨((arg 0).txt (0)).toArray⟩ : ByteArray).size = ((arg 0).txt (0)).length := rfl
  have k2 : ∀ d os, Calls Tryd.prog 12 #[(arg 1).val A2 cap2, .int .i64 (0)] (grow (redrawn w1 d) os) fun e w' => e = .returned (.string ⟨((arg 1).txt (0)).toArray⟩) ∧ ∃ p : Regrown, w' = grow (redrawn w1 p.d) p.os := fun d os =>
    Calls.regrown_of (HX.out 1 (by omega) w.heap.size A2 cap2 (0) _ (hin2.below (Nat.le_refl _) ((below_regrown w1 d os).mono hz1)) (HO.out 1 (by omega)) (Nat.le_trans hz1 (below_regrown w1 d os).size) (by omega) (by omega) (by omega))
  unfold Ex.val at k2
  have hs2 : (⟨((arg 1).txt (0)).toArray⟩ : ByteArray).size = ((arg 1).txt (0)).length := rfl
  have gc10 := cell_regrown c10
  have gc11 := cell_regrown c11
  have gc12 := cell_regrown c12
  have gc13 := cell_regrown c13
  have gc14 := cell_regrown c14
  have gc15 := cell_regrown c15
  have gc20 := cell_regrown c20
  have gc21 := cell_regrown c21
  have gc22 := cell_regrown c22
  have gc23 := cell_regrown c23
  have gc24 := cell_regrown c24
  have gc25 := cell_regrown c25
  have gd1 := cell_regrown d1
  go_wp2_with fail
  refine wp_region_quiet_below hmix (by kernel_rfl) ?_
  repeat (first | go_big_quiet_step (first | (go_at_call 12; with_reducible exact k1 _ _) | (go_at_call 12; with_reducible exact k2 _ _)) | quiet_step (first | (go_at_call 12; with_reducible exact k1 _ _) | (go_at_call 12; with_reducible exact k2 _ _)))
  refine wpQuiet_nil ?_
  intro _ hw'
  obtain ⟨⟨dq, osq⟩, hw''⟩ := hw'
  subst hw''
  go_wp2_with fail
  go_ret
  refine ⟨ret_str ?_, hb1'.trans ((below_regrown w1 _ _).mono hz1)⟩
  rw [HBR.out]
  simp

set_option maxRecDepth 100000 in
set_option maxHeartbeats 2000000 in
theorem rbare_27 (name : ByteArray) (n : Int) (arg : Nat → Ex) (ln cl : Int) (hx : ∀ i, i < 3 → RExprW (arg i)) : RBareW (.mk 27 name n 3 arg ln cl) := by
  intro B A cap least w hE hok hB0 hl0 hls hlen
  have hE' := ExAt.more hB0 _ A cap hE
  have hP := parts_of hE'
  have hF := plain_facts hok.1
  have hO := hok.2
  have hI := hE.1
  simp only [Ex.op] at hls
  have hbd := strOf_bd 27
  have HX := hid hx
  have HP := hid hP
  have HO := hid hO
  have hX0 : ExBox (w.alloc (.cells #[.int .i64 27, .string name, .int .i64 n, .slice A (3 : Nat) cap, .int .i64 ln, .int .i64 cl] 26)) w.heap.size (.mk 27 name n 3 arg ln cl) A cap := World.alloc_heap_new w _
  have hb0 : Below w.heap.size w (w.alloc (.cells #[.int .i64 27, .string name, .int .i64 n, .slice A (3 : Nat) cap, .int .i64 ln, .int .i64 cl] 26)) := (Below.refl _ _).alloc (Nat.le_refl _) _
  clear hx hP hO hE hE'
  have hbare : (Ex.mk 27 name n 3 arg ln cl).bare = [105, 102, 32] ++ ((arg 0).txt 0 ++ ([32, 116, 104, 101, 110, 32] ++ ((arg 1).txt 0 ++ ([32, 101, 108, 115, 101, 32] ++ (arg 2).txt 0)))) := rfl
  have hlen' : ((arg 0).txt 0).length + ((arg 1).txt 0).length + ((arg 2).txt 0).length + 15 ≤ 140737488355328 := by
    rw [hbare] at hlen
    simp only [List.length_append, List.length_cons, List.length_nil] at hlen
    omega
  have HBR := hid hbare
  clear hlen hok hF hI hbare
  simp only [Ex.val, Ex.op, Ex.name, Ex.num, Ex.k, Ex.line, Ex.col]
  go_enter Tryd.func12, Tryd.ntmps12
  go_wp2_with fail
  refine (rstrength_any _ _).mono ?_
  rintro r w1 ⟨rfl, hb1⟩
  have hX1 := hX0.below hb1
  have hb1' := hb0.trans (hb1.mono (by simp))
  have hz1 := hb1'.size
  obtain ⟨d0, d1, d2, d3, d4, d5⟩ := hX1.cells
  simp only [Ex.op, Ex.name, Ex.num, Ex.k, Ex.line, Ex.col] at d0 d1 d2 d3 d4 d5
  obtain ⟨b1, o1, A1, cap1, he1, hb1x, hc1, hin1⟩ := (HP.out.below (Nat.le_refl _) hb1') 0 (by omega)
  subst he1
  obtain ⟨c10, c11, c12, c13, c14, c15⟩ := hc1
  simp only [Nat.zero_mul, Nat.add_zero] at c10 c11 c12 c13 c14 c15
  obtain ⟨b2, o2, A2, cap2, he2, hb2x, hc2, hin2⟩ := (HP.out.below (Nat.le_refl _) hb1') 1 (by omega)
  injection he2 with he2
  injection he2 with he2a he2b
  subst he2a he2b
  obtain ⟨c20, c21, c22, c23, c24, c25⟩ := hc2
  simp only [Nat.one_mul] at c20 c21 c22 c23 c24 c25
  obtain ⟨b3, o3, A3, cap3, he3, hb3x, hc3, hin3⟩ := (HP.out.below (Nat.le_refl _) hb1') 2 (by omega)
  injection he3 with he3
  injection he3 with he3a he3b
  subst he3a he3b
  obtain ⟨c30, c31, c32, c33, c34, c35⟩ := hc3
  simp only [Nat.reduceMul] at c30 c31 c32 c33 c34 c35
  clear hX0 hX1
  have k1 : ∀ d os, Calls Tryd.prog 12 #[(arg 0).val A1 cap1, .int .i64 (0)] (grow (redrawn w1 d) os) fun e w' => e = .returned (.string ⟨((arg 0).txt (0)).toArray⟩) ∧ ∃ p : Regrown, w' = grow (redrawn w1 p.d) p.os := fun d os =>
    Calls.regrown_of (HX.out 0 (by omega) w.heap.size A1 cap1 (0) _ (hin1.below (Nat.le_refl _) ((below_regrown w1 d os).mono hz1)) (HO.out 0 (by omega)) (Nat.le_trans hz1 (below_regrown w1 d os).size) (by omega) (by omega) (by omega))
  unfold Ex.val at k1
  have hs1 : (⟨((arg 0).txt (0)).toArray⟩ : ByteArray).size = ((arg 0).txt (0)).length := rfl
  have k2 : ∀ d os, Calls Tryd.prog 12 #[(arg 1).val A2 cap2, .int .i64 (0)] (grow (redrawn w1 d) os) fun e w' => e = .returned (.string ⟨((arg 1).txt (0)).toArray⟩) ∧ ∃ p : Regrown, w' = grow (redrawn w1 p.d) p.os := fun d os =>
    Calls.regrown_of (HX.out 1 (by omega) w.heap.size A2 cap2 (0) _ (hin2.below (Nat.le_refl _) ((below_regrown w1 d os).mono hz1)) (HO.out 1 (by omega)) (Nat.le_trans hz1 (below_regrown w1 d os).size) (by omega) (by omega) (by omega))
  unfold Ex.val at k2
  have hs2 : (⟨((arg 1).txt (0)).toArray⟩ : ByteArray).size = ((arg 1).txt (0)).length := rfl
  have k3 : ∀ d os, Calls Tryd.prog 12 #[(arg 2).val A3 cap3, .int .i64 (0)] (grow (redrawn w1 d) os) fun e w' => e = .returned (.string ⟨((arg 2).txt (0)).toArray⟩) ∧ ∃ p : Regrown, w' = grow (redrawn w1 p.d) p.os := fun d os =>
    Calls.regrown_of (HX.out 2 (by omega) w.heap.size A3 cap3 (0) _ (hin3.below (Nat.le_refl _) ((below_regrown w1 d os).mono hz1)) (HO.out 2 (by omega)) (Nat.le_trans hz1 (below_regrown w1 d os).size) (by omega) (by omega) (by omega))
  unfold Ex.val at k3
  have hs3 : (⟨((arg 2).txt (0)).toArray⟩ : ByteArray).size = ((arg 2).txt (0)).length := rfl
  have gc10 := cell_regrown c10
  have gc11 := cell_regrown c11
  have gc12 := cell_regrown c12
  have gc13 := cell_regrown c13
  have gc14 := cell_regrown c14
  have gc15 := cell_regrown c15
  have gc20 := cell_regrown c20
  have gc21 := cell_regrown c21
  have gc22 := cell_regrown c22
  have gc23 := cell_regrown c23
  have gc24 := cell_regrown c24
  have gc25 := cell_regrown c25
  have gc30 := cell_regrown c30
  have gc31 := cell_regrown c31
  have gc32 := cell_regrown c32
  have gc33 := cell_regrown c33
  have gc34 := cell_regrown c34
  have gc35 := cell_regrown c35
  go_wp2_with fail
  refine wp_region_quiet_below hmix (by kernel_rfl) ?_
  repeat (first | go_big_quiet_step (first | (go_at_call 12; with_reducible exact k1 _ _) | (go_at_call 12; with_reducible exact k2 _ _) | (go_at_call 12; with_reducible exact k3 _ _)) | quiet_step (first | (go_at_call 12; with_reducible exact k1 _ _) | (go_at_call 12; with_reducible exact k2 _ _) | (go_at_call 12; with_reducible exact k3 _ _)))
  refine wpQuiet_nil ?_
  intro _ hw'
  obtain ⟨⟨dq, osq⟩, hw''⟩ := hw'
  subst hw''
  go_wp2_with fail
  go_ret
  refine ⟨ret_str ?_, hb1'.trans ((below_regrown w1 _ _).mono hz1)⟩
  rw [HBR.out]
  simp

set_option maxRecDepth 100000 in
set_option maxHeartbeats 2000000 in
theorem rbare_22 (name : ByteArray) (n : Int) (arg : Nat → Ex) (ln cl : Int) (hx : ∀ i, i < 2 → RExprW (arg i)) : RBareW (.mk 22 name n 2 arg ln cl) := by
  intro B A cap least w hE hok hB0 hl0 hls hlen
  have hE' := ExAt.more hB0 _ A cap hE
  have hP := parts_of hE'
  have hF := plain_facts hok.1
  have hO := hok.2
  have hI := hE.1
  simp only [Ex.op] at hls
  have hbd := strOf_bd 22
  have HX := hid hx
  have HP := hid hP
  have HO := hid hO
  have hX0 : ExBox (w.alloc (.cells #[.int .i64 22, .string name, .int .i64 n, .slice A (2 : Nat) cap, .int .i64 ln, .int .i64 cl] 26)) w.heap.size (.mk 22 name n 2 arg ln cl) A cap := World.alloc_heap_new w _
  have hb0 : Below w.heap.size w (w.alloc (.cells #[.int .i64 22, .string name, .int .i64 n, .slice A (2 : Nat) cap, .int .i64 ln, .int .i64 cl] 26)) := (Below.refl _ _).alloc (Nat.le_refl _) _
  clear hx hP hO hE hE'
  have hs0 : strOf 22 = 2 := by decide
  have hbare : (Ex.mk 22 name n 2 arg ln cl).bare = (arg 0).txt 3 ++ (32 :: ((sgnOf 22).data.toList ++ (32 :: (arg 1).txt 2))) := rfl
  have hsg := sgn_len 22
  have hsg' : (sgnOf 22).size ≤ 3 := by rw [Array.length_toList] at hsg; exact hsg
  have hlen' : ((arg 0).txt 3).length + ((arg 1).txt 2).length + ((sgnOf 22).size + 2) ≤ 140737488355328 := by
    rw [hbare] at hlen
    simp only [List.length_append, List.length_cons, Array.length_toList] at hlen
    have : (sgnOf 22).data.size = (sgnOf 22).size := rfl
    omega
  have HBR := hid hbare
  have HS0 := hid hs0
  clear hlen hok hF hI hbare hs0 hsg
  simp only [Ex.val, Ex.op, Ex.name, Ex.num, Ex.k, Ex.line, Ex.col]
  go_enter Tryd.func12, Tryd.ntmps12
  go_wp2_with fail
  refine (rstrength_any _ _).mono ?_
  rintro r w1 ⟨rfl, hb1⟩
  rw [HS0.out] at hls hbd ⊢
  have hX1 := hX0.below hb1
  have hb1' := hb0.trans (hb1.mono (by simp))
  have hz1 := hb1'.size
  obtain ⟨d0, d1, d2, d3, d4, d5⟩ := hX1.cells
  simp only [Ex.op, Ex.name, Ex.num, Ex.k, Ex.line, Ex.col] at d0 d1 d2 d3 d4 d5
  obtain ⟨b1, o1, A1, cap1, he1, hb1x, hc1, hin1⟩ := (HP.out.below (Nat.le_refl _) hb1') 0 (by omega)
  subst he1
  obtain ⟨c10, c11, c12, c13, c14, c15⟩ := hc1
  simp only [Nat.zero_mul, Nat.add_zero] at c10 c11 c12 c13 c14 c15
  obtain ⟨b2, o2, A2, cap2, he2, hb2x, hc2, hin2⟩ := (HP.out.below (Nat.le_refl _) hb1') 1 (by omega)
  injection he2 with he2
  injection he2 with he2a he2b
  subst he2a he2b
  obtain ⟨c20, c21, c22, c23, c24, c25⟩ := hc2
  simp only [Nat.one_mul] at c20 c21 c22 c23 c24 c25
  clear hX0 hX1
  have k1 : ∀ d os, Calls Tryd.prog 12 #[(arg 0).val A1 cap1, .int .i64 (3)] (grow (redrawn w1 d) os) fun e w' => e = .returned (.string ⟨((arg 0).txt (3)).toArray⟩) ∧ ∃ p : Regrown, w' = grow (redrawn w1 p.d) p.os := fun d os =>
    Calls.regrown_of (HX.out 0 (by omega) w.heap.size A1 cap1 (3) _ (hin1.below (Nat.le_refl _) ((below_regrown w1 d os).mono hz1)) (HO.out 0 (by omega)) (Nat.le_trans hz1 (below_regrown w1 d os).size) (by omega) (by omega) (by omega))
  unfold Ex.val at k1
  have hs1 : (⟨((arg 0).txt (3)).toArray⟩ : ByteArray).size = ((arg 0).txt (3)).length := rfl
  have k2 : ∀ d os, Calls Tryd.prog 12 #[(arg 1).val A2 cap2, .int .i64 (2)] (grow (redrawn w1 d) os) fun e w' => e = .returned (.string ⟨((arg 1).txt (2)).toArray⟩) ∧ ∃ p : Regrown, w' = grow (redrawn w1 p.d) p.os := fun d os =>
    Calls.regrown_of (HX.out 1 (by omega) w.heap.size A2 cap2 (2) _ (hin2.below (Nat.le_refl _) ((below_regrown w1 d os).mono hz1)) (HO.out 1 (by omega)) (Nat.le_trans hz1 (below_regrown w1 d os).size) (by omega) (by omega) (by omega))
  unfold Ex.val at k2
  have hs2 : (⟨((arg 1).txt (2)).toArray⟩ : ByteArray).size = ((arg 1).txt (2)).length := rfl
  have kS : ∀ d os, Calls Tryd.prog 25 #[.int .i64 22] (grow (redrawn w1 d) os) fun e w' => e = .returned (.string (sgnOf 22)) ∧ ∃ p : Regrown, w' = grow (redrawn w1 p.d) p.os := fun d os => Calls.regrown_of (rsign_any 22 _ (by unfold signed; omega))
  have gc10 := cell_regrown c10
  have gc11 := cell_regrown c11
  have gc12 := cell_regrown c12
  have gc13 := cell_regrown c13
  have gc14 := cell_regrown c14
  have gc15 := cell_regrown c15
  have gc20 := cell_regrown c20
  have gc21 := cell_regrown c21
  have gc22 := cell_regrown c22
  have gc23 := cell_regrown c23
  have gc24 := cell_regrown c24
  have gc25 := cell_regrown c25
  have gd0 := cell_regrown d0
  go_wp2_with fail
  refine wp_region_quiet_below hmix (by kernel_rfl) ?_
  repeat (first | go_big_quiet_step (first | (go_at_call 12; with_reducible exact k1 _ _) | (go_at_call 12; with_reducible exact k2 _ _) | (go_at_call 25; with_reducible exact kS _ _)) | quiet_step (first | (go_at_call 12; with_reducible exact k1 _ _) | (go_at_call 12; with_reducible exact k2 _ _) | (go_at_call 25; with_reducible exact kS _ _)))
  refine wpQuiet_nil ?_
  intro _ hw'
  obtain ⟨⟨dq, osq⟩, hw''⟩ := hw'
  subst hw''
  go_wp2_with fail
  go_ret
  refine ⟨ret_str ?_, hb1'.trans ((below_regrown w1 _ _).mono hz1)⟩
  rw [HBR.out]
  simp

set_option maxRecDepth 100000 in
set_option maxHeartbeats 2000000 in
theorem rbare_23 (name : ByteArray) (n : Int) (arg : Nat → Ex) (ln cl : Int) (hx : ∀ i, i < 2 → RExprW (arg i)) : RBareW (.mk 23 name n 2 arg ln cl) := by
  intro B A cap least w hE hok hB0 hl0 hls hlen
  have hE' := ExAt.more hB0 _ A cap hE
  have hP := parts_of hE'
  have hF := plain_facts hok.1
  have hO := hok.2
  have hI := hE.1
  simp only [Ex.op] at hls
  have hbd := strOf_bd 23
  have HX := hid hx
  have HP := hid hP
  have HO := hid hO
  have hX0 : ExBox (w.alloc (.cells #[.int .i64 23, .string name, .int .i64 n, .slice A (2 : Nat) cap, .int .i64 ln, .int .i64 cl] 26)) w.heap.size (.mk 23 name n 2 arg ln cl) A cap := World.alloc_heap_new w _
  have hb0 : Below w.heap.size w (w.alloc (.cells #[.int .i64 23, .string name, .int .i64 n, .slice A (2 : Nat) cap, .int .i64 ln, .int .i64 cl] 26)) := (Below.refl _ _).alloc (Nat.le_refl _) _
  clear hx hP hO hE hE'
  have hs0 : strOf 23 = 1 := by decide
  have hbare : (Ex.mk 23 name n 2 arg ln cl).bare = (arg 0).txt 2 ++ (32 :: ((sgnOf 23).data.toList ++ (32 :: (arg 1).txt 1))) := rfl
  have hsg := sgn_len 23
  have hsg' : (sgnOf 23).size ≤ 3 := by rw [Array.length_toList] at hsg; exact hsg
  have hlen' : ((arg 0).txt 2).length + ((arg 1).txt 1).length + ((sgnOf 23).size + 2) ≤ 140737488355328 := by
    rw [hbare] at hlen
    simp only [List.length_append, List.length_cons, Array.length_toList] at hlen
    have : (sgnOf 23).data.size = (sgnOf 23).size := rfl
    omega
  have HBR := hid hbare
  have HS0 := hid hs0
  clear hlen hok hF hI hbare hs0 hsg
  simp only [Ex.val, Ex.op, Ex.name, Ex.num, Ex.k, Ex.line, Ex.col]
  go_enter Tryd.func12, Tryd.ntmps12
  go_wp2_with fail
  refine (rstrength_any _ _).mono ?_
  rintro r w1 ⟨rfl, hb1⟩
  rw [HS0.out] at hls hbd ⊢
  have hX1 := hX0.below hb1
  have hb1' := hb0.trans (hb1.mono (by simp))
  have hz1 := hb1'.size
  obtain ⟨d0, d1, d2, d3, d4, d5⟩ := hX1.cells
  simp only [Ex.op, Ex.name, Ex.num, Ex.k, Ex.line, Ex.col] at d0 d1 d2 d3 d4 d5
  obtain ⟨b1, o1, A1, cap1, he1, hb1x, hc1, hin1⟩ := (HP.out.below (Nat.le_refl _) hb1') 0 (by omega)
  subst he1
  obtain ⟨c10, c11, c12, c13, c14, c15⟩ := hc1
  simp only [Nat.zero_mul, Nat.add_zero] at c10 c11 c12 c13 c14 c15
  obtain ⟨b2, o2, A2, cap2, he2, hb2x, hc2, hin2⟩ := (HP.out.below (Nat.le_refl _) hb1') 1 (by omega)
  injection he2 with he2
  injection he2 with he2a he2b
  subst he2a he2b
  obtain ⟨c20, c21, c22, c23, c24, c25⟩ := hc2
  simp only [Nat.one_mul] at c20 c21 c22 c23 c24 c25
  clear hX0 hX1
  have k1 : ∀ d os, Calls Tryd.prog 12 #[(arg 0).val A1 cap1, .int .i64 (2)] (grow (redrawn w1 d) os) fun e w' => e = .returned (.string ⟨((arg 0).txt (2)).toArray⟩) ∧ ∃ p : Regrown, w' = grow (redrawn w1 p.d) p.os := fun d os =>
    Calls.regrown_of (HX.out 0 (by omega) w.heap.size A1 cap1 (2) _ (hin1.below (Nat.le_refl _) ((below_regrown w1 d os).mono hz1)) (HO.out 0 (by omega)) (Nat.le_trans hz1 (below_regrown w1 d os).size) (by omega) (by omega) (by omega))
  unfold Ex.val at k1
  have hs1 : (⟨((arg 0).txt (2)).toArray⟩ : ByteArray).size = ((arg 0).txt (2)).length := rfl
  have k2 : ∀ d os, Calls Tryd.prog 12 #[(arg 1).val A2 cap2, .int .i64 (1)] (grow (redrawn w1 d) os) fun e w' => e = .returned (.string ⟨((arg 1).txt (1)).toArray⟩) ∧ ∃ p : Regrown, w' = grow (redrawn w1 p.d) p.os := fun d os =>
    Calls.regrown_of (HX.out 1 (by omega) w.heap.size A2 cap2 (1) _ (hin2.below (Nat.le_refl _) ((below_regrown w1 d os).mono hz1)) (HO.out 1 (by omega)) (Nat.le_trans hz1 (below_regrown w1 d os).size) (by omega) (by omega) (by omega))
  unfold Ex.val at k2
  have hs2 : (⟨((arg 1).txt (1)).toArray⟩ : ByteArray).size = ((arg 1).txt (1)).length := rfl
  have kS : ∀ d os, Calls Tryd.prog 25 #[.int .i64 23] (grow (redrawn w1 d) os) fun e w' => e = .returned (.string (sgnOf 23)) ∧ ∃ p : Regrown, w' = grow (redrawn w1 p.d) p.os := fun d os => Calls.regrown_of (rsign_any 23 _ (by unfold signed; omega))
  have gc10 := cell_regrown c10
  have gc11 := cell_regrown c11
  have gc12 := cell_regrown c12
  have gc13 := cell_regrown c13
  have gc14 := cell_regrown c14
  have gc15 := cell_regrown c15
  have gc20 := cell_regrown c20
  have gc21 := cell_regrown c21
  have gc22 := cell_regrown c22
  have gc23 := cell_regrown c23
  have gc24 := cell_regrown c24
  have gc25 := cell_regrown c25
  have gd0 := cell_regrown d0
  go_wp2_with fail
  refine wp_region_quiet_below hmix (by kernel_rfl) ?_
  repeat (first | go_big_quiet_step (first | (go_at_call 12; with_reducible exact k1 _ _) | (go_at_call 12; with_reducible exact k2 _ _) | (go_at_call 25; with_reducible exact kS _ _)) | quiet_step (first | (go_at_call 12; with_reducible exact k1 _ _) | (go_at_call 12; with_reducible exact k2 _ _) | (go_at_call 25; with_reducible exact kS _ _)))
  refine wpQuiet_nil ?_
  intro _ hw'
  obtain ⟨⟨dq, osq⟩, hw''⟩ := hw'
  subst hw''
  go_wp2_with fail
  go_ret
  refine ⟨ret_str ?_, hb1'.trans ((below_regrown w1 _ _).mono hz1)⟩
  rw [HBR.out]
  simp

theorem strOf_mid {op : Int} (h : 7 ≤ op ∧ op ≤ 20) : 4 ≤ strOf op ∧ strOf op ≤ 8 := by
  rw [strC_eq]; unfold strC; (repeat' split) <;> omega

set_option maxRecDepth 100000 in
set_option maxHeartbeats 2000000 in
theorem rbare_two (op : Int) (hop : 7 ≤ op ∧ op ≤ 20) (name : ByteArray) (n : Int) (arg : Nat → Ex) (ln cl : Int) (hx : ∀ i, i < 2 → RExprW (arg i)) : RBareW (.mk op name n 2 arg ln cl) := by
  intro B A cap least w hE hok hB0 hl0 hls hlen
  have hE' := ExAt.more hB0 _ A cap hE
  have hP := parts_of hE'
  have hF := plain_facts hok.1
  have hO := hok.2
  have hI := hE.1
  simp only [Ex.op] at hls
  have hbd := strOf_bd op
  have HX := hid hx
  have HP := hid hP
  have HO := hid hO
  have hX0 : ExBox (w.alloc (.cells #[.int .i64 op, .string name, .int .i64 n, .slice A (2 : Nat) cap, .int .i64 ln, .int .i64 cl] 26)) w.heap.size (.mk op name n 2 arg ln cl) A cap := World.alloc_heap_new w _
  have hb0 : Below w.heap.size w (w.alloc (.cells #[.int .i64 op, .string name, .int .i64 n, .slice A (2 : Nat) cap, .int .i64 ln, .int .i64 cl] 26)) := (Below.refl _ _).alloc (Nat.le_refl _) _
  clear hx hP hO hE hE'
  have hmid := strOf_mid hop
  have hs : signed op := .inl hop
  have hbare : (Ex.mk op name n 2 arg ln cl).bare = (arg 0).txt (leftOf op) ++ (32 :: ((sgnOf op).data.toList ++ (32 :: (arg 1).txt (rightOf op)))) := by
    rw [bare_mk]; unfold bareOf
    rw [if_neg (by omega), if_neg (by omega), if_neg (by omega), if_neg (by omega), if_neg (by omega), if_neg (by omega), if_neg (by omega), if_neg (by omega), if_neg (by omega), if_neg (by omega), if_neg (by omega)]
  have hsg := sgn_len op
  have hsg' : (sgnOf op).size ≤ 3 := by rw [Array.length_toList] at hsg; exact hsg
  have hlen' : ((arg 0).txt (leftOf op)).length + ((arg 1).txt (rightOf op)).length + ((sgnOf op).size + 2) ≤ 140737488355328 := by
    rw [hbare] at hlen
    simp only [List.length_append, List.length_cons, Array.length_toList] at hlen
    have : (sgnOf op).data.size = (sgnOf op).size := rfl
    omega
  have n1 : (op == 1) = false := by simp; omega
  have n2 : (op == 2) = false := by simp; omega
  have n3 : (op == 3) = false := by simp; omega
  have n4 : (op == 4) = false := by simp; omega
  have n5 : (op == 5) = false := by simp; omega
  have n6 : (op == 6) = false := by simp; omega
  have n21 : (op == 21) = false := by simp; omega
  have n22 : (op == 22) = false := by simp; omega
  have n23 : (op == 23) = false := by simp; omega
  have n24 : (op == 24) = false := by simp; omega
  have n25 : (op == 25) = false := by simp; omega
  have n26 : (op == 26) = false := by simp; omega
  have n27 : (op == 27) = false := by simp; omega
  have HS := hid hs
  have HOP := hid hop
  obtain ⟨m, L, R, hm, hL, hR, hm0, hm10, hway⟩ := strOf_ways op
  rw [hL, hR] at hlen' hbare
  rw [hm] at hmid hls hbd
  have HM := hid hm
  have HBR := hid hbare
  clear hlen hok hF hI hbare hs hop hsg hm hL hR
  rcases hway with ⟨rfl, rfl, rfl⟩ | ⟨rfl, rfl, rfl⟩ | ⟨rfl, rfl, rfl⟩ | ⟨rfl, rfl, hq6, hq1, hq2⟩
  · simp only [Ex.val, Ex.op, Ex.name, Ex.num, Ex.k, Ex.line, Ex.col]
    go_enter Tryd.func12, Tryd.ntmps12
    go_wp2_with fail
    refine (rstrength_any _ _).mono ?_
    rintro r w1 ⟨rfl, hb1⟩
    rw [HM.out]
    have hX1 := hX0.below hb1
    have hb1' := hb0.trans (hb1.mono (by simp))
    have hz1 := hb1'.size
    obtain ⟨d0, d1, d2, d3, d4, d5⟩ := hX1.cells
    simp only [Ex.op, Ex.name, Ex.num, Ex.k, Ex.line, Ex.col] at d0 d1 d2 d3 d4 d5
    obtain ⟨b1, o1, A1, cap1, he1, hb1x, hc1, hin1⟩ := (HP.out.below (Nat.le_refl _) hb1') 0 (by omega)
    subst he1
    obtain ⟨c10, c11, c12, c13, c14, c15⟩ := hc1
    simp only [Nat.zero_mul, Nat.add_zero] at c10 c11 c12 c13 c14 c15
    obtain ⟨b2, o2, A2, cap2, he2, hb2x, hc2, hin2⟩ := (HP.out.below (Nat.le_refl _) hb1') 1 (by omega)
    injection he2 with he2
    injection he2 with he2a he2b
    subst he2a he2b
    obtain ⟨c20, c21, c22, c23, c24, c25⟩ := hc2
    simp only [Nat.one_mul] at c20 c21 c22 c23 c24 c25
    clear hX0 hX1
    have k1 : ∀ d os, Calls Tryd.prog 12 #[(arg 0).val A1 cap1, .int .i64 (7)] (grow (redrawn w1 d) os) fun e w' => e = .returned (.string ⟨((arg 0).txt (7)).toArray⟩) ∧ ∃ p : Regrown, w' = grow (redrawn w1 p.d) p.os := fun d os =>
      Calls.regrown_of (HX.out 0 (by omega) w.heap.size A1 cap1 (7) _ (hin1.below (Nat.le_refl _) ((below_regrown w1 d os).mono hz1)) (HO.out 0 (by omega)) (Nat.le_trans hz1 (below_regrown w1 d os).size) (by omega) (by omega) (by omega))
    unfold Ex.val at k1
    have hs1 : (⟨((arg 0).txt (7)).toArray⟩ : ByteArray).size = ((arg 0).txt (7)).length := rfl
    have k2 : ∀ d os, Calls Tryd.prog 12 #[(arg 1).val A2 cap2, .int .i64 (7)] (grow (redrawn w1 d) os) fun e w' => e = .returned (.string ⟨((arg 1).txt (7)).toArray⟩) ∧ ∃ p : Regrown, w' = grow (redrawn w1 p.d) p.os := fun d os =>
      Calls.regrown_of (HX.out 1 (by omega) w.heap.size A2 cap2 (7) _ (hin2.below (Nat.le_refl _) ((below_regrown w1 d os).mono hz1)) (HO.out 1 (by omega)) (Nat.le_trans hz1 (below_regrown w1 d os).size) (by omega) (by omega) (by omega))
    unfold Ex.val at k2
    have hs2 : (⟨((arg 1).txt (7)).toArray⟩ : ByteArray).size = ((arg 1).txt (7)).length := rfl
    have kS : ∀ d os, Calls Tryd.prog 25 #[.int .i64 op] (grow (redrawn w1 d) os) fun e w' => e = .returned (.string (sgnOf op)) ∧ ∃ p : Regrown, w' = grow (redrawn w1 p.d) p.os := fun d os => Calls.regrown_of (rsign_any op _ HS.out)
    have gc10 := cell_regrown c10
    have gc11 := cell_regrown c11
    have gc12 := cell_regrown c12
    have gc13 := cell_regrown c13
    have gc14 := cell_regrown c14
    have gc15 := cell_regrown c15
    have gc20 := cell_regrown c20
    have gc21 := cell_regrown c21
    have gc22 := cell_regrown c22
    have gc23 := cell_regrown c23
    have gc24 := cell_regrown c24
    have gc25 := cell_regrown c25
    have gd0 := cell_regrown d0
    go_wp2_with fail
    refine wp_region_quiet_below hmix (by kernel_rfl) ?_
    repeat (first | go_big_quiet_step (first | (go_at_call 12; with_reducible exact k1 _ _) | (go_at_call 12; with_reducible exact k2 _ _) | (go_at_call 25; with_reducible exact kS _ _)) | quiet_step (first | (go_at_call 12; with_reducible exact k1 _ _) | (go_at_call 12; with_reducible exact k2 _ _) | (go_at_call 25; with_reducible exact kS _ _)))
    refine wpQuiet_nil ?_
    intro _ hw'
    obtain ⟨⟨dq, osq⟩, hw''⟩ := hw'
    subst hw''
    go_wp2_with fail
    go_ret
    refine ⟨ret_str ?_, hb1'.trans ((below_regrown w1 _ _).mono hz1)⟩
    rw [HBR.out]
    simp
  · omega
  · omega
  · simp only [Ex.val, Ex.op, Ex.name, Ex.num, Ex.k, Ex.line, Ex.col]
    go_enter Tryd.func12, Tryd.ntmps12
    go_wp2_with fail
    refine (rstrength_any _ _).mono ?_
    rintro r w1 ⟨rfl, hb1⟩
    rw [HM.out]
    have hX1 := hX0.below hb1
    have hb1' := hb0.trans (hb1.mono (by simp))
    have hz1 := hb1'.size
    obtain ⟨d0, d1, d2, d3, d4, d5⟩ := hX1.cells
    simp only [Ex.op, Ex.name, Ex.num, Ex.k, Ex.line, Ex.col] at d0 d1 d2 d3 d4 d5
    obtain ⟨b1, o1, A1, cap1, he1, hb1x, hc1, hin1⟩ := (HP.out.below (Nat.le_refl _) hb1') 0 (by omega)
    subst he1
    obtain ⟨c10, c11, c12, c13, c14, c15⟩ := hc1
    simp only [Nat.zero_mul, Nat.add_zero] at c10 c11 c12 c13 c14 c15
    obtain ⟨b2, o2, A2, cap2, he2, hb2x, hc2, hin2⟩ := (HP.out.below (Nat.le_refl _) hb1') 1 (by omega)
    injection he2 with he2
    injection he2 with he2a he2b
    subst he2a he2b
    obtain ⟨c20, c21, c22, c23, c24, c25⟩ := hc2
    simp only [Nat.one_mul] at c20 c21 c22 c23 c24 c25
    clear hX0 hX1
    have k1 : ∀ d os, Calls Tryd.prog 12 #[(arg 0).val A1 cap1, .int .i64 (L)] (grow (redrawn w1 d) os) fun e w' => e = .returned (.string ⟨((arg 0).txt (L)).toArray⟩) ∧ ∃ p : Regrown, w' = grow (redrawn w1 p.d) p.os := fun d os =>
      Calls.regrown_of (HX.out 0 (by omega) w.heap.size A1 cap1 (L) _ (hin1.below (Nat.le_refl _) ((below_regrown w1 d os).mono hz1)) (HO.out 0 (by omega)) (Nat.le_trans hz1 (below_regrown w1 d os).size) (by omega) (by omega) (by omega))
    unfold Ex.val at k1
    have hs1 : (⟨((arg 0).txt (L)).toArray⟩ : ByteArray).size = ((arg 0).txt (L)).length := rfl
    have k2 : ∀ d os, Calls Tryd.prog 12 #[(arg 1).val A2 cap2, .int .i64 (L + 1)] (grow (redrawn w1 d) os) fun e w' => e = .returned (.string ⟨((arg 1).txt (L + 1)).toArray⟩) ∧ ∃ p : Regrown, w' = grow (redrawn w1 p.d) p.os := fun d os =>
      Calls.regrown_of (HX.out 1 (by omega) w.heap.size A2 cap2 (L + 1) _ (hin2.below (Nat.le_refl _) ((below_regrown w1 d os).mono hz1)) (HO.out 1 (by omega)) (Nat.le_trans hz1 (below_regrown w1 d os).size) (by omega) (by omega) (by omega))
    unfold Ex.val at k2
    have hs2 : (⟨((arg 1).txt (L + 1)).toArray⟩ : ByteArray).size = ((arg 1).txt (L + 1)).length := rfl
    have kS : ∀ d os, Calls Tryd.prog 25 #[.int .i64 op] (grow (redrawn w1 d) os) fun e w' => e = .returned (.string (sgnOf op)) ∧ ∃ p : Regrown, w' = grow (redrawn w1 p.d) p.os := fun d os => Calls.regrown_of (rsign_any op _ HS.out)
    have gc10 := cell_regrown c10
    have gc11 := cell_regrown c11
    have gc12 := cell_regrown c12
    have gc13 := cell_regrown c13
    have gc14 := cell_regrown c14
    have gc15 := cell_regrown c15
    have gc20 := cell_regrown c20
    have gc21 := cell_regrown c21
    have gc22 := cell_regrown c22
    have gc23 := cell_regrown c23
    have gc24 := cell_regrown c24
    have gc25 := cell_regrown c25
    have gd0 := cell_regrown d0
    go_wp2_with fail
    refine wp_region_quiet_below hmix (by kernel_rfl) ?_
    repeat (first | go_big_quiet_step (first | (go_at_call 12; with_reducible exact k1 _ _) | (go_at_call 12; with_reducible exact k2 _ _) | (go_at_call 25; with_reducible exact kS _ _)) | quiet_step (first | (go_at_call 12; with_reducible exact k1 _ _) | (go_at_call 12; with_reducible exact k2 _ _) | (go_at_call 25; with_reducible exact kS _ _)))
    refine wpQuiet_nil ?_
    intro _ hw'
    obtain ⟨⟨dq, osq⟩, hw''⟩ := hw'
    subst hw''
    go_wp2_with fail
    go_ret
    refine ⟨ret_str ?_, hb1'.trans ((below_regrown w1 _ _).mono hz1)⟩
    rw [HBR.out]
    simp
end Go.Proofs.YtnlikhjmmnaknaaDoor
