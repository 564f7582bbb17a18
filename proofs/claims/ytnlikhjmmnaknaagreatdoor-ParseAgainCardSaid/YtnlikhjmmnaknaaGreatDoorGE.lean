/-
  Texts of this claim, joined: RShow RShow2 Awake13.
-/
import Derived.Test.YtnlikhjmmnaknaaGreatDoorGD
import Derived.Lib.QuietBelow
import Derived.Deep.QuietTactic
import Derived.BigQuiet
/-
  The walk of the reference's Expr: the same text.
-/
namespace Go.Proofs.YtnlikhjmmnaknaaGreatDoor
open Go.RowKit Go.Sort

theorem hmix : Tryz.prog.follows .mixedOrders = true := by kernel_rfl
theorem ba_ext {a b : ByteArray} (h : a.data.toList = b.data.toList) : a = b := by
  apply ByteArray.ext
  apply Array.toList_inj.1
  exact h
theorem ret_str {a b : ByteArray} (h : a.data.toList = b.data.toList) : Ending.returned (.string a) = .returned (.string b) := by rw [ba_ext h]

def RExprW (e : Ex) : Prop := ∀ (B : Nat) (A : Option Addr) (cap : Nat) (least : Int) (w : World), ExAt B w e A cap → e.ok → B ≤ w.heap.size → 0 ≤ least → least ≤ 20 → (e.txt least).length ≤ 140737488355328 →
  Calls Tryz.prog 63 #[e.val A cap, .int .i64 least] w fun r w' => r = .returned (.string ⟨(e.txt least).toArray⟩) ∧ Below w.heap.size w w'
def RBareW (e : Ex) : Prop := ∀ (B : Nat) (A : Option Addr) (cap : Nat) (least : Int) (w : World), ExAt B w e A cap → e.ok → B ≤ w.heap.size → 0 ≤ least → least ≤ strOf e.op → e.bare.length ≤ 140737488355328 →
  Calls Tryz.prog 63 #[e.val A cap, .int .i64 least] w fun r w' => r = .returned (.string ⟨e.bare.toArray⟩) ∧ Below w.heap.size w w'

set_option maxRecDepth 100000 in
set_option maxHeartbeats 1000000 in
theorem rexpr_of_bare (e : Ex) (hB : RBareW e) : RExprW e := by
  intro B A cap least w hE hok hB0 hl0 hl20 hlen
  have hE' := ExAt.more hB0 e A cap hE
  by_cases hs : strOf e.op < least
  · have HT : Hid (e.txt least = 40 :: (e.bare ++ [41])) := by show _ = _; unfold Ex.txt wrapT; rw [if_pos hs]
    have hlen' : e.bare.length + 2 ≤ 140737488355328 := by rw [HT.out] at hlen; simpa using hlen
    have hb0 : Below w.heap.size w (w.alloc (.cells #[.int .i64 e.op, .string e.name, .int .i64 e.num, .slice A e.k cap, .int .i64 e.line, .int .i64 e.col] 41)) := (Below.refl _ _).alloc (Nat.le_refl _) _
    have hX0 : ExBox (w.alloc (.cells #[.int .i64 e.op, .string e.name, .int .i64 e.num, .slice A e.k cap, .int .i64 e.line, .int .i64 e.col] 41)) w.heap.size e A cap := World.alloc_heap_new w _
    have HB := hid hB
    clear hB hlen
    have hbd := strOf_bd e.op
    unfold Ex.val
    go_enter Tryz.func63, Tryz.ntmps63
    go_wp2_with fail
    refine (rstrength_any _ _).mono ?_
    rintro r w1 ⟨rfl, hb1⟩
    have hX1 := hX0.below hb1
    have hb1' := hb0.trans (hb1.mono (by simp))
    obtain ⟨c0, c1, c2, c3, c4, c5⟩ := hX1.cells
    go_wp2_with fail
    refine (HB.out w.heap.size A cap 0 w1 (hE'.below (Nat.le_refl _) hb1') hok hb1'.size (by omega) (by omega) (by omega)).mono ?_
    rintro r w2 ⟨rfl, hb2⟩
    have hls : (⟨e.bare.toArray⟩ : ByteArray).size = e.bare.length := rfl
    go_wp2_with fail
    go_ret
    refine ⟨ret_str ?_, hb1'.trans (hb2.mono hb1'.size)⟩
    rw [HT.out]
    simp
  · have HT : Hid (e.txt least = e.bare) := by show _ = _; unfold Ex.txt wrapT; rw [if_neg hs]
    rw [HT.out] at hlen ⊢
    exact hB B A cap least w hE hok hB0 hl0 (by omega) hlen

set_option maxRecDepth 100000 in
set_option maxHeartbeats 2000000 in
theorem rbare_24 (name : ByteArray) (n : Int) (arg : Nat → Ex) (ln cl : Int) (hx : ∀ i, i < 1 → RExprW (arg i)) : RBareW (.mk 24 name n 1 arg ln cl) := by
  intro B A cap least w hE hok hB0 hl0 hls hlen
  have hE' := ExAt.more hB0 _ A cap hE
  have hP := parts_of hE'
  have hF := plain_facts hok.1
  have hO := hok.2
  have hI := hE.1
  simp only [Ex.op] at hls
  have hbd := strOf_bd 24
  have HX := hid hx
  have HP := hid hP
  have HO := hid hO
  have hX0 : ExBox (w.alloc (.cells #[.int .i64 24, .string name, .int .i64 n, .slice A (1 : Nat) cap, .int .i64 ln, .int .i64 cl] 41)) w.heap.size (.mk 24 name n 1 arg ln cl) A cap := World.alloc_heap_new w _
  have hb0 : Below w.heap.size w (w.alloc (.cells #[.int .i64 24, .string name, .int .i64 n, .slice A (1 : Nat) cap, .int .i64 ln, .int .i64 cl] 41)) := (Below.refl _ _).alloc (Nat.le_refl _) _
  clear hx hP hO hE hE'
  have hbare : (Ex.mk 24 name n 1 arg ln cl).bare = (arg 0).txt 3 ++ ([32, 119, 104, 101, 110, 32] ++ name.data.toList) := rfl
  have hlen' : ((arg 0).txt 3).length + (6 + name.size) ≤ 140737488355328 := by
    rw [hbare] at hlen
    simp only [List.length_append, List.length_cons, List.length_nil, Array.length_toList] at hlen
    have : name.data.size = name.size := rfl
    omega
  have HBR := hid hbare
  clear hlen hok hF hI hbare
  simp only [Ex.val, Ex.op, Ex.name, Ex.num, Ex.k, Ex.line, Ex.col]
  go_enter Tryz.func63, Tryz.ntmps63
  go_wp2_with fail
  refine (rstrength_any _ _).mono ?_
  rintro r w1 ⟨rfl, hb1⟩
  have hX1 := hX0.below hb1
  have hb1' := hb0.trans (hb1.mono (by simp))
  have hz1 := hb1'.size
  obtain ⟨d0, d1, d2, d3, d4, d5⟩ := hX1.cells
  simp only [Ex.op, Ex.name, Ex.num, Ex.k, Ex.line, Ex.col] at d0 d1 d2 d3 d4 d5
  obtain ⟨b1, o1, A1, cap1, he1, hb1x, hc1, hin1⟩ := (HP.out.below (Nat.le_refl _) hb1') 0 (by omega)
  subst he1
  obtain ⟨c10, c11, c12, c13, c14, c15⟩ := hc1
  simp only [Nat.zero_mul, Nat.add_zero] at c10 c11 c12 c13 c14 c15
  clear hX0 hX1
  have k1 : ∀ d os, Calls Tryz.prog 63 #[(arg 0).val A1 cap1, .int .i64 (3)] (grow (redrawn w1 d) os) fun e w' => e = .returned (.string ⟨((arg 0).txt (3)).toArray⟩) ∧ ∃ p : Regrown, w' = grow (redrawn w1 p.d) p.os := fun d os =>
    Calls.regrown_of (HX.out 0 (by omega) w.heap.size A1 cap1 (3) _ (hin1.below (Nat.le_refl _) ((below_regrown w1 d os).mono hz1)) (HO.out 0 (by omega)) (Nat.le_trans hz1 (below_regrown w1 d os).size) (by omega) (by omega) (by omega))
  unfold Ex.val at k1
  have hs1 : (⟨((arg 0).txt (3)).toArray⟩ : ByteArray).size = ((arg 0).txt (3)).length := rfl
  have gc10 := cell_regrown c10
  have gc11 := cell_regrown c11
  have gc12 := cell_regrown c12
  have gc13 := cell_regrown c13
  have gc14 := cell_regrown c14
  have gc15 := cell_regrown c15
  have gd1 := cell_regrown d1
  go_wp2_with fail
  refine wp_region_quiet_below hmix (by kernel_rfl) ?_
  repeat (first | go_big_quiet_step (first | (go_at_call 63; with_reducible exact k1 _ _)) | quiet_step (first | (go_at_call 63; with_reducible exact k1 _ _)))
  refine wpQuiet_nil ?_
  intro _ hw'
  obtain ⟨⟨dq, osq⟩, hw''⟩ := hw'
  subst hw''
  go_wp2_with fail
  go_ret
  refine ⟨ret_str ?_, hb1'.trans ((below_regrown w1 _ _).mono hz1)⟩
  rw [HBR.out]
  simp

set_option maxRecDepth 100000 in
set_option maxHeartbeats 2000000 in
theorem rbare_25 (name : ByteArray) (n : Int) (arg : Nat → Ex) (ln cl : Int) (hx : ∀ i, i < 1 → RExprW (arg i)) : RBareW (.mk 25 name n 1 arg ln cl) := by
  intro B A cap least w hE hok hB0 hl0 hls hlen
  have hE' := ExAt.more hB0 _ A cap hE
  have hP := parts_of hE'
  have hF := plain_facts hok.1
  have hO := hok.2
  have hI := hE.1
  simp only [Ex.op] at hls
  have hbd := strOf_bd 25
  have HX := hid hx
  have HP := hid hP
  have HO := hid hO
  have hX0 : ExBox (w.alloc (.cells #[.int .i64 25, .string name, .int .i64 n, .slice A (1 : Nat) cap, .int .i64 ln, .int .i64 cl] 41)) w.heap.size (.mk 25 name n 1 arg ln cl) A cap := World.alloc_heap_new w _
  have hb0 : Below w.heap.size w (w.alloc (.cells #[.int .i64 25, .string name, .int .i64 n, .slice A (1 : Nat) cap, .int .i64 ln, .int .i64 cl] 41)) := (Below.refl _ _).alloc (Nat.le_refl _) _
  clear hx hP hO hE hE'
  have hbare : (Ex.mk 25 name n 1 arg ln cl).bare = (arg 0).txt 3 ++ ([32, 119, 104, 101, 110, 32, 110, 111, 116, 32] ++ name.data.toList) := rfl
  have hlen' : ((arg 0).txt 3).length + (10 + name.size) ≤ 140737488355328 := by
    rw [hbare] at hlen
    simp only [List.length_append, List.length_cons, List.length_nil, Array.length_toList] at hlen
    have : name.data.size = name.size := rfl
    omega
  have HBR := hid hbare
  clear hlen hok hF hI hbare
  simp only [Ex.val, Ex.op, Ex.name, Ex.num, Ex.k, Ex.line, Ex.col]
  go_enter Tryz.func63, Tryz.ntmps63
  go_wp2_with fail
  refine (rstrength_any _ _).mono ?_
  rintro r w1 ⟨rfl, hb1⟩
  have hX1 := hX0.below hb1
  have hb1' := hb0.trans (hb1.mono (by simp))
  have hz1 := hb1'.size
  obtain ⟨d0, d1, d2, d3, d4, d5⟩ := hX1.cells
  simp only [Ex.op, Ex.name, Ex.num, Ex.k, Ex.line, Ex.col] at d0 d1 d2 d3 d4 d5
  obtain ⟨b1, o1, A1, cap1, he1, hb1x, hc1, hin1⟩ := (HP.out.below (Nat.le_refl _) hb1') 0 (by omega)
  subst he1
  obtain ⟨c10, c11, c12, c13, c14, c15⟩ := hc1
  simp only [Nat.zero_mul, Nat.add_zero] at c10 c11 c12 c13 c14 c15
  clear hX0 hX1
  have k1 : ∀ d os, Calls Tryz.prog 63 #[(arg 0).val A1 cap1, .int .i64 (3)] (grow (redrawn w1 d) os) fun e w' => e = .returned (.string ⟨((arg 0).txt (3)).toArray⟩) ∧ ∃ p : Regrown, w' = grow (redrawn w1 p.d) p.os := fun d os =>
    Calls.regrown_of (HX.out 0 (by omega) w.heap.size A1 cap1 (3) _ (hin1.below (Nat.le_refl _) ((below_regrown w1 d os).mono hz1)) (HO.out 0 (by omega)) (Nat.le_trans hz1 (below_regrown w1 d os).size) (by omega) (by omega) (by omega))
  unfold Ex.val at k1
  have hs1 : (⟨((arg 0).txt (3)).toArray⟩ : ByteArray).size = ((arg 0).txt (3)).length := rfl
  have gc10 := cell_regrown c10
  have gc11 := cell_regrown c11
  have gc12 := cell_regrown c12
  have gc13 := cell_regrown c13
  have gc14 := cell_regrown c14
  have gc15 := cell_regrown c15
  have gd1 := cell_regrown d1
  go_wp2_with fail
  refine wp_region_quiet_below hmix (by kernel_rfl) ?_
  repeat (first | go_big_quiet_step (first | (go_at_call 63; with_reducible exact k1 _ _)) | quiet_step (first | (go_at_call 63; with_reducible exact k1 _ _)))
  refine wpQuiet_nil ?_
  intro _ hw'
  obtain ⟨⟨dq, osq⟩, hw''⟩ := hw'
  subst hw''
  go_wp2_with fail
  go_ret
  refine ⟨ret_str ?_, hb1'.trans ((below_regrown w1 _ _).mono hz1)⟩
  rw [HBR.out]
  simp

set_option maxRecDepth 100000 in
set_option maxHeartbeats 2000000 in
theorem rbare_1 (name : ByteArray) (n : Int) (arg : Nat → Ex) (ln cl : Int) (hx : ∀ i, i < 0 → RExprW (arg i)) : RBareW (.mk 1 name n 0 arg ln cl) := by
  intro B A cap least w hE hok hB0 hl0 hls hlen
  have hE' := ExAt.more hB0 _ A cap hE
  have hP := parts_of hE'
  have hF := plain_facts hok.1
  have hO := hok.2
  have hI := hE.1
  simp only [Ex.op] at hls
  have hbd := strOf_bd 1
  have HX := hid hx
  have HP := hid hP
  have HO := hid hO
  have hX0 : ExBox (w.alloc (.cells #[.int .i64 1, .string name, .int .i64 n, .slice A (0 : Nat) cap, .int .i64 ln, .int .i64 cl] 41)) w.heap.size (.mk 1 name n 0 arg ln cl) A cap := World.alloc_heap_new w _
  have hb0 : Below w.heap.size w (w.alloc (.cells #[.int .i64 1, .string name, .int .i64 n, .slice A (0 : Nat) cap, .int .i64 ln, .int .i64 cl] 41)) := (Below.refl _ _).alloc (Nat.le_refl _) _
  clear hx hP hO hE hE'
  have hI64 : n ≤ 9223372036854775807 := hI.2.2.1.2
  obtain ⟨u, rfl⟩ := Int.eq_ofNat_of_zero_le (hF.n1 rfl)
  have hbare : (Ex.mk 1 name u 0 arg ln cl).bare = Lib.decDigits u := Lib.itoa_nonneg u
  have HBR := hid hbare
  clear hlen hok hF hI hbare
  simp only [Ex.val, Ex.op, Ex.name, Ex.num, Ex.k, Ex.line, Ex.col]
  go_enter Tryz.func63, Tryz.ntmps63
  go_wp2_with fail
  refine (rstrength_any _ _).mono ?_
  rintro r w1 ⟨rfl, hb1⟩
  have hX1 := hX0.below hb1
  have hb1' := hb0.trans (hb1.mono (by simp))
  have hz1 := hb1'.size
  obtain ⟨d0, d1, d2, d3, d4, d5⟩ := hX1.cells
  simp only [Ex.op, Ex.name, Ex.num, Ex.k, Ex.line, Ex.col] at d0 d1 d2 d3 d4 d5
  clear hX0 hX1
  go_wp2_with fail
  refine (rdigits_any u u w1 (Nat.le_refl _) (by omega)).mono ?_
  rintro r w2 ⟨rfl, rfl⟩
  go_wp2_with fail
  go_ret
  refine ⟨?_, hb1'⟩
  rw [HBR.out]
  rfl

set_option maxRecDepth 100000 in
set_option maxHeartbeats 2000000 in
theorem rbare_2 (name : ByteArray) (n : Int) (arg : Nat → Ex) (ln cl : Int) (hx : ∀ i, i < 0 → RExprW (arg i)) : RBareW (.mk 2 name n 0 arg ln cl) := by
  intro B A cap least w hE hok hB0 hl0 hls hlen
  have hE' := ExAt.more hB0 _ A cap hE
  have hP := parts_of hE'
  have hF := plain_facts hok.1
  have hO := hok.2
  have hI := hE.1
  simp only [Ex.op] at hls
  have hbd := strOf_bd 2
  have HX := hid hx
  have HP := hid hP
  have HO := hid hO
  have hX0 : ExBox (w.alloc (.cells #[.int .i64 2, .string name, .int .i64 n, .slice A (0 : Nat) cap, .int .i64 ln, .int .i64 cl] 41)) w.heap.size (.mk 2 name n 0 arg ln cl) A cap := World.alloc_heap_new w _
  have hb0 : Below w.heap.size w (w.alloc (.cells #[.int .i64 2, .string name, .int .i64 n, .slice A (0 : Nat) cap, .int .i64 ln, .int .i64 cl] 41)) := (Below.refl _ _).alloc (Nat.le_refl _) _
  clear hx hP hO hE hE'
  rcases hF.n2 rfl with rfl | rfl
  all_goals
    clear hlen hok hF hI
    simp only [Ex.val, Ex.op, Ex.name, Ex.num, Ex.k, Ex.line, Ex.col]
    go_enter Tryz.func63, Tryz.ntmps63
    go_wp2_with fail
    refine (rstrength_any _ _).mono ?_
    rintro r w1 ⟨rfl, hb1⟩
    have hX1 := hX0.below hb1
    have hb1' := hb0.trans (hb1.mono (by simp))
    have hz1 := hb1'.size
    obtain ⟨d0, d1, d2, d3, d4, d5⟩ := hX1.cells
    simp only [Ex.op, Ex.name, Ex.num, Ex.k, Ex.line, Ex.col] at d0 d1 d2 d3 d4 d5
    clear hX0 hX1
    go_wp2_with fail
    go_ret
    exact ⟨rfl, hb1'⟩

set_option maxRecDepth 100000 in
set_option maxHeartbeats 2000000 in
theorem rbare_3 (name : ByteArray) (n : Int) (arg : Nat → Ex) (ln cl : Int) (hx : ∀ i, i < 0 → RExprW (arg i)) : RBareW (.mk 3 name n 0 arg ln cl) := by
  intro B A cap least w hE hok hB0 hl0 hls hlen
  have hE' := ExAt.more hB0 _ A cap hE
  have hP := parts_of hE'
  have hF := plain_facts hok.1
  have hO := hok.2
  have hI := hE.1
  simp only [Ex.op] at hls
  have hbd := strOf_bd 3
  have HX := hid hx
  have HP := hid hP
  have HO := hid hO
  have hX0 : ExBox (w.alloc (.cells #[.int .i64 3, .string name, .int .i64 n, .slice A (0 : Nat) cap, .int .i64 ln, .int .i64 cl] 41)) w.heap.size (.mk 3 name n 0 arg ln cl) A cap := World.alloc_heap_new w _
  have hb0 : Below w.heap.size w (w.alloc (.cells #[.int .i64 3, .string name, .int .i64 n, .slice A (0 : Nat) cap, .int .i64 ln, .int .i64 cl] 41)) := (Below.refl _ _).alloc (Nat.le_refl _) _
  clear hx hP hO hE hE'
  clear hlen hok hF hI
  simp only [Ex.val, Ex.op, Ex.name, Ex.num, Ex.k, Ex.line, Ex.col]
  go_enter Tryz.func63, Tryz.ntmps63
  go_wp2_with fail
  refine (rstrength_any _ _).mono ?_
  rintro r w1 ⟨rfl, hb1⟩
  have hX1 := hX0.below hb1
  have hb1' := hb0.trans (hb1.mono (by simp))
  have hz1 := hb1'.size
  obtain ⟨d0, d1, d2, d3, d4, d5⟩ := hX1.cells
  simp only [Ex.op, Ex.name, Ex.num, Ex.k, Ex.line, Ex.col] at d0 d1 d2 d3 d4 d5
  clear hX0 hX1
  go_wp2_with fail
  go_ret
  exact ⟨ret_str rfl, hb1'⟩

set_option maxRecDepth 100000 in
set_option maxHeartbeats 2000000 in
theorem rbare_5 (name : ByteArray) (n : Int) (arg : Nat → Ex) (ln cl : Int) (hx : ∀ i, i < 1 → RExprW (arg i)) : RBareW (.mk 5 name n 1 arg ln cl) := by
  intro B A cap least w hE hok hB0 hl0 hls hlen
  have hE' := ExAt.more hB0 _ A cap hE
  have hP := parts_of hE'
  have hF := plain_facts hok.1
  have hO := hok.2
  have hI := hE.1
  simp only [Ex.op] at hls
  have hbd := strOf_bd 5
  have HX := hid hx
  have HP := hid hP
  have HO := hid hO
  have hX0 : ExBox (w.alloc (.cells #[.int .i64 5, .string name, .int .i64 n, .slice A (1 : Nat) cap, .int .i64 ln, .int .i64 cl] 41)) w.heap.size (.mk 5 name n 1 arg ln cl) A cap := World.alloc_heap_new w _
  have hb0 : Below w.heap.size w (w.alloc (.cells #[.int .i64 5, .string name, .int .i64 n, .slice A (1 : Nat) cap, .int .i64 ln, .int .i64 cl] 41)) := (Below.refl _ _).alloc (Nat.le_refl _) _
  clear hx hP hO hE hE'
  have hbare : (Ex.mk 5 name n 1 arg ln cl).bare = [45] ++ (arg 0).txt 9 := rfl
  have hlen' : 1 + ((arg 0).txt 9).length ≤ 140737488355328 := by
    rw [hbare] at hlen
    simp only [List.length_append, List.length_cons, List.length_nil] at hlen
    omega
  have HBR := hid hbare
  clear hlen hok hF hI hbare
  simp only [Ex.val, Ex.op, Ex.name, Ex.num, Ex.k, Ex.line, Ex.col]
  go_enter Tryz.func63, Tryz.ntmps63
  go_wp2_with fail
  refine (rstrength_any _ _).mono ?_
  rintro r w1 ⟨rfl, hb1⟩
  have hX1 := hX0.below hb1
  have hb1' := hb0.trans (hb1.mono (by simp))
  have hz1 := hb1'.size
  obtain ⟨d0, d1, d2, d3, d4, d5⟩ := hX1.cells
  simp only [Ex.op, Ex.name, Ex.num, Ex.k, Ex.line, Ex.col] at d0 d1 d2 d3 d4 d5
  obtain ⟨b1, o1, A1, cap1, he1, hb1x, hc1, hin1⟩ := (HP.out.below (Nat.le_refl _) hb1') 0 (by omega)
  subst he1
  obtain ⟨c10, c11, c12, c13, c14, c15⟩ := hc1
  simp only [Nat.zero_mul, Nat.add_zero] at c10 c11 c12 c13 c14 c15
  clear hX0 hX1
  go_wp2_with fail
  refine (HX.out 0 (by omega) w.heap.size A1 cap1 9 w1 hin1 (HO.out 0 (by omega)) hz1 (by omega) (by omega) (by omega)).mono ?_
  rintro r w2 ⟨rfl, hb2⟩
  go_wp2_with fail
  go_ret
  refine ⟨ret_str ?_, hb1'.trans (hb2.mono hz1)⟩
  rw [HBR.out]
  simp

set_option maxRecDepth 100000 in
set_option maxHeartbeats 2000000 in
theorem rbare_6 (name : ByteArray) (n : Int) (arg : Nat → Ex) (ln cl : Int) (hx : ∀ i, i < 1 → RExprW (arg i)) : RBareW (.mk 6 name n 1 arg ln cl) := by
  intro B A cap least w hE hok hB0 hl0 hls hlen
  have hE' := ExAt.more hB0 _ A cap hE
  have hP := parts_of hE'
  have hF := plain_facts hok.1
  have hO := hok.2
  have hI := hE.1
  simp only [Ex.op] at hls
  have hbd := strOf_bd 6
  have HX := hid hx
  have HP := hid hP
  have HO := hid hO
  have hX0 : ExBox (w.alloc (.cells #[.int .i64 6, .string name, .int .i64 n, .slice A (1 : Nat) cap, .int .i64 ln, .int .i64 cl] 41)) w.heap.size (.mk 6 name n 1 arg ln cl) A cap := World.alloc_heap_new w _
  have hb0 : Below w.heap.size w (w.alloc (.cells #[.int .i64 6, .string name, .int .i64 n, .slice A (1 : Nat) cap, .int .i64 ln, .int .i64 cl] 41)) := (Below.refl _ _).alloc (Nat.le_refl _) _
  clear hx hP hO hE hE'
  have hbare : (Ex.mk 6 name n 1 arg ln cl).bare = [110, 111, 116, 32] ++ (arg 0).txt 9 := rfl
  have hlen' : 4 + ((arg 0).txt 9).length ≤ 140737488355328 := by
    rw [hbare] at hlen
    simp only [List.length_append, List.length_cons, List.length_nil] at hlen
    omega
  have HBR := hid hbare
  clear hlen hok hF hI hbare
  simp only [Ex.val, Ex.op, Ex.name, Ex.num, Ex.k, Ex.line, Ex.col]
  go_enter Tryz.func63, Tryz.ntmps63
  go_wp2_with fail
  refine (rstrength_any _ _).mono ?_
  rintro r w1 ⟨rfl, hb1⟩
  have hX1 := hX0.below hb1
  have hb1' := hb0.trans (hb1.mono (by simp))
  have hz1 := hb1'.size
  obtain ⟨d0, d1, d2, d3, d4, d5⟩ := hX1.cells
  simp only [Ex.op, Ex.name, Ex.num, Ex.k, Ex.line, Ex.col] at d0 d1 d2 d3 d4 d5
  obtain ⟨b1, o1, A1, cap1, he1, hb1x, hc1, hin1⟩ := (HP.out.below (Nat.le_refl _) hb1') 0 (by omega)
  subst he1
  obtain ⟨c10, c11, c12, c13, c14, c15⟩ := hc1
  simp only [Nat.zero_mul, Nat.add_zero] at c10 c11 c12 c13 c14 c15
  clear hX0 hX1
  go_wp2_with fail
  refine (HX.out 0 (by omega) w.heap.size A1 cap1 9 w1 hin1 (HO.out 0 (by omega)) hz1 (by omega) (by omega) (by omega)).mono ?_
  rintro r w2 ⟨rfl, hb2⟩
  go_wp2_with fail
  go_ret
  refine ⟨ret_str ?_, hb1'.trans (hb2.mono hz1)⟩
  rw [HBR.out]
  simp

set_option maxRecDepth 100000 in
set_option maxHeartbeats 2000000 in
theorem rbare_21 (name : ByteArray) (n : Int) (arg : Nat → Ex) (ln cl : Int) (hx : ∀ i, i < 1 → RExprW (arg i)) : RBareW (.mk 21 name n 1 arg ln cl) := by
  intro B A cap least w hE hok hB0 hl0 hls hlen
  have hE' := ExAt.more hB0 _ A cap hE
  have hP := parts_of hE'
  have hF := plain_facts hok.1
  have hO := hok.2
  have hI := hE.1
  simp only [Ex.op] at hls
  have hbd := strOf_bd 21
  have HX := hid hx
  have HP := hid hP
  have HO := hid hO
  have hX0 : ExBox (w.alloc (.cells #[.int .i64 21, .string name, .int .i64 n, .slice A (1 : Nat) cap, .int .i64 ln, .int .i64 cl] 41)) w.heap.size (.mk 21 name n 1 arg ln cl) A cap := World.alloc_heap_new w _
  have hb0 : Below w.heap.size w (w.alloc (.cells #[.int .i64 21, .string name, .int .i64 n, .slice A (1 : Nat) cap, .int .i64 ln, .int .i64 cl] 41)) := (Below.refl _ _).alloc (Nat.le_refl _) _
  clear hx hP hO hE hE'
  have hbare : (Ex.mk 21 name n 1 arg ln cl).bare = [112, 114, 101, 32] ++ (arg 0).txt 9 := rfl
  have hlen' : 4 + ((arg 0).txt 9).length ≤ 140737488355328 := by
    rw [hbare] at hlen
    simp only [List.length_append, List.length_cons, List.length_nil] at hlen
    omega
  have HBR := hid hbare
  clear hlen hok hF hI hbare
  simp only [Ex.val, Ex.op, Ex.name, Ex.num, Ex.k, Ex.line, Ex.col]
  go_enter Tryz.func63, Tryz.ntmps63
  go_wp2_with fail
  refine (rstrength_any _ _).mono ?_
  rintro r w1 ⟨rfl, hb1⟩
  have hX1 := hX0.below hb1
  have hb1' := hb0.trans (hb1.mono (by simp))
  have hz1 := hb1'.size
  obtain ⟨d0, d1, d2, d3, d4, d5⟩ := hX1.cells
  simp only [Ex.op, Ex.name, Ex.num, Ex.k, Ex.line, Ex.col] at d0 d1 d2 d3 d4 d5
  obtain ⟨b1, o1, A1, cap1, he1, hb1x, hc1, hin1⟩ := (HP.out.below (Nat.le_refl _) hb1') 0 (by omega)
  subst he1
  obtain ⟨c10, c11, c12, c13, c14, c15⟩ := hc1
  simp only [Nat.zero_mul, Nat.add_zero] at c10 c11 c12 c13 c14 c15
  clear hX0 hX1
  go_wp2_with fail
  refine (HX.out 0 (by omega) w.heap.size A1 cap1 9 w1 hin1 (HO.out 0 (by omega)) hz1 (by omega) (by omega) (by omega)).mono ?_
  rintro r w2 ⟨rfl, hb2⟩
  go_wp2_with fail
  go_ret
  refine ⟨ret_str ?_, hb1'.trans (hb2.mono hz1)⟩
  rw [HBR.out]
  simp

set_option maxRecDepth 100000 in
set_option maxHeartbeats 2000000 in
theorem rbare_26 (name : ByteArray) (n : Int) (arg : Nat → Ex) (ln cl : Int) (hx : ∀ i, i < 2 → RExprW (arg i)) : RBareW (.mk 26 name n 2 arg ln cl) := by
  intro B A cap least w hE hok hB0 hl0 hls hlen
  have hE' := ExAt.more hB0 _ A cap hE
  have hP := parts_of hE'
  have hF := plain_facts hok.1
  have hO := hok.2
  have hI := hE.1
  simp only [Ex.op] at hls
  have hbd := strOf_bd 26
  have HX := hid hx
  have HP := hid hP
  have HO := hid hO
  have hX0 : ExBox (w.alloc (.cells #[.int .i64 26, .string name, .int .i64 n, .slice A (2 : Nat) cap, .int .i64 ln, .int .i64 cl] 41)) w.heap.size (.mk 26 name n 2 arg ln cl) A cap := World.alloc_heap_new w _
  have hb0 : Below w.heap.size w (w.alloc (.cells #[.int .i64 26, .string name, .int .i64 n, .slice A (2 : Nat) cap, .int .i64 ln, .int .i64 cl] 41)) := (Below.refl _ _).alloc (Nat.le_refl _) _
  clear hx hP hO hE hE'
  have hbare : (Ex.mk 26 name n 2 arg ln cl).bare = [109, 101, 114, 103, 101, 32] ++ (name.data.toList ++ ([32, 40] ++ ((arg 0).txt 0 ++ ([41, 32, 40] ++ ((arg 1).txt 0 ++ [41]))))) := rfl
  have hlen' : ((arg 0).txt 0).length + ((arg 1).txt 0).length + name.size + 12 ≤ 140737488355328 := by
    rw [hbare] at hlen
    simp only [List.length_append, List.length_cons, List.length_nil, Array.length_toList] at hlen
    have : name.data.size = name.size := rfl
    omega
  have HBR := hid hbare
  clear hlen hok hF hI hbare
  simp only [Ex.val, Ex.op, Ex.name, Ex.num, Ex.k, Ex.line, Ex.col]
  go_enter Tryz.func63, Tryz.ntmps63
  go_wp2_with fail
  refine (rstrength_any _ _).mono ?_
  rintro r w1 ⟨rfl, hb1⟩
  have hX1 := hX0.below hb1
  have hb1' := hb0.trans (hb1.mono (by simp))
  have hz1 := hb1'.size
  obtain ⟨d0, d1, d2, d3, d4, d5⟩ := hX1.cells
  simp only [Ex.op, Ex.name, Ex.num, Ex.k, Ex.line, Ex.col] at d0 d1 d2 d3 d4 d5
  obtain ⟨b1, o1, A1, cap1, he1, hb1x, hc1, hin1⟩ := (HP.out.below (Nat.le_refl _) hb1') 0 (by omega)
  subst he1
  obtain ⟨c10, c11, c12, c13, c14, c15⟩ := hc1
  simp only [Nat.zero_mul, Nat.add_zero] at c10 c11 c12 c13 c14 c15
  obtain ⟨b2, o2, A2, cap2, he2, hb2x, hc2, hin2⟩ := (HP.out.below (Nat.le_refl _) hb1') 1 (by omega)
  injection he2 with he2
  injection he2 with he2a he2b
  subst he2a he2b
  obtain ⟨c20, c21, c22, c23, c24, c25⟩ := hc2
  simp only [Nat.one_mul] at c20 c21 c22 c23 c24 c25
  clear hX0 hX1
  have k1 : ∀ d os, Calls Tryz.prog 63 #[(arg 0).val A1 cap1, .int .i64 (0)] (grow (redrawn w1 d) os) fun e w' => e = .returned (.string ⟨((arg 0).txt (0)).toArray⟩) ∧ ∃ p : Regrown, w' = grow (redrawn w1 p.d) p.os := fun d os =>
    Calls.regrown_of (HX.out 0 (by omega) w.heap.size A1 cap1 (0) _ (hin1.below (Nat.le_refl _) ((below_regrown w1 d os).mono hz1)) (HO.out 0 (by omega)) (Nat.le_trans hz1 (below_regrown w1 d os).size) (by omega) (by omega) (by omega))
  unfold Ex.val at k1
  have hs1 : (⟨((arg 0).txt (0)).toArray⟩ : ByteArray).size = ((arg 0).txt (0)).length := rfl
  have k2 : ∀ d os, Calls Tryz.prog 63 #[(arg 1).val A2 cap2, .int .i64 (0)] (grow (redrawn w1 d) os) fun e w' => e = .returned (.string ⟨((arg 1).txt (0)).toArray⟩) ∧ ∃ p : Regrown, w' = grow (redrawn w1 p.d) p.os := fun d os =>
    Calls.regrown_of (HX.out 1 (by omega) w.heap.size A2 cap2 (0) _ (hin2.below (Nat.le_refl _) ((below_regrown w1 d os).mono hz1)) (HO.out 1 (by omega)) (Nat.le_trans hz1 (below_regrown w1 d os).size) (by omega) (by omega) (by omega))
  unfold Ex.val at k2
  have hs2 : (⟨((arg 1).txt (0)).toArray⟩ : ByteArray).size = ((arg 1).txt (0)).length := rfl
  have gc10 := cell_regrown c10
  have gc11 := cell_regrown c11
  have gc12 := cell_regrown c12
  have gc13 := cell_regrown c13
  have gc14 := cell_regrown c14
  have gc15 := cell_regrown c15
  have gc20 := cell_regrown c20
  have gc21 := cell_regrown c21
  have gc22 := cell_regrown c22
  have gc23 := cell_regrown c23
  have gc24 := cell_regrown c24
  have gc25 := cell_regrown c25
  have gd1 := cell_regrown d1
  go_wp2_with fail
  refine wp_region_quiet_below hmix (by kernel_rfl) ?_
  repeat (first | go_big_quiet_step (first | (go_at_call 63; with_reducible exact k1 _ _) | (go_at_call 63; with_reducible exact k2 _ _)) | quiet_step (first | (go_at_call 63; with_reducible exact k1 _ _) | (go_at_call 63; with_reducible exact k2 _ _)))
  refine wpQuiet_nil ?_
  intro _ hw'
  obtain ⟨⟨dq, osq⟩, hw''⟩ := hw'
  subst hw''
  go_wp2_with fail
  go_ret
  refine ⟨ret_str ?_, hb1'.trans ((below_regrown w1 _ _).mono hz1)⟩
  rw [HBR.out]
  simp

set_option maxRecDepth 100000 in
set_option maxHeartbeats 2000000 in
theorem rbare_27 (name : ByteArray) (n : Int) (arg : Nat → Ex) (ln cl : Int) (hx : ∀ i, i < 3 → RExprW (arg i)) : RBareW (.mk 27 name n 3 arg ln cl) := by
  intro B A cap least w hE hok hB0 hl0 hls hlen
  have hE' := ExAt.more hB0 _ A cap hE
  have hP := parts_of hE'
  have hF := plain_facts hok.1
  have hO := hok.2
  have hI := hE.1
  simp only [Ex.op] at hls
  have hbd := strOf_bd 27
  have HX := hid hx
  have HP := hid hP
  have HO := hid hO
  have hX0 : ExBox (w.alloc (.cells #[.int .i64 27, .string name, .int .i64 n, .slice A (3 : Nat) cap, .int .i64 ln, .int .i64 cl] 41)) w.heap.size (.mk 27 name n 3 arg ln cl) A cap := World.alloc_heap_new w _
  have hb0 : Below w.heap.size w (w.alloc (.cells #[.int .i64 27, .string name, .int .i64 n, .slice A (3 : Nat) cap, .int .i64 ln, .int .i64 cl] 41)) := (Below.refl _ _).alloc (Nat.le_refl _) _
  clear hx hP hO hE hE'
  have hbare : (Ex.mk 27 name n 3 arg ln cl).bare = [105, 102, 32] ++ ((arg 0).txt 0 ++ ([32, 116, 104, 101, 110, 32] ++ ((arg 1).txt 0 ++ ([32, 101, 108, 115, 101, 32] ++ (arg 2).txt 0)))) := rfl
  have hlen' : ((arg 0).txt 0).length + ((arg 1).txt 0).length + ((arg 2).txt 0).length + 15 ≤ 140737488355328 := by
    rw [hbare] at hlen
    simp only [List.length_append, List.length_cons, List.length_nil] at hlen
    omega
  have HBR := hid hbare
  clear hlen hok hF hI hbare
  simp only [Ex.val, Ex.op, Ex.name, Ex.num, Ex.k, Ex.line, Ex.col]
  go_enter Tryz.func63, Tryz.ntmps63
  go_wp2_with fail
  refine (rstrength_any _ _).mono ?_
  rintro r w1 ⟨rfl, hb1⟩
  have hX1 := hX0.below hb1
  have hb1' := hb0.trans (hb1.mono (by simp))
  have hz1 := hb1'.size
  obtain ⟨d0, d1, d2, d3, d4, d5⟩ := hX1.cells
  simp only [Ex.op, Ex.name, Ex.num, Ex.k, Ex.line, Ex.col] at d0 d1 d2 d3 d4 d5
  obtain ⟨b1, o1, A1, cap1, he1, hb1x, hc1, hin1⟩ := (HP.out.below (Nat.le_refl _) hb1') 0 (by omega)
  subst he1
  obtain ⟨c10, c11, c12, c13, c14, c15⟩ := hc1
  simp only [Nat.zero_mul, Nat.add_zero] at c10 c11 c12 c13 c14 c15
  obtain ⟨b2, o2, A2, cap2, he2, hb2x, hc2, hin2⟩ := (HP.out.below (Nat.le_refl _) hb1') 1 (by omega)
  injection he2 with he2
  injection he2 with he2a he2b
  subst he2a he2b
  obtain ⟨c20, c21, c22, c23, c24, c25⟩ := hc2
  simp only [Nat.one_mul] at c20 c21 c22 c23 c24 c25
  obtain ⟨b3, o3, A3, cap3, he3, hb3x, hc3, hin3⟩ := (HP.out.below (Nat.le_refl _) hb1') 2 (by omega)
  injection he3 with he3
  injection he3 with he3a he3b
  subst he3a he3b
  obtain ⟨c30, c31, c32, c33, c34, c35⟩ := hc3
  simp only [Nat.reduceMul] at c30 c31 c32 c33 c34 c35
  clear hX0 hX1
  have k1 : ∀ d os, Calls Tryz.prog 63 #[(arg 0).val A1 cap1, .int .i64 (0)] (grow (redrawn w1 d) os) fun e w' => e = .returned (.string ⟨((arg 0).txt (0)).toArray⟩) ∧ ∃ p : Regrown, w' = grow (redrawn w1 p.d) p.os := fun d os =>
    Calls.regrown_of (HX.out 0 (by omega) w.heap.size A1 cap1 (0) _ (hin1.below (Nat.le_refl _) ((below_regrown w1 d os).mono hz1)) (HO.out 0 (by omega)) (Nat.le_trans hz1 (below_regrown w1 d os).size) (by omega) (by omega) (by omega))
  unfold Ex.val at k1
  have hs1 : (⟨((arg 0).txt (0)).toArray⟩ : ByteArray).size = ((arg 0).txt (0)).length := rfl
  have k2 : ∀ d os, Calls Tryz.prog 63 #[(arg 1).val A2 cap2, .int .i64 (0)] (grow (redrawn w1 d) os) fun e w' => e = .returned (.string ⟨((arg 1).txt (0)).toArray⟩) ∧ ∃ p : Regrown, w' = grow (redrawn w1 p.d) p.os := fun d os =>
    Calls.regrown_of (HX.out 1 (by omega) w.heap.size A2 cap2 (0) _ (hin2.below (Nat.le_refl _) ((below_regrown w1 d os).mono hz1)) (HO.out 1 (by omega)) (Nat.le_trans hz1 (below_regrown w1 d os).size) (by omega) (by omega) (by omega))
  unfold Ex.val at k2
  have hs2 : (⟨((arg 1).txt (0)).toArray⟩ : ByteArray).size = ((arg 1).txt (0)).length := rfl
  have k3 : ∀ d os, Calls Tryz.prog 63 #[(arg 2).val A3 cap3, .int .i64 (0)] (grow (redrawn w1 d) os) fun e w' => e = .returned (.string ⟨((arg 2).txt (0)).toArray⟩) ∧ ∃ p : Regrown, w' = grow (redrawn w1 p.d) p.os := fun d os =>
    Calls.regrown_of (HX.out 2 (by omega) w.heap.size A3 cap3 (0) _ (hin3.below (Nat.le_refl _) ((below_regrown w1 d os).mono hz1)) (HO.out 2 (by omega)) (Nat.le_trans hz1 (below_regrown w1 d os).size) (by omega) (by omega) (by omega))
  unfold Ex.val at k3
  have hs3 : (⟨((arg 2).txt (0)).toArray⟩ : ByteArray).size = ((arg 2).txt (0)).length := rfl
  have gc10 := cell_regrown c10
  have gc11 := cell_regrown c11
  have gc12 := cell_regrown c12
  have gc13 := cell_regrown c13
  have gc14 := cell_regrown c14
  have gc15 := cell_regrown c15
  have gc20 := cell_regrown c20
  have gc21 := cell_regrown c21
  have gc22 := cell_regrown c22
  have gc23 := cell_regrown c23
  have gc24 := cell_regrown c24
  have gc25 := cell_regrown c25
  have gc30 := cell_regrown c30
  have gc31 := cell_regrown c31
  have gc32 := cell_regrown c32
  have gc33 := cell_regrown c33
  have gc34 := cell_regrown c34
  have gc35 := cell_regrown c35
  go_wp2_with fail
  refine wp_region_quiet_below hmix (by kernel_rfl) ?_
  repeat (first | go_big_quiet_step (first | (go_at_call 63; with_reducible exact k1 _ _) | (go_at_call 63; with_reducible exact k2 _ _) | (go_at_call 63; with_reducible exact k3 _ _)) | quiet_step (first | (go_at_call 63; with_reducible exact k1 _ _) | (go_at_call 63; with_reducible exact k2 _ _) | (go_at_call 63; with_reducible exact k3 _ _)))
  refine wpQuiet_nil ?_
  intro _ hw'
  obtain ⟨⟨dq, osq⟩, hw''⟩ := hw'
  subst hw''
  go_wp2_with fail
  go_ret
  refine ⟨ret_str ?_, hb1'.trans ((below_regrown w1 _ _).mono hz1)⟩
  rw [HBR.out]
  simp

set_option maxRecDepth 100000 in
set_option maxHeartbeats 2000000 in
theorem rbare_22 (name : ByteArray) (n : Int) (arg : Nat → Ex) (ln cl : Int) (hx : ∀ i, i < 2 → RExprW (arg i)) : RBareW (.mk 22 name n 2 arg ln cl) := by
  intro B A cap least w hE hok hB0 hl0 hls hlen
  have hE' := ExAt.more hB0 _ A cap hE
  have hP := parts_of hE'
  have hF := plain_facts hok.1
  have hO := hok.2
  have hI := hE.1
  simp only [Ex.op] at hls
  have hbd := strOf_bd 22
  have HX := hid hx
  have HP := hid hP
  have HO := hid hO
  have hX0 : ExBox (w.alloc (.cells #[.int .i64 22, .string name, .int .i64 n, .slice A (2 : Nat) cap, .int .i64 ln, .int .i64 cl] 41)) w.heap.size (.mk 22 name n 2 arg ln cl) A cap := World.alloc_heap_new w _
  have hb0 : Below w.heap.size w (w.alloc (.cells #[.int .i64 22, .string name, .int .i64 n, .slice A (2 : Nat) cap, .int .i64 ln, .int .i64 cl] 41)) := (Below.refl _ _).alloc (Nat.le_refl _) _
  clear hx hP hO hE hE'
  have hs0 : strOf 22 = 2 := by decide
  have hbare : (Ex.mk 22 name n 2 arg ln cl).bare = (arg 0).txt 3 ++ (32 :: ((sgnOf 22).data.toList ++ (32 :: (arg 1).txt 2))) := rfl
  have hsg := sgn_len 22
  have hsg' : (sgnOf 22).size ≤ 3 := by rw [Array.length_toList] at hsg; exact hsg
  have hlen' : ((arg 0).txt 3).length + ((arg 1).txt 2).length + ((sgnOf 22).size + 2) ≤ 140737488355328 := by
    rw [hbare] at hlen
    simp only [List.length_append, List.length_cons, Array.length_toList] at hlen
    have : (sgnOf 22).data.size = (sgnOf 22).size := rfl
    omega
  have HBR := hid hbare
  have HS0 := hid hs0
  clear hlen hok hF hI hbare hs0 hsg
  simp only [Ex.val, Ex.op, Ex.name, Ex.num, Ex.k, Ex.line, Ex.col]
  go_enter Tryz.func63, Tryz.ntmps63
  go_wp2_with fail
  refine (rstrength_any _ _).mono ?_
  rintro r w1 ⟨rfl, hb1⟩
  rw [HS0.out] at hls hbd ⊢
  have hX1 := hX0.below hb1
  have hb1' := hb0.trans (hb1.mono (by simp))
  have hz1 := hb1'.size
  obtain ⟨d0, d1, d2, d3, d4, d5⟩ := hX1.cells
  simp only [Ex.op, Ex.name, Ex.num, Ex.k, Ex.line, Ex.col] at d0 d1 d2 d3 d4 d5
  obtain ⟨b1, o1, A1, cap1, he1, hb1x, hc1, hin1⟩ := (HP.out.below (Nat.le_refl _) hb1') 0 (by omega)
  subst he1
  obtain ⟨c10, c11, c12, c13, c14, c15⟩ := hc1
  simp only [Nat.zero_mul, Nat.add_zero] at c10 c11 c12 c13 c14 c15
  obtain ⟨b2, o2, A2, cap2, he2, hb2x, hc2, hin2⟩ := (HP.out.below (Nat.le_refl _) hb1') 1 (by omega)
  injection he2 with he2
  injection he2 with he2a he2b
  subst he2a he2b
  obtain ⟨c20, c21, c22, c23, c24, c25⟩ := hc2
  simp only [Nat.one_mul] at c20 c21 c22 c23 c24 c25
  clear hX0 hX1
  have k1 : ∀ d os, Calls Tryz.prog 63 #[(arg 0).val A1 cap1, .int .i64 (3)] (grow (redrawn w1 d) os) fun e w' => e = .returned (.string ⟨((arg 0).txt (3)).toArray⟩) ∧ ∃ p : Regrown, w' = grow (redrawn w1 p.d) p.os := fun d os =>
    Calls.regrown_of (HX.out 0 (by omega) w.heap.size A1 cap1 (3) _ (hin1.below (Nat.le_refl _) ((below_regrown w1 d os).mono hz1)) (HO.out 0 (by omega)) (Nat.le_trans hz1 (below_regrown w1 d os).size) (by omega) (by omega) (by omega))
  unfold Ex.val at k1
  have hs1 : (⟨((arg 0).txt (3)).toArray⟩ : ByteArray).size = ((arg 0).txt (3)).length := rfl
  have k2 : ∀ d os, Calls Tryz.prog 63 #[(arg 1).val A2 cap2, .int .i64 (2)] (grow (redrawn w1 d) os) fun e w' => e = .returned (.string ⟨((arg 1).txt (2)).toArray⟩) ∧ ∃ p : Regrown, w' = grow (redrawn w1 p.d) p.os := fun d os =>
    Calls.regrown_of (HX.out 1 (by omega) w.heap.size A2 cap2 (2) _ (hin2.below (Nat.le_refl _) ((below_regrown w1 d os).mono hz1)) (HO.out 1 (by omega)) (Nat.le_trans hz1 (below_regrown w1 d os).size) (by omega) (by omega) (by omega))
  unfold Ex.val at k2
  have hs2 : (⟨((arg 1).txt (2)).toArray⟩ : ByteArray).size = ((arg 1).txt (2)).length := rfl
  have kS : ∀ d os, Calls Tryz.prog 96 #[.int .i64 22] (grow (redrawn w1 d) os) fun e w' => e = .returned (.string (sgnOf 22)) ∧ ∃ p : Regrown, w' = grow (redrawn w1 p.d) p.os := fun d os => Calls.regrown_of (rsign_any 22 _ (by unfold signed; omega))
  have gc10 := cell_regrown c10
  have gc11 := cell_regrown c11
  have gc12 := cell_regrown c12
  have gc13 := cell_regrown c13
  have gc14 := cell_regrown c14
  have gc15 := cell_regrown c15
  have gc20 := cell_regrown c20
  have gc21 := cell_regrown c21
  have gc22 := cell_regrown c22
  have gc23 := cell_regrown c23
  have gc24 := cell_regrown c24
  have gc25 := cell_regrown c25
  have gd0 := cell_regrown d0
  go_wp2_with fail
  refine wp_region_quiet_below hmix (by kernel_rfl) ?_
  repeat (first | go_big_quiet_step (first | (go_at_call 63; with_reducible exact k1 _ _) | (go_at_call 63; with_reducible exact k2 _ _) | (go_at_call 96; with_reducible exact kS _ _)) | quiet_step (first | (go_at_call 63; with_reducible exact k1 _ _) | (go_at_call 63; with_reducible exact k2 _ _) | (go_at_call 96; with_reducible exact kS _ _)))
  refine wpQuiet_nil ?_
  intro _ hw'
  obtain ⟨⟨dq, osq⟩, hw''⟩ := hw'
  subst hw''
  go_wp2_with fail
  go_ret
  refine ⟨ret_str ?_, hb1'.trans ((below_regrown w1 _ _).mono hz1)⟩
  rw [HBR.out]
  simp

set_option maxRecDepth 100000 in
set_option maxHeartbeats 2000000 in
theorem rbare_23 (name : ByteArray) (n : Int) (arg : Nat → Ex) (ln cl : Int) (hx : ∀ i, i < 2 → RExprW (arg i)) : RBareW (.mk 23 name n 2 arg ln cl) := by
  intro B A cap least w hE hok hB0 hl0 hls hlen
  have hE' := ExAt.more hB0 _ A cap hE
  have hP := parts_of hE'
  have hF := plain_facts hok.1
  have hO := hok.2
  have hI := hE.1
  simp only [Ex.op] at hls
  have hbd := strOf_bd 23
  have HX := hid hx
  have HP := hid hP
  have HO := hid hO
  have hX0 : ExBox (w.alloc (.cells #[.int .i64 23, .string name, .int .i64 n, .slice A (2 : Nat) cap, .int .i64 ln, .int .i64 cl] 41)) w.heap.size (.mk 23 name n 2 arg ln cl) A cap := World.alloc_heap_new w _
  have hb0 : Below w.heap.size w (w.alloc (.cells #[.int .i64 23, .string name, .int .i64 n, .slice A (2 : Nat) cap, .int .i64 ln, .int .i64 cl] 41)) := (Below.refl _ _).alloc (Nat.le_refl _) _
  clear hx hP hO hE hE'
  have hs0 : strOf 23 = 1 := by decide
  have hbare : (Ex.mk 23 name n 2 arg ln cl).bare = (arg 0).txt 2 ++ (32 :: ((sgnOf 23).data.toList ++ (32 :: (arg 1).txt 1))) := rfl
  have hsg := sgn_len 23
  have hsg' : (sgnOf 23).size ≤ 3 := by rw [Array.length_toList] at hsg; exact hsg
  have hlen' : ((arg 0).txt 2).length + ((arg 1).txt 1).length + ((sgnOf 23).size + 2) ≤ 140737488355328 := by
    rw [hbare] at hlen
    simp only [List.length_append, List.length_cons, Array.length_toList] at hlen
    have : (sgnOf 23).data.size = (sgnOf 23).size := rfl
    omega
  have HBR := hid hbare
  have HS0 := hid hs0
  clear hlen hok hF hI hbare hs0 hsg
  simp only [Ex.val, Ex.op, Ex.name, Ex.num, Ex.k, Ex.line, Ex.col]
  go_enter Tryz.func63, Tryz.ntmps63
  go_wp2_with fail
  refine (rstrength_any _ _).mono ?_
  rintro r w1 ⟨rfl, hb1⟩
  rw [HS0.out] at hls hbd ⊢
  have hX1 := hX0.below hb1
  have hb1' := hb0.trans (hb1.mono (by simp))
  have hz1 := hb1'.size
  obtain ⟨d0, d1, d2, d3, d4, d5⟩ := hX1.cells
  simp only [Ex.op, Ex.name, Ex.num, Ex.k, Ex.line, Ex.col] at d0 d1 d2 d3 d4 d5
  obtain ⟨b1, o1, A1, cap1, he1, hb1x, hc1, hin1⟩ := (HP.out.below (Nat.le_refl _) hb1') 0 (by omega)
  subst he1
  obtain ⟨c10, c11, c12, c13, c14, c15⟩ := hc1
  simp only [Nat.zero_mul, Nat.add_zero] at c10 c11 c12 c13 c14 c15
  obtain ⟨b2, o2, A2, cap2, he2, hb2x, hc2, hin2⟩ := (HP.out.below (Nat.le_refl _) hb1') 1 (by omega)
  injection he2 with he2
  injection he2 with he2a he2b
  subst he2a he2b
  obtain ⟨c20, c21, c22, c23, c24, c25⟩ := hc2
  simp only [Nat.one_mul] at c20 c21 c22 c23 c24 c25
  clear hX0 hX1
  have k1 : ∀ d os, Calls Tryz.prog 63 #[(arg 0).val A1 cap1, .int .i64 (2)] (grow (redrawn w1 d) os) fun e w' => e = .returned (.string ⟨((arg 0).txt (2)).toArray⟩) ∧ ∃ p : Regrown, w' = grow (redrawn w1 p.d) p.os := fun d os =>
    Calls.regrown_of (HX.out 0 (by omega) w.heap.size A1 cap1 (2) _ (hin1.below (Nat.le_refl _) ((below_regrown w1 d os).mono hz1)) (HO.out 0 (by omega)) (Nat.le_trans hz1 (below_regrown w1 d os).size) (by omega) (by omega) (by omega))
  unfold Ex.val at k1
  have hs1 : (⟨((arg 0).txt (2)).toArray⟩ : ByteArray).size = ((arg 0).txt (2)).length := rfl
  have k2 : ∀ d os, Calls Tryz.prog 63 #[(arg 1).val A2 cap2, .int .i64 (1)] (grow (redrawn w1 d) os) fun e w' => e = .returned (.string ⟨((arg 1).txt (1)).toArray⟩) ∧ ∃ p : Regrown, w' = grow (redrawn w1 p.d) p.os := fun d os =>
    Calls.regrown_of (HX.out 1 (by omega) w.heap.size A2 cap2 (1) _ (hin2.below (Nat.le_refl _) ((below_regrown w1 d os).mono hz1)) (HO.out 1 (by omega)) (Nat.le_trans hz1 (below_regrown w1 d os).size) (by omega) (by omega) (by omega))
  unfold Ex.val at k2
  have hs2 : (⟨((arg 1).txt (1)).toArray⟩ : ByteArray).size = ((arg 1).txt (1)).length := rfl
  have kS : ∀ d os, Calls Tryz.prog 96 #[.int .i64 23] (grow (redrawn w1 d) os) fun e w' => e = .returned (.string (sgnOf 23)) ∧ ∃ p : Regrown, w' = grow (redrawn w1 p.d) p.os := fun d os => Calls.regrown_of (rsign_any 23 _ (by unfold signed; omega))
  have gc10 := cell_regrown c10
  have gc11 := cell_regrown c11
  have gc12 := cell_regrown c12
  have gc13 := cell_regrown c13
  have gc14 := cell_regrown c14
  have gc15 := cell_regrown c15
  have gc20 := cell_regrown c20
  have gc21 := cell_regrown c21
  have gc22 := cell_regrown c22
  have gc23 := cell_regrown c23
  have gc24 := cell_regrown c24
  have gc25 := cell_regrown c25
  have gd0 := cell_regrown d0
  go_wp2_with fail
  refine wp_region_quiet_below hmix (by kernel_rfl) ?_
  repeat (first | go_big_quiet_step (first | (go_at_call 63; with_reducible exact k1 _ _) | (go_at_call 63; with_reducible exact k2 _ _) | (go_at_call 96; with_reducible exact kS _ _)) | quiet_step (first | (go_at_call 63; with_reducible exact k1 _ _) | (go_at_call 63; with_reducible exact k2 _ _) | (go_at_call 96; with_reducible exact kS _ _)))
  refine wpQuiet_nil ?_
  intro _ hw'
  obtain ⟨⟨dq, osq⟩, hw''⟩ := hw'
  subst hw''
  go_wp2_with fail
  go_ret
  refine ⟨ret_str ?_, hb1'.trans ((below_regrown w1 _ _).mono hz1)⟩
  rw [HBR.out]
  simp

theorem strOf_mid {op : Int} (h : 7 ≤ op ∧ op ≤ 20) : 4 ≤ strOf op ∧ strOf op ≤ 8 := by
  rw [strC_eq]; unfold strC; (repeat' split) <;> omega

set_option maxRecDepth 100000 in
set_option maxHeartbeats 2000000 in
theorem rbare_two (op : Int) (hop : 7 ≤ op ∧ op ≤ 20) (name : ByteArray) (n : Int) (arg : Nat → Ex) (ln cl : Int) (hx : ∀ i, i < 2 → RExprW (arg i)) : RBareW (.mk op name n 2 arg ln cl) := by
  intro B A cap least w hE hok hB0 hl0 hls hlen
  have hE' := ExAt.more hB0 _ A cap hE
  have hP := parts_of hE'
  have hF := plain_facts hok.1
  have hO := hok.2
  have hI := hE.1
  simp only [Ex.op] at hls
  have hbd := strOf_bd op
  have HX := hid hx
  have HP := hid hP
  have HO := hid hO
  have hX0 : ExBox (w.alloc (.cells #[.int .i64 op, .string name, .int .i64 n, .slice A (2 : Nat) cap, .int .i64 ln, .int .i64 cl] 41)) w.heap.size (.mk op name n 2 arg ln cl) A cap := World.alloc_heap_new w _
  have hb0 : Below w.heap.size w (w.alloc (.cells #[.int .i64 op, .string name, .int .i64 n, .slice A (2 : Nat) cap, .int .i64 ln, .int .i64 cl] 41)) := (Below.refl _ _).alloc (Nat.le_refl _) _
  clear hx hP hO hE hE'
  have hmid := strOf_mid hop
  have hs : signed op := .inl hop
  have hbare : (Ex.mk op name n 2 arg ln cl).bare = (arg 0).txt (leftOf op) ++ (32 :: ((sgnOf op).data.toList ++ (32 :: (arg 1).txt (rightOf op)))) := by
    rw [bare_mk]; unfold bareOf
    rw [if_neg (by omega), if_neg (by omega), if_neg (by omega), if_neg (by omega), if_neg (by omega), if_neg (by omega), if_neg (by omega), if_neg (by omega), if_neg (by omega), if_neg (by omega), if_neg (by omega)]
  have hsg := sgn_len op
  have hsg' : (sgnOf op).size ≤ 3 := by rw [Array.length_toList] at hsg; exact hsg
  have hlen' : ((arg 0).txt (leftOf op)).length + ((arg 1).txt (rightOf op)).length + ((sgnOf op).size + 2) ≤ 140737488355328 := by
    rw [hbare] at hlen
    simp only [List.length_append, List.length_cons, Array.length_toList] at hlen
    have : (sgnOf op).data.size = (sgnOf op).size := rfl
    omega
  have n1 : (op == 1) = false := by simp; omega
  have n2 : (op == 2) = false := by simp; omega
  have n3 : (op == 3) = false := by simp; omega
  have n4 : (op == 4) = false := by simp; omega
  have n5 : (op == 5) = false := by simp; omega
  have n6 : (op == 6) = false := by simp; omega
  have n21 : (op == 21) = false := by simp; omega
  have n22 : (op == 22) = false := by simp; omega
  have n23 : (op == 23) = false := by simp; omega
  have n24 : (op == 24) = false := by simp; omega
  have n25 : (op == 25) = false := by simp; omega
  have n26 : (op == 26) = false := by simp; omega
  have n27 : (op == 27) = false := by simp; omega
  have HS := hid hs
  have HOP := hid hop
  obtain ⟨m, L, R, hm, hL, hR, hm0, hm10, hway⟩ := strOf_ways op
  rw [hL, hR] at hlen' hbare
  rw [hm] at hmid hls hbd
  have HM := hid hm
  have HBR := hid hbare
  clear hlen hok hF hI hbare hs hop hsg hm hL hR
  rcases hway with ⟨rfl, rfl, rfl⟩ | ⟨rfl, rfl, rfl⟩ | ⟨rfl, rfl, rfl⟩ | ⟨rfl, rfl, hq6, hq1, hq2⟩
  · simp only [Ex.val, Ex.op, Ex.name, Ex.num, Ex.k, Ex.line, Ex.col]
    go_enter Tryz.func63, Tryz.ntmps63
    go_wp2_with fail
    refine (rstrength_any _ _).mono ?_
    rintro r w1 ⟨rfl, hb1⟩
    rw [HM.out]
    have hX1 := hX0.below hb1
    have hb1' := hb0.trans (hb1.mono (by simp))
    have hz1 := hb1'.size
    obtain ⟨d0, d1, d2, d3, d4, d5⟩ := hX1.cells
    simp only [Ex.op, Ex.name, Ex.num, Ex.k, Ex.line, Ex.col] at d0 d1 d2 d3 d4 d5
    obtain ⟨b1, o1, A1, cap1, he1, hb1x, hc1, hin1⟩ := (HP.out.below (Nat.le_refl _) hb1') 0 (by omega)
    subst he1
    obtain ⟨c10, c11, c12, c13, c14, c15⟩ := hc1
    simp only [Nat.zero_mul, Nat.add_zero] at c10 c11 c12 c13 c14 c15
    obtain ⟨b2, o2, A2, cap2, he2, hb2x, hc2, hin2⟩ := (HP.out.below (Nat.le_refl _) hb1') 1 (by omega)
    injection he2 with he2
    injection he2 with he2a he2b
    subst he2a he2b
    obtain ⟨c20, c21, c22, c23, c24, c25⟩ := hc2
    simp only [Nat.one_mul] at c20 c21 c22 c23 c24 c25
    clear hX0 hX1
    have k1 : ∀ d os, Calls Tryz.prog 63 #[(arg 0).val A1 cap1, .int .i64 (7)] (grow (redrawn w1 d) os) fun e w' => e = .returned (.string ⟨((arg 0).txt (7)).toArray⟩) ∧ ∃ p : Regrown, w' = grow (redrawn w1 p.d) p.os := fun d os =>
      Calls.regrown_of (HX.out 0 (by omega) w.heap.size A1 cap1 (7) _ (hin1.below (Nat.le_refl _) ((below_regrown w1 d os).mono hz1)) (HO.out 0 (by omega)) (Nat.le_trans hz1 (below_regrown w1 d os).size) (by omega) (by omega) (by omega))
    unfold Ex.val at k1
    have hs1 : (⟨((arg 0).txt (7)).toArray⟩ : ByteArray).size = ((arg 0).txt (7)).length := rfl
    have k2 : ∀ d os, Calls Tryz.prog 63 #[(arg 1).val A2 cap2, .int .i64 (7)] (grow (redrawn w1 d) os) fun e w' => e = .returned (.string ⟨((arg 1).txt (7)).toArray⟩) ∧ ∃ p : Regrown, w' = grow (redrawn w1 p.d) p.os := fun d os =>
      Calls.regrown_of (HX.out 1 (by omega) w.heap.size A2 cap2 (7) _ (hin2.below (Nat.le_refl _) ((below_regrown w1 d os).mono hz1)) (HO.out 1 (by omega)) (Nat.le_trans hz1 (below_regrown w1 d os).size) (by omega) (by omega) (by omega))
    unfold Ex.val at k2
    have hs2 : (⟨((arg 1).txt (7)).toArray⟩ : ByteArray).size = ((arg 1).txt (7)).length := rfl
    have kS : ∀ d os, Calls Tryz.prog 96 #[.int .i64 op] (grow (redrawn w1 d) os) fun e w' => e = .returned (.string (sgnOf op)) ∧ ∃ p : Regrown, w' = grow (redrawn w1 p.d) p.os := fun d os => Calls.regrown_of (rsign_any op _ HS.out)
    have gc10 := cell_regrown c10
    have gc11 := cell_regrown c11
    have gc12 := cell_regrown c12
    have gc13 := cell_regrown c13
    have gc14 := cell_regrown c14
    have gc15 := cell_regrown c15
    have gc20 := cell_regrown c20
    have gc21 := cell_regrown c21
    have gc22 := cell_regrown c22
    have gc23 := cell_regrown c23
    have gc24 := cell_regrown c24
    have gc25 := cell_regrown c25
    have gd0 := cell_regrown d0
    go_wp2_with fail
    refine wp_region_quiet_below hmix (by kernel_rfl) ?_
    repeat (first | go_big_quiet_step (first | (go_at_call 63; with_reducible exact k1 _ _) | (go_at_call 63; with_reducible exact k2 _ _) | (go_at_call 96; with_reducible exact kS _ _)) | quiet_step (first | (go_at_call 63; with_reducible exact k1 _ _) | (go_at_call 63; with_reducible exact k2 _ _) | (go_at_call 96; with_reducible exact kS _ _)))
    refine wpQuiet_nil ?_
    intro _ hw'
    obtain ⟨⟨dq, osq⟩, hw''⟩ := hw'
    subst hw''
    go_wp2_with fail
    go_ret
    refine ⟨ret_str ?_, hb1'.trans ((below_regrown w1 _ _).mono hz1)⟩
    rw [HBR.out]
    simp
  · omega
  · omega
  · simp only [Ex.val, Ex.op, Ex.name, Ex.num, Ex.k, Ex.line, Ex.col]
    go_enter Tryz.func63, Tryz.ntmps63
    go_wp2_with fail
    refine (rstrength_any _ _).mono ?_
    rintro r w1 ⟨rfl, hb1⟩
    rw [HM.out]
    have hX1 := hX0.below hb1
    have hb1' := hb0.trans (hb1.mono (by simp))
    have hz1 := hb1'.size
    obtain ⟨d0, d1, d2, d3, d4, d5⟩ := hX1.cells
    simp only [Ex.op, Ex.name, Ex.num, Ex.k, Ex.line, Ex.col] at d0 d1 d2 d3 d4 d5
    obtain ⟨b1, o1, A1, cap1, he1, hb1x, hc1, hin1⟩ := (HP.out.below (Nat.le_refl _) hb1') 0 (by omega)
    subst he1
    obtain ⟨c10, c11, c12, c13, c14, c15⟩ := hc1
    simp only [Nat.zero_mul, Nat.add_zero] at c10 c11 c12 c13 c14 c15
    obtain ⟨b2, o2, A2, cap2, he2, hb2x, hc2, hin2⟩ := (HP.out.below (Nat.le_refl _) hb1') 1 (by omega)
    injection he2 with he2
    injection he2 with he2a he2b
    subst he2a he2b
    obtain ⟨c20, c21, c22, c23, c24, c25⟩ := hc2
    simp only [Nat.one_mul] at c20 c21 c22 c23 c24 c25
    clear hX0 hX1
    have k1 : ∀ d os, Calls Tryz.prog 63 #[(arg 0).val A1 cap1, .int .i64 (L)] (grow (redrawn w1 d) os) fun e w' => e = .returned (.string ⟨((arg 0).txt (L)).toArray⟩) ∧ ∃ p : Regrown, w' = grow (redrawn w1 p.d) p.os := fun d os =>
      Calls.regrown_of (HX.out 0 (by omega) w.heap.size A1 cap1 (L) _ (hin1.below (Nat.le_refl _) ((below_regrown w1 d os).mono hz1)) (HO.out 0 (by omega)) (Nat.le_trans hz1 (below_regrown w1 d os).size) (by omega) (by omega) (by omega))
    unfold Ex.val at k1
    have hs1 : (⟨((arg 0).txt (L)).toArray⟩ : ByteArray).size = ((arg 0).txt (L)).length := rfl
    have k2 : ∀ d os, Calls Tryz.prog 63 #[(arg 1).val A2 cap2, .int .i64 (L + 1)] (grow (redrawn w1 d) os) fun e w' => e = .returned (.string ⟨((arg 1).txt (L + 1)).toArray⟩) ∧ ∃ p : Regrown, w' = grow (redrawn w1 p.d) p.os := fun d os =>
      Calls.regrown_of (HX.out 1 (by omega) w.heap.size A2 cap2 (L + 1) _ (hin2.below (Nat.le_refl _) ((below_regrown w1 d os).mono hz1)) (HO.out 1 (by omega)) (Nat.le_trans hz1 (below_regrown w1 d os).size) (by omega) (by omega) (by omega))
    unfold Ex.val at k2
    have hs2 : (⟨((arg 1).txt (L + 1)).toArray⟩ : ByteArray).size = ((arg 1).txt (L + 1)).length := rfl
    have kS : ∀ d os, Calls Tryz.prog 96 #[.int .i64 op] (grow (redrawn w1 d) os) fun e w' => e = .returned (.string (sgnOf op)) ∧ ∃ p : Regrown, w' = grow (redrawn w1 p.d) p.os := fun d os => Calls.regrown_of (rsign_any op _ HS.out)
    have gc10 := cell_regrown c10
    have gc11 := cell_regrown c11
    have gc12 := cell_regrown c12
    have gc13 := cell_regrown c13
    have gc14 := cell_regrown c14
    have gc15 := cell_regrown c15
    have gc20 := cell_regrown c20
    have gc21 := cell_regrown c21
    have gc22 := cell_regrown c22
    have gc23 := cell_regrown c23
    have gc24 := cell_regrown c24
    have gc25 := cell_regrown c25
    have gd0 := cell_regrown d0
    go_wp2_with fail
    refine wp_region_quiet_below hmix (by kernel_rfl) ?_
    repeat (first | go_big_quiet_step (first | (go_at_call 63; with_reducible exact k1 _ _) | (go_at_call 63; with_reducible exact k2 _ _) | (go_at_call 96; with_reducible exact kS _ _)) | quiet_step (first | (go_at_call 63; with_reducible exact k1 _ _) | (go_at_call 63; with_reducible exact k2 _ _) | (go_at_call 96; with_reducible exact kS _ _)))
    refine wpQuiet_nil ?_
    intro _ hw'
    obtain ⟨⟨dq, osq⟩, hw''⟩ := hw'
    subst hw''
    go_wp2_with fail
    go_ret
    refine ⟨ret_str ?_, hb1'.trans ((below_regrown w1 _ _).mono hz1)⟩
    rw [HBR.out]
    simp
end Go.Proofs.YtnlikhjmmnaknaaGreatDoor
/-
  The walk of the reference's Expr: a call; and all of it.
-/
namespace Go.Proofs.YtnlikhjmmnaknaaGreatDoor
open Go.RowKit Go.Sort

theorem commaTo_one (f : Nat → List UInt8) : commaTo f 1 = f 0 := by simp [commaTo]
theorem commaTo_more (f : Nat → List UInt8) {j : Nat} (h : 1 ≤ j) : commaTo f (j + 1) = commaTo f j ++ ([44, 32] ++ f j) := by
  rw [commaTo, if_neg (by omega)]

set_option maxRecDepth 100000 in
set_option maxHeartbeats 2000000 in
theorem rbare_4 (name : ByteArray) (n : Int) (k : Nat) (arg : Nat → Ex) (ln cl : Int) (hx : ∀ i, i < k → RExprW (arg i)) : RBareW (.mk 4 name n k arg ln cl) := by
  intro B A cap least w hE hok hB0 hl0 hls hlen
  have hE' := ExAt.more hB0 _ A cap hE
  have hP := parts_of hE'
  have hF := plain_facts hok.1
  have hO := hok.2
  have hI := hE.1
  simp only [Ex.op] at hls
  have hbd := strOf_bd 4
  have HX := hid hx
  have HP := hid hP
  have HO := hid hO
  have hX0 : ExBox (w.alloc (.cells #[.int .i64 4, .string name, .int .i64 n, .slice A (k : Nat) cap, .int .i64 ln, .int .i64 cl] 41)) w.heap.size (.mk 4 name n k arg ln cl) A cap := World.alloc_heap_new w _
  have hb0 : Below w.heap.size w (w.alloc (.cells #[.int .i64 4, .string name, .int .i64 n, .slice A (k : Nat) cap, .int .i64 ln, .int .i64 cl] 41)) := (Below.refl _ _).alloc (Nat.le_refl _) _
  clear hx hP hO hE hE'
  have hk8 := (hF.k4 rfl).2
  have hk1 := (hF.k4 rfl).1
  have hbare : (Ex.mk 4 name n k arg ln cl).bare = name.data.toList ++ (40 :: (commaTo (fun i => (arg i).txt 0) k ++ [41])) := rfl
  have hlen' : name.size + (commaTo (fun i => (arg i).txt 0) k).length + 2 ≤ 140737488355328 := by
    rw [hbare] at hlen
    simp only [List.length_append, List.length_cons, List.length_nil, Array.length_toList] at hlen
    have : name.data.size = name.size := rfl
    omega
  have h0len := commaTo_mono (fun i => (arg i).txt 0) (show 1 ≤ k by omega)
  rw [commaTo_one] at h0len
  have HBR := hid hbare
  clear hlen hok hF hI hbare
  simp only [Ex.val, Ex.op, Ex.name, Ex.num, Ex.k, Ex.line, Ex.col]
  go_enter Tryz.func63, Tryz.ntmps63
  go_wp2_with fail
  refine (rstrength_any _ _).mono ?_
  rintro r w1 ⟨rfl, hb1⟩
  have hX1 := hX0.below hb1
  have hb1' := hb0.trans (hb1.mono (by simp))
  have hz1 := hb1'.size
  obtain ⟨d0, d1, d2, d3, d4, d5⟩ := hX1.cells
  simp only [Ex.op, Ex.name, Ex.num, Ex.k, Ex.line, Ex.col] at d0 d1 d2 d3 d4 d5
  obtain ⟨b1, o1, A1, cap1, he1, hb1x, hc1, hin1⟩ := (HP.out.below (Nat.le_refl _) hb1') 0 (by omega)
  subst he1
  obtain ⟨c10, c11, c12, c13, c14, c15⟩ := hc1
  simp only [Nat.zero_mul, Nat.add_zero] at c10 c11 c12 c13 c14 c15
  clear hX0 hX1
  have k1 : ∀ d os, Calls Tryz.prog 63 #[(arg 0).val A1 cap1, .int .i64 (0)] (grow (redrawn w1 d) os) fun e w' => e = .returned (.string ⟨((arg 0).txt (0)).toArray⟩) ∧ ∃ p : Regrown, w' = grow (redrawn w1 p.d) p.os := fun d os =>
    Calls.regrown_of (HX.out 0 (by omega) w.heap.size A1 cap1 (0) _ (hin1.below (Nat.le_refl _) ((below_regrown w1 d os).mono hz1)) (HO.out 0 (by omega)) (Nat.le_trans hz1 (below_regrown w1 d os).size) (by omega) (by omega) (by omega))
  unfold Ex.val at k1
  have hs1 : (⟨((arg 0).txt (0)).toArray⟩ : ByteArray).size = ((arg 0).txt (0)).length := rfl
  have gc10 := cell_regrown c10
  have gc11 := cell_regrown c11
  have gc12 := cell_regrown c12
  have gc13 := cell_regrown c13
  have gc14 := cell_regrown c14
  have gc15 := cell_regrown c15
  have gd1 := cell_regrown d1
  go_wp2_with fail
  refine wp_region_quiet_below hmix (by kernel_rfl) ?_
  repeat (first | go_big_quiet_step (first | (go_at_call 63; with_reducible exact k1 _ _)) | quiet_step (first | (go_at_call 63; with_reducible exact k1 _ _)))
  refine wpQuiet_nil ?_
  intro _ hw'
  obtain ⟨⟨dq, osq⟩, hw''⟩ := hw'
  subst hw''
  have hb2 := hb1'.trans ((below_regrown w1 dq osq).mono hz1)
  generalize grow (redrawn w1 dq) osq = w2 at *
  clear gc10 gc11 gc12 gc13 gc14 gc15 gd1 k1 c10 c11 c12 c13 c14 c15 d0 d1 d2 d3 d4 d5 hs1
  go_wp2_with fail
  go_loopw [7, 8] (fun s i wr => ∃ j : Nat, 1 ≤ j ∧ j ≤ k ∧ i = .int .i64 j ∧ s = .string ⟨(name.data.toList ++ (40 :: commaTo (fun i => (arg i).txt 0) j)).toArray⟩ ∧ Below w.heap.size w wr) (fun _ i _ => k - (intOf i).toNat)
  case atStart =>
    refine ⟨1, by omega, by omega, rfl, congrArg Value.string (ba_ext ?_), hb2⟩
    rw [commaTo_one]
    simp
  case round =>
    obtain ⟨j, hj1, hjk, rfl, rfl, hbr⟩ := hrel
    have hzr := hbr.size
    have hjl := commaTo_mono (fun i => (arg i).txt 0) hjk
    have hsz : (⟨(name.data.toList ++ (40 :: commaTo (fun i => (arg i).txt 0) j)).toArray⟩ : ByteArray).size = name.size + ((commaTo (fun i => (arg i).txt 0) j).length + 1) := by
      show (name.data.toList ++ (40 :: commaTo (fun i => (arg i).txt 0) j)).toArray.size = _
      simp only [List.size_toArray, List.length_append, List.length_cons, Array.length_toList]
      rfl
    by_cases hlt : j < k
    · obtain ⟨b2, o2, A2, cap2, he2, hb2x, hc2, hin2⟩ := (HP.out.below (Nat.le_refl _) hbr) j hlt
      injection he2 with he2
      injection he2 with he2a he2b
      subst he2a he2b
      obtain ⟨c0, c1, c2, c3, c4, c5⟩ := hc2
      have hm := commaTo_mono (fun i => (arg i).txt 0) (show j + 1 ≤ k by omega)
      have hcm := commaTo_more (fun i => (arg i).txt 0) hj1
      rw [hcm, List.length_append, List.length_append] at hm
      simp only [List.length_cons, List.length_nil] at hm
      have HC := hid hcm
      have HSZ := hid hsz
      clear hcm hsz
      obtain ⟨S, hS⟩ : ∃ S : ByteArray, S = ⟨(name.data.toList ++ (40 :: commaTo (fun i => (arg i).txt 0) j)).toArray⟩ := ⟨_, rfl⟩
      have hSs : S.size ≤ name.size + ((commaTo (fun i => (arg i).txt 0) j).length + 1) := by rw [hS, HSZ.out]; exact Nat.le_refl _
      have HS := hid hS
      rw [← hS]
      clear hS
      go_wp2_with fail
      refine (HX.out j hlt w.heap.size A2 cap2 0 wr hin2 (HO.out j hlt) hzr (by omega) (by omega) (by omega)).mono ?_
      rintro r w3 ⟨rfl, hb3⟩
      go_wp2_with fail
      go_roundw
      case rel =>
        refine ⟨j + 1, by omega, by omega, by go_num, congrArg Value.string (ba_ext ?_), hbr.trans (hb3.mono hzr)⟩
        rw [HS.out, HC.out]
        simp
      case measure => simp [intOf]; omega
    · have : j = k := by omega
      subst this
      have HSZ := hid hsz
      clear hsz
      obtain ⟨S, hS⟩ : ∃ S : ByteArray, S = ⟨(name.data.toList ++ (40 :: commaTo (fun i => (arg i).txt 0) j)).toArray⟩ := ⟨_, rfl⟩
      have hSs : S.size ≤ name.size + ((commaTo (fun i => (arg i).txt 0) j).length + 1) := by rw [hS, HSZ.out]; exact Nat.le_refl _
      have HS := hid hS
      rw [← hS]
      clear hS
      go_wp2_with fail
      go_ret
      refine ⟨ret_str ?_, hbr⟩
      rw [HBR.out, HS.out]
      simp

theorem rbare_wr : ∀ e : Ex, e.ok → RBareW e := by
  intro e
  induction e with
  | junk => intro h; exact h.elim
  | mk op name n k arg ln cl ih =>
    intro hok
    have hF := plain_facts hok.1
    have hx : ∀ i, i < k → RExprW (arg i) := fun i hi => rexpr_of_bare _ (ih i (hok.2 i hi))
    have hlo := hF.lo
    have hhi := hF.hi
    by_cases h3 : op ≤ 3
    · have h0 := hF.k0 h3
      subst h0
      rcases (by omega : op = 1 ∨ op = 2 ∨ op = 3) with rfl | rfl | rfl
      · exact rbare_1 name n arg ln cl hx
      · exact rbare_2 name n arg ln cl hx
      · exact rbare_3 name n arg ln cl hx
    · by_cases h4 : op = 4
      · subst h4; exact rbare_4 name n k arg ln cl hx
      · by_cases h1 : op = 5 ∨ op = 6 ∨ op = 21 ∨ op = 24 ∨ op = 25
        · have hk := hF.k1 h1
          subst hk
          rcases h1 with rfl | rfl | rfl | rfl | rfl
          · exact rbare_5 name n arg ln cl hx
          · exact rbare_6 name n arg ln cl hx
          · exact rbare_21 name n arg ln cl hx
          · exact rbare_24 name n arg ln cl hx
          · exact rbare_25 name n arg ln cl hx
        · by_cases h27 : op = 27
          · have hk := hF.k3 h27
            subst hk h27
            exact rbare_27 name n arg ln cl hx
          · have hk := hF.k2 (by omega)
            subst hk
            by_cases h26 : op = 26
            · subst h26; exact rbare_26 name n arg ln cl hx
            · by_cases h22 : op = 22
              · subst h22; exact rbare_22 name n arg ln cl hx
              · by_cases h23 : op = 23
                · subst h23; exact rbare_23 name n arg ln cl hx
                · exact rbare_two op (by omega) name n arg ln cl hx
theorem rexpr_wr (e : Ex) (h : e.ok) : RExprW e := rexpr_of_bare e (rbare_wr e h)
end Go.Proofs.YtnlikhjmmnaknaaGreatDoor
/-
  The walk of layer 13's example.
-/
namespace Go.Proofs.YtnlikhjmmnaknaaGreatDoor
open Go.RowKit

def exV (c : UInt8) : Ex := .mk 3 ⟨#[c]⟩ 0 0 (fun _ => .junk) 0 0
def exOne : Ex := .mk 1 ⟨#[]⟩ 1 0 (fun _ => .junk) 0 0
def exSub2 : Ex := .mk 8 ⟨#[]⟩ 0 2 (fun i => if i = 0 then exV 121 else exOne) 0 0
def exSub1 : Ex := .mk 8 ⟨#[]⟩ 0 2 (fun i => if i = 0 then exV 120 else exSub2) 0 0
def exNot : Ex := .mk 6 ⟨#[]⟩ 0 1 (fun _ => exV 99) 0 0
def exFby : Ex := .mk 22 ⟨#[]⟩ 0 2 (fun i => if i = 0 then exSub1 else exNot) 0 0
def fbyT : List UInt8 := [120, 32, 45, 32, 40, 121, 32, 45, 32, 49, 41, 32, 102, 98, 121, 32, 110, 111, 116, 32, 99]

theorem exFby_right : exFby.right = true := by decide +kernel
theorem exFby_height : exFby.height = 4 := by decide
theorem exFby_txt : exFby.txt 0 = fbyT := by decide +kernel
theorem fby_fits : fitsT fbyT = true := by decide +kernel
theorem exFby_shown : shown exFby = (⟨fbyT.toArray⟩, 0) := by
  unfold shown
  rw [exFby_right, exFby_txt, fby_fits]
  rfl

theorem grow_cell {w : World} {os : Array Obj} {j : Nat} {cs : Array Value} {t : TypeId} {fr : Nat × Nat} (h : os[j]? = some (.cells cs t fr)) (i : Nat) : (Go.Sort.grow w os).cell? ⟨w.heap.size + j, i, none⟩ = cs[i]? := by
  have : (Go.Sort.grow w os).heap[w.heap.size + j]? = some (.cells cs t fr) := by
    show (w.heap ++ os)[w.heap.size + j]? = _
    rw [Array.getElem?_append_right (by omega), show w.heap.size + j - w.heap.size = j by omega]
    exact h
  simp [World.cell?, this]

/-- the blocks of the example, behind so many -/
def awObjs (N : Nat) : Array Obj := #[
  .cells #[.int .i64 3, .string ⟨#[120]⟩, .int .i64 0, .slice none 0 0, .int .i64 0, .int .i64 0] 41,
  .cells #[.int .i64 3, .string ⟨#[121]⟩, .int .i64 0, .slice none 0 0, .int .i64 0, .int .i64 0] 41,
  .cells #[.int .i64 1, .string ⟨#[]⟩, .int .i64 1, .slice none 0 0, .int .i64 0, .int .i64 0] 41,
  .cells #[.int .i64 3, .string ⟨#[121]⟩, .int .i64 0, .slice none 0 0, .int .i64 0, .int .i64 0, .int .i64 1, .string ⟨#[]⟩, .int .i64 1, .slice none 0 0, .int .i64 0, .int .i64 0] 41,
  .cells #[.int .i64 3, .string ⟨#[120]⟩, .int .i64 0, .slice none 0 0, .int .i64 0, .int .i64 0, .int .i64 8, .string ⟨#[]⟩, .int .i64 0, .slice (some ⟨N + 1 + 1 + 1, 0, none⟩) 2 2, .int .i64 0, .int .i64 0] 41,
  .cells #[.int .i64 8, .string ⟨#[]⟩, .int .i64 0, .slice (some ⟨N + 1 + 1 + 1 + 1, 0, none⟩) 2 2, .int .i64 0, .int .i64 0] 41,
  .cells #[.int .i64 3, .string ⟨#[99]⟩, .int .i64 0, .slice none 0 0, .int .i64 0, .int .i64 0] 41,
  .cells #[.int .i64 6, .string ⟨#[]⟩, .int .i64 0, .slice (some ⟨N + 1 + 1 + 1 + 1 + 1 + 1, 0, none⟩) 1 1, .int .i64 0, .int .i64 0] 41,
  .cells #[.int .i64 8, .string ⟨#[]⟩, .int .i64 0, .slice (some ⟨N + 1 + 1 + 1 + 1, 0, none⟩) 2 2, .int .i64 0, .int .i64 0, .int .i64 6, .string ⟨#[]⟩, .int .i64 0, .slice (some ⟨N + 1 + 1 + 1 + 1 + 1 + 1, 0, none⟩) 1 1, .int .i64 0, .int .i64 0] 41]

theorem exV_at (B : Nat) (w : World) (c : UInt8) : ExAt B w (exV c) none 0 := ⟨⟨by unfold I64; omega, by show (1 : Nat) ≤ maxLen; unfold maxLen; omega, by unfold I64; omega, by unfold I64; omega, by unfold I64; omega, by omega, by unfold maxLen; omega⟩, fun i hi => absurd hi (by omega)⟩
theorem exOne_at (B : Nat) (w : World) : ExAt B w exOne none 0 := ⟨by unfold I64 maxLen; decide, fun i hi => absurd hi (by omega)⟩
theorem exFby_at (w : World) : ExAt (w.heap.size + 9) (Go.Sort.grow w (awObjs w.heap.size)) exFby (some ⟨w.heap.size + 1 + 1 + 1 + 1 + 1 + 1 + 1 + 1, 0, none⟩) 2 := by
  have g3 := @grow_cell w (awObjs w.heap.size) 3 _ _ _ rfl
  have g4 := @grow_cell w (awObjs w.heap.size) 4 _ _ _ rfl
  have g6 := @grow_cell w (awObjs w.heap.size) 6 _ _ _ rfl
  have g8 := @grow_cell w (awObjs w.heap.size) 8 _ _ _ rfl
  generalize Go.Sort.grow w (awObjs w.heap.size) = W at *
  have h2 : ExAt (w.heap.size + 9) W exSub2 (some ⟨w.heap.size + 1 + 1 + 1, 0, none⟩) 2 := by
    refine ⟨by unfold I64 maxLen; decide, fun i hi => ?_⟩
    rcases (by omega : i = 0 ∨ i = 1) with rfl | rfl
    · exact ⟨_, _, none, 0, rfl, by omega, ⟨g3 0, g3 1, g3 2, g3 3, g3 4, g3 5⟩, exV_at _ _ _⟩
    · exact ⟨_, _, none, 0, rfl, by omega, ⟨g3 6, g3 7, g3 8, g3 9, g3 10, g3 11⟩, exOne_at _ _⟩
  have h1 : ExAt (w.heap.size + 9) W exSub1 (some ⟨w.heap.size + 1 + 1 + 1 + 1, 0, none⟩) 2 := by
    refine ⟨by unfold I64 maxLen; decide, fun i hi => ?_⟩
    rcases (by omega : i = 0 ∨ i = 1) with rfl | rfl
    · exact ⟨_, _, none, 0, rfl, by omega, ⟨g4 0, g4 1, g4 2, g4 3, g4 4, g4 5⟩, exV_at _ _ _⟩
    · exact ⟨_, _, _, _, rfl, by omega, ⟨g4 6, g4 7, g4 8, g4 9, g4 10, g4 11⟩, h2⟩
  have hn : ExAt (w.heap.size + 9) W exNot (some ⟨w.heap.size + 1 + 1 + 1 + 1 + 1 + 1, 0, none⟩) 1 := by
    refine ⟨by unfold I64 maxLen; decide, fun i hi => ?_⟩
    obtain rfl : i = 0 := by omega
    exact ⟨_, _, none, 0, rfl, by omega, ⟨g6 0, g6 1, g6 2, g6 3, g6 4, g6 5⟩, exV_at _ _ _⟩
  refine ⟨by unfold I64 maxLen; decide, fun i hi => ?_⟩
  rcases (by omega : i = 0 ∨ i = 1) with rfl | rfl
  · exact ⟨_, _, _, _, rfl, by omega, ⟨g8 0, g8 1, g8 2, g8 3, g8 4, g8 5⟩, h1⟩
  · exact ⟨_, _, _, _, rfl, by omega, ⟨g8 6, g8 7, g8 8, g8 9, g8 10, g8 11⟩, hn⟩

end Go.Proofs.YtnlikhjmmnaknaaGreatDoor
