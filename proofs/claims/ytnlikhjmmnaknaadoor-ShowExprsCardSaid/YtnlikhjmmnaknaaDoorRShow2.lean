/-
  The walk of the reference's Expr: a call; and all of it.
-/
import Derived.Test.YtnlikhjmmnaknaaDoorRShow
namespace Go.Proofs.YtnlikhjmmnaknaaDoor
open Go.RowKit Go.Sort

theorem commaTo_one (f : Nat → List UInt8) : commaTo f 1 = f 0 := by simp [commaTo]
theorem commaTo_more (f : Nat → List UInt8) {j : Nat} (h : 1 ≤ j) : commaTo f (j + 1) = commaTo f j ++ ([44, 32] ++ f j) := by
  rw [commaTo, if_neg (by omega)]

set_option maxRecDepth 100000 in
set_option maxHeartbeats 2000000 in
theorem rbare_4 (name : ByteArray) (n : Int) (k : Nat) (arg : Nat → Ex) (ln cl : Int) (hx : ∀ i, i < k → RExprW (arg i)) : RBareW (.mk 4 name n k arg ln cl) := by
  intro B A cap least w hE hok hB0 hl0 hls hlen
  have hE' := ExAt.more hB0 _ A cap hE
  have hP := parts_of hE'
  have hF := plain_facts hok.1
  have hO := hok.2
  have hI := hE.1
  simp only [Ex.op] at hls
  have hbd := strOf_bd 4
  have HX := hid hx
  have HP := hid hP
  have HO := hid hO
  have hX0 : ExBox (w.alloc (.cells #[.int .i64 4, .string name, .int .i64 n, .slice A (k : Nat) cap, .int .i64 ln, .int .i64 cl] 26)) w.heap.size (.mk 4 name n k arg ln cl) A cap := World.alloc_heap_new w _
  have hb0 : Below w.heap.size w (w.alloc (.cells #[.int .i64 4, .string name, .int .i64 n, .slice A (k : Nat) cap, .int .i64 ln, .int .i64 cl] 26)) := (Below.refl _ _).alloc (Nat.le_refl _) _
  clear hx hP hO hE hE'
  have hk8 := (hF.k4 rfl).2
  have hk1 := (hF.k4 rfl).1
  have hbare : (Ex.mk 4 name n k arg ln cl).bare = name.data.toList ++ (40 :: (commaTo (fun i => (arg i).txt 0) k ++ [41])) := rfl
  have hlen' : name.size + (commaTo (fun i => (arg i).txt 0) k).length + 2 ≤ 140737488355328 := by
    rw [hbare] at hlen
    simp only [List.length_append, List.length_cons, List.length_nil, Array.length_toList] at hlen
    have : name.data.size = name.size := rfl
    omega
  have h0len := commaTo_mono (fun i => (arg i).txt 0) (show 1 ≤ k by omega)
  rw [commaTo_one] at h0len
  have HBR := hid hbare
  clear hlen hok hF hI hbare
  simp only [Ex.val, Ex.op, Ex.name, Ex.num, Ex.k, Ex.line, Ex.col]
  go_enter Tryd.func12, Tryd.ntmps12
  go_wp2_with fail
  refine (rstrength_any _ _).mono ?_
  rintro r w1 ⟨rfl, hb1⟩
  have hX1 := hX0.below hb1
  have hb1' := hb0.trans (hb1.mono (by simp))
  have hz1 := hb1'.size
  obtain ⟨d0, d1, d2, d3, d4, d5⟩ := hX1.cells
  simp only [Ex.op, Ex.name, Ex.num, Ex.k, Ex.line, Ex.col] at d0 d1 d2 d3 d4 d5
  obtain ⟨b1, o1, A1, cap1, he1, hb1x, hc1, hin1⟩ := (HP.out.below (Nat.le_refl _) hb1') 0 (by omega)
  subst he1
  obtain ⟨c10, c11, c12, c13, c14, c15⟩ := hc1
  simp only [Nat.zero_mul, Nat.add_zero] at c10 c11 c12 c13 c14 c15
  clear hX0 hX1
  have k1 : ∀ d os, Calls Tryd.prog 12 #[(arg 0).val A1 cap1, .int .i64 (0)] (grow (redrawn w1 d) os) fun e w' => e = .returned (.string ⟨((arg 0).txt (0)).toArray⟩) ∧ ∃ p : Regrown, w' = grow (redrawn w1 p.d) p.os := fun d os =>
    Calls.regrown_of (HX.out 0 (by omega) w.heap.size A1 cap1 (0) _ (hin1.below (Nat.le_refl _) ((below_regrown w1 d os).mono hz1)) (HO.out 0 (by omega)) (Nat.le_trans hz1 (below_regrown w1 d os).size) (by omega) (by omega) (by omega))
  unfold Ex.val at k1
  have hs1 : (⟨((arg 0).txt (0)).toArray⟩ : ByteArray).size = ((arg 0).txt (0)).length := rfl
  have gc10 := cell_regrown c10
  have gc11 := cell_regrown c11
  have gc12 := cell_regrown c12
  have gc13 := cell_regrown c13
  have gc14 := cell_regrown c14
  have gc15 := cell_regrown c15
  have gd1 := cell_regrown d1
  go_wp2_with fail
  refine wp_region_quiet_below hmix (by kernel_rfl) ?_
  repeat (first | go_big_quiet_step (first | (go_at_call 12; with_reducible exact k1 _ _)) | quiet_step (first | (go_at_call 12; with_reducible exact k1 _ _)))
  refine wpQuiet_nil ?_
  intro _ hw'
  obtain ⟨⟨dq, osq⟩, hw''⟩ := hw'
  subst hw''
  have hb2 := hb1'.trans ((below_regrown w1 dq osq).mono hz1)
  generalize grow (redrawn w1 dq) osq = w2 at *
  clear gc10 gc11 gc12 gc13 gc14 gc15 gd1 k1 c10 c11 c12 c13 c14 c15 d0 d1 d2 d3 d4 d5 hs1
  go_wp2_with fail
  go_loopw [7, 8] (fun s i wr => ∃ j : Nat, 1 ≤ j ∧ j ≤ k ∧ i = .int .i64 j ∧ s = .string ⟨(name.data.toList ++ (40 :: commaTo (fun i => (arg i).txt 0) j)).toArray⟩ ∧ Below w.heap.size w wr) (fun _ i _ => k - (intOf i).toNat)
  case atStart =>
    refine ⟨1, by omega, by omega, rfl, congrArg Value.string (ba_ext ?_), hb2⟩
    rw [commaTo_one]
    simp
  case round =>
    obtain ⟨j, hj1, hjk, rfl, rfl, hbr⟩ := hrel
    have hzr := hbr.size
    have hjl := commaTo_mono (fun i => (arg i).txt 0) hjk
    have hsz : (⟨(name.data.toList ++ (40 :: commaTo (fun i => (arg i).txt 0) j)).toArray⟩ : ByteArray).size = name.size + ((commaTo (fun i => (arg i).txt 0) j).length + 1) := by
      show (name.data.toList ++ (40 :: commaTo (fun i => (arg i).txt 0) j)).toArray.size = _
      simp only [List.size_toArray, List.length_append, List.length_cons, Array.length_toList]
      rfl
    by_cases hlt : j < k
    · obtain ⟨b2, o2, A2, cap2, he2, hb2x, hc2, hin2⟩ := (HP.out.below (Nat.le_refl _) hbr) j hlt
      injection he2 with he2
      injection he2 with he2a he2b
      subst he2a he2b
      obtain ⟨c0, c1, c2, c3, c4, c5⟩ := hc2
      have hm := commaTo_mono (fun i => (arg i).txt 0) (show j + 1 ≤ k by omega)
      have hcm := commaTo_more (fun i => (arg i).txt 0) hj1
      rw [hcm, List.length_append, List.length_append] at hm
      simp only [List.length_cons, List.length_nil] at hm
      have HC := hid hcm
      have HSZ := hid hsz
      clear hcm hsz
      obtain ⟨S, hS⟩ : ∃ S : ByteArray, S = ⟨(name.data.toList ++ (40 :: commaTo (fun i => (arg i).txt 0) j)).toArray⟩ := ⟨_, rfl⟩
      have hSs : S.size ≤ name.size + ((commaTo (fun i => (arg i).txt 0) j).length + 1) := by rw [hS, HSZ.out]; exact Nat.le_refl _
      have HS := hid hS
      rw [← hS]
      clear hS
      go_wp2_with fail
      refine (HX.out j hlt w.heap.size A2 cap2 0 wr hin2 (HO.out j hlt) hzr (by omega) (by omega) (by omega)).mono ?_
      rintro r w3 ⟨rfl, hb3⟩
      go_wp2_with fail
      go_roundw
      case rel =>
        refine ⟨j + 1, by omega, by omega, by go_num, congrArg Value.string (ba_ext ?_), hbr.trans (hb3.mono hzr)⟩
        rw [HS.out, HC.out]
        simp
      case measure => simp [intOf]; omega
    · have : j = k := by omega
      subst this
      have HSZ := hid hsz
      clear hsz
      obtain ⟨S, hS⟩ : ∃ S : ByteArray, S = ⟨(name.data.toList ++ (40 :: commaTo (fun i => (arg i).txt 0) j)).toArray⟩ := ⟨_, rfl⟩
      have hSs : S.size ≤ name.size + ((commaTo (fun i => (arg i).txt 0) j).length + 1) := by rw [hS, HSZ.out]; exact Nat.le_refl _
      have HS := hid hS
      rw [← hS]
      clear hS
      go_wp2_with fail
      go_ret
      refine ⟨ret_str ?_, hbr⟩
      rw [HBR.out, HS.out]
      simp

theorem rbare_wr : ∀ e : Ex, e.ok → RBareW e := by
  intro e
  induction e with
  | junk => intro h; exact h.elim
  | mk op name n k arg ln cl ih =>
    intro hok
    have hF := plain_facts hok.1
    have hx : ∀ i, i < k → RExprW (arg i) := fun i hi => rexpr_of_bare _ (ih i (hok.2 i hi))
    have hlo := hF.lo
    have hhi := hF.hi
    by_cases h3 : op ≤ 3
    · have h0 := hF.k0 h3
      subst h0
      rcases (by omega : op = 1 ∨ op = 2 ∨ op = 3) with rfl | rfl | rfl
      · exact rbare_1 name n arg ln cl hx
      · exact rbare_2 name n arg ln cl hx
      · exact rbare_3 name n arg ln cl hx
    · by_cases h4 : op = 4
      · subst h4; exact rbare_4 name n k arg ln cl hx
      · by_cases h1 : op = 5 ∨ op = 6 ∨ op = 21 ∨ op = 24 ∨ op = 25
        · have hk := hF.k1 h1
          subst hk
          rcases h1 with rfl | rfl | rfl | rfl | rfl
          · exact rbare_5 name n arg ln cl hx
          · exact rbare_6 name n arg ln cl hx
          · exact rbare_21 name n arg ln cl hx
          · exact rbare_24 name n arg ln cl hx
          · exact rbare_25 name n arg ln cl hx
        · by_cases h27 : op = 27
          · have hk := hF.k3 h27
            subst hk h27
            exact rbare_27 name n arg ln cl hx
          · have hk := hF.k2 (by omega)
            subst hk
            by_cases h26 : op = 26
            · subst h26; exact rbare_26 name n arg ln cl hx
            · by_cases h22 : op = 22
              · subst h22; exact rbare_22 name n arg ln cl hx
              · by_cases h23 : op = 23
                · subst h23; exact rbare_23 name n arg ln cl hx
                · exact rbare_two op (by omega) name n arg ln cl hx
theorem rexpr_wr (e : Ex) (h : e.ok) : RExprW e := rexpr_of_bare e (rbare_wr e h)
end Go.Proofs.YtnlikhjmmnaknaaDoor
