/-
  The walks of Same, the code's and the reference's.
-/
import Derived.StillTailTactics
import Derived.Test.YtnlikhjmmnaknaaGreatDoorHTreeS
import Derived.Test.YtnlikhjmmnaknaaGreatDoorHBox2
namespace Go.Proofs.YtnlikhjmmnaknaaGreatDoor
open Go.RowKit

set_option maxRecDepth 100000 in
set_option maxHeartbeats 1000000 in
theorem rsame_any (a : Ex) : ∀ (b : Ex) (B : Nat) (A A' : Option Addr) (cap cap' : Nat) (w : World), ExAt B w a A cap → ExAt B w b A' cap' → B ≤ w.heap.size →
    Calls Tryz.prog 17 #[a.val A cap, b.val A' cap'] w fun r w' => r = .returned (.bool (a.same b)) ∧ Below w.heap.size w w' := by
  induction a with
  | junk => intro b B A A' cap cap' w h; exact h.elim
  | mk op name n k arg l c ih =>
    intro b B A A' cap cap' w hE hE' hB
    obtain _ | ⟨op', name', n', k', arg', l', c'⟩ := b
    · exact hE'.elim
    have HS : Hid ((Ex.mk op name n k arg l c).same (.mk op' name' n' k' arg' l' c') = (op == op' && name.data.toList == name'.data.toList && n == n' && (k == k' && allTo (fun i => (arg i).same (arg' i)) k))) := by
      show _ = _
      rw [Ex.same]
      simp only [Ex.op, Ex.name, Ex.num, Ex.k, Ex.arg, Bool.and_assoc]
    rw [← ByteArray.toList_eq, ← ByteArray.toList_eq] at HS
    obtain ⟨⟨hk, hcap⟩, hargs⟩ := hE.args
    obtain ⟨⟨hk', hcap'⟩, hargs'⟩ := hE'.args
    simp only [Ex.k, Ex.arg] at hk hargs hk' hargs'
    simp only [Ex.val, Ex.op, Ex.name, Ex.num, Ex.k, Ex.line, Ex.col]
    unfold maxLen at hcap hcap'
    have hc1 : (k : Int) ≤ 9223372036854775807 := by omega
    have hc2 : (k' : Int) ≤ 9223372036854775807 := by omega
    have hb0 : Below w.heap.size w ((w.alloc (.cells #[.int .i64 op, .string name, .int .i64 n, .slice A k cap, .int .i64 l, .int .i64 c] 41)).alloc (.cells #[.int .i64 op', .string name', .int .i64 n', .slice A' k' cap', .int .i64 l', .int .i64 c'] 41)) := ((Below.refl _ _).alloc (Nat.le_refl _) _).alloc (by simp) _
    clear hE hE'
    by_cases h1 : op = op'
    · by_cases h2 : name.toList = name'.toList
      · by_cases h3 : n = n'
        · by_cases h4 : k = k'
          · obtain rfl : name = name' := by
              rw [ByteArray.toList_eq, ByteArray.toList_eq] at h2
              exact ByteArray.ext (Array.ext' h2)
            subst h1 h3 h4
            have HS2 : Hid ((Ex.mk op name n k arg l c).same (.mk op name n k arg' l' c') = allTo (fun i => (arg i).same (arg' i)) k) := by
              show _ = _
              rw [HS.out]
              simp
            clear HS h2
            have HB := hid hb0
            clear hb0
            go_enter Tryz.func17, Tryz.ntmps17
            go_wp2_with fail
            go_loopw [5] (fun i wr => ∃ j : Nat, j ≤ k ∧ i = .int .i64 j ∧ Hid (allTo (fun i => (arg i).same (arg' i)) j = true) ∧ Below (w.heap.size + 1 + 1) ((w.alloc (.cells #[.int .i64 op, .string name, .int .i64 n, .slice A k cap, .int .i64 l, .int .i64 c] 41)).alloc (.cells #[.int .i64 op, .string name, .int .i64 n, .slice A' k cap', .int .i64 l', .int .i64 c'] 41)) wr) (fun i _ => k - (intOf i).toNat)
            case atStart => exact ⟨0, by omega, rfl, rfl, Below.refl _ _⟩
            case round =>
              obtain ⟨j, hj, rfl, hall, hbel⟩ := hrel
              have hsz := boxed2_size hbel
              have hbw := boxed2_below hbel
              have x1 := (boxed2_cell hbel 3).1
              have x2 := (boxed2_cell hbel 3).2
              simp only [List.getElem?_toArray, List.getElem?_cons_succ, List.getElem?_cons_zero] at x1 x2
              by_cases hlt : j < k
              · obtain ⟨b1, o1, A1, p1, rfl, hb1, hcl1, hin1⟩ := hargs j hlt
                obtain ⟨b2, o2, A2, p2, rfl, hb2, hcl2, hin2⟩ := hargs' j hlt
                obtain ⟨c0, c1, c2, c3, c4, c5⟩ := hcl1.keep (w' := wr) fun i => hbw.cell (p := ⟨b1, i, none⟩) (by simp; omega)
                obtain ⟨d0, d1, d2, d3, d4, d5⟩ := hcl2.keep (w' := wr) fun i => hbw.cell (p := ⟨b2, i, none⟩) (by simp; omega)
                have hj0 : (0 : Int) ≤ (j : Int) := by omega
                have hj1 : (j : Int) < (k : Int) := by omega
                clear hcl1 hcl2
                go_wp2_with fail
                go_still_tail 10, (by kernel_rfl)
                change wpList _ _ _ _ _ wr.drew
                have hbd := hbel.drew
                have hbwd := hbw.drew
                have hszd : w.heap.size + 1 < wr.drew.heap.size := hsz
                generalize wr.drew = w2 at hbd hbwd hszd ⊢
                clear x1 x2 c0 c1 c2 c3 c4 c5 d0 d1 d2 d3 d4 d5
                go_wp2_with fail
                refine (ih j (arg' j) B A1 A2 p1 p2 w2 (hin1.below hB hbwd) (hin2.below hB hbwd) (by omega)).mono ?_
                rintro r w3 ⟨rfl, hb3⟩
                have hbel3 := hbd.trans (hb3.mono (by omega))
                cases hsm : (arg j).same (arg' j) with
                | true =>
                  go_wp2_with fail
                  go_roundw
                  case rel =>
                    refine ⟨j + 1, by omega, by go_num, ?_, hbel3⟩
                    show _ = _
                    rw [allTo_succ, hall.out, hsm]; rfl
                  case measure => simp [intOf]; omega
                | false =>
                  go_wp2_with fail
                  go_ret
                  exact ⟨ret_bool (by rw [HS2.out]; exact (allTo_stop (f := fun i => (arg i).same (arg' i)) hlt hsm).symm), boxed2_below hbel3⟩
              · have : j = k := by omega
                subst this
                go_wp2_with fail
                go_ret
                exact ⟨ret_bool (by rw [HS2.out, hall.out]), hbw⟩
          · have h5 : ((k : Int) != (k' : Int)) = true := by simp; omega
            have HS2 : Hid ((Ex.mk op name n k arg l c).same (.mk op' name' n' k' arg' l' c') = false) := by
              show _ = _
              rw [HS.out]; simp [h4]
            subst h1 h3
            have h2' : (name.toList != name'.toList) = false := by simp [h2]
            have h2'' : (name.toList == name'.toList) = true := by simp [h2]
            clear HS h2
            go_enter Tryz.func17, Tryz.ntmps17
            go_wp2_with fail
            go_ret
            exact ⟨ret_bool HS2.out.symm, hb0⟩
        · have h5 : (n != n') = true := by simp [h3]
          have h6 : (n == n') = false := by simp [h3]
          have HS2 : Hid ((Ex.mk op name n k arg l c).same (.mk op' name' n' k' arg' l' c') = false) := by
            show _ = _
            rw [HS.out]; simp [h3]
          subst h1
          have h2' : (name.toList != name'.toList) = false := by simp [h2]
          have h2'' : (name.toList == name'.toList) = true := by simp [h2]
          clear HS h2
          go_enter Tryz.func17, Tryz.ntmps17
          go_wp2_with fail
          go_ret
          exact ⟨ret_bool HS2.out.symm, hb0⟩
      · have h5 : (name.toList != name'.toList) = true := by simp [h2]
        have h6 : (name.toList == name'.toList) = false := by simp [h2]
        have HS2 : Hid ((Ex.mk op name n k arg l c).same (.mk op' name' n' k' arg' l' c') = false) := by
          show _ = _
          rw [HS.out]; simp [h2]
        subst h1
        clear HS
        go_enter Tryz.func17, Tryz.ntmps17
        go_wp2_with fail
        go_ret
        exact ⟨ret_bool HS2.out.symm, hb0⟩
    · have h5 : (op != op') = true := by simp [h1]
      have h6 : (op == op') = false := by simp [h1]
      have HS2 : Hid ((Ex.mk op name n k arg l c).same (.mk op' name' n' k' arg' l' c') = false) := by
        show _ = _
        rw [HS.out]; simp [h1]
      clear HS
      go_enter Tryz.func17, Tryz.ntmps17
      go_wp2_with fail
      go_ret
      exact ⟨ret_bool HS2.out.symm, hb0⟩
end Go.Proofs.YtnlikhjmmnaknaaGreatDoor
