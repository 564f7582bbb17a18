/-
  The walks of package tree's Node and Source.
-/
import Derived.Test.YtiencmbbkbicnaaSrcC
namespace Go.Proofs.Ytiencmbbkbicnaa
open Go.RowKit

set_option maxHeartbeats 2000000 in
theorem node_any (n : NodeE) (S : NSl) (B : Nat) (w : World) (hn : NodeIs B w n S) (hB : B ≤ w.heap.size) (hh : ∀ q ∈ n.eqs, q.right.height ≤ 1000000) :
    Calls Try.prog 37 #[n.val S] w fun r w' => r = .returned (.bool (nodeB n)) ∧ Below w.heap.size w w' := by
  obtain ⟨Si, So, Sv, ⟨A, cap⟩⟩ := S
  obtain ⟨name, ins, outs, vars, eqs, line, col⟩ := n
  obtain ⟨hnm, _, _, hfi, hfo, hfv, ⟨hf1, hf2⟩, hins, houts, hvars, heqs⟩ := hn
  simp only [NodeE.val] at *
  rw [show (Sl.mk A cap).v eqs.length = .slice A eqs.length cap from rfl]
  unfold maxLen at hf2
  have hcap' : (eqs.length : Int) ≤ 9223372036854775807 := by omega
  have hm1 : ∀ W, Below w.heap.size w W → Calls Try.prog 62 #[Si.v ins.length, .int .i64 1, .int .i64 8] W fun r w' => r = .returned (.bool (manyB ins 1 8)) ∧ Below W.heap.size W w' := fun W h =>
    manyv_any ins 1 8 Si B W hfi (hins.imp fun _ _ _ => VarAt.keep (same_below hB h)) (by have := h.size; omega)
  have hm2 : ∀ W, Below w.heap.size w W → Calls Try.prog 62 #[So.v outs.length, .int .i64 1, .int .i64 8] W fun r w' => r = .returned (.bool (manyB outs 1 8)) ∧ Below W.heap.size W w' := fun W h =>
    manyv_any outs 1 8 So B W hfo (houts.imp fun _ _ _ => VarAt.keep (same_below hB h)) (by have := h.size; omega)
  have hm3 : ∀ W, Below w.heap.size w W → Calls Try.prog 62 #[Sv.v vars.length, .int .i64 0, .int .i64 40] W fun r w' => r = .returned (.bool (manyB vars 0 40)) ∧ Below W.heap.size W w' := fun W h =>
    manyv_any vars 0 40 Sv B W hfv (hvars.imp fun _ _ _ => VarAt.keep (same_below hB h)) (by have := h.size; omega)
  have HM1 := hid hm1
  have HM2 := hid hm2
  have HM3 := hid hm3
  have HEQ := hid heqs
  have HH := hid hh
  obtain ⟨ci, hci⟩ : ∃ ci, Si.v ins.length = .slice Si.A ins.length ci := ⟨_, rfl⟩
  obtain ⟨co, hco⟩ : ∃ co, So.v outs.length = .slice So.A outs.length co := ⟨_, rfl⟩
  obtain ⟨cv, hcv⟩ : ∃ cv, Sv.v vars.length = .slice Sv.A vars.length cv := ⟨_, rfl⟩
  rw [hci, hco, hcv]
  rw [hci] at HM1
  rw [hco] at HM2
  rw [hcv] at HM3
  generalize Si.A = Ai at *
  generalize So.A = Ao at *
  generalize Sv.A = Av at *
  obtain ⟨bx, hbx⟩ : ∃ bx : Array Value, bx = #[.string name, .slice Ai ins.length ci, .slice Ao outs.length co, .slice Av vars.length cv, .slice A eqs.length cap, .int .i64 line, .int .i64 col] := ⟨_, rfl⟩
  have hb0 : Below (w.heap.size + 1) (w.alloc (.cells bx 61)) (w.alloc (.cells bx 61)) := Below.refl _ _
  have HB0 := hid hb0
  have HBX := hid hbx
  clear heqs hb0 hf1 hf2 hm1 hm2 hm3 hins houts hvars hfi hfo hfv hh hci hco hcv
  go_enter Try.func37, Try.ntmps37
  go_wp2_with fail
  rw [← hbx]
  clear hbx
  go_loopw [4, 8] (fun _ i wr => ∃ j : Nat, j ≤ eqs.length ∧ i = .int .i64 j ∧ Hid (Upto eqB eqs j) ∧ Below (w.heap.size + 1) (w.alloc (.cells bx 61)) wr) (fun _ i _ => eqs.length - (intOf i).toNat)
  case atStart => exact ⟨0, by omega, rfl, Upto.zero _ _, HB0.out⟩
  case round =>
    obtain ⟨j, hj, rfl, hup, hbr⟩ := hrel
    have hsz := boxed_size hbr
    have hbw := boxed_below hbr
    by_cases hlt : j < eqs.length
    · obtain ⟨b, o, rfl, hl⟩ := HEQ.out j hlt
      obtain ⟨hb, ⟨A1, cap1⟩, A2, cap2, hc, hi⟩ := hl.keep (same_below hB hbw)
      obtain ⟨c0, c1, c2, c3, c4, c5, c6, c7, c8⟩ := hc
      have hi0 : (0 : Int) ≤ (j : Int) := by omega
      have hi1 : (j : Int) < (eqs.length : Int) := by omega
      have hhj := HH.out eqs[j] (List.getElem_mem _)
      generalize hqj : eqs[j] = q at *
      have HQJ := hid hqj
      clear hqj
      have hw2 := hbr.alloc (show w.heap.size + 1 ≤ wr.heap.size by omega) (.cells #[.slice A1 q.left.length cap1, .int .i64 q.right.op, .string q.right.name, .int .i64 q.right.num, .slice A2 q.right.k cap2, .int .i64 q.right.line, .int .i64 q.right.col, .int .i64 q.line, .int .i64 q.col] 81)
      have hvr := equation_any q ⟨A1, cap1⟩ A2 cap2 B (wr.alloc (.cells #[.slice A1 q.left.length cap1, .int .i64 q.right.op, .string q.right.name, .int .i64 q.right.num, .slice A2 q.right.k cap2, .int .i64 q.right.line, .int .i64 q.right.col, .int .i64 q.line, .int .i64 q.col] 81))
        (hi.keep (same_below (Nat.le_refl B) ((Below.refl B wr).alloc (by omega) _))) (by simp; omega) hhj
      simp only [EqE.val, Sl.v] at hvr c0
      cases hp : eqB q
      · have HS := hid (all_hit (p := eqB) hlt (by rw [HQJ.out]; exact hp))
        rw [hp] at hvr
        clear hp hup hi hhj
        go_wp2_with (go_at_call 61; refine hvr.mono ?_; rintro r w2 ⟨rfl, hb2⟩)
        go_ret
        refine ⟨ret_bool ?_, boxed_below (boxed_then hw2 hb2)⟩
        unfold nodeB; rw [HS.out]; rfl
      · have HS := hid (hup.out.succ hlt (by rw [HQJ.out]; exact hp))
        rw [hp] at hvr
        clear hp hup hi hhj
        go_wp2_with (go_at_call 61; refine hvr.mono ?_; rintro r w2 ⟨rfl, hb2⟩)
        go_roundw
        case rel => exact ⟨j + 1, by omega, by go_num, HS, boxed_then hw2 hb2⟩
        case measure => simp [intOf]; omega
    · have : j = eqs.length := by omega
      subst this
      have HS := hid hup.out.all
      have hall : Hid (∀ W, Below (w.heap.size + 1) (w.alloc (.cells bx 61)) W → W.cell? ⟨w.heap.size, 1, none⟩ = some (.slice Ai ins.length ci) ∧ W.cell? ⟨w.heap.size, 2, none⟩ = some (.slice Ao outs.length co) ∧ W.cell? ⟨w.heap.size, 3, none⟩ = some (.slice Av vars.length cv) ∧ W.cell? ⟨w.heap.size, 4, none⟩ = some (.slice A eqs.length cap)) := fun W h => by
        have hca := boxed_all h
        rw [HBX.out] at hca
        exact ⟨hca 1, hca 2, hca 3, hca 4⟩
      have y0 := boxed_all hbr 0
      rw [HBX.out] at y0
      simp only [List.getElem?_toArray, List.getElem?_cons_zero] at y0
      have hnr := name_any name wr hnm
      clear hup
      cases hp : isName name.data.toList
      · rw [hp] at hnr
        have HP := hid hp
        clear hp
        go_wp2_with (go_at_call 32; refine hnr.mono ?_; rintro r w2 ⟨rfl, hb2⟩)
        go_ret
        refine ⟨ret_bool ?_, boxed_below (boxed_then hbr hb2)⟩
        unfold nodeB; simp [HP.out]
      · rw [hp] at hnr
        have HP := hid hp
        clear hp
        by_cases h1 : (1 : Int) ≤ (eqs.length : Int)
        · by_cases h2 : (eqs.length : Int) ≤ 48
          · have HD : Hid (nodeB ⟨name, ins, outs, vars, eqs, line, col⟩ = (manyB ins 1 8 && manyB outs 1 8 && manyB vars 0 40)) := by
              show _ = _
              unfold nodeB; simp only [HS.out, HP.out]
              rw [decide_eq_true (show 1 ≤ eqs.length by omega), decide_eq_true (show eqs.length ≤ 48 by omega)]; rfl
            cases q1 : manyB ins 1 8
            · have Q := hid q1
              rw [q1] at HM1
              clear q1
              go_wp2_with (first
                | (go_at_call 32; refine hnr.mono ?_; rintro r w2 ⟨rfl, hb2⟩; have k2 := boxed_then hbr hb2; obtain ⟨z1, z2, z3, z4⟩ := hall.out _ k2)
                | (go_at_call 62; refine (HM1.out _ (boxed_below k2)).mono ?_; rintro r w3 ⟨rfl, hb3⟩; have k3 := boxed_then k2 hb3))
              go_ret
              exact ⟨ret_bool (by rw [HD.out, Q.out]; rfl), boxed_below k3⟩
            · have Q := hid q1
              rw [q1] at HM1
              clear q1
              cases q2 : manyB outs 1 8
              · have Q2 := hid q2
                rw [q2] at HM2
                clear q2
                go_wp2_with (first
                  | (go_at_call 32; refine hnr.mono ?_; rintro r w2 ⟨rfl, hb2⟩; have k2 := boxed_then hbr hb2; obtain ⟨z1, z2, z3, z4⟩ := hall.out _ k2)
                  | (go_at_call 62; with_reducible refine (HM1.out _ (boxed_below k2)).mono ?_; rintro r w3 ⟨rfl, hb3⟩; have k3 := boxed_then k2 hb3; obtain ⟨u1, u2, u3, u4⟩ := hall.out _ k3)
                  | (go_at_call 62; refine (HM2.out _ (boxed_below k3)).mono ?_; rintro r w4 ⟨rfl, hb4⟩; have k4 := boxed_then k3 hb4))
                go_ret
                exact ⟨ret_bool (by rw [HD.out, Q.out, Q2.out]; rfl), boxed_below k4⟩
              · have Q2 := hid q2
                rw [q2] at HM2
                clear q2
                go_wp2_with (first
                  | (go_at_call 32; refine hnr.mono ?_; rintro r w2 ⟨rfl, hb2⟩; have k2 := boxed_then hbr hb2; obtain ⟨z1, z2, z3, z4⟩ := hall.out _ k2)
                  | (go_at_call 62; with_reducible refine (HM1.out _ (boxed_below k2)).mono ?_; rintro r w3 ⟨rfl, hb3⟩; have k3 := boxed_then k2 hb3; obtain ⟨u1, u2, u3, u4⟩ := hall.out _ k3)
                  | (go_at_call 62; with_reducible refine (HM2.out _ (boxed_below k3)).mono ?_; rintro r w4 ⟨rfl, hb4⟩; have k4 := boxed_then k3 hb4; obtain ⟨t1, t2, t3, t4⟩ := hall.out _ k4)
                  | (go_at_call 62; refine (HM3.out _ (boxed_below k4)).mono ?_; rintro r w5 ⟨rfl, hb5⟩; have k5 := boxed_then k4 hb5))
                go_ret
                exact ⟨ret_bool (by rw [HD.out, Q.out, Q2.out]; rfl), boxed_below k5⟩
          · go_wp2_with (go_at_call 32; refine hnr.mono ?_; rintro r w2 ⟨rfl, hb2⟩; have k2 := boxed_then hbr hb2; obtain ⟨z1, z2, z3, z4⟩ := hall.out _ k2)
            go_ret
            refine ⟨ret_bool ?_, boxed_below k2⟩
            unfold nodeB
            rw [decide_eq_false (show ¬ eqs.length ≤ 48 by omega)]; simp
        · go_wp2_with (go_at_call 32; refine hnr.mono ?_; rintro r w2 ⟨rfl, hb2⟩; have k2 := boxed_then hbr hb2; obtain ⟨z1, z2, z3, z4⟩ := hall.out _ k2)
          go_ret
          refine ⟨ret_bool ?_, boxed_below k2⟩
          unfold nodeB
          rw [decide_eq_false (show ¬ 1 ≤ eqs.length by omega)]; simp

set_option maxHeartbeats 1000000 in
theorem source_any (s : List NodeE) (S : Sl) (B : Nat) (w : World) (hs : SrcIs B w s S) (hB : B ≤ w.heap.size) (hh : ∀ n ∈ s, ∀ q ∈ n.eqs, q.right.height ≤ 1000000) :
    Calls Try.prog 39 #[srcVal s S] w fun r w' => r = .returned (.bool (srcB s)) ∧ Below w.heap.size w w' := by
  obtain ⟨A, cap⟩ := S
  obtain ⟨⟨hf1, hf2⟩, hnd⟩ := hs
  simp only [srcVal, Sl.v] at *
  unfold maxLen at hf2
  have hcap' : (s.length : Int) ≤ 9223372036854775807 := by omega
  have HND := hid hnd
  have HH := hid hh
  have hb0 : Below (w.heap.size + 1) (w.alloc (.cells #[.slice A s.length cap] 56)) (w.alloc (.cells #[.slice A s.length cap] 56)) := Below.refl _ _
  have HB0 := hid hb0
  clear hnd hb0 hf1 hf2 hh
  go_enter Try.func39, Try.ntmps39
  go_wp2_with fail
  go_loopw [4, 8] (fun _ i wr => ∃ j : Nat, j ≤ s.length ∧ i = .int .i64 j ∧ Hid (Upto nodeB s j) ∧ Below (w.heap.size + 1) (w.alloc (.cells #[.slice A s.length cap] 56)) wr) (fun _ i _ => s.length - (intOf i).toNat)
  case atStart => exact ⟨0, by omega, rfl, Upto.zero _ _, HB0.out⟩
  case round =>
    obtain ⟨j, hj, rfl, hup, hbr⟩ := hrel
    have hsz := boxed_size hbr
    have hbw := boxed_below hbr
    by_cases hlt : j < s.length
    · obtain ⟨b, o, rfl, hl⟩ := HND.out j hlt
      obtain ⟨hb, S, hc, hi⟩ := hl.keep (same_below hB hbw)
      obtain ⟨c0, c1, c2, c3, c4, c5, c6⟩ := hc
      have hi0 : (0 : Int) ≤ (j : Int) := by omega
      have hi1 : (j : Int) < (s.length : Int) := by omega
      have hhj := HH.out s[j] (List.getElem_mem _)
      generalize hqj : s[j] = n at *
      have HQJ := hid hqj
      clear hqj
      have hw2 := hbr.alloc (show w.heap.size + 1 ≤ wr.heap.size by omega) (.cells #[.string n.name, S.i.v n.ins.length, S.o.v n.outs.length, S.v.v n.vars.length, S.e.v n.eqs.length, .int .i64 n.line, .int .i64 n.col] 61)
      have hvr := node_any n S B (wr.alloc (.cells #[.string n.name, S.i.v n.ins.length, S.o.v n.outs.length, S.v.v n.vars.length, S.e.v n.eqs.length, .int .i64 n.line, .int .i64 n.col] 61))
        (hi.keep (same_below (Nat.le_refl B) ((Below.refl B wr).alloc (by omega) _))) (by simp; omega) hhj
      simp only [NodeE.val, Sl.v] at hvr c1 c2 c3 c4 hw2
      cases hp : nodeB n
      · have HS := hid (all_hit (p := nodeB) hlt (by rw [HQJ.out]; exact hp))
        rw [hp] at hvr
        clear hp hup hi hhj
        go_wp2_with (go_at_call 37; refine hvr.mono ?_; rintro r w2 ⟨rfl, hb2⟩)
        go_ret
        refine ⟨ret_bool ?_, boxed_below (boxed_then hw2 hb2)⟩
        unfold srcB; rw [HS.out]; rfl
      · have HS := hid (hup.out.succ hlt (by rw [HQJ.out]; exact hp))
        rw [hp] at hvr
        clear hp hup hi hhj
        go_wp2_with (go_at_call 37; refine hvr.mono ?_; rintro r w2 ⟨rfl, hb2⟩)
        go_roundw
        case rel => exact ⟨j + 1, by omega, by go_num, HS, boxed_then hw2 hb2⟩
        case measure => simp [intOf]; omega
    · have : j = s.length := by omega
      subst this
      have HS := hid hup.out.all
      have y0 := boxed_all hbr 0
      simp only [List.getElem?_toArray, List.getElem?_cons_zero] at y0
      clear hup
      by_cases h1 : (1 : Int) ≤ (s.length : Int)
      all_goals
        go_wp2_with fail
        go_ret
        refine ⟨ret_bool ?_, hbw⟩
        unfold srcB; rw [HS.out, Bool.eq_iff_iff]; simp; try omega
end Go.Proofs.Ytiencmbbkbicnaa
