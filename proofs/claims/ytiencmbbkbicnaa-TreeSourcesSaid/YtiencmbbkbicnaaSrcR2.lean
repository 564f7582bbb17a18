/-
  The walks of the reference's Node and Source.
-/
import Derived.Test.YtiencmbbkbicnaaSrcR
namespace Go.Proofs.Ytiencmbbkbicnaa
open Go.RowKit

set_option maxHeartbeats 4000000 in
theorem rnode_any (n : NodeE) (S : NSl) (B : Nat) (w : World) (hn : NodeIs B w n S) (hB : B ≤ w.heap.size) (hfw : n.few) :
    Calls Try.prog 38 #[n.val S] w fun r w' => r = .returned (.bool (nodeB n)) ∧ Below w.heap.size w w' := by
  obtain ⟨Si, So, Sv, ⟨A, cap⟩⟩ := S
  obtain ⟨name, ins, outs, vars, eqs, line, col⟩ := n
  obtain ⟨hnm, _, _, hfi, hfo, hfv, ⟨hf1, hf2⟩, hins, houts, hvars, heqs⟩ := hn
  obtain ⟨w1, w2, w3, w4, w5⟩ := hfw
  simp only [NodeE.val] at *
  rw [show (Sl.mk A cap).v eqs.length = .slice A eqs.length cap from rfl]
  unfold maxLen at hf2
  have hcap' : (eqs.length : Int) ≤ 9223372036854775807 := by omega
  have hm1 : ∀ W, Below w.heap.size w W → Calls Try.prog 63 #[Si.v ins.length, .int .i64 1, .int .i64 8] W fun r w' => r = .returned (.bool (manyB ins 1 8)) ∧ Below W.heap.size W w' := fun W h =>
    rvars_any ins 1 8 Si B W hfi (hins.imp fun _ _ _ => VarAt.keep (same_below hB h)) (by have := h.size; omega) w2
  have hm2 : ∀ W, Below w.heap.size w W → Calls Try.prog 63 #[So.v outs.length, .int .i64 1, .int .i64 8] W fun r w' => r = .returned (.bool (manyB outs 1 8)) ∧ Below W.heap.size W w' := fun W h =>
    rvars_any outs 1 8 So B W hfo (houts.imp fun _ _ _ => VarAt.keep (same_below hB h)) (by have := h.size; omega) w3
  have hm3 : ∀ W, Below w.heap.size w W → Calls Try.prog 63 #[Sv.v vars.length, .int .i64 0, .int .i64 40] W fun r w' => r = .returned (.bool (manyB vars 0 40)) ∧ Below W.heap.size W w' := fun W h =>
    rvars_any vars 0 40 Sv B W hfv (hvars.imp fun _ _ _ => VarAt.keep (same_below hB h)) (by have := h.size; omega) w4
  have HM1 := hid hm1
  have HM2 := hid hm2
  have HM3 := hid hm3
  have HEQ := hid heqs
  have HW5 := hid w5
  obtain ⟨ci, hci⟩ : ∃ ci, Si.v ins.length = .slice Si.A ins.length ci := ⟨_, rfl⟩
  obtain ⟨co, hco⟩ : ∃ co, So.v outs.length = .slice So.A outs.length co := ⟨_, rfl⟩
  obtain ⟨cv, hcv⟩ : ∃ cv, Sv.v vars.length = .slice Sv.A vars.length cv := ⟨_, rfl⟩
  rw [hci, hco, hcv]
  rw [hci] at HM1
  rw [hco] at HM2
  rw [hcv] at HM3
  generalize Si.A = Ai at *
  generalize So.A = Ao at *
  generalize Sv.A = Av at *
  obtain ⟨bx, hbx⟩ : ∃ bx : Array Value, bx = #[.string name, .slice Ai ins.length ci, .slice Ao outs.length co, .slice Av vars.length cv, .slice A eqs.length cap, .int .i64 line, .int .i64 col] := ⟨_, rfl⟩
  have hb0 : Below (w.heap.size + 1) (w.alloc (.cells bx 61)) (w.alloc (.cells bx 61)) := Below.refl _ _
  have HB0 := hid hb0
  have hall : Hid (∀ W, Below (w.heap.size + 1) (w.alloc (.cells bx 61)) W → W.cell? ⟨w.heap.size, 0, none⟩ = some (.string name) ∧ W.cell? ⟨w.heap.size, 1, none⟩ = some (.slice Ai ins.length ci) ∧ W.cell? ⟨w.heap.size, 2, none⟩ = some (.slice Ao outs.length co) ∧ W.cell? ⟨w.heap.size, 3, none⟩ = some (.slice Av vars.length cv) ∧ W.cell? ⟨w.heap.size, 4, none⟩ = some (.slice A eqs.length cap)) := fun W h => by
    have hca := boxed_all h
    rw [hbx] at hca
    exact ⟨hca 0, hca 1, hca 2, hca 3, hca 4⟩
  have hrn := hid (fun W : World => rname_any name W (by omega))
  clear heqs hb0 hf1 hf2 hm1 hm2 hm3 hins houts hvars hfi hfo hfv hci hco hcv w2 w3 w4 w5 hnm
  have HD : Hid (nodeB ⟨name, ins, outs, vars, eqs, line, col⟩ = (isName name.data.toList && manyB ins 1 8 && manyB outs 1 8 && manyB vars 0 40 && eqs.all eqB && decide (1 ≤ eqs.length) && decide (eqs.length ≤ 48))) := by
    show _ = _
    unfold nodeB
    simp only
    cases eqs.all eqB <;> cases isName name.data.toList <;> cases manyB ins 1 8 <;> cases manyB outs 1 8 <;> cases manyB vars 0 40 <;> simp
  by_cases hhead : (isName name.data.toList && manyB ins 1 8 && manyB outs 1 8 && manyB vars 0 40) = true
  · simp only [Bool.and_eq_true] at hhead
    obtain ⟨⟨⟨q0, q1⟩, q2⟩, q3⟩ := hhead
    rw [q0, q1, q2, q3] at HD
    rw [q1] at HM1
    rw [q2] at HM2
    rw [q3] at HM3
    rw [q0] at hrn
    clear q0 q1 q2 q3
    go_enter Try.func38, Try.ntmps38
    go_wp2_with (first
      | (go_at_call 33; refine (hrn.out _).mono ?_; rintro r w2 ⟨rfl, rfl⟩; have k2 := HB0.out; rw [hbx] at k2)
      | (go_at_call 63; with_reducible refine (HM1.out _ (boxed_below k2)).mono ?_; rintro r w3 ⟨rfl, hb3⟩; have k3 := boxed_then k2 hb3; rw [← hbx] at k3; obtain ⟨u0, u1, u2, u3, u4⟩ := hall.out _ k3)
      | (go_at_call 63; with_reducible refine (HM2.out _ (boxed_below k3)).mono ?_; rintro r w4 ⟨rfl, hb4⟩; have k4 := boxed_then k3 hb4; obtain ⟨t0, t1, t2, t3, t4⟩ := hall.out _ k4)
      | (go_at_call 63; with_reducible refine (HM3.out _ (boxed_below k4)).mono ?_; rintro r w5 ⟨rfl, hb5⟩; have k5 := boxed_then k4 hb5))
    clear u0 u1 u2 u3 u4 t0 t1 t2 t3 t4 k2 k3 k4
    clear hbx
    go_loopw [3, 4, 5] (fun i _ _ wr => ∃ j : Nat, j ≤ eqs.length ∧ i = .int .i64 j ∧ Hid (Upto eqB eqs j) ∧ Below (w.heap.size + 1) (w.alloc (.cells bx 61)) wr) (fun i _ _ _ => eqs.length - (intOf i).toNat)
    case atStart => exact ⟨0, by omega, rfl, Upto.zero _ _, k5⟩
    case round =>
      obtain ⟨j, hj, rfl, hup, hbr⟩ := hrel
      have hsz := boxed_size hbr
      have hbw := boxed_below hbr
      obtain ⟨u0, u1, u2, u3, u4⟩ := hall.out _ hbr
      by_cases hlt : j < eqs.length
      · obtain ⟨b, o, rfl, hl⟩ := HEQ.out j hlt
        obtain ⟨hb, ⟨A1, cap1⟩, A2, cap2, hc, hi⟩ := hl.keep (same_below hB hbw)
        obtain ⟨c0, c1, c2, c3, c4, c5, c6, c7, c8⟩ := hc
        have hi0 : (0 : Int) ≤ (j : Int) := by omega
        have hi1 : (j : Int) < (eqs.length : Int) := by omega
        obtain ⟨hf1, hf2, hf3, hf4⟩ := HW5.out eqs[j] (List.getElem_mem _)
        have hno : eqB eqs[j] = false → Hid (nodeB ⟨name, ins, outs, vars, eqs, line, col⟩ = false) := fun hp => by
          show _ = _; rw [HD.out, all_hit hlt hp]; rfl
        have hyes : Hid (eqB eqs[j] = true → Upto eqB eqs (j + 1)) := fun hp => hup.out.succ hlt hp
        have HNO := hid hno
        clear hno hup hl
        obtain ⟨_, _, ⟨hg1, hg2⟩, hlf, hrt⟩ := hi
        simp only [Sl.v] at *
        generalize eqs[j] = q at *
        obtain ⟨left, right, ql, qc⟩ := q
        simp only at *
        have hqb : Hid (eqB ⟨left, right, ql, qc⟩ = (left.all strB && decide (1 ≤ left.length) && decide (left.length ≤ 8) && right.right)) := rfl
        obtain ⟨ex, hex⟩ : ∃ ex : Array Value, ex = #[.slice A1 left.length cap1, .int .i64 right.op, .string right.name, .int .i64 right.num, .slice A2 right.k cap2, .int .i64 right.line, .int .i64 right.col, .int .i64 ql, .int .i64 qc] := ⟨_, rfl⟩
        have hw2 := hbr.alloc (show w.heap.size + 1 ≤ wr.heap.size by omega) (.cells ex 81)
        have hrr := rright_any right B A2 cap2 (wr.alloc (.cells ex 81)) (ExAt.below hrt (Nat.le_refl B) ((Below.refl B wr).alloc (by omega) _)) (by simp; omega) (by omega) (by omega) hf3
        simp only [Ex.val] at hrr
        have hT : Below (wr.heap.size + 1) (wr.alloc (.cells ex 81)) (wr.alloc (.cells ex 81)) := Below.refl _ _
        have HT := hid hT
        have HW2 := hid hw2
        have HF4 := hid hf4
        have HLF := hid hlf
        have HEX := hid hex
        unfold maxLen at hg2
        have hlc : (left.length : Int) ≤ 9223372036854775807 := by omega
        rw [hex] at hrr
        clear hw2 hT hf4 hlf hrt hex
        by_cases h1 : (1 : Int) ≤ (left.length : Int)
        · by_cases h8 : (left.length : Int) ≤ 8
          · cases hr : right.right
            · have HR := hid hr
              rw [hr] at hrr
              clear hr
              go_wp2_with (go_at_call 14; refine hrr.mono ?_; rintro r w6 ⟨rfl, hb6⟩)
              go_ret
              refine ⟨ret_bool ((HNO.out (by rw [hqb.out, HR.out]; simp)).out).symm, ?_⟩
              rw [← HEX.out] at hb6
              exact boxed_below (boxed_then HW2.out hb6)
            · have HR := hid hr
              rw [hr] at hrr
              clear hr
              go_wp2_with (go_at_call 14; refine hrr.mono ?_; rintro r w6 ⟨rfl, hb6⟩)
              rw [← HEX.out] at hb6
              have k6 := HT.out.trans (hb6.mono (by simp))
              have k7 := boxed_then HW2.out hb6
              have hz6 := boxed_size k6
              have d0 := boxed_all k6 0
              rw [HEX.out] at d0
              simp only [List.getElem?_toArray, List.getElem?_cons_zero] at d0
              have hLF := SlAt.imp HLF.out fun _ _ _ => StrAt.keep (same_below (w' := w6) (by omega) (boxed_below k6))
              clear hrr u0 u1 u2 u3 u4 c0 c1 c2 c3 c4 c5 c6 c7 c8 hb6
              generalize wr.heap.size = T at *
              have HLF2 := hid hLF
              clear hLF
              go_loop [5] (fun i => ∃ k : Nat, k ≤ left.length ∧ i = .int .i64 k ∧ Hid (Upto strB left k)) (fun i => left.length - (intOf i).toNat)
              case atStart => exact ⟨0, by omega, rfl, Upto.zero _ _⟩
              case round =>
                obtain ⟨k, hk, rfl, hupk⟩ := hrel
                by_cases hltk : k < left.length
                · obtain ⟨b', o', rfl, hlk⟩ := HLF2.out k hltk
                  obtain ⟨hbk, hnk, e0⟩ := hlk
                  simp only [Nat.mul_one] at e0
                  have hk0 : (0 : Int) ≤ (k : Int) := by omega
                  have hk1 : (k : Int) < (left.length : Int) := by omega
                  have hnz := HF4.out left[k] (List.getElem_mem _)
                  cases hq : strB left[k]
                  · have hq' : isName (left[k]).data.toList = false := hq
                    have HQ := hid hq'
                    have HS := hid (all_hit hltk hq)
                    clear hq hq'
                    go_wp2_with (go_at_call 33; refine (rname_any _ _ (by omega)).mono ?_; rintro r w2 ⟨rfl, rfl⟩; rw [HQ.out])
                    go_ret
                    exact ⟨ret_bool ((HNO.out (by rw [hqb.out, HS.out]; rfl)).out).symm, boxed_below k7⟩
                  · have hq' : isName (left[k]).data.toList = true := hq
                    have HQ := hid hq'
                    have HS := hid (hupk.out.succ hltk hq)
                    clear hq hq'
                    go_wp2_with (go_at_call 33; refine (rname_any _ _ (by omega)).mono ?_; rintro r w2 ⟨rfl, rfl⟩; rw [HQ.out])
                    go_round
                    case rel => exact ⟨k + 1, by omega, by go_num, HS⟩
                    case measure => simp [intOf]; omega
                · have : k = left.length := by omega
                  subst this
                  have HS := hid hupk.out.all
                  clear hupk
                  go_wp2_with fail
                  go_roundw
                  case rel => exact ⟨j + 1, by omega, by go_num, hyes.out (by rw [hqb.out, HS.out, HR.out, decide_eq_true (show 1 ≤ left.length by omega), decide_eq_true (show left.length ≤ 8 by omega)]; rfl), k7⟩
                  case measure => simp [intOf]; omega
          · have h9 : (8 : Int) < (left.length : Int) := by omega
            go_wp2_with fail
            go_ret
            refine ⟨ret_bool ((HNO.out (by rw [hqb.out, decide_eq_false (show ¬ left.length ≤ 8 by omega)]; simp)).out).symm, ?_⟩
            have := boxed_below HW2.out
            rwa [HEX.out] at this
        · have h9 : (left.length : Int) < 1 := by omega
          go_wp2_with fail
          go_ret
          refine ⟨ret_bool ((HNO.out (by rw [hqb.out, decide_eq_false (show ¬ 1 ≤ left.length by omega)]; simp)).out).symm, ?_⟩
          have := boxed_below HW2.out
          rwa [HEX.out] at this
      · have : j = eqs.length := by omega
        subst this
        have HS := hid hup.out.all
        clear hup
        by_cases h1 : (0 : Int) < (eqs.length : Int)
        all_goals
          go_wp2_with fail
          go_ret
          refine ⟨ret_bool ?_, hbw⟩
          rw [HD.out, HS.out, Bool.eq_iff_iff]; simp; try omega
  · have HN : Hid (nodeB ⟨name, ins, outs, vars, eqs, line, col⟩ = false) := by
      show _ = _
      rw [HD.out]
      cases h : (isName name.data.toList && manyB ins 1 8 && manyB outs 1 8 && manyB vars 0 40)
      · rfl
      · exact absurd h hhead
    cases q0 : isName name.data.toList
    · rw [q0] at hrn
      clear q0 hhead HD
      go_enter Try.func38, Try.ntmps38
      go_wp2_with (first
        | (go_at_call 33; refine (hrn.out _).mono ?_; rintro r w2 ⟨rfl, rfl⟩; have k2 := HB0.out; rw [hbx] at k2))
      go_ret
      exact ⟨ret_bool HN.out.symm, boxed_below k2⟩
    · rw [q0] at hrn hhead
      cases q1 : manyB ins 1 8
      · rw [q1] at HM1
        clear q0 q1 hhead HD
        go_enter Try.func38, Try.ntmps38
        go_wp2_with (first
          | (go_at_call 33; refine (hrn.out _).mono ?_; rintro r w2 ⟨rfl, rfl⟩; have k2 := HB0.out; rw [hbx] at k2)
          | (go_at_call 63; with_reducible refine (HM1.out _ (boxed_below k2)).mono ?_; rintro r w3 ⟨rfl, hb3⟩; have k3 := boxed_then k2 hb3; rw [← hbx] at k3; obtain ⟨u0, u1, u2, u3, u4⟩ := hall.out _ k3))
        go_ret
        exact ⟨ret_bool HN.out.symm, boxed_below k3⟩
      · rw [q1] at HM1 hhead
        cases q2 : manyB outs 1 8
        · rw [q2] at HM2
          clear q0 q1 q2 hhead HD
          go_enter Try.func38, Try.ntmps38
          go_wp2_with (first
            | (go_at_call 33; refine (hrn.out _).mono ?_; rintro r w2 ⟨rfl, rfl⟩; have k2 := HB0.out; rw [hbx] at k2)
            | (go_at_call 63; with_reducible refine (HM1.out _ (boxed_below k2)).mono ?_; rintro r w3 ⟨rfl, hb3⟩; have k3 := boxed_then k2 hb3; rw [← hbx] at k3; obtain ⟨u0, u1, u2, u3, u4⟩ := hall.out _ k3)
            | (go_at_call 63; with_reducible refine (HM2.out _ (boxed_below k3)).mono ?_; rintro r w4 ⟨rfl, hb4⟩; have k4 := boxed_then k3 hb4; obtain ⟨t0, t1, t2, t3, t4⟩ := hall.out _ k4))
          go_ret
          exact ⟨ret_bool HN.out.symm, boxed_below k4⟩
        · rw [q2] at HM2 hhead
          cases q3 : manyB vars 0 40
          · rw [q3] at HM3
            clear q0 q1 q2 q3 hhead HD
            go_enter Try.func38, Try.ntmps38
            go_wp2_with (first
              | (go_at_call 33; refine (hrn.out _).mono ?_; rintro r w2 ⟨rfl, rfl⟩; have k2 := HB0.out; rw [hbx] at k2)
              | (go_at_call 63; with_reducible refine (HM1.out _ (boxed_below k2)).mono ?_; rintro r w3 ⟨rfl, hb3⟩; have k3 := boxed_then k2 hb3; rw [← hbx] at k3; obtain ⟨u0, u1, u2, u3, u4⟩ := hall.out _ k3)
              | (go_at_call 63; with_reducible refine (HM2.out _ (boxed_below k3)).mono ?_; rintro r w4 ⟨rfl, hb4⟩; have k4 := boxed_then k3 hb4; obtain ⟨t0, t1, t2, t3, t4⟩ := hall.out _ k4)
              | (go_at_call 63; with_reducible refine (HM3.out _ (boxed_below k4)).mono ?_; rintro r w5 ⟨rfl, hb5⟩; have k5 := boxed_then k4 hb5))
            go_ret
            exact ⟨ret_bool HN.out.symm, boxed_below k5⟩
          · rw [q3] at hhead; simp at hhead

set_option maxHeartbeats 1000000 in
theorem rsource_any (s : List NodeE) (S : Sl) (B : Nat) (w : World) (hs : SrcIs B w s S) (hB : B ≤ w.heap.size) (hfw : ∀ n ∈ s, n.few) :
    Calls Try.prog 40 #[srcVal s S] w fun r w' => r = .returned (.bool (srcB s)) ∧ Below w.heap.size w w' := by
  obtain ⟨A, cap⟩ := S
  obtain ⟨⟨hf1, hf2⟩, hnd⟩ := hs
  simp only [srcVal, Sl.v] at *
  unfold maxLen at hf2
  have hcap' : (s.length : Int) ≤ 9223372036854775807 := by omega
  have HND := hid hnd
  have HH := hid hfw
  have hb0 : Below (w.heap.size + 1) (w.alloc (.cells #[.slice A s.length cap] 56)) (w.alloc (.cells #[.slice A s.length cap] 56)) := Below.refl _ _
  have HB0 := hid hb0
  clear hnd hb0 hf1 hf2 hfw
  go_enter Try.func40, Try.ntmps40
  go_wp2_with fail
  go_loopw [3] (fun i wr => ∃ j : Nat, j ≤ s.length ∧ i = .int .i64 j ∧ Hid (Upto nodeB s j) ∧ Below (w.heap.size + 1) (w.alloc (.cells #[.slice A s.length cap] 56)) wr) (fun i _ => s.length - (intOf i).toNat)
  case atStart => exact ⟨0, by omega, rfl, Upto.zero _ _, HB0.out⟩
  case round =>
    obtain ⟨j, hj, rfl, hup, hbr⟩ := hrel
    have hsz := boxed_size hbr
    have hbw := boxed_below hbr
    have y0 := boxed_all hbr 0
    simp only [List.getElem?_toArray, List.getElem?_cons_zero] at y0
    by_cases hlt : j < s.length
    · obtain ⟨b, o, rfl, hl⟩ := HND.out j hlt
      obtain ⟨hb, S, hc, hi⟩ := hl.keep (same_below hB hbw)
      obtain ⟨c0, c1, c2, c3, c4, c5, c6⟩ := hc
      have hi0 : (0 : Int) ≤ (j : Int) := by omega
      have hi1 : (j : Int) < (s.length : Int) := by omega
      have hhj := HH.out s[j] (List.getElem_mem _)
      generalize hqj : s[j] = n at *
      have HQJ := hid hqj
      clear hqj
      have hvr := rnode_any n S B wr hi (by omega) hhj
      simp only [NodeE.val, Sl.v] at hvr c1 c2 c3 c4
      cases hp : nodeB n
      · have HS := hid (all_hit (p := nodeB) hlt (by rw [HQJ.out]; exact hp))
        rw [hp] at hvr
        clear hp hup hi hhj
        go_wp2_with (go_at_call 38; refine hvr.mono ?_; rintro r w2 ⟨rfl, hb2⟩)
        go_ret
        refine ⟨ret_bool ?_, boxed_below (boxed_then hbr hb2)⟩
        unfold srcB; rw [HS.out]; rfl
      · have HS := hid (hup.out.succ hlt (by rw [HQJ.out]; exact hp))
        rw [hp] at hvr
        clear hp hup hi hhj
        go_wp2_with (go_at_call 38; refine hvr.mono ?_; rintro r w2 ⟨rfl, hb2⟩)
        go_roundw
        case rel => exact ⟨j + 1, by omega, by go_num, HS, boxed_then hbr hb2⟩
        case measure => simp [intOf]; omega
    · have : j = s.length := by omega
      subst this
      have HS := hid hup.out.all
      clear hup
      by_cases h1 : (0 : Int) < (s.length : Int)
      all_goals
        go_wp2_with fail
        go_ret
        refine ⟨ret_bool ?_, hbw⟩
        unfold srcB; rw [HS.out, Bool.eq_iff_iff]; simp; try omega
end Go.Proofs.Ytiencmbbkbicnaa
