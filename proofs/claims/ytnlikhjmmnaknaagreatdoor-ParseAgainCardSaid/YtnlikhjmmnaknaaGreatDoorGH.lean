/-
  Texts of this claim, joined: RShowV RShowN RShowS.
-/
import Derived.Test.YtnlikhjmmnaknaaGreatDoorGE
import Derived.Test.YtnlikhjmmnaknaaGreatDoorGG
import Derived.Test.YtnlikhjmmnaknaaGreatDoorGF
/-
  The walks of the reference's Var and Vars: the same text.
-/
namespace Go.Proofs.YtnlikhjmmnaknaaGreatDoor
open Go.RowKit Go.Sort

theorem ba_size (l : List UInt8) : (⟨l.toArray⟩ : ByteArray).size = l.length := rfl
theorem bytes_len (s : ByteArray) : s.data.toList.length = s.size := by rw [Array.length_toList]; rfl
/-- a text of a length -/
theorem some_text (l : List UInt8) : ∃ S : ByteArray, S = ⟨l.toArray⟩ ∧ S.size = l.length := ⟨_, rfl, rfl⟩

set_option maxHeartbeats 4000000 in
theorem rvar_wr (v : VarE) (S : Sl) (B : Nat) (w : World) (hv : VarIs B w v S) (hB : B ≤ w.heap.size) (hty : v.type = 1 ∨ v.type = 2) (hlen : (varTxt v).length ≤ 140737488355328) :
    Calls Tryz.prog 62 #[v.val S] w fun r w' => r = .returned (.string ⟨(varTxt v).toArray⟩) ∧ Below w.heap.size w w' := by
  obtain ⟨A, cap⟩ := S
  have hcl : ((v.clock.length : Nat) : Int) ≤ 9223372036854775807 := by have := hv.fits; unfold Sl.fits maxLen at this; omega
  have hX0 : (w.alloc (.cells #[.string v.name, .int .i64 v.type, .slice A v.clock.length cap, .int .i64 v.line, .int .i64 v.col] 103)).heap[w.heap.size]? = some (.cells #[.string v.name, .int .i64 v.type, .slice A v.clock.length cap, .int .i64 v.line, .int .i64 v.col] 103 (0, 0)) := World.alloc_heap_new w _
  have hb0 : Below w.heap.size w (w.alloc (.cells #[.string v.name, .int .i64 v.type, .slice A v.clock.length cap, .int .i64 v.line, .int .i64 v.col] 103)) := (Below.refl _ _).alloc (Nat.le_refl _) _
  have hv' := hv.keep (same_below hB hb0)
  have hBV : B ≤ (w.alloc (.cells #[.string v.name, .int .i64 v.type, .slice A v.clock.length cap, .int .i64 v.line, .int .i64 v.col] 103)).heap.size := by simp; omega
  unfold VarE.val Sl.v
  simp only
  rcases hty with hty | hty
  · have HT : Hid (varTxt v = v.name.data.toList ++ ([58, 32, 105, 110, 116] ++ sepTo [] (atL litTxt v.clock) v.clock.length)) := by show _ = _; unfold varTxt; rw [hty]; simp
    have hq2 : (v.type == 2) = false := by rw [hty]; rfl
    have hlen2 : v.name.data.toList.length + (5 + (sepTo [] (atL litTxt v.clock) v.clock.length).length) ≤ 140737488355328 := by
      rw [HT.out] at hlen
      simp only [List.length_append, List.length_cons, List.length_nil] at hlen
      omega
    have hns : v.name.size ≤ 140737488355328 := by rw [bytes_len] at hlen2; omega
    clear hlen hty
    have x0 := Lib.cell_of_heap hX0 0
    have x1 := Lib.cell_of_heap hX0 1
    have x2 := Lib.cell_of_heap hX0 2
    simp only [List.getElem?_toArray, List.getElem?_cons_zero, List.getElem?_cons_succ] at x0 x1 x2
    go_enter Tryz.func62, Tryz.ntmps62
    go_wp2_with fail
    generalize w.alloc (.cells #[.string v.name, .int .i64 v.type, .slice A v.clock.length cap, .int .i64 v.line, .int .i64 v.col] 103) = V at *
    clear hq2 x0 x1
    go_loop [3, 4] (fun s i => ∃ j : Nat, j ≤ v.clock.length ∧ i = .int .i64 j ∧ s = .string ⟨(v.name.data.toList ++ ([58, 32, 105, 110, 116] ++ sepTo [] (atL litTxt v.clock) j)).toArray⟩) (fun _ i => v.clock.length - (intOf i).toNat)
    case atStart => exact ⟨0, by omega, rfl, congrArg Value.string (ba_ext (by simp [sepTo_zero]))⟩
    case round =>
      obtain ⟨j, hj, rfl, rfl⟩ := hrel
      obtain ⟨Q, hQ, hQs⟩ := some_text (v.name.data.toList ++ ([58, 32, 105, 110, 116] ++ sepTo [] (atL litTxt v.clock) j))
      rw [← hQ]
      have HQ := hid hQ
      clear hQ
      by_cases hlt : j < v.clock.length
      · obtain ⟨b', o, hA, hcell⟩ := hv'.clock j hlt
        simp only at hA
        subst hA
        have d0 := hcell.c0
        have d1 := hcell.c1
        have hle := sep_le [] litTxt v.clock hlt
        have hsl := sepL_flat litTxt hlt
        have HS := hid hsl
        have hQb : Q.size ≤ v.name.data.toList.length + (5 + (sepTo [] (atL litTxt v.clock) j).length) := by rw [hQs]; simp only [List.length_append, List.length_cons, List.length_nil]; omega
        clear hcell hsl hQs
        cases hneg : v.clock[j].neg
        · have HL : Hid (litTxt v.clock[j] = [32, 119, 104, 101, 110, 32] ++ ([] ++ v.clock[j].name.data.toList)) := by show _ = _; unfold litTxt; rw [hneg]; rfl
          have hle2 : v.name.data.toList.length + (5 + ((sepTo [] (atL litTxt v.clock) j).length + (6 + v.clock[j].name.size))) ≤ 140737488355328 := by
            rw [HL.out] at hle
            have hl3 := hlen2
            simp only [List.length_append, List.length_cons, List.length_nil, bytes_len] at hle hl3 ⊢
            omega
          clear hle
          rw [hneg] at d1
          clear hneg
          go_wp2_with fail
          go_round
          case rel => exact ⟨j + 1, by omega, by go_num, congrArg Value.string (ba_ext (by rw [HQ.out, HS.out, HL.out]; simp))⟩
          case measure => simp [intOf]; omega
        · have HL : Hid (litTxt v.clock[j] = [32, 119, 104, 101, 110, 32] ++ ([110, 111, 116, 32] ++ v.clock[j].name.data.toList)) := by show _ = _; unfold litTxt; rw [hneg]; rfl
          have hle2 : v.name.data.toList.length + (5 + ((sepTo [] (atL litTxt v.clock) j).length + (10 + v.clock[j].name.size))) ≤ 140737488355328 := by
            rw [HL.out] at hle
            have hl3 := hlen2
            simp only [List.length_append, List.length_cons, List.length_nil, bytes_len] at hle hl3 ⊢
            omega
          clear hle
          rw [hneg] at d1
          clear hneg
          go_wp2_with fail
          go_round
          case rel => exact ⟨j + 1, by omega, by go_num, congrArg Value.string (ba_ext (by rw [HQ.out, HS.out, HL.out]; simp))⟩
          case measure => simp [intOf]; omega
      · have : j = v.clock.length := by omega
        subst this
        clear hQs
        go_wp2_with fail
        go_ret
        exact ⟨ret_str (by rw [HQ.out, HT.out]), hb0⟩
  · have HT : Hid (varTxt v = v.name.data.toList ++ ([58, 32, 98, 111, 111, 108] ++ sepTo [] (atL litTxt v.clock) v.clock.length)) := by show _ = _; unfold varTxt; rw [hty]; simp
    have hq2 : (v.type == 2) = true := by rw [hty]; rfl
    have hlen2 : v.name.data.toList.length + (6 + (sepTo [] (atL litTxt v.clock) v.clock.length).length) ≤ 140737488355328 := by
      rw [HT.out] at hlen
      simp only [List.length_append, List.length_cons, List.length_nil] at hlen
      omega
    have hns : v.name.size ≤ 140737488355328 := by rw [bytes_len] at hlen2; omega
    clear hlen hty
    have x0 := Lib.cell_of_heap hX0 0
    have x1 := Lib.cell_of_heap hX0 1
    have x2 := Lib.cell_of_heap hX0 2
    simp only [List.getElem?_toArray, List.getElem?_cons_zero, List.getElem?_cons_succ] at x0 x1 x2
    go_enter Tryz.func62, Tryz.ntmps62
    go_wp2_with fail
    generalize w.alloc (.cells #[.string v.name, .int .i64 v.type, .slice A v.clock.length cap, .int .i64 v.line, .int .i64 v.col] 103) = V at *
    clear hq2 x0 x1
    go_loop [3, 4] (fun s i => ∃ j : Nat, j ≤ v.clock.length ∧ i = .int .i64 j ∧ s = .string ⟨(v.name.data.toList ++ ([58, 32, 98, 111, 111, 108] ++ sepTo [] (atL litTxt v.clock) j)).toArray⟩) (fun _ i => v.clock.length - (intOf i).toNat)
    case atStart => exact ⟨0, by omega, rfl, congrArg Value.string (ba_ext (by simp [sepTo_zero]))⟩
    case round =>
      obtain ⟨j, hj, rfl, rfl⟩ := hrel
      obtain ⟨Q, hQ, hQs⟩ := some_text (v.name.data.toList ++ ([58, 32, 98, 111, 111, 108] ++ sepTo [] (atL litTxt v.clock) j))
      rw [← hQ]
      have HQ := hid hQ
      clear hQ
      by_cases hlt : j < v.clock.length
      · obtain ⟨b', o, hA, hcell⟩ := hv'.clock j hlt
        simp only at hA
        subst hA
        have d0 := hcell.c0
        have d1 := hcell.c1
        have hle := sep_le [] litTxt v.clock hlt
        have hsl := sepL_flat litTxt hlt
        have HS := hid hsl
        have hQb : Q.size ≤ v.name.data.toList.length + (6 + (sepTo [] (atL litTxt v.clock) j).length) := by rw [hQs]; simp only [List.length_append, List.length_cons, List.length_nil]; omega
        clear hcell hsl hQs
        cases hneg : v.clock[j].neg
        · have HL : Hid (litTxt v.clock[j] = [32, 119, 104, 101, 110, 32] ++ ([] ++ v.clock[j].name.data.toList)) := by show _ = _; unfold litTxt; rw [hneg]; rfl
          have hle2 : v.name.data.toList.length + (6 + ((sepTo [] (atL litTxt v.clock) j).length + (6 + v.clock[j].name.size))) ≤ 140737488355328 := by
            rw [HL.out] at hle
            have hl3 := hlen2
            simp only [List.length_append, List.length_cons, List.length_nil, bytes_len] at hle hl3 ⊢
            omega
          clear hle
          rw [hneg] at d1
          clear hneg
          go_wp2_with fail
          go_round
          case rel => exact ⟨j + 1, by omega, by go_num, congrArg Value.string (ba_ext (by rw [HQ.out, HS.out, HL.out]; simp))⟩
          case measure => simp [intOf]; omega
        · have HL : Hid (litTxt v.clock[j] = [32, 119, 104, 101, 110, 32] ++ ([110, 111, 116, 32] ++ v.clock[j].name.data.toList)) := by show _ = _; unfold litTxt; rw [hneg]; rfl
          have hle2 : v.name.data.toList.length + (6 + ((sepTo [] (atL litTxt v.clock) j).length + (10 + v.clock[j].name.size))) ≤ 140737488355328 := by
            rw [HL.out] at hle
            have hl3 := hlen2
            simp only [List.length_append, List.length_cons, List.length_nil, bytes_len] at hle hl3 ⊢
            omega
          clear hle
          rw [hneg] at d1
          clear hneg
          go_wp2_with fail
          go_round
          case rel => exact ⟨j + 1, by omega, by go_num, congrArg Value.string (ba_ext (by rw [HQ.out, HS.out, HL.out]; simp))⟩
          case measure => simp [intOf]; omega
      · have : j = v.clock.length := by omega
        subst this
        clear hQs
        go_wp2_with fail
        go_ret
        exact ⟨ret_str (by rw [HQ.out, HT.out]), hb0⟩

set_option maxHeartbeats 2000000 in
theorem rvars_wr (xs : List VarE) (A : Option Addr) (cap : Nat) (B : Nat) (w : World) (hf : xs.length ≤ 1000000) (hv : SlAt 5 (VarAt B w) A xs) (hB : B ≤ w.heap.size) (hty : ∀ v ∈ xs, v.type = 1 ∨ v.type = 2) (hlen : (varsTxt xs).length ≤ 140737488355000) :
    Calls Tryz.prog 61 #[.slice A xs.length cap] w fun r w' => r = .returned (.string ⟨(varsTxt xs).toArray⟩) ∧ Below w.heap.size w w' := by
  have HV := hid hv
  have HTY := hid (fun j (h : j < xs.length) => hty xs[j] (List.getElem_mem _))
  clear hv hty
  unfold varsTxt at hlen ⊢
  go_enter Tryz.func61, Tryz.ntmps61
  go_wp2_with fail
  go_loopw [3, 4] (fun s i wr => ∃ j : Nat, j ≤ xs.length ∧ i = .int .i64 j ∧ s = .string ⟨(sepTo [59, 32] (atL varTxt xs) j).toArray⟩ ∧ Below w.heap.size w wr) (fun _ i _ => xs.length - (intOf i).toNat)
  case atStart => exact ⟨0, by omega, rfl, rfl, Below.refl _ _⟩
  case round =>
    obtain ⟨j, hj, rfl, rfl, hbr⟩ := hrel
    have hzr := hbr.size
    obtain ⟨Q, hQ, hQs⟩ := some_text (sepTo [59, 32] (atL varTxt xs) j)
    rw [← hQ]
    have HQ := hid hQ
    clear hQ
    by_cases hlt : j < xs.length
    · obtain ⟨b', o, hA, hb', S, hcells, hin⟩ := HV.out j hlt
      subst hA
      obtain ⟨sA, sc⟩ := S
      have hcells' := hcells.keep (w' := wr) fun i => hbr.cell (p := ⟨b', i, none⟩) (by simp; omega)
      have hin' := hin.keep (same_below hB hbr)
      obtain ⟨c0, c1, c2, c3, c4⟩ := hcells'
      have hle := sep_le [59, 32] varTxt xs hlt
      have hcv := rvar_wr xs[j] ⟨sA, sc⟩ B wr hin' (by omega) (HTY.out j hlt) (by omega)
      unfold VarE.val Sl.v at hcv
      have HCV := hid hcv
      have hvs := ba_size (varTxt xs[j])
      have hQb : Q.size ≤ (sepTo [59, 32] (atL varTxt xs) j).length := by omega
      unfold Sl.v at c2
      clear hcells hin hin' hcv hQs
      by_cases h0 : 0 < j
      · have hsl := sepL_more [59, 32] varTxt hlt h0
        have HS := hid hsl
        clear hsl
        go_wp2_with fail
        clear c0 c1 c2 c3 c4
        refine HCV.out.mono ?_
        rintro r w1 ⟨rfl, hb1⟩
        go_wp2_with fail
        go_roundw
        case rel => exact ⟨j + 1, by omega, by go_num, congrArg Value.string (ba_ext (by rw [HS.out, HQ.out]; simp)), hbr.trans (hb1.mono hzr)⟩
        case measure => simp [intOf]; omega
      · obtain rfl : j = 0 := by omega
        have hsl := sepL_one [59, 32] varTxt hlt
        have HS := hid hsl
        clear hsl
        simp only [Nat.zero_mul, Nat.add_zero] at c0 c1 c2 c3 c4
        go_wp2_with fail
        clear c0 c1 c2 c3 c4
        refine HCV.out.mono ?_
        rintro r w1 ⟨rfl, hb1⟩
        go_wp2_with fail
        go_roundw
        case rel => exact ⟨1, by omega, by go_num, congrArg Value.string (ba_ext (by rw [HS.out, HQ.out]; simp [sepTo_zero])), hbr.trans (hb1.mono hzr)⟩
        case measure => simp [intOf]; omega
    · have : j = xs.length := by omega
      subst this
      go_wp2_with fail
      go_ret
      exact ⟨ret_str (by rw [HQ.out]), hbr⟩
end Go.Proofs.YtnlikhjmmnaknaaGreatDoor
/-
  The walk of the reference's Node: the same text.
-/
namespace Go.Proofs.YtnlikhjmmnaknaaGreatDoor
open Go.RowKit Go.Sort

theorem node_parts (n : NodeE) : nodeTxt n = nodeHead n ++ (nodeVars n ++ ([108, 101, 116, 10] ++ (sepTo [] (atL eqTxt n.eqs) n.eqs.length ++ [116, 101, 108, 10]))) := rfl
theorem head_len (n : NodeE) : (nodeHead n).length = 5 + (n.name.data.toList.length + (1 + ((varsTxt n.ins).length + (11 + ((varsTxt n.outs).length + 3))))) := by
  unfold nodeHead; simp only [List.length_append, List.length_cons, List.length_nil]

set_option maxRecDepth 100000 in
set_option maxHeartbeats 16000000 in
theorem rnode_wr (n : NodeE) (S : NSl) (B : Nat) (w : World) (hn : NodeIs B w n S) (hok : nodeB n = true) (hB : B ≤ w.heap.size) (hlen : (nodeTxt n).length ≤ 140737488355000) :
    Calls Tryz.prog 30 #[n.val S] w fun r w' => r = .returned (.string ⟨(nodeTxt n).toArray⟩) ∧ Below w.heap.size w w' := by
  obtain ⟨⟨iA, ic⟩, ⟨oA, oc⟩, ⟨vA, vc⟩, ⟨eA, ec⟩⟩ := S
  unfold nodeB manyB at hok
  simp only [Bool.and_eq_true, decide_eq_true_eq] at hok
  obtain ⟨⟨⟨⟨⟨⟨hq, _⟩, hq1⟩, hq48⟩, hi⟩, ho⟩, hv⟩ := hok
  have hty : ∀ xs : List VarE, xs.all varB = true → ∀ v ∈ xs, v.type = 1 ∨ v.type = 2 := fun xs h v hv => by
    have := List.all_eq_true.1 h v hv
    unfold varB at this
    simp only [Bool.and_eq_true, Bool.or_eq_true, beq_iff_eq] at this
    exact this.1.2
  have hti := hty _ hi.1.1
  have hto := hty _ ho.1.1
  have htv := fun j (h : j < n.vars.length) => hty _ hv.1.1 n.vars[j] (List.getElem_mem _)
  have hi8 : n.ins.length ≤ 8 := hi.2
  have ho8 : n.outs.length ≤ 8 := ho.2
  have hv40 : n.vars.length ≤ 40 := hv.2
  have hlen0 := hlen
  rw [node_len] at hlen
  have hHl := head_len n
  have hns : n.name.size ≤ n.name.data.toList.length := Nat.le_of_eq (bytes_len _).symm
  have HQ := hid (fun j (h : j < n.eqs.length) => all_at hq j h)
  have hn' := hn.more hB
  have HN := hid hn'
  have HTV := hid htv
  have hX0 : (w.alloc (.cells #[.string n.name, .slice iA n.ins.length ic, .slice oA n.outs.length oc, .slice vA n.vars.length vc, .slice eA n.eqs.length ec, .int .i64 n.line, .int .i64 n.col] 61)).heap[w.heap.size]? = some (.cells #[.string n.name, .slice iA n.ins.length ic, .slice oA n.outs.length oc, .slice vA n.vars.length vc, .slice eA n.eqs.length ec, .int .i64 n.line, .int .i64 n.col] 61 (0, 0)) := World.alloc_heap_new w _
  have hb0 : Below w.heap.size w (w.alloc (.cells #[.string n.name, .slice iA n.ins.length ic, .slice oA n.outs.length oc, .slice vA n.vars.length vc, .slice eA n.eqs.length ec, .int .i64 n.line, .int .i64 n.col] 61)) := (Below.refl _ _).alloc (Nat.le_refl _) _
  have hz0 := hb0.size
  have hz1 : w.heap.size < (w.alloc (.cells #[.string n.name, .slice iA n.ins.length ic, .slice oA n.outs.length oc, .slice vA n.vars.length vc, .slice eA n.eqs.length ec, .int .i64 n.line, .int .i64 n.col] 61)).heap.size := by simp
  have kI : ∀ d os, Calls Tryz.prog 61 #[.slice iA n.ins.length ic] (grow (redrawn (w.alloc (.cells #[.string n.name, .slice iA n.ins.length ic, .slice oA n.outs.length oc, .slice vA n.vars.length vc, .slice eA n.eqs.length ec, .int .i64 n.line, .int .i64 n.col] 61)) d) os) fun e w' => e = .returned (.string ⟨(varsTxt n.ins).toArray⟩) ∧ ∃ p : Regrown, w' = grow (redrawn (w.alloc (.cells #[.string n.name, .slice iA n.ins.length ic, .slice oA n.outs.length oc, .slice vA n.vars.length vc, .slice eA n.eqs.length ec, .int .i64 n.line, .int .i64 n.col] 61)) p.d) p.os := fun d os =>
    Calls.regrown_of (rvars_wr n.ins iA ic w.heap.size _ (by omega) (hn'.ins.imp fun _ _ _ => VarAt.keep (same_below (Nat.le_refl _) (hb0.trans ((below_regrown _ d os).mono hz0)))) (Nat.le_trans hz0 (below_regrown _ d os).size) hti (by omega))
  have kO : ∀ d os, Calls Tryz.prog 61 #[.slice oA n.outs.length oc] (grow (redrawn (w.alloc (.cells #[.string n.name, .slice iA n.ins.length ic, .slice oA n.outs.length oc, .slice vA n.vars.length vc, .slice eA n.eqs.length ec, .int .i64 n.line, .int .i64 n.col] 61)) d) os) fun e w' => e = .returned (.string ⟨(varsTxt n.outs).toArray⟩) ∧ ∃ p : Regrown, w' = grow (redrawn (w.alloc (.cells #[.string n.name, .slice iA n.ins.length ic, .slice oA n.outs.length oc, .slice vA n.vars.length vc, .slice eA n.eqs.length ec, .int .i64 n.line, .int .i64 n.col] 61)) p.d) p.os := fun d os =>
    Calls.regrown_of (rvars_wr n.outs oA oc w.heap.size _ (by omega) (hn'.outs.imp fun _ _ _ => VarAt.keep (same_below (Nat.le_refl _) (hb0.trans ((below_regrown _ d os).mono hz0)))) (Nat.le_trans hz0 (below_regrown _ d os).size) hto (by omega))
  have hIs := ba_size (varsTxt n.ins)
  have hOs := ba_size (varsTxt n.outs)
  clear hn hn' hq hi ho hv hty hti hto htv
  unfold NodeE.val Sl.v
  simp only
  generalize hVg : w.alloc (.cells #[.string n.name, .slice iA n.ins.length ic, .slice oA n.outs.length oc, .slice vA n.vars.length vc, .slice eA n.eqs.length ec, .int .i64 n.line, .int .i64 n.col] 61) = V at *
  have x0 : V.cell? ⟨w.heap.size, 0, none⟩ = some (.string n.name) := Lib.cell_of_heap hX0 0
  have x1 : V.cell? ⟨w.heap.size, 1, none⟩ = some (.slice iA n.ins.length ic) := Lib.cell_of_heap hX0 1
  have x2 : V.cell? ⟨w.heap.size, 2, none⟩ = some (.slice oA n.outs.length oc) := Lib.cell_of_heap hX0 2
  have gx0 := cell_regrown x0
  have gx1 := cell_regrown x1
  have gx2 := cell_regrown x2
  clear x0 x1 x2
  have HVg := hid hVg
  clear hVg
  go_enter Tryz.func30, Tryz.ntmps30
  go_wp2_with fail
  rw [HVg.out]
  refine wp_region_quiet_below hmix (by kernel_rfl) ?_
  repeat (first | go_big_quiet_step (first | (go_at_call 61; with_reducible exact kI _ _) | (go_at_call 61; with_reducible exact kO _ _)) | quiet_step (first | (go_at_call 61; with_reducible exact kI _ _) | (go_at_call 61; with_reducible exact kO _ _)))
  refine wpQuiet_nil ?_
  intro _ hw'
  obtain ⟨⟨dq, osq⟩, hw''⟩ := hw'
  subst hw''
  have hb2 := hb0.trans ((below_regrown V dq osq).mono hz0)
  have hX2 := ((below_regrown V dq osq).block w.heap.size hz1).trans hX0
  clear kI kO gx0 gx1 gx2 hX0 hb0
  generalize grow (redrawn V dq) osq = W2 at *
  clear HVg hz0 hz1
  have c3 : W2.cell? ⟨w.heap.size, 3, none⟩ = some (.slice vA n.vars.length vc) := Lib.cell_of_heap hX2 3
  by_cases hv0 : 0 < n.vars.length
  · have hnv : (nodeVars n).length = 4 + (sepTo [] (atL lineTxt n.vars) n.vars.length).length := by unfold nodeVars; rw [if_pos hv0]; simp only [List.length_append, List.length_cons, List.length_nil]
    rw [hnv] at hlen
    go_wp2_with fail
    clear c3
    go_loopw [3, 4] (fun s i wr => ∃ j : Nat, j ≤ n.vars.length ∧ i = .int .i64 j ∧ s = .string ⟨(nodeHead n ++ ([118, 97, 114, 10] ++ sepTo [] (atL lineTxt n.vars) j)).toArray⟩ ∧ Below w.heap.size w wr ∧ wr.heap[w.heap.size]? = some (.cells #[.string n.name, .slice iA n.ins.length ic, .slice oA n.outs.length oc, .slice vA n.vars.length vc, .slice eA n.eqs.length ec, .int .i64 n.line, .int .i64 n.col] 61 (0, 0))) (fun _ i _ => n.vars.length - (intOf i).toNat)
    case atStart => exact ⟨0, by omega, rfl, congrArg Value.string (ba_ext (by unfold nodeHead; simp [sepTo_zero])), hb2, hX2⟩
    case round =>
      clear hb2 hX2
      obtain ⟨j, hj, rfl, rfl, hbr, hX⟩ := hrel
      have hzr := hbr.size
      have hzl := heap_lt hX
      have c3 : wr.cell? ⟨w.heap.size, 3, none⟩ = some (.slice vA n.vars.length vc) := Lib.cell_of_heap hX 3
      obtain ⟨Q, hQ, hQs⟩ := some_text (nodeHead n ++ ([118, 97, 114, 10] ++ sepTo [] (atL lineTxt n.vars) j))
      rw [← hQ]
      have HQQ := hid hQ
      clear hQ
      by_cases hlt : j < n.vars.length
      · obtain ⟨b', o, hA, hb', S, hcells, hin⟩ := HN.out.vars j hlt
        simp only at hA
        subst hA
        obtain ⟨sA, sc⟩ := S
        have hcells' := hcells.keep (w' := wr) fun i => hbr.cell (p := ⟨b', i, none⟩) (by simp; omega)
        have hin' := hin.keep (same_below (Nat.le_refl _) hbr)
        obtain ⟨e0, e1, e2, e3, e4⟩ := hcells'
        have hle := sep_le [] lineTxt n.vars hlt
        have hll : (lineTxt n.vars[j]).length = (varTxt n.vars[j]).length + 4 := by unfold lineTxt; simp only [List.length_append, List.length_cons, List.length_nil]; omega
        rw [hll] at hle
        have hQb : Q.size ≤ (nodeHead n).length + (4 + (sepTo [] (atL lineTxt n.vars) j).length) := by rw [hQs]; simp only [List.length_append, List.length_cons, List.length_nil]; omega
        have hcv := rvar_wr n.vars[j] ⟨sA, sc⟩ w.heap.size wr hin' hzr (HTV.out j hlt) (by omega)
        unfold VarE.val Sl.v at hcv
        have HCV := hid hcv
        have hvs := ba_size (varTxt n.vars[j])
        have hsl := sepL_flat lineTxt hlt
        have HS := hid hsl
        unfold Sl.v at e2
        clear hcells hin hin' hcv hsl hll hQs
        go_wp2_with fail
        clear e0 e1 e2 e3 e4 c3
        refine HCV.out.mono ?_
        rintro r w3 ⟨rfl, hb3⟩
        go_wp2_with fail
        go_roundw
        case rel => exact ⟨j + 1, by omega, by go_num, congrArg Value.string (ba_ext (by rw [HS.out, HQQ.out, lineTxt_eq]; simp)), hbr.trans (hb3.mono hzr), (hb3.block _ hzl).trans hX⟩
        case measure => simp [intOf]; omega
      · have : j = n.vars.length := by omega
        subst this
        have hQv : Q = ⟨(nodeHead n ++ nodeVars n).toArray⟩ := by rw [HQQ.out]; unfold nodeVars; rw [if_pos hv0]
        have hQb : Q.size ≤ 140737488355000 - (8 + (sepTo [] (atL eqTxt n.eqs) n.eqs.length).length) := by rw [hQs]; simp only [List.length_append, List.length_cons, List.length_nil]; omega
        have HQV := hid hQv
        have c4 : wr.cell? ⟨w.heap.size, 4, none⟩ = some (.slice eA n.eqs.length ec) := Lib.cell_of_heap hX 4
        clear hQs hQv HQQ hlt hj
        go_wp2_with fail
        clear c3 c4
        obtain ⟨wa, rfl⟩ : ∃ wa : World, wa = wr := ⟨_, rfl⟩
        obtain ⟨T0, hT0⟩ : ∃ T0, T0 = nodeHead n ++ (nodeVars n ++ [108, 101, 116, 10]) := ⟨_, rfl⟩
        have hT0l : T0.length + ((sepTo [] (atL eqTxt n.eqs) n.eqs.length).length + 4) ≤ 140737488355000 := by rw [hT0]; simp only [List.length_append, List.length_cons, List.length_nil]; rw [node_parts] at hlen0; simp only [List.length_append, List.length_cons, List.length_nil] at hlen0; omega
        have HT0 := hid hT0
        go_loopw [3, 5, 6, 7, 8] (fun s i _ _ _ wq => ∃ j : Nat, j ≤ n.eqs.length ∧ i = .int .i64 j ∧ s = .string ⟨(T0 ++ sepTo [] (atL eqTxt n.eqs) j).toArray⟩ ∧ Below w.heap.size w wq ∧ wq.heap[w.heap.size]? = some (.cells #[.string n.name, .slice iA n.ins.length ic, .slice oA n.outs.length oc, .slice vA n.vars.length vc, .slice eA n.eqs.length ec, .int .i64 n.line, .int .i64 n.col] 61 (0, 0))) (fun _ i _ _ _ _ => n.eqs.length - (intOf i).toNat)
        case atStart => exact ⟨0, by omega, rfl, congrArg Value.string (ba_ext (by rw [HQV.out, HT0.out]; simp [sepTo_zero])), hbr, hX⟩
        case round =>
          clear hbr hX hzr hzl
          obtain ⟨j, hj, rfl, rfl, hbr, hX⟩ := hrel
          have hzr := hbr.size
          have hzl := heap_lt hX
          have c4 : wr.cell? ⟨w.heap.size, 4, none⟩ = some (.slice eA n.eqs.length ec) := Lib.cell_of_heap hX 4
          obtain ⟨U, hU, hUs⟩ := some_text (T0 ++ sepTo [] (atL eqTxt n.eqs) j)
          rw [← hU]
          have HU := hid hU
          clear hU
          by_cases hlt : j < n.eqs.length
          · obtain ⟨b', o, hA, hb', S, rA, rc, hcells, hin⟩ := HN.out.eqs j hlt
            simp only at hA
            subst hA
            obtain ⟨sA, sc⟩ := S
            have hcells' := hcells.keep (w' := wr) fun i => hbr.cell (p := ⟨b', i, none⟩) (by simp; omega)
            have hin' := hin.keep (same_below (Nat.le_refl _) hbr)
            obtain ⟨e0, e1, e2, e3, e4, e5, e6, e7, e8⟩ := hcells'
            have hqj := HQ.out j hlt
            unfold eqB at hqj
            simp only [Bool.and_eq_true, decide_eq_true_eq] at hqj
            obtain ⟨⟨⟨_, hl1⟩, hl8⟩, hrr⟩ := hqj
            have hrok := ok_of_right hin'.right hrr
            have hle := sep_le [] eqTxt n.eqs hlt
            have hll : (eqTxt n.eqs[j]).length = (leftTxt n.eqs[j].left).length + (n.eqs[j].right.txt 0).length + 7 := by unfold eqTxt; simp only [List.length_append, List.length_cons, List.length_nil]; omega
            rw [hll] at hle
            have hnl := left_len n.eqs[j].left
            have hUb : U.size ≤ T0.length + (sepTo [] (atL eqTxt n.eqs) j).length := by rw [hUs, List.length_append]; omega
            obtain ⟨lb, lo, hlA, hl0⟩ := hin'.left 0 (by omega)
            simp only at hlA
            subst hlA
            have hstr : ∀ W, Below w.heap.size wr W → ∀ (i : Nat) (h : i < n.eqs[j].left.length), W.cell? ⟨lb, lo + i, none⟩ = some (.string n.eqs[j].left[i]) ∧ n.eqs[j].left[i].size ≤ 140737488355000 := fun W h i hi => by
              obtain ⟨b2, o2, hA2, hs2⟩ := hin'.left i hi
              injection hA2 with hA2
              injection hA2 with e1 e2
              subst e1 e2
              refine ⟨?_, ?_⟩
              · rw [h.cell (p := ⟨lb, lo + i, none⟩) hl0.1]
                simpa using hs2.2.2
              · have := sep_le [44, 32] (fun x : ByteArray => x.data.toList) n.eqs[j].left hi
                unfold namesTxt at hnl
                rw [bytes_len] at this
                omega
            have hxw := fun W (h : Below w.heap.size wr W) => rexpr_wr n.eqs[j].right hrok w.heap.size rA rc 0 W (ExAt.keep (same_below (Nat.le_refl _) h) _ _ _ hin'.right) hrok (Nat.le_trans hzr h.size) (by omega) (by omega) (by omega)
            unfold Ex.val at hxw
            have HXW := hid hxw
            have HST := hid hstr
            have hsl := sepL_flat eqTxt hlt
            have HS := hid hsl
            have hY0 : (wr.alloc (.cells #[.slice (some ⟨lb, lo, none⟩) n.eqs[j].left.length sc, .int .i64 n.eqs[j].right.op, .string n.eqs[j].right.name, .int .i64 n.eqs[j].right.num, .slice rA n.eqs[j].right.k rc, .int .i64 n.eqs[j].right.line, .int .i64 n.eqs[j].right.col, .int .i64 n.eqs[j].line, .int .i64 n.eqs[j].col] 79)).heap[wr.heap.size]? = some (.cells #[.slice (some ⟨lb, lo, none⟩) n.eqs[j].left.length sc, .int .i64 n.eqs[j].right.op, .string n.eqs[j].right.name, .int .i64 n.eqs[j].right.num, .slice rA n.eqs[j].right.k rc, .int .i64 n.eqs[j].right.line, .int .i64 n.eqs[j].right.col, .int .i64 n.eqs[j].line, .int .i64 n.eqs[j].col] 79 (0, 0)) := World.alloc_heap_new wr _
            have hJ0 : Below w.heap.size wr (wr.alloc (.cells #[.slice (some ⟨lb, lo, none⟩) n.eqs[j].left.length sc, .int .i64 n.eqs[j].right.op, .string n.eqs[j].right.name, .int .i64 n.eqs[j].right.num, .slice rA n.eqs[j].right.k rc, .int .i64 n.eqs[j].right.line, .int .i64 n.eqs[j].right.col, .int .i64 n.eqs[j].line, .int .i64 n.eqs[j].col] 79)) := (Below.refl _ _).alloc hzr _
            have hX1 : (wr.alloc (.cells #[.slice (some ⟨lb, lo, none⟩) n.eqs[j].left.length sc, .int .i64 n.eqs[j].right.op, .string n.eqs[j].right.name, .int .i64 n.eqs[j].right.num, .slice rA n.eqs[j].right.k rc, .int .i64 n.eqs[j].right.line, .int .i64 n.eqs[j].right.col, .int .i64 n.eqs[j].line, .int .i64 n.eqs[j].col] 79)).heap[w.heap.size]? = _ := (((Below.refl wr.heap.size wr).alloc (Nat.le_refl _) _).block _ hzl).trans hX
            clear hcells hin hin' hll hxw hsl hl0 hrr hrok hstr hUs
            unfold Sl.v at e0
            have s0 := (HST.out _ hJ0 0 (by omega)).1
            have s0l := (HST.out _ hJ0 0 (by omega)).2
            simp only [Nat.add_zero] at s0
            go_wp2_with fail
            clear e0 e1 e2 e3 e4 e5 e6 e7 e8 c4
            generalize hWEg : wr.alloc (.cells #[.slice (some ⟨lb, lo, none⟩) n.eqs[j].left.length sc, .int .i64 n.eqs[j].right.op, .string n.eqs[j].right.name, .int .i64 n.eqs[j].right.num, .slice rA n.eqs[j].right.k rc, .int .i64 n.eqs[j].right.line, .int .i64 n.eqs[j].right.col, .int .i64 n.eqs[j].line, .int .i64 n.eqs[j].col] 79) = WE at *
            have hz2 : wr.heap.size < WE.heap.size := heap_lt hY0
            have HWE := hid hWEg
            clear hWEg s0
            have y0 : WE.cell? ⟨wr.heap.size, 0, none⟩ = some (.slice (some ⟨lb, lo, none⟩) n.eqs[j].left.length sc) := Lib.cell_of_heap hY0 0
            go_loop [7, 8] (fun s i => ∃ k : Nat, 1 ≤ k ∧ k ≤ n.eqs[j].left.length ∧ i = .int .i64 k ∧ s = .string ⟨(sepTo [44, 32] (atL (fun x : ByteArray => x.data.toList) n.eqs[j].left) k).toArray⟩) (fun _ i => n.eqs[j].left.length - (intOf i).toNat)
            case atStart => exact ⟨1, by omega, by omega, rfl, congrArg Value.string (ba_ext (by rw [sepL_one [44, 32] _ (show 0 < n.eqs[j].left.length by omega)]))⟩
            case round =>
              obtain ⟨k, hk1, hk, rfl, rfl⟩ := hrel
              obtain ⟨L, hL, hLs⟩ := some_text (sepTo [44, 32] (atL (fun x : ByteArray => x.data.toList) n.eqs[j].left) k)
              rw [← hL]
              have HL := hid hL
              clear hL
              by_cases hltk : k < n.eqs[j].left.length
              · have sk := (HST.out _ hJ0 k hltk).1
                have skl := (HST.out _ hJ0 k hltk).2
                have hsm := sep_le2 [44, 32] (fun x : ByteArray => x.data.toList) n.eqs[j].left hltk (by omega)
                have hsk := sepL_more [44, 32] (fun x : ByteArray => x.data.toList) hltk (by omega)
                unfold namesTxt at hnl
                simp only [List.length_cons, List.length_nil] at hsm
                have HSK := hid hsk
                clear hsk
                go_wp2_with fail
                go_round
                case rel => exact ⟨k + 1, by omega, by omega, by go_num, congrArg Value.string (ba_ext (by rw [HSK.out, HL.out]; simp))⟩
                case measure => simp [intOf]; omega
              · have : k = n.eqs[j].left.length := by omega
                subst this
                have y1 : WE.cell? ⟨wr.heap.size, 1, none⟩ = some (.int .i64 n.eqs[j].right.op) := Lib.cell_of_heap hY0 1
                have y2 : WE.cell? ⟨wr.heap.size, 2, none⟩ = some (.string n.eqs[j].right.name) := Lib.cell_of_heap hY0 2
                have y3 : WE.cell? ⟨wr.heap.size, 3, none⟩ = some (.int .i64 n.eqs[j].right.num) := Lib.cell_of_heap hY0 3
                have y4 : WE.cell? ⟨wr.heap.size, 4, none⟩ = some (.slice rA n.eqs[j].right.k rc) := Lib.cell_of_heap hY0 4
                have y5 : WE.cell? ⟨wr.heap.size, 5, none⟩ = some (.int .i64 n.eqs[j].right.line) := Lib.cell_of_heap hY0 5
                have y6 : WE.cell? ⟨wr.heap.size, 6, none⟩ = some (.int .i64 n.eqs[j].right.col) := Lib.cell_of_heap hY0 6
                have hLn : L = ⟨(namesTxt n.eqs[j].left).toArray⟩ := HL.out
                have HLN := hid hLn
                have hLs' : L.size ≤ (leftTxt n.eqs[j].left).length := by rw [hLn]; exact hnl
                have hxs := ba_size (n.eqs[j].right.txt 0)
                clear hLn hLs HL
                by_cases hmany : 1 < n.eqs[j].left.length
                · have hLT : leftTxt n.eqs[j].left = 40 :: (namesTxt n.eqs[j].left ++ [41]) := by unfold leftTxt; rw [if_pos hmany]
                  have hLs2 : L.size + 2 ≤ (leftTxt n.eqs[j].left).length := by rw [hLT, HLN.out]; simp only [List.length_cons, List.length_append, List.length_nil]; rw [ba_size]; omega
                  have HLT := hid hLT
                  clear hLT hLs'
                  go_wp2_with fail
                  clear y0 y1 y2 y3 y4 y5 y6
                  refine (HXW.out WE hJ0).mono ?_
                  rintro r w5 ⟨rfl, hb5⟩
                  go_wp2_with fail
                  go_roundw
                  case rel => exact ⟨j + 1, by omega, by go_num, congrArg Value.string (ba_ext (by rw [HS.out, HU.out, eqTxt_eq, HLT.out, HLN.out]; simp)), (hbr.trans hJ0).trans (hb5.mono (by omega)), (hb5.block _ (by omega)).trans hX1⟩
                  case measure => simp [intOf]; omega
                · have hLT : leftTxt n.eqs[j].left = namesTxt n.eqs[j].left := by unfold leftTxt; rw [if_neg hmany]
                  have hLs2 : L.size ≤ (leftTxt n.eqs[j].left).length := by rw [hLT, HLN.out]; rw [ba_size]; omega
                  have HLT := hid hLT
                  clear hLT hLs'
                  go_wp2_with fail
                  clear y0 y1 y2 y3 y4 y5 y6
                  refine (HXW.out WE hJ0).mono ?_
                  rintro r w5 ⟨rfl, hb5⟩
                  go_wp2_with fail
                  go_roundw
                  case rel => exact ⟨j + 1, by omega, by go_num, congrArg Value.string (ba_ext (by rw [HS.out, HU.out, eqTxt_eq, HLT.out, HLN.out]; simp)), (hbr.trans hJ0).trans (hb5.mono (by omega)), (hb5.block _ (by omega)).trans hX1⟩
                  case measure => simp [intOf]; omega
          · have : j = n.eqs.length := by omega
            subst this
            go_wp2_with fail
            go_ret
            exact ⟨ret_str (by rw [HU.out, HT0.out, node_parts]; simp), hbr⟩
  · have hnv : (nodeVars n).length = (sepTo [] (atL lineTxt n.vars) n.vars.length).length := by unfold nodeVars; rw [if_neg hv0]; rfl
    rw [hnv] at hlen
    go_wp2_with fail
    clear c3
    go_loopw [3, 4] (fun s i wr => ∃ j : Nat, j ≤ n.vars.length ∧ i = .int .i64 j ∧ s = .string ⟨(nodeHead n ++ (([] : List UInt8) ++ sepTo [] (atL lineTxt n.vars) j)).toArray⟩ ∧ Below w.heap.size w wr ∧ wr.heap[w.heap.size]? = some (.cells #[.string n.name, .slice iA n.ins.length ic, .slice oA n.outs.length oc, .slice vA n.vars.length vc, .slice eA n.eqs.length ec, .int .i64 n.line, .int .i64 n.col] 61 (0, 0))) (fun _ i _ => n.vars.length - (intOf i).toNat)
    case atStart => exact ⟨0, by omega, rfl, congrArg Value.string (ba_ext (by unfold nodeHead; simp [sepTo_zero])), hb2, hX2⟩
    case round =>
      clear hb2 hX2
      obtain ⟨j, hj, rfl, rfl, hbr, hX⟩ := hrel
      have hzr := hbr.size
      have hzl := heap_lt hX
      have c3 : wr.cell? ⟨w.heap.size, 3, none⟩ = some (.slice vA n.vars.length vc) := Lib.cell_of_heap hX 3
      obtain ⟨Q, hQ, hQs⟩ := some_text (nodeHead n ++ (([] : List UInt8) ++ sepTo [] (atL lineTxt n.vars) j))
      rw [← hQ]
      have HQQ := hid hQ
      clear hQ
      by_cases hlt : j < n.vars.length
      · exfalso; omega
      · have : j = n.vars.length := by omega
        subst this
        have hQv : Q = ⟨(nodeHead n ++ nodeVars n).toArray⟩ := by rw [HQQ.out]; unfold nodeVars; rw [if_neg hv0]
        have hQb : Q.size ≤ 140737488355000 - (8 + (sepTo [] (atL eqTxt n.eqs) n.eqs.length).length) := by rw [hQs]; simp only [List.length_append, List.length_nil]; omega
        have HQV := hid hQv
        have c4 : wr.cell? ⟨w.heap.size, 4, none⟩ = some (.slice eA n.eqs.length ec) := Lib.cell_of_heap hX 4
        clear hQs hQv HQQ hlt hj
        go_wp2_with fail
        clear c3 c4
        obtain ⟨wa, rfl⟩ : ∃ wa : World, wa = wr := ⟨_, rfl⟩
        obtain ⟨T0, hT0⟩ : ∃ T0, T0 = nodeHead n ++ (nodeVars n ++ [108, 101, 116, 10]) := ⟨_, rfl⟩
        have hT0l : T0.length + ((sepTo [] (atL eqTxt n.eqs) n.eqs.length).length + 4) ≤ 140737488355000 := by rw [hT0]; simp only [List.length_append, List.length_cons, List.length_nil]; rw [node_parts] at hlen0; simp only [List.length_append, List.length_cons, List.length_nil] at hlen0; omega
        have HT0 := hid hT0
        go_loopw [3, 5, 6, 7, 8] (fun s i _ _ _ wq => ∃ j : Nat, j ≤ n.eqs.length ∧ i = .int .i64 j ∧ s = .string ⟨(T0 ++ sepTo [] (atL eqTxt n.eqs) j).toArray⟩ ∧ Below w.heap.size w wq ∧ wq.heap[w.heap.size]? = some (.cells #[.string n.name, .slice iA n.ins.length ic, .slice oA n.outs.length oc, .slice vA n.vars.length vc, .slice eA n.eqs.length ec, .int .i64 n.line, .int .i64 n.col] 61 (0, 0))) (fun _ i _ _ _ _ => n.eqs.length - (intOf i).toNat)
        case atStart => exact ⟨0, by omega, rfl, congrArg Value.string (ba_ext (by rw [HQV.out, HT0.out]; simp [sepTo_zero])), hbr, hX⟩
        case round =>
          clear hbr hX hzr hzl
          obtain ⟨j, hj, rfl, rfl, hbr, hX⟩ := hrel
          have hzr := hbr.size
          have hzl := heap_lt hX
          have c4 : wr.cell? ⟨w.heap.size, 4, none⟩ = some (.slice eA n.eqs.length ec) := Lib.cell_of_heap hX 4
          obtain ⟨U, hU, hUs⟩ := some_text (T0 ++ sepTo [] (atL eqTxt n.eqs) j)
          rw [← hU]
          have HU := hid hU
          clear hU
          by_cases hlt : j < n.eqs.length
          · obtain ⟨b', o, hA, hb', S, rA, rc, hcells, hin⟩ := HN.out.eqs j hlt
            simp only at hA
            subst hA
            obtain ⟨sA, sc⟩ := S
            have hcells' := hcells.keep (w' := wr) fun i => hbr.cell (p := ⟨b', i, none⟩) (by simp; omega)
            have hin' := hin.keep (same_below (Nat.le_refl _) hbr)
            obtain ⟨e0, e1, e2, e3, e4, e5, e6, e7, e8⟩ := hcells'
            have hqj := HQ.out j hlt
            unfold eqB at hqj
            simp only [Bool.and_eq_true, decide_eq_true_eq] at hqj
            obtain ⟨⟨⟨_, hl1⟩, hl8⟩, hrr⟩ := hqj
            have hrok := ok_of_right hin'.right hrr
            have hle := sep_le [] eqTxt n.eqs hlt
            have hll : (eqTxt n.eqs[j]).length = (leftTxt n.eqs[j].left).length + (n.eqs[j].right.txt 0).length + 7 := by unfold eqTxt; simp only [List.length_append, List.length_cons, List.length_nil]; omega
            rw [hll] at hle
            have hnl := left_len n.eqs[j].left
            have hUb : U.size ≤ T0.length + (sepTo [] (atL eqTxt n.eqs) j).length := by rw [hUs, List.length_append]; omega
            obtain ⟨lb, lo, hlA, hl0⟩ := hin'.left 0 (by omega)
            simp only at hlA
            subst hlA
            have hstr : ∀ W, Below w.heap.size wr W → ∀ (i : Nat) (h : i < n.eqs[j].left.length), W.cell? ⟨lb, lo + i, none⟩ = some (.string n.eqs[j].left[i]) ∧ n.eqs[j].left[i].size ≤ 140737488355000 := fun W h i hi => by
              obtain ⟨b2, o2, hA2, hs2⟩ := hin'.left i hi
              injection hA2 with hA2
              injection hA2 with e1 e2
              subst e1 e2
              refine ⟨?_, ?_⟩
              · rw [h.cell (p := ⟨lb, lo + i, none⟩) hl0.1]
                simpa using hs2.2.2
              · have := sep_le [44, 32] (fun x : ByteArray => x.data.toList) n.eqs[j].left hi
                unfold namesTxt at hnl
                rw [bytes_len] at this
                omega
            have hxw := fun W (h : Below w.heap.size wr W) => rexpr_wr n.eqs[j].right hrok w.heap.size rA rc 0 W (ExAt.keep (same_below (Nat.le_refl _) h) _ _ _ hin'.right) hrok (Nat.le_trans hzr h.size) (by omega) (by omega) (by omega)
            unfold Ex.val at hxw
            have HXW := hid hxw
            have HST := hid hstr
            have hsl := sepL_flat eqTxt hlt
            have HS := hid hsl
            have hY0 : (wr.alloc (.cells #[.slice (some ⟨lb, lo, none⟩) n.eqs[j].left.length sc, .int .i64 n.eqs[j].right.op, .string n.eqs[j].right.name, .int .i64 n.eqs[j].right.num, .slice rA n.eqs[j].right.k rc, .int .i64 n.eqs[j].right.line, .int .i64 n.eqs[j].right.col, .int .i64 n.eqs[j].line, .int .i64 n.eqs[j].col] 79)).heap[wr.heap.size]? = some (.cells #[.slice (some ⟨lb, lo, none⟩) n.eqs[j].left.length sc, .int .i64 n.eqs[j].right.op, .string n.eqs[j].right.name, .int .i64 n.eqs[j].right.num, .slice rA n.eqs[j].right.k rc, .int .i64 n.eqs[j].right.line, .int .i64 n.eqs[j].right.col, .int .i64 n.eqs[j].line, .int .i64 n.eqs[j].col] 79 (0, 0)) := World.alloc_heap_new wr _
            have hJ0 : Below w.heap.size wr (wr.alloc (.cells #[.slice (some ⟨lb, lo, none⟩) n.eqs[j].left.length sc, .int .i64 n.eqs[j].right.op, .string n.eqs[j].right.name, .int .i64 n.eqs[j].right.num, .slice rA n.eqs[j].right.k rc, .int .i64 n.eqs[j].right.line, .int .i64 n.eqs[j].right.col, .int .i64 n.eqs[j].line, .int .i64 n.eqs[j].col] 79)) := (Below.refl _ _).alloc hzr _
            have hX1 : (wr.alloc (.cells #[.slice (some ⟨lb, lo, none⟩) n.eqs[j].left.length sc, .int .i64 n.eqs[j].right.op, .string n.eqs[j].right.name, .int .i64 n.eqs[j].right.num, .slice rA n.eqs[j].right.k rc, .int .i64 n.eqs[j].right.line, .int .i64 n.eqs[j].right.col, .int .i64 n.eqs[j].line, .int .i64 n.eqs[j].col] 79)).heap[w.heap.size]? = _ := (((Below.refl wr.heap.size wr).alloc (Nat.le_refl _) _).block _ hzl).trans hX
            clear hcells hin hin' hll hxw hsl hl0 hrr hrok hstr hUs
            unfold Sl.v at e0
            have s0 := (HST.out _ hJ0 0 (by omega)).1
            have s0l := (HST.out _ hJ0 0 (by omega)).2
            simp only [Nat.add_zero] at s0
            go_wp2_with fail
            clear e0 e1 e2 e3 e4 e5 e6 e7 e8 c4
            generalize hWEg : wr.alloc (.cells #[.slice (some ⟨lb, lo, none⟩) n.eqs[j].left.length sc, .int .i64 n.eqs[j].right.op, .string n.eqs[j].right.name, .int .i64 n.eqs[j].right.num, .slice rA n.eqs[j].right.k rc, .int .i64 n.eqs[j].right.line, .int .i64 n.eqs[j].right.col, .int .i64 n.eqs[j].line, .int .i64 n.eqs[j].col] 79) = WE at *
            have hz2 : wr.heap.size < WE.heap.size := heap_lt hY0
            have HWE := hid hWEg
            clear hWEg s0
            have y0 : WE.cell? ⟨wr.heap.size, 0, none⟩ = some (.slice (some ⟨lb, lo, none⟩) n.eqs[j].left.length sc) := Lib.cell_of_heap hY0 0
            go_loop [7, 8] (fun s i => ∃ k : Nat, 1 ≤ k ∧ k ≤ n.eqs[j].left.length ∧ i = .int .i64 k ∧ s = .string ⟨(sepTo [44, 32] (atL (fun x : ByteArray => x.data.toList) n.eqs[j].left) k).toArray⟩) (fun _ i => n.eqs[j].left.length - (intOf i).toNat)
            case atStart => exact ⟨1, by omega, by omega, rfl, congrArg Value.string (ba_ext (by rw [sepL_one [44, 32] _ (show 0 < n.eqs[j].left.length by omega)]))⟩
            case round =>
              obtain ⟨k, hk1, hk, rfl, rfl⟩ := hrel
              obtain ⟨L, hL, hLs⟩ := some_text (sepTo [44, 32] (atL (fun x : ByteArray => x.data.toList) n.eqs[j].left) k)
              rw [← hL]
              have HL := hid hL
              clear hL
              by_cases hltk : k < n.eqs[j].left.length
              · have sk := (HST.out _ hJ0 k hltk).1
                have skl := (HST.out _ hJ0 k hltk).2
                have hsm := sep_le2 [44, 32] (fun x : ByteArray => x.data.toList) n.eqs[j].left hltk (by omega)
                have hsk := sepL_more [44, 32] (fun x : ByteArray => x.data.toList) hltk (by omega)
                unfold namesTxt at hnl
                simp only [List.length_cons, List.length_nil] at hsm
                have HSK := hid hsk
                clear hsk
                go_wp2_with fail
                go_round
                case rel => exact ⟨k + 1, by omega, by omega, by go_num, congrArg Value.string (ba_ext (by rw [HSK.out, HL.out]; simp))⟩
                case measure => simp [intOf]; omega
              · have : k = n.eqs[j].left.length := by omega
                subst this
                have y1 : WE.cell? ⟨wr.heap.size, 1, none⟩ = some (.int .i64 n.eqs[j].right.op) := Lib.cell_of_heap hY0 1
                have y2 : WE.cell? ⟨wr.heap.size, 2, none⟩ = some (.string n.eqs[j].right.name) := Lib.cell_of_heap hY0 2
                have y3 : WE.cell? ⟨wr.heap.size, 3, none⟩ = some (.int .i64 n.eqs[j].right.num) := Lib.cell_of_heap hY0 3
                have y4 : WE.cell? ⟨wr.heap.size, 4, none⟩ = some (.slice rA n.eqs[j].right.k rc) := Lib.cell_of_heap hY0 4
                have y5 : WE.cell? ⟨wr.heap.size, 5, none⟩ = some (.int .i64 n.eqs[j].right.line) := Lib.cell_of_heap hY0 5
                have y6 : WE.cell? ⟨wr.heap.size, 6, none⟩ = some (.int .i64 n.eqs[j].right.col) := Lib.cell_of_heap hY0 6
                have hLn : L = ⟨(namesTxt n.eqs[j].left).toArray⟩ := HL.out
                have HLN := hid hLn
                have hLs' : L.size ≤ (leftTxt n.eqs[j].left).length := by rw [hLn]; exact hnl
                have hxs := ba_size (n.eqs[j].right.txt 0)
                clear hLn hLs HL
                by_cases hmany : 1 < n.eqs[j].left.length
                · have hLT : leftTxt n.eqs[j].left = 40 :: (namesTxt n.eqs[j].left ++ [41]) := by unfold leftTxt; rw [if_pos hmany]
                  have hLs2 : L.size + 2 ≤ (leftTxt n.eqs[j].left).length := by rw [hLT, HLN.out]; simp only [List.length_cons, List.length_append, List.length_nil]; rw [ba_size]; omega
                  have HLT := hid hLT
                  clear hLT hLs'
                  go_wp2_with fail
                  clear y0 y1 y2 y3 y4 y5 y6
                  refine (HXW.out WE hJ0).mono ?_
                  rintro r w5 ⟨rfl, hb5⟩
                  go_wp2_with fail
                  go_roundw
                  case rel => exact ⟨j + 1, by omega, by go_num, congrArg Value.string (ba_ext (by rw [HS.out, HU.out, eqTxt_eq, HLT.out, HLN.out]; simp)), (hbr.trans hJ0).trans (hb5.mono (by omega)), (hb5.block _ (by omega)).trans hX1⟩
                  case measure => simp [intOf]; omega
                · have hLT : leftTxt n.eqs[j].left = namesTxt n.eqs[j].left := by unfold leftTxt; rw [if_neg hmany]
                  have hLs2 : L.size ≤ (leftTxt n.eqs[j].left).length := by rw [hLT, HLN.out]; rw [ba_size]; omega
                  have HLT := hid hLT
                  clear hLT hLs'
                  go_wp2_with fail
                  clear y0 y1 y2 y3 y4 y5 y6
                  refine (HXW.out WE hJ0).mono ?_
                  rintro r w5 ⟨rfl, hb5⟩
                  go_wp2_with fail
                  go_roundw
                  case rel => exact ⟨j + 1, by omega, by go_num, congrArg Value.string (ba_ext (by rw [HS.out, HU.out, eqTxt_eq, HLT.out, HLN.out]; simp)), (hbr.trans hJ0).trans (hb5.mono (by omega)), (hb5.block _ (by omega)).trans hX1⟩
                  case measure => simp [intOf]; omega
          · have : j = n.eqs.length := by omega
            subst this
            go_wp2_with fail
            go_ret
            exact ⟨ret_str (by rw [HU.out, HT0.out, node_parts]; simp), hbr⟩
end Go.Proofs.YtnlikhjmmnaknaaGreatDoor
/-
  The walks of the reference's Text and Source: the same text.
-/
namespace Go.Proofs.YtnlikhjmmnaknaaGreatDoor
open Go.RowKit Go.Sort

set_option maxHeartbeats 4000000 in
theorem rtext_wr (s : List NodeE) (S : Sl) (B : Nat) (w : World) (hs : SrcIs B w s S) (hB : B ≤ w.heap.size) (hall : s.all nodeB = true) (h16 : s.length ≤ 16) (hlen : (srcTxt s).length ≤ 140737488355000) :
    Calls Tryz.prog 11 #[srcVal s S] w fun r w' => r = .returned (.string ⟨(srcTxt s).toArray⟩) ∧ Below w.heap.size w w' := by
  obtain ⟨A, cap⟩ := S
  have hs' := hs.more hB
  have HS' := hid hs'
  have HAL := hid (fun j (h : j < s.length) => all_at hall j h)
  have hb0 : Below w.heap.size w (w.alloc (.cells #[.slice A s.length cap] 25)) := (Below.refl _ _).alloc (Nat.le_refl _) _
  have hX0 : (w.alloc (.cells #[.slice A s.length cap] 25)).heap[w.heap.size]? = some (.cells #[.slice A s.length cap] 25 (0, 0)) := World.alloc_heap_new w _
  clear hs hs' hall
  unfold srcVal Sl.v
  unfold srcTxt at hlen ⊢
  simp only
  go_enter Tryz.func11, Tryz.ntmps11
  go_wp2_with fail
  generalize w.alloc (.cells #[.slice A s.length cap] 25) = V at *
  go_loopw [3, 4] (fun t i wr => ∃ j : Nat, j ≤ s.length ∧ i = .int .i64 j ∧ t = .string ⟨(sepTo [10] (atL nodeTxt s) j).toArray⟩ ∧ Below w.heap.size w wr ∧ wr.heap[w.heap.size]? = some (.cells #[.slice A s.length cap] 25 (0, 0))) (fun _ i _ => s.length - (intOf i).toNat)
  case atStart => exact ⟨0, by omega, rfl, rfl, hb0, hX0⟩
  case round =>
    clear hb0 hX0
    obtain ⟨j, hj, rfl, rfl, hbr, hX⟩ := hrel
    have hzr := hbr.size
    have hzl := heap_lt hX
    have x0 : wr.cell? ⟨w.heap.size, 0, none⟩ = some (.slice A s.length cap) := Lib.cell_of_heap hX 0
    obtain ⟨Q, hQ, hQs⟩ := some_text (sepTo [10] (atL nodeTxt s) j)
    rw [← hQ]
    have HQ := hid hQ
    clear hQ
    by_cases hlt : j < s.length
    · obtain ⟨b', o, hA, hb', S, hcells, hin⟩ := (HS'.out.keep (same_below (Nat.le_refl _) hbr)).nodes j hlt
      simp only at hA
      subst hA
      obtain ⟨⟨iA, ic⟩, ⟨oA, oc⟩, ⟨vA, vc⟩, ⟨eA, ec⟩⟩ := S
      obtain ⟨c0, c1, c2, c3, c4, c5, c6⟩ := hcells
      unfold Sl.v at c1 c2 c3 c4
      simp only at c1 c2 c3 c4
      have hle := sep_le [10] nodeTxt s hlt
      have hnw := rnode_wr s[j] ⟨⟨iA, ic⟩, ⟨oA, oc⟩, ⟨vA, vc⟩, ⟨eA, ec⟩⟩ w.heap.size wr hin (HAL.out j hlt) hzr (by omega)
      unfold NodeE.val Sl.v at hnw
      have HNW := hid hnw
      have hvs := ba_size (nodeTxt s[j])
      have hQb : Q.size ≤ (sepTo [10] (atL nodeTxt s) j).length := by omega
      clear hin hnw hQs
      by_cases h0 : 0 < j
      · have hsl := sepL_more [10] nodeTxt hlt h0
        have HSL := hid hsl
        clear hsl
        go_wp2_with fail
        clear c0 c1 c2 c3 c4 c5 c6 x0
        refine HNW.out.mono ?_
        rintro r w1 ⟨rfl, hb1⟩
        go_wp2_with fail
        go_roundw
        case rel => exact ⟨j + 1, by omega, by go_num, congrArg Value.string (ba_ext (by rw [HSL.out, HQ.out]; simp)), hbr.trans (hb1.mono hzr), (hb1.block _ hzl).trans hX⟩
        case measure => simp [intOf]; omega
      · obtain rfl : j = 0 := by omega
        have hsl := sepL_one [10] nodeTxt hlt
        have HSL := hid hsl
        clear hsl
        simp only [Nat.zero_mul, Nat.add_zero] at c0 c1 c2 c3 c4 c5 c6
        go_wp2_with fail
        clear c0 c1 c2 c3 c4 c5 c6 x0
        refine HNW.out.mono ?_
        rintro r w1 ⟨rfl, hb1⟩
        go_wp2_with fail
        go_roundw
        case rel => exact ⟨1, by omega, by go_num, congrArg Value.string (ba_ext (by rw [HSL.out, HQ.out]; simp [sepTo_zero])), hbr.trans (hb1.mono hzr), (hb1.block _ hzl).trans hX⟩
        case measure => simp [intOf]; omega
    · have : j = s.length := by omega
      subst this
      go_wp2_with fail
      go_ret
      exact ⟨ret_str (by rw [HQ.out]), hbr⟩

end Go.Proofs.YtnlikhjmmnaknaaGreatDoor
