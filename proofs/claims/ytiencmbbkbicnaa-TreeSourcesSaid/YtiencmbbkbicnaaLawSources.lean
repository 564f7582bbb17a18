/-
  The walk of the statement TreeSources.
-/
import Derived.Test.YtiencmbbkbicnaaSrcI
import Derived.Test.YtiencmbbkbicnaaSrcW2
namespace Go.Proofs.Ytiencmbbkbicnaa
open Go.RowKit Go.Sort

theorem strS_self (a : ByteArray) : strS a a = true := by simp [strS]
theorem litS_self (a : LitE) : litS a a = true := by simp [litS, strS_self]
theorem varS_self (a : VarE) : varS a a = true := by simp [varS, strS_self, zip_self (xs := a.clock) fun x _ => litS_self x]
theorem eqnS_self {a : EqE} (h : a.right.ok) : eqnS a a = true := by simp [eqnS, zip_self (xs := a.left) fun x _ => strS_self x, same_self _ h]
theorem nodeS_self {a : NodeE} (h : ∀ q ∈ a.eqs, q.right.ok) : nodeS a a = true := by
  simp [nodeS, strS_self, zip_self (xs := a.ins) fun x _ => varS_self x, zip_self (xs := a.outs) fun x _ => varS_self x, zip_self (xs := a.vars) fun x _ => varS_self x, zip_self (xs := a.eqs) fun x hx => eqnS_self (h x hx)]
theorem src_self {B : Nat} {w : World} {s : List NodeE} {S : Sl} (h : SrcIs B w s S) : zipB nodeS s s = true := by
  refine zip_self fun n hn => nodeS_self fun q hq => ?_
  obtain ⟨j, hj, rfl⟩ := List.getElem_of_mem hn
  obtain ⟨b, o, _, _, S1, _, hi⟩ := h.nodes j hj
  obtain ⟨k, hk, rfl⟩ := List.getElem_of_mem hq
  obtain ⟨_, _, _, _, S2, A, cap, _, hm⟩ := hi.eqs k hk
  exact ExAt.ok _ _ _ hm.right

set_option maxRecDepth 100000 in
set_option maxHeartbeats 4000000 in
theorem treeSources_any (a b : List NodeE) (S S' : Sl) (B : Nat) (w : World) (ha : SrcIs B w a S) (hb : SrcIs B w b S') (hB : B ≤ w.heap.size) :
    Calls Try.prog 10 #[srcVal a S, srcVal b S'] w fun r w' => r = .returned (.bool true) ∧ Below w.heap.size w w' := by
  have hself := src_self ha
  obtain ⟨W0, hW0⟩ : ∃ W0, W0 = ((w.alloc (.cells #[S.v a.length] 56)).alloc (.cells #[S'.v b.length] 56)) := ⟨_, rfl⟩
  have hb0 : Below w.heap.size w W0 := by rw [hW0]; exact ((Below.refl _ _).alloc (Nat.le_refl _) _).alloc (by simp) _
  have hz0 : w.heap.size + 1 < W0.heap.size := by rw [hW0]; simp
  have hx0 : W0.cell? ⟨w.heap.size, 0, none⟩ = some (S.v a.length) := by rw [hW0]; exact (boxed2_cell (Below.refl _ _) 0).1
  have hy0 : W0.cell? ⟨w.heap.size + 1, 0, none⟩ = some (S'.v b.length) := by rw [hW0]; exact (boxed2_cell (Below.refl _ _) 0).2
  have hk : ∀ W, Hind W0 W → Go.Proofs.Ytiencmbbkbicnaa.Same B w W := fun W h => same_below hB (hb0.trans (Below.mono h hb0.size))
  have hB' : ∀ W, Hind W0 W → B ≤ W.heap.size := fun W h => by have := Below.size h; omega
  have hf1 : ∀ W, Hind W0 W → Calls Try.prog 36 #[srcVal a S] W (FewP (∀ n ∈ a, n.few) W) := fun W h => fewNodes_any a S B W (ha.keep (hk W h)) (hB' W h)
  have hf2 : ∀ W, Hind W0 W → Calls Try.prog 36 #[srcVal b S'] W (FewP (∀ n ∈ b, n.few) W) := fun W h => fewNodes_any b S' B W (hb.keep (hk W h)) (hB' W h)
  have hs1 : (∀ n ∈ a, n.few) → ∀ W, Hind W0 W → Calls Try.prog 39 #[srcVal a S] W fun r w' => r = .returned (.bool (srcB a)) ∧ Below W.heap.size W w' := fun hw W h => source_any a S B W (ha.keep (hk W h)) (hB' W h) (fun n hn q hq => by have := ((hw n hn).2.2.2.2 q hq).2.1; omega)
  have hs2 : (∀ n ∈ a, n.few) → ∀ W, Hind W0 W → Calls Try.prog 40 #[srcVal a S] W fun r w' => r = .returned (.bool (srcB a)) ∧ Below W.heap.size W w' := fun hw W h => rsource_any a S B W (ha.keep (hk W h)) (hB' W h) hw
  have he1 : ∀ W, Hind W0 W → Calls Try.prog 41 #[srcVal a S, srcVal b S'] W fun r w' => r = .returned (.bool (zipB nodeS a b)) ∧ Below W.heap.size W w' := fun W h => cequal_any a b S S' B W (ha.keep (hk W h)) (hb.keep (hk W h)) (hB' W h)
  have he2 : ∀ W, Hind W0 W → Calls Try.prog 42 #[srcVal a S, srcVal b S'] W fun r w' => r = .returned (.bool (zipB nodeS a b)) ∧ Below W.heap.size W w' := fun W h => requal_any a b S S' B W (ha.keep (hk W h)) (hb.keep (hk W h)) (hB' W h)
  have he3 : ∀ W, Hind W0 W → Calls Try.prog 41 #[srcVal a S, srcVal a S] W fun r w' => r = .returned (.bool true) ∧ Below W.heap.size W w' := fun W h => by
    have := cequal_any a a S S B W (ha.keep (hk W h)) (ha.keep (hk W h)) (hB' W h)
    rwa [hself] at this
  obtain ⟨⟨hg1, hg2⟩, hnd⟩ := ha
  obtain ⟨A, cap⟩ := S
  obtain ⟨A', cap'⟩ := S'
  simp only [srcVal, Sl.v, maxLen] at *
  have hac : (a.length : Int) ≤ 9223372036854775807 := by omega
  have HND := hid hnd
  have HK := hid hk
  have HBB := hid hB'
  have HF1 := hid hf1
  have HF2 := hid hf2
  have HS1 := hid hs1
  have HS2 := hid hs2
  have HE1 := hid he1
  have HE2 := hid he2
  have HE3 := hid he3
  have HW0 := hid hW0
  have HX0 := hid hx0
  have HY0 := hid hy0
  unfold FewP at HF1 HF2
  clear hself hb hnd hk hB' hf1 hf2 hs1 hs2 he1 he2 he3 hW0 hx0 hy0 hg1 hg2
  go_enter Try.func10, Try.ntmps10
  go_wp2_with fail
  rw [← HW0.out]
  refine (awake12_any W0).mono ?_
  rintro r w1 ⟨rfl, hb1⟩
  have k1 : Hind W0 w1 := (Hind.refl W0).then hb1
  have z1 := (k1.cell (show w.heap.size < W0.heap.size by omega) 0).trans HX0.out
  go_wp2_with fail
  refine (HF1.out w1 k1).mono ?_
  rintro r w2 ⟨q1, rfl, hq1, hb2⟩
  have k2 := k1.then hb2
  cases q1
  · go_wp2_with fail
    go_ret
    exact ⟨rfl, hb0.trans (Below.mono k2 hb0.size)⟩
  · have y2 := (k2.cell hz0 0).trans HY0.out
    go_wp2_with fail
    refine (HF2.out w2 k2).mono ?_
    rintro r w3 ⟨q2, rfl, hq2, hb3⟩
    have k3 := k2.then hb3
    cases q2
    · go_wp2_with fail
      go_ret
      exact ⟨rfl, hb0.trans (Below.mono k3 hb0.size)⟩
    · have hfew : Hid (∀ n ∈ a, n.few) := by first | exact hq1 rfl | exact hq1 trivial
      have x3 := (k3.cell (show w.heap.size < W0.heap.size by omega) 0).trans HX0.out
      clear hq1 hq2 z1 y2 hb1 hb2 hb3
      go_wp2_with fail
      go_loopw [6, 20] (fun _ i wr => ∃ j : Nat, j ≤ a.length ∧ i = .int .i64 j ∧ Hind W0 wr) (fun _ i _ => a.length - (intOf i).toNat)
      case atStart => exact ⟨0, by omega, rfl, k3⟩
      case round =>
        obtain ⟨j, hj, rfl, kr⟩ := hrel
        have hmix : Try.prog.follows .mixedOrders = true := by kernel_rfl
        by_cases hlt : j < a.length
        · obtain ⟨g, o, rfl, hcx⟩ := HND.out j hlt
          have hfj := hfew.out a[j] (List.getElem_mem _)
          generalize a[j] = n at *
          obtain ⟨hgb, Sn, kn, mn⟩ := hcx.keep (HK.out wr kr)
          obtain ⟨c0, c1, c2, c3, c4, c5, c6⟩ := kn
          have hi0 : (0 : Int) ≤ (j : Int) := by omega
          have hi1 : (j : Int) < (a.length : Int) := by omega
          have hBr := HBB.out wr kr
          obtain ⟨V, hV⟩ : ∃ V, V = wr.alloc (.cells #[.string n.name, Sn.i.v n.ins.length, Sn.o.v n.outs.length, Sn.v.v n.vars.length, Sn.e.v n.eqs.length, .int .i64 n.line, .int .i64 n.col] 61) := ⟨_, rfl⟩
          have hbV : Below wr.heap.size wr V := by rw [hV]; exact (Below.refl _ _).alloc (Nat.le_refl _) _
          have hVx : ∀ i, V.cell? ⟨wr.heap.size, i, none⟩ = _ := fun i => by rw [hV, World.cell?_alloc_new]
          have v0 := hVx 0
          have v1 := hVx 1
          have v2 := hVx 2
          have v3 := hVx 3
          have v4 := hVx 4
          have v5 := hVx 5
          have v6 := hVx 6
          simp only [List.getElem?_toArray, List.getElem?_cons_zero, List.getElem?_cons_succ] at v0 v1 v2 v3 v4 v5 v6
          have kV := kr.then hbV
          have mV := mn.keep (same_below hBr hbV)
          have hzV := hbV.size
          have cN := fun d os => Calls.regrown_of (w := V) (d := d) (os := os) (node_any n Sn B (grow (redrawn V d) os) (mV.keep (same_below (by omega) (below_regrown V d os))) (by have := (below_regrown V d os).size; omega) (fun q hq => by have := (hfj.2.2.2.2 q hq).2.1; omega))
          have cR := fun d os => Calls.regrown_of (w := V) (d := d) (os := os) (rnode_any n Sn B (grow (redrawn V d) os) (mV.keep (same_below (by omega) (below_regrown V d os))) (by have := (below_regrown V d os).size; omega) hfj)
          have HV := hid hV
          simp only [NodeE.val, Sl.v] at *
          generalize nodeB n = nb at *
          clear hVx hV mV mn hcx hfj
          go_wp2_with fail
          rw [← HV.out]
          have w0 := cell_regrown v0
          have w1 := cell_regrown v1
          have w2 := cell_regrown v2
          have w3 := cell_regrown v3
          have w4 := cell_regrown v4
          have w5 := cell_regrown v5
          have w6 := cell_regrown v6
          clear v0 v1 v2 v3 v4 v5 v6 c0 c1 c2 c3 c4 c5 c6 HV
          refine wp_region_quiet_below hmix (by kernel_rfl) ?_
          repeat (quiet_step (first | (go_at_call 37; with_reducible exact cN _ _) | (go_at_call 38; with_reducible exact cR _ _)))
          refine wpQuiet_nil ?_
          intro _ hw'
          obtain ⟨⟨dq, osq⟩, hw''⟩ := hw'
          subst hw''
          have hzz : Hind V (grow (redrawn V dq) osq) := below_regrown V dq osq
          have kz := kV.then hzz
          generalize grow (redrawn V dq) osq = Wz at kz ⊢
          go_wp2_with fail
          go_roundw
          case rel => exact ⟨j + 1, by omega, by go_num, kz⟩
          case measure => simp [intOf]; omega
        · have : j = a.length := by omega
          subst this
          have x4 := (kr.cell (show w.heap.size < W0.heap.size by omega) 0).trans HX0.out
          have y4 := (kr.cell hz0 0).trans HY0.out
          have kd : ∀ d os, Hind W0 (grow (redrawn wr d) os) := fun d os => kr.then (below_regrown wr d os)
          have cS1 := fun d os => Calls.regrown_of (w := wr) (d := d) (os := os) (HS1.out hfew.out _ (kd d os))
          have cS2 := fun d os => Calls.regrown_of (w := wr) (d := d) (os := os) (HS2.out hfew.out _ (kd d os))
          have cE1 := fun d os => Calls.regrown_of (w := wr) (d := d) (os := os) (HE1.out _ (kd d os))
          have cE2 := fun d os => Calls.regrown_of (w := wr) (d := d) (os := os) (HE2.out _ (kd d os))
          have cE3 := fun d os => Calls.regrown_of (w := wr) (d := d) (os := os) (HE3.out _ (kd d os))
          generalize srcB a = sb at *
          generalize zipB nodeS a b = zb at *
          go_wp2_with fail
          have w0 := cell_regrown x4
          have w1 := cell_regrown y4
          clear x4 y4 x3 kd
          refine wp_region_quiet_below hmix (by kernel_rfl) ?_
          repeat (quiet_step (first | (go_at_call 39; with_reducible exact cS1 _ _) | (go_at_call 40; with_reducible exact cS2 _ _) | (go_at_call 41; with_reducible exact cE1 _ _) | (go_at_call 41; with_reducible exact cE3 _ _) | (go_at_call 42; with_reducible exact cE2 _ _)))
          refine wpQuiet_nil ?_
          intro _ hw'
          obtain ⟨⟨dq, osq⟩, hw''⟩ := hw'
          subst hw''
          have hzz : Hind wr (grow (redrawn wr dq) osq) := below_regrown wr dq osq
          have kz := kr.then hzz
          generalize grow (redrawn wr dq) osq = Wz at kz ⊢
          go_wp2_with fail
          go_ret
          exact ⟨rfl, hb0.trans (Below.mono kz hb0.size)⟩
end Go.Proofs.Ytiencmbbkbicnaa
