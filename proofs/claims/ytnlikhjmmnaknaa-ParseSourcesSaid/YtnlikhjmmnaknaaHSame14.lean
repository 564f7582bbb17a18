/-
  The walks of the reference's vars and Same, where both sources are one.
-/
import Derived.Test.YtnlikhjmmnaknaaHPlaces
import Derived.Test.YtnlikhjmmnaknaaGW
import Derived.Test.YtnlikhjmmnaknaaGS
namespace Go.Proofs.Ytnlikhjmmnaknaa
open Go.RowKit

theorem blk1' {w : World} {T : Nat} {v0 : Value} {t : TypeId} (h : w.heap[T]? = some (.cells #[v0] t (0, 0))) : w.cell? ⟨T, 0, none⟩ = some v0 ∧ w.frozen? ⟨T, 0, none⟩ = false := ⟨Lib.cell_of_heap h 0, frozen_none h⟩
theorem strS_self (x : ByteArray) : strS x x = true := by unfold strS; simp
theorem litS_self (x : LitE) : litS x x = true := by unfold litS; rw [strS_self]; simp
theorem varS_self (x : VarE) : varS x x = true := by
  unfold varS
  rw [strS_self, zip_self (fun c _ => litS_self c)]; simp
theorem nodeS_self {B : Nat} {w : World} {n : NodeE} {S : NSl} (h : NodeIs B w n S) : nodeS n n = true := by
  unfold nodeS
  rw [strS_self, zip_self (fun v _ => varS_self v), zip_self (fun v _ => varS_self v), zip_self (fun v _ => varS_self v), zip_self (fun q hq => ?_)]
  · rfl
  · obtain ⟨j, hj, rfl⟩ := List.getElem_of_mem hq
    obtain ⟨b, o, _, hb, Sq, A, cap, _, hi⟩ := h.eqs j hj
    unfold eqnS
    rw [zip_self (fun x _ => strS_self x), same_self _ _ _ hi.right]; rfl
theorem src_self {B : Nat} {w : World} {xs : List NodeE} {S : Sl} (h : SrcIs B w xs S) : zipB nodeS xs xs = true :=
  zip_self fun n hn => by
    obtain ⟨j, hj, rfl⟩ := List.getElem_of_mem hn
    obtain ⟨b, o, _, _, Sn, _, hi⟩ := h.nodes j hj
    exact nodeS_self hi

set_option maxHeartbeats 4000000 in
set_option maxRecDepth 100000 in
theorem rvars_same (vs : List VarE) (A A' : Option Addr) (c c' : Nat) (n : Nat) (hn : vs.length = n) (B : Nat) (w : World) (hc : n ≤ c ∧ c ≤ maxLen) (hx : SlAt 5 (VarAt B w) A vs) (hy : SlAt 5 (VarAt B w) A' vs) (hB : B ≤ w.heap.size) :
    Calls Try.prog 28 #[.slice A n c, .slice A' n c'] w fun r w' => r = .returned (.bool true) ∧ Below w.heap.size w w' := by
  have hnm : (n : Int) ≤ 9223372036854775807 := by unfold maxLen at hc; omega
  go_enter Try.func28, Try.ntmps28
  go_wp2_with fail
  go_loopw [5] (fun i wr => ∃ j : Nat, j ≤ n ∧ i = .int .i64 j ∧ Below w.heap.size w wr) (fun i _ => n - (intOf i).toNat)
  case atStart => exact ⟨0, by omega, rfl, Below.refl _ _⟩
  case round =>
    obtain ⟨j, hj, rfl, hb⟩ := hrel
    by_cases hlt : j < n
    · obtain ⟨b1, o1, rfl, hb1, S1, hc1, -⟩ := hx j (by omega)
      obtain ⟨b2, o2, rfl, hb2, S2, hc2, -⟩ := hy j (by omega)
      have hk := same_below hB hb
      have x3 := (hk _ _ hb1).trans hc1.c3
      have x4 := (hk _ _ hb1).trans hc1.c4
      have y3 := (hk _ _ hb2).trans hc2.c3
      have y4 := (hk _ _ hb2).trans hc2.c4
      clear hc1 hc2 hk
      generalize (vs[j]'(by omega)).line = ln at *
      generalize (vs[j]'(by omega)).col = cl at *
      have hj0 : (0 : Int) ≤ (j : Int) := by omega
      have hj1 : (j : Int) < (n : Int) := by omega
      go_wp2_with fail
      go_region
      go_wp2_with fail
      go_roundw
      case rel => exact ⟨j + 1, by omega, by go_num, hb.drew⟩
      case measure => simp [intOf]; omega
    · have : j = n := by omega
      subst this
      go_wp2_with fail
      go_ret
      exact ⟨rfl, hb⟩

set_option maxHeartbeats 4000000 in
set_option maxRecDepth 100000 in
theorem rsame14_any (xs : List NodeE) (A A' : Option Addr) (c c' : Nat) (N : Nat) (hN : xs.length = N) (B : Nat) (w : World) (hx : SrcIs B w xs ⟨A, c⟩) (hy : SrcIs B w xs ⟨A', c'⟩) (hB : B ≤ w.heap.size) (hz : ∀ n ∈ xs, ∀ q ∈ n.eqs, q.right.size ≤ 1000000) :
    Calls Try.prog 11 #[.agg #[.slice A N c], .agg #[.slice A' N c']] w fun r w' => r = .returned (.bool true) ∧ Below w.heap.size w w' := by
  have heq := fun W (h : Below w.heap.size w W) => requal_any xs xs ⟨A, c⟩ ⟨A', c'⟩ B W (hx.keep (same_below hB h)) (hy.keep (same_below hB h)) (Nat.le_trans hB h.size)
  rw [src_self hx] at heq
  unfold srcVal Sl.v at heq
  rw [hN] at heq
  have HEQ := hid heq
  clear heq
  have hcN := hx.fits
  rw [hN] at hcN
  have hnm : (N : Int) ≤ 9223372036854775807 := by have := hcN.1; have := hcN.2; unfold maxLen at this; dsimp only at *; omega
  clear hcN
  go_enter Try.func11, Try.ntmps11
  have f_0 := Fr.start0 w
  go_wp2_with fail
  have f_1 := f_0.alloc (.cells #[.slice A N c] 37)
  have z_1 := alloc_size w (.cells #[.slice A N c] 37)
  clear f_0
  generalize hX : w.heap.size = X at *
  generalize w.alloc (.cells #[.slice A N c] 37) = W1 at *
  have f_2 := f_1.alloc (.cells #[.slice A' N c'] 37)
  clear f_1
  rw [← z_1]
  clear z_1
  generalize W1.heap.size = Y at *
  generalize W1.alloc (.cells #[.slice A' N c'] 37) = W2 at *
  subst hX
  refine (HEQ.out W2 f_2.low).mono ?_
  rintro r W3 ⟨rfl, hb⟩
  have f_3 := f_2.below hb
  clear hb f_2 HEQ
  go_wp2_with fail
  generalize hXX : w.heap.size = X at f_3 ⊢
  go_loopw [5] (fun i wr => ∃ j : Nat, j ≤ N ∧ i = .int .i64 j ∧ Fr none (fun _ => True) w wr [blkK Y (.cells #[.slice A' N c'] 37 (0, 0)), blkK X (.cells #[.slice A N c] 37 (0, 0))]) (fun i _ => N - (intOf i).toNat)
  case atStart => exact ⟨0, by omega, rfl, f_3⟩
  case round =>
    clear f_3
    obtain ⟨j, hj, rfl, f_4⟩ := hrel
    obtain ⟨y0, y1⟩ := blk1' f_4.blk
    obtain ⟨x0, x1⟩ := blk1' f_4.rot1.blk
    by_cases hlt : j < N
    · obtain ⟨b1, o1, hA1, hb1, Sn, hcn, hin⟩ := hx.nodes j (by omega)
      obtain ⟨b2, o2, hA2, hb2, Sm, hcm, him⟩ := hy.nodes j (by omega)
      have hzn := hz _ (List.getElem_mem (show j < xs.length by omega))
      generalize (xs[j]'(by omega)) = nd at *
      dsimp only at hA1 hA2
      subst hA1 hA2
      have hj0 : (0 : Int) ≤ (j : Int) := by omega
      have hj1 : (j : Int) < (N : Int) := by omega
      have hk := same_below hB f_4.low
      have p0 := (hk _ _ hb1).trans hcn.c0
      have p1 := (hk _ _ hb1).trans hcn.c1
      have p2 := (hk _ _ hb1).trans hcn.c2
      have p3 := (hk _ _ hb1).trans hcn.c3
      have p4 := (hk _ _ hb1).trans hcn.c4
      have p5 := (hk _ _ hb1).trans hcn.c5
      have p6 := (hk _ _ hb1).trans hcn.c6
      clear hk
      unfold Sl.v at p1 p2 p3 p4
      go_upto_region 7 with fail
      clear p0 p1 p2 p3 p4 p5 p6 x0 x1 y0 y1
      have f_5 := f_4.alloc (.cells #[.string nd.name, .slice Sn.i.A nd.ins.length Sn.i.cap, .slice Sn.o.A nd.outs.length Sn.o.cap, .slice Sn.v.A nd.vars.length Sn.v.cap, .slice Sn.e.A nd.eqs.length Sn.e.cap, .int .i64 nd.line, .int .i64 nd.col] 62)
      clear f_4
      generalize wr.heap.size = U at *
      generalize wr.alloc (.cells #[.string nd.name, .slice Sn.i.A nd.ins.length Sn.i.cap, .slice Sn.o.A nd.outs.length Sn.o.cap, .slice Sn.v.A nd.vars.length Sn.v.cap, .slice Sn.e.A nd.eqs.length Sn.e.cap, .int .i64 nd.line, .int .i64 nd.col] 62) = W5 at *
      obtain ⟨y0, y1⟩ := blk1' f_5.rot1.blk
      have hk := same_below hB f_5.low
      have p0 := (hk _ _ hb2).trans hcm.c0
      have p1 := (hk _ _ hb2).trans hcm.c1
      have p2 := (hk _ _ hb2).trans hcm.c2
      have p3 := (hk _ _ hb2).trans hcm.c3
      have p4 := (hk _ _ hb2).trans hcm.c4
      have p5 := (hk _ _ hb2).trans hcm.c5
      have p6 := (hk _ _ hb2).trans hcm.c6
      clear hk
      unfold Sl.v at p1 p2 p3 p4
      go_upto_region 8 with fail
      clear p0 p1 p2 p3 p4 p5 p6 y0 y1
      have f_6 := f_5.alloc (.cells #[.string nd.name, .slice Sm.i.A nd.ins.length Sm.i.cap, .slice Sm.o.A nd.outs.length Sm.o.cap, .slice Sm.v.A nd.vars.length Sm.v.cap, .slice Sm.e.A nd.eqs.length Sm.e.cap, .int .i64 nd.line, .int .i64 nd.col] 62)
      clear f_5
      generalize W5.heap.size = V at *
      generalize W5.alloc (.cells #[.string nd.name, .slice Sm.i.A nd.ins.length Sm.i.cap, .slice Sm.o.A nd.outs.length Sm.o.cap, .slice Sm.v.A nd.vars.length Sm.v.cap, .slice Sm.e.A nd.eqs.length Sm.e.cap, .int .i64 nd.line, .int .i64 nd.col] 62) = W6 at *
      have cv1 := fun W (h : Below w.heap.size w W) => rvars_same nd.ins Sn.i.A Sm.i.A Sn.i.cap Sm.i.cap _ rfl B W hin.fi (hin.ins.imp fun _ _ _ => VarAt.keep (same_below hB h)) (him.ins.imp fun _ _ _ => VarAt.keep (same_below hB h)) (Nat.le_trans hB h.size)
      have cv2 := fun W (h : Below w.heap.size w W) => rvars_same nd.outs Sn.o.A Sm.o.A Sn.o.cap Sm.o.cap _ rfl B W hin.fo (hin.outs.imp fun _ _ _ => VarAt.keep (same_below hB h)) (him.outs.imp fun _ _ _ => VarAt.keep (same_below hB h)) (Nat.le_trans hB h.size)
      have cv3 := fun W (h : Below w.heap.size w W) => rvars_same nd.vars Sn.v.A Sm.v.A Sn.v.cap Sm.v.cap _ rfl B W hin.fv (hin.vars.imp fun _ _ _ => VarAt.keep (same_below hB h)) (him.vars.imp fun _ _ _ => VarAt.keep (same_below hB h)) (Nat.le_trans hB h.size)
      replace cv1 := hid cv1
      replace cv2 := hid cv2
      replace cv3 := hid cv3
      have hfe := hin.fe
      have hqn := hin.eqs
      have hqm := him.eqs
      clear hin him hcn hcm
      obtain ⟨⟨Ai, ci⟩, ⟨Ao, co⟩, ⟨Av, cv⟩, ⟨Ae, ce⟩⟩ := Sn
      obtain ⟨⟨Bi, di⟩, ⟨Bo, do_⟩, ⟨Bv, dv⟩, ⟨Be, de⟩⟩ := Sm
      dsimp only at cv1 cv2 cv3 hqn hqm hfe f_6 ⊢
      obtain ⟨u0, u1, u2, u3, u4, u5, u6, -⟩ := blk7 f_6.rot1.blk
      obtain ⟨v0, v1, v2, v3, v4, v5, v6, -⟩ := blk7 f_6.blk
      go_wp2_with fail
      refine (cv1.out W6 f_6.low).mono ?_
      rintro r W7 ⟨rfl, hb⟩
      have f_7 := f_6.below hb
      clear hb f_6 u0 u1 u2 u3 u4 u5 u6 v0 v1 v2 v3 v4 v5 v6
      obtain ⟨u0, u1, u2, u3, u4, u5, u6, -⟩ := blk7 f_7.rot1.blk
      obtain ⟨v0, v1, v2, v3, v4, v5, v6, -⟩ := blk7 f_7.blk
      go_wp2_with fail
      refine (cv2.out W7 f_7.low).mono ?_
      rintro r W8 ⟨rfl, hb⟩
      have f_8 := f_7.below hb
      clear hb f_7 u0 u1 u2 u3 u4 u5 u6 v0 v1 v2 v3 v4 v5 v6
      obtain ⟨u0, u1, u2, u3, u4, u5, u6, -⟩ := blk7 f_8.rot1.blk
      obtain ⟨v0, v1, v2, v3, v4, v5, v6, -⟩ := blk7 f_8.blk
      go_wp2_with fail
      refine (cv3.out W8 f_8.low).mono ?_
      rintro r W9 ⟨rfl, hb⟩
      have f_9 := f_8.below hb
      clear hb f_8 u0 u1 u2 u3 u4 u5 u6 v0 v1 v2 v3 v4 v5 v6 cv1 cv2 cv3
      obtain ⟨M, hM⟩ : ∃ M, M = nd.eqs.length := ⟨_, rfl⟩
      rw [← hM] at f_9 hfe
      have hMm : (M : Int) ≤ 9223372036854775807 := by have h1 := hfe.1; have h2 := hfe.2; unfold maxLen at h2; dsimp only at h1 h2; omega
      go_wp2_with fail
      go_loopw [8] (fun i wr2 => ∃ k : Nat, k ≤ M ∧ i = .int .i64 k ∧ Fr none (fun _ => True) w wr2 [blkK V (.cells #[.string nd.name, .slice Bi nd.ins.length di, .slice Bo nd.outs.length do_, .slice Bv nd.vars.length dv, .slice Be M de, .int .i64 nd.line, .int .i64 nd.col] 62 (0, 0)), blkK U (.cells #[.string nd.name, .slice Ai nd.ins.length ci, .slice Ao nd.outs.length co, .slice Av nd.vars.length cv, .slice Ae M ce, .int .i64 nd.line, .int .i64 nd.col] 62 (0, 0)), blkK Y (.cells #[.slice (some ⟨b2, o2, none⟩) N c'] 37 (0, 0)), blkK X (.cells #[.slice (some ⟨b1, o1, none⟩) N c] 37 (0, 0))]) (fun i _ => M - (intOf i).toNat)
      case atStart => exact ⟨0, by omega, rfl, f_9⟩
      case round =>
        clear f_9
        obtain ⟨k, hk, rfl, f_10⟩ := hrel
        obtain ⟨u0, u1, u2, u3, u4, u5, u6, -⟩ := blk7 f_10.rot1.blk
        obtain ⟨v0, v1, v2, v3, v4, v5, v6, -⟩ := blk7 f_10.blk
        by_cases hlk : k < M
        · obtain ⟨b3, o3, hA3, hb3, Sq, Aq, cq, hcq, hiq⟩ := hqn k (by omega)
          obtain ⟨b4, o4, hA4, hb4, Sr, Ar, cr, hcr, hir⟩ := hqm k (by omega)
          have hzq := hzn _ (List.getElem_mem (show k < nd.eqs.length by omega))
          have hkb := same_below hB f_10.low
          have s1 := (hkb _ _ hb3).trans hcq.c1
          have s2 := (hkb _ _ hb3).trans hcq.c2
          have s3 := (hkb _ _ hb3).trans hcq.c3
          have s4 := (hkb _ _ hb3).trans hcq.c4
          have s5 := (hkb _ _ hb3).trans hcq.c5
          have s6 := (hkb _ _ hb3).trans hcq.c6
          have s7 := (hkb _ _ hb3).trans hcq.c7
          have s8 := (hkb _ _ hb3).trans hcq.c8
          have t1 := (hkb _ _ hb4).trans hcr.c1
          have t2 := (hkb _ _ hb4).trans hcr.c2
          have t3 := (hkb _ _ hb4).trans hcr.c3
          have t4 := (hkb _ _ hb4).trans hcr.c4
          have t5 := (hkb _ _ hb4).trans hcr.c5
          have t6 := (hkb _ _ hb4).trans hcr.c6
          have t7 := (hkb _ _ hb4).trans hcr.c7
          have t8 := (hkb _ _ hb4).trans hcr.c8
          have er1 := hiq.right
          have er2 := hir.right
          clear hcq hcr hkb hiq hir
          generalize (nd.eqs[k]'(by omega)) = q at *
          subst hA3 hA4
          have hk0 : (0 : Int) ≤ (k : Int) := by omega
          have hk1 : (k : Int) < (M : Int) := by omega
          have cpl := fun W (h : Below w.heap.size w W) => rplaces_same q.right B Aq Ar cq cr W (er1.below hB h) (er2.below hB h) (Nat.le_trans hB h.size) hzq
          replace cpl := hid cpl
          unfold Ex.val at cpl
          go_wp2_with fail
          go_still_tail 26, (by kernel_rfl)
          have f_11 := f_10.drew
          change wpList _ _ _ _ _ wr.drew
          clear f_10 s1 s2 s3 s4 s5 s6 s7 s8 t1 t2 t3 t4 t5 t6 t7 t8 u0 u1 u2 u3 u4 u5 u6 v0 v1 v2 v3 v4 v5 v6
          generalize wr.drew = W12 at *
          go_wp2_with fail
          refine (cpl.out W12 f_11.low).mono ?_
          rintro r W13 ⟨rfl, hb⟩
          have f_12 := f_11.below hb
          go_wp2_with fail
          go_roundw
          case rel => exact ⟨k + 1, by omega, by go_num, f_12⟩
          case measure => simp [intOf]; omega
        · have : k = M := by omega
          subst this
          go_wp2_with fail
          go_roundw
          case rel => exact ⟨j + 1, by omega, by go_num, f_10.tail.tail⟩
          case measure => simp [intOf]; omega
    · have : j = N := by omega
      subst this
      go_wp2_with fail
      go_ret
      exact ⟨rfl, hXX ▸ f_4.low⟩
end Go.Proofs.Ytnlikhjmmnaknaa
