/-
  Equal of package tree: the closure over two nodes, and Equal itself.
-/
import Derived.Test.YtiencmbbkbicnaaSrcF2
import Derived.Test.YtiencmbbkbicnaaLawTells
namespace Go.Proofs.Ytiencmbbkbicnaa
open Go.RowKit

set_option maxHeartbeats 2000000 in
theorem equal1_any (x y : NodeE) (S S' : NSl) (B : Nat) (w : World) (hx : NodeIs B w x S) (hy : NodeIs B w y S') (hB : B ≤ w.heap.size) :
    Calls Try.prog 65 #[x.val S, y.val S'] w fun e w' => e = .returned (.bool (nodeS x y)) ∧ Below w.heap.size w w' := by
  obtain ⟨bx, hbx⟩ : ∃ bx : Array Value, bx = #[.string x.name, S.i.v x.ins.length, S.o.v x.outs.length, S.v.v x.vars.length, S.e.v x.eqs.length, .int .i64 x.line, .int .i64 x.col] := ⟨_, rfl⟩
  obtain ⟨bz, hbz⟩ : ∃ bz : Array Value, bz = #[.string y.name, S'.i.v y.ins.length, S'.o.v y.outs.length, S'.v.v y.vars.length, S'.e.v y.eqs.length, .int .i64 y.line, .int .i64 y.col] := ⟨_, rfl⟩
  obtain ⟨W0, hW0⟩ : ∃ W0, W0 = ((w.alloc (.cells bx 61)).alloc (.cells bz 61)) := ⟨_, rfl⟩
  have hb2 : Below w.heap.size w W0 := by rw [hW0]; exact ((Below.refl _ _).alloc (Nat.le_refl _) _).alloc (by simp) _
  have hz0 : w.heap.size + 1 < W0.heap.size := by rw [hW0]; simp
  have hz1 : w.heap.size < W0.heap.size := by omega
  have hxs : ∀ i, W0.cell? ⟨w.heap.size, i, none⟩ = bx[i]? := fun i => by rw [hW0]; exact (boxed2_cell (Below.refl _ _) i).1
  have hys : ∀ i, W0.cell? ⟨w.heap.size + 1, i, none⟩ = bz[i]? := fun i => by rw [hW0]; exact (boxed2_cell (Below.refl _ _) i).2
  have hall : ∀ W, Hind W0 W → W.cell? ⟨w.heap.size, 1, none⟩ = some (S.i.v x.ins.length) ∧ W.cell? ⟨w.heap.size, 2, none⟩ = some (S.o.v x.outs.length) ∧ W.cell? ⟨w.heap.size, 3, none⟩ = some (S.v.v x.vars.length) ∧ W.cell? ⟨w.heap.size, 4, none⟩ = some (S.e.v x.eqs.length) ∧
      W.cell? ⟨w.heap.size + 1, 1, none⟩ = some (S'.i.v y.ins.length) ∧ W.cell? ⟨w.heap.size + 1, 2, none⟩ = some (S'.o.v y.outs.length) ∧ W.cell? ⟨w.heap.size + 1, 3, none⟩ = some (S'.v.v y.vars.length) ∧ W.cell? ⟨w.heap.size + 1, 4, none⟩ = some (S'.e.v y.eqs.length) := fun W h => by
    refine ⟨?_, ?_, ?_, ?_, ?_, ?_, ?_, ?_⟩
    · rw [h.cell hz1, hxs, hbx]; rfl
    · rw [h.cell hz1, hxs, hbx]; rfl
    · rw [h.cell hz1, hxs, hbx]; rfl
    · rw [h.cell hz1, hxs, hbx]; rfl
    · rw [h.cell hz0, hys, hbz]; rfl
    · rw [h.cell hz0, hys, hbz]; rfl
    · rw [h.cell hz0, hys, hbz]; rfl
    · rw [h.cell hz0, hys, hbz]; rfl
  have hbW : ∀ W, Hind W0 W → Below w.heap.size w W := fun W h => hb2.trans (Below.mono h hb2.size)
  have hv1 : ∀ W, Hind W0 W → Calls Try.prog 66 #[S.i.v x.ins.length, S'.i.v y.ins.length] W fun r w' => r = .returned (.bool (zipB varS x.ins y.ins)) ∧ Hind W0 w' := fun W h =>
    (cvars_any x.ins y.ins S.i S'.i B W hx.fi hy.fi (hx.ins.imp fun _ _ _ => VarAt.keep (same_below hB (hbW W h))) (hy.ins.imp fun _ _ _ => VarAt.keep (same_below hB (hbW W h))) (Nat.le_trans hB (hbW W h).size)).mono fun r w' ⟨h1, h2⟩ => ⟨h1, h.then h2⟩
  have hv2 : ∀ W, Hind W0 W → Calls Try.prog 66 #[S.o.v x.outs.length, S'.o.v y.outs.length] W fun r w' => r = .returned (.bool (zipB varS x.outs y.outs)) ∧ Hind W0 w' := fun W h =>
    (cvars_any x.outs y.outs S.o S'.o B W hx.fo hy.fo (hx.outs.imp fun _ _ _ => VarAt.keep (same_below hB (hbW W h))) (hy.outs.imp fun _ _ _ => VarAt.keep (same_below hB (hbW W h))) (Nat.le_trans hB (hbW W h).size)).mono fun r w' ⟨h1, h2⟩ => ⟨h1, h.then h2⟩
  have hv3 : ∀ W, Hind W0 W → Calls Try.prog 66 #[S.v.v x.vars.length, S'.v.v y.vars.length] W fun r w' => r = .returned (.bool (zipB varS x.vars y.vars)) ∧ Hind W0 w' := fun W h =>
    (cvars_any x.vars y.vars S.v S'.v B W hx.fv hy.fv (hx.vars.imp fun _ _ _ => VarAt.keep (same_below hB (hbW W h))) (hy.vars.imp fun _ _ _ => VarAt.keep (same_below hB (hbW W h))) (Nat.le_trans hB (hbW W h).size)).mono fun r w' ⟨h1, h2⟩ => ⟨h1, h.then h2⟩
  have hv4 : ∀ W, Hind W0 W → Calls Try.prog 67 #[S.e.v x.eqs.length, S'.e.v y.eqs.length, .func (.func 68) #[] #[]] W fun r w' => r = .returned (.bool (zipB eqnS x.eqs y.eqs)) ∧ Hind W0 w' := fun W h =>
    (eqfEquation_any x.eqs y.eqs S.e S'.e B W hx.fe hy.fe (hx.eqs.imp fun _ _ _ => EqAt.keep (same_below hB (hbW W h))) (hy.eqs.imp fun _ _ _ => EqAt.keep (same_below hB (hbW W h))) (Nat.le_trans hB (hbW W h).size)).mono fun r w' ⟨h1, h2⟩ => ⟨h1, h.then h2⟩
  rw [hbx, hbz] at hW0
  clear hxs hys hbx hbz bx bz hx hy hb2
  have HW0 := hid hW0
  have HBW := hid hbW
  clear hW0 hbW
  obtain ⟨xn, x1, x2, x3, x4, xl, xc⟩ := x
  obtain ⟨yn, y1, y2, y3, y4, yl, yc⟩ := y
  simp only [NodeE.val, Sl.v] at *
  have HALL := hid hall
  have HV1 := hid hv1
  have HV2 := hid hv2
  have HV3 := hid hv3
  have HV4 := hid hv4
  clear hall hv1 hv2 hv3 hv4
  have HD : Hid (nodeS ⟨xn, x1, x2, x3, x4, xl, xc⟩ ⟨yn, y1, y2, y3, y4, yl, yc⟩ = (strS xn yn && zipB varS x1 y1 && zipB varS x2 y2 && zipB varS x3 y3 && zipB eqnS x4 y4)) := rfl
  cases h1 : (xn.toList == yn.toList)
  · have HS : Hid (nodeS ⟨xn, x1, x2, x3, x4, xl, xc⟩ ⟨yn, y1, y2, y3, y4, yl, yc⟩ = false) := by show _ = _; rw [HD.out, strS_eq, h1]; rfl
    go_enter Try.func65, Try.ntmps65
    go_wp2_with fail
    go_ret
    refine ⟨ret_bool HS.out.symm, ?_⟩
    rw [← HW0.out]
    exact HBW.out _ (Hind.refl W0)
  · cases q1 : zipB varS x1 y1
    · rw [q1] at HV1
      have HS : Hid (nodeS ⟨xn, x1, x2, x3, x4, xl, xc⟩ ⟨yn, y1, y2, y3, y4, yl, yc⟩ = false) := by show _ = _; rw [HD.out, strS_eq, h1, q1]; rfl
      go_enter Try.func65, Try.ntmps65
      go_wp2_with (first
        | (go_at_call 66; rw [← HW0.out]; with_reducible refine (HV1.out _ (Hind.refl W0)).mono ?_; rintro r w2 ⟨rfl, k2⟩; obtain ⟨a1, a2, a3, a4, b1, b2, b3, b4⟩ := HALL.out _ k2))
      go_ret
      exact ⟨ret_bool HS.out.symm, HBW.out _ k2⟩
    · rw [q1] at HV1
      cases q2 : zipB varS x2 y2
      · rw [q2] at HV2
        have HS : Hid (nodeS ⟨xn, x1, x2, x3, x4, xl, xc⟩ ⟨yn, y1, y2, y3, y4, yl, yc⟩ = false) := by show _ = _; rw [HD.out, strS_eq, h1, q1, q2]; rfl
        go_enter Try.func65, Try.ntmps65
        go_wp2_with (first
          | (go_at_call 66; rw [← HW0.out]; with_reducible refine (HV1.out _ (Hind.refl W0)).mono ?_; rintro r w2 ⟨rfl, k2⟩; obtain ⟨a1, a2, a3, a4, b1, b2, b3, b4⟩ := HALL.out _ k2)
          | (go_at_call 66; with_reducible refine (HV2.out _ k2).mono ?_; rintro r w3 ⟨rfl, k3⟩; obtain ⟨c1, c2, c3, c4, d1, d2, d3, d4⟩ := HALL.out _ k3))
        go_ret
        exact ⟨ret_bool HS.out.symm, HBW.out _ k3⟩
      · rw [q2] at HV2
        cases q3 : zipB varS x3 y3
        · rw [q3] at HV3
          have HS : Hid (nodeS ⟨xn, x1, x2, x3, x4, xl, xc⟩ ⟨yn, y1, y2, y3, y4, yl, yc⟩ = false) := by show _ = _; rw [HD.out, strS_eq, h1, q1, q2, q3]; rfl
          go_enter Try.func65, Try.ntmps65
          go_wp2_with (first
            | (go_at_call 66; rw [← HW0.out]; with_reducible refine (HV1.out _ (Hind.refl W0)).mono ?_; rintro r w2 ⟨rfl, k2⟩; obtain ⟨a1, a2, a3, a4, b1, b2, b3, b4⟩ := HALL.out _ k2)
            | (go_at_call 66; with_reducible refine (HV2.out _ k2).mono ?_; rintro r w3 ⟨rfl, k3⟩; obtain ⟨c1, c2, c3, c4, d1, d2, d3, d4⟩ := HALL.out _ k3)
            | (go_at_call 66; with_reducible refine (HV3.out _ k3).mono ?_; rintro r w4 ⟨rfl, k4⟩; obtain ⟨e1, e2, e3, e4, f1, f2, f3, f4⟩ := HALL.out _ k4))
          go_ret
          exact ⟨ret_bool HS.out.symm, HBW.out _ k4⟩
        · rw [q3] at HV3
          have HS : Hid (nodeS ⟨xn, x1, x2, x3, x4, xl, xc⟩ ⟨yn, y1, y2, y3, y4, yl, yc⟩ = zipB eqnS x4 y4) := by show _ = _; rw [HD.out, strS_eq, h1, q1, q2, q3]; rfl
          go_enter Try.func65, Try.ntmps65
          go_wp2_with (first
            | (go_at_call 66; rw [← HW0.out]; with_reducible refine (HV1.out _ (Hind.refl W0)).mono ?_; rintro r w2 ⟨rfl, k2⟩; obtain ⟨a1, a2, a3, a4, b1, b2, b3, b4⟩ := HALL.out _ k2)
            | (go_at_call 66; with_reducible refine (HV2.out _ k2).mono ?_; rintro r w3 ⟨rfl, k3⟩; obtain ⟨c1, c2, c3, c4, d1, d2, d3, d4⟩ := HALL.out _ k3)
            | (go_at_call 66; with_reducible refine (HV3.out _ k3).mono ?_; rintro r w4 ⟨rfl, k4⟩; obtain ⟨e1, e2, e3, e4, f1, f2, f3, f4⟩ := HALL.out _ k4)
            | (go_at_call 67; with_reducible refine (HV4.out _ k4).mono ?_; rintro r w5 ⟨rfl, k5⟩))
          go_ret
          exact ⟨ret_bool HS.out.symm, HBW.out _ k5⟩

set_option maxHeartbeats 2000000 in
theorem eqfNode_any (xs ys : List NodeE) (S S' : Sl) (B : Nat) (w : World) (hf : S.fits xs.length) (hf' : S'.fits ys.length) (hx : SlAt 7 (NodeAt B w) S.A xs) (hy : SlAt 7 (NodeAt B w) S'.A ys) (hB : B ≤ w.heap.size) :
    Calls Try.prog 64 #[S.v xs.length, S'.v ys.length, .func (.func 65) #[] #[]] w fun r w' => r = .returned (.bool (zipB nodeS xs ys)) ∧ Below w.heap.size w w' := by
  obtain ⟨A, cap⟩ := S
  obtain ⟨A', cap'⟩ := S'
  obtain ⟨hf1, hf2⟩ := hf
  obtain ⟨hg1, hg2⟩ := hf'
  simp only [Sl.v] at *
  unfold maxLen at hf2 hg2
  have hc1 : (xs.length : Int) ≤ 9223372036854775807 := by omega
  have hc2 : (ys.length : Int) ≤ 9223372036854775807 := by omega
  have HX := hid hx
  have HY := hid hy
  clear hx hy hf1 hf2 hg1 hg2
  by_cases hl : xs.length = ys.length
  · have HL := hid hl
    rw [← hl]
    clear hl hc2
    go_enter Try.func64, Try.ntmps64
    go_wp2_with fail
    go_loopw [7, 8, 9, 17] (fun _ _ _ i wr => ∃ j : Nat, j ≤ xs.length ∧ i = .int .i64 j ∧ Hid (UptoZ nodeS xs ys j) ∧ Below w.heap.size w wr) (fun _ _ _ i _ => xs.length - (intOf i).toNat)
    case atStart => exact ⟨0, by omega, rfl, UptoZ.zero _ _ _, Below.refl _ _⟩
    case round =>
      obtain ⟨j, hj, rfl, hup, hbr⟩ := hrel
      have hsz := hbr.size
      by_cases hlt : j < xs.length
      · have hlt' : j < ys.length := by have := HL.out; omega
        obtain ⟨b, o, rfl, hcx⟩ := HX.out j hlt
        obtain ⟨b', o', rfl, hcy⟩ := HY.out j hlt'
        have hno := hid (fun hp : nodeS xs[j] ys[j] = false => zip_hit hlt hlt' hp)
        have hyes := hid (fun hp : nodeS xs[j] ys[j] = true => hup.out.succ hlt hlt' hp)
        generalize xs[j] = x at *
        generalize ys[j] = y at *
        obtain ⟨hb1, S1, k1, i1⟩ := hcx.keep (same_below hB hbr)
        obtain ⟨hb2, S2, k2, i2⟩ := hcy.keep (same_below hB hbr)
        obtain ⟨c0, c1, c2, c3, c4, c5, c6⟩ := k1
        obtain ⟨d0, d1, d2, d3, d4, d5, d6⟩ := k2
        have hi0 : (0 : Int) ≤ (j : Int) := by omega
        have hi1 : (j : Int) < (xs.length : Int) := by omega
        have hlt1 : b < wr.heap.size := by omega
        have hlt2 : b' < wr.heap.size := by omega
        have hw2 := (hbr.alloc hsz (.cells #[.string x.name, S1.i.v x.ins.length, S1.o.v x.outs.length, S1.v.v x.vars.length, S1.e.v x.eqs.length, .int .i64 x.line, .int .i64 x.col] 61)).alloc (by simp; omega) (.cells #[.string y.name, S2.i.v y.ins.length, S2.o.v y.outs.length, S2.v.v y.vars.length, S2.e.v y.eqs.length, .int .i64 y.line, .int .i64 y.col] 61)
        have hsm : Go.Proofs.Ytiencmbbkbicnaa.Same B wr ((wr.alloc (.cells #[.string x.name, S1.i.v x.ins.length, S1.o.v x.outs.length, S1.v.v x.vars.length, S1.e.v x.eqs.length, .int .i64 x.line, .int .i64 x.col] 61)).alloc (.cells #[.string y.name, S2.i.v y.ins.length, S2.o.v y.outs.length, S2.v.v y.vars.length, S2.e.v y.eqs.length, .int .i64 y.line, .int .i64 y.col] 61)) := same_below (Nat.le_refl B) (((Below.refl B wr).alloc (by omega) _).alloc (by simp; omega) _)
        have hcl := equal1_any x y S1 S2 B _ (i1.keep hsm) (i2.keep hsm) (by simp; omega)
        simp only [NodeE.val, Sl.v] at hcl c1 c2 c3 c4 d1 d2 d3 d4
        clear hup hcx hcy hsm i1 i2
        cases hp : nodeS x y
        · have HP := hid hp
          rw [hp] at hcl
          clear hp
          go_wp2_with (go_at_call 65; refine hcl.mono ?_; rintro r w2 ⟨rfl, hb3⟩)
          go_ret
          exact ⟨ret_bool (hno.out HP.out).symm, hw2.trans (hb3.mono hw2.size)⟩
        · have HP := hid hp
          rw [hp] at hcl
          clear hp
          go_wp2_with (go_at_call 65; refine hcl.mono ?_; rintro r w2 ⟨rfl, hb3⟩)
          go_roundw
          case rel => exact ⟨j + 1, by omega, by go_num, hyes.out HP.out, hw2.trans (hb3.mono hw2.size)⟩
          case measure => simp [intOf]; omega
      · have : j = xs.length := by omega
        subst this
        have HZ := hid (UptoZ.all HL.out hup.out)
        clear hup
        go_wp2_with fail
        go_ret
        exact ⟨ret_bool HZ.out.symm, hbr⟩
  · have HS := hid (zip_len (p := nodeS) hl)
    have hne : ((xs.length : Int) != (ys.length : Int)) = true := by simp; omega
    clear hl
    go_enter Try.func64, Try.ntmps64
    go_wp2_with fail
    go_ret
    exact ⟨ret_bool HS.out.symm, Below.refl _ _⟩

set_option maxHeartbeats 1000000 in
theorem cequal_any (xs ys : List NodeE) (S S' : Sl) (B : Nat) (w : World) (hx : SrcIs B w xs S) (hy : SrcIs B w ys S') (hB : B ≤ w.heap.size) :
    Calls Try.prog 41 #[srcVal xs S, srcVal ys S'] w fun e w' => e = .returned (.bool (zipB nodeS xs ys)) ∧ Below w.heap.size w w' := by
  have hb2 : Below w.heap.size w ((w.alloc (.cells #[S.v xs.length] 56)).alloc (.cells #[S'.v ys.length] 56)) := ((Below.refl _ _).alloc (Nat.le_refl _) _).alloc (by simp) _
  have h := eqfNode_any xs ys S S' B _ hx.fits hy.fits (hx.nodes.imp fun _ _ _ => NodeAt.keep (same_below hB hb2)) (hy.nodes.imp fun _ _ _ => NodeAt.keep (same_below hB hb2)) (Nat.le_trans hB hb2.size)
  obtain ⟨A, cap⟩ := S
  obtain ⟨A', cap'⟩ := S'
  simp only [srcVal, Sl.v] at *
  have HB := hid hb2
  clear hx hy hb2
  go_enter Try.func41, Try.ntmps41
  go_wp2_with (go_at_call 64; refine h.mono ?_; rintro r w2 ⟨rfl, hb3⟩)
  go_ret
  exact ⟨rfl, HB.out.trans (hb3.mono HB.out.size)⟩
end Go.Proofs.Ytiencmbbkbicnaa
