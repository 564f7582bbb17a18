/-
  The walk of the reference's Equal.
-/
import Derived.Lib.QuietBelow
import Derived.Test.YtiencmbbkbicnaaSrcH
namespace Go.Proofs.Ytiencmbbkbicnaa
open Go.RowKit Go.Sort Go.BigFrame

theorem below_of_drewN {w w' : World} (h : ∃ n, w' = w.drewN n) : Below w.heap.size w w' := by
  obtain ⟨n, rfl⟩ := h
  exact ⟨rfl, rfl, rfl, Nat.le_refl _, fun _ _ => rfl⟩

set_option maxHeartbeats 1000000 in
theorem rtexts2_any (xs ys : List ByteArray) (S S' : Sl) (B : Nat) (w : World) (hf : S.fits xs.length) (hf' : S'.fits ys.length) (hx : SlAt 1 (StrAt B w) S.A xs) (hy : SlAt 1 (StrAt B w) S'.A ys) :
    Calls Try.prog 23 #[S.v xs.length, S'.v ys.length] w fun r w' => r = .returned (.bool (zipB strS xs ys)) ∧ ∃ n, w' = w.drewN n := by
  obtain ⟨A, cap⟩ := S
  obtain ⟨A', cap'⟩ := S'
  obtain ⟨hf1, hf2⟩ := hf
  obtain ⟨hg1, hg2⟩ := hf'
  simp only [Sl.v] at *
  unfold maxLen at hf2 hg2
  have hc1 : (xs.length : Int) ≤ 9223372036854775807 := by omega
  have hc2 : (ys.length : Int) ≤ 9223372036854775807 := by omega
  have HX := hid hx
  have HY := hid hy
  clear hx hy hf1 hf2 hg1 hg2
  by_cases hl : xs.length = ys.length
  · have HL := hid hl
    rw [← hl]
    clear hl hc2
    go_enter Try.func23, Try.ntmps23
    go_wp2_with fail
    go_loopw [5] (fun i wr => ∃ j n : Nat, j ≤ xs.length ∧ i = .int .i64 j ∧ wr = w.drewN n ∧ Hid (UptoZ strS xs ys j)) (fun i _ => xs.length - (intOf i).toNat)
    case atStart => exact ⟨0, 0, by omega, rfl, rfl, UptoZ.zero _ _ _⟩
    case round =>
      obtain ⟨j, n, hj, rfl, rfl, hup⟩ := hrel
      by_cases hlt : j < xs.length
      · have hlt' : j < ys.length := by have := HL.out; omega
        obtain ⟨b, o, rfl, hcx⟩ := HX.out j hlt
        obtain ⟨b', o', rfl, hcy⟩ := HY.out j hlt'
        obtain ⟨_, _, c0⟩ := hcx
        obtain ⟨_, _, d0⟩ := hcy
        simp only [Nat.mul_one] at c0 d0
        have hi0 : (0 : Int) ≤ (j : Int) := by omega
        have hi1 : (j : Int) < (xs.length : Int) := by omega
        have hno := hid (fun hp : strS xs[j] ys[j] = false => zip_hit hlt hlt' hp)
        have hyes := hid (fun hp : strS xs[j] ys[j] = true => hup.out.succ hlt hlt' hp)
        clear hup
        cases h1 : (xs[j].toList == ys[j].toList)
        · have HP : Hid (strS xs[j] ys[j] = false) := by show _ = _; rw [strS_eq, h1]
          go_wp2_with fail
          go_quiet (fail)
          go_wp2_with fail
          go_ret
          exact ⟨ret_bool (hno.out HP.out).symm, n + nq, by first | rfl | rw [World.drewN_drewN]⟩
        · have HP : Hid (strS xs[j] ys[j] = true) := by show _ = _; rw [strS_eq, h1]
          go_wp2_with fail
          go_quiet (fail)
          go_wp2_with fail
          go_roundw
          case rel => exact ⟨j + 1, n + nq, by omega, by go_num, rfl, hyes.out HP.out⟩
          case measure => simp [intOf]; omega
      · have : j = xs.length := by omega
        subst this
        have HZ := hid (UptoZ.all HL.out hup.out)
        clear hup
        go_wp2_with fail
        go_ret
        exact ⟨ret_bool HZ.out.symm, n, rfl⟩
  · have HS := hid (zip_len (p := strS) hl)
    have hne : ((xs.length : Int) != (ys.length : Int)) = true := by simp; omega
    clear hl
    go_enter Try.func23, Try.ntmps23
    go_wp2_with fail
    go_ret
    exact ⟨ret_bool HS.out.symm, 0, rfl⟩

set_option maxRecDepth 100000 in
set_option maxHeartbeats 4000000 in
theorem requal_any (xs ys : List NodeE) (S S' : Sl) (B : Nat) (w : World) (hx : SrcIs B w xs S) (hy : SrcIs B w ys S') (hB : B ≤ w.heap.size) :
    Calls Try.prog 42 #[srcVal xs S, srcVal ys S'] w fun e w' => e = .returned (.bool (zipB nodeS xs ys)) ∧ Below w.heap.size w w' := by
  obtain ⟨A, cap⟩ := S
  obtain ⟨A', cap'⟩ := S'
  obtain ⟨⟨hf1, hf2⟩, hnx⟩ := hx
  obtain ⟨⟨hg1, hg2⟩, hny⟩ := hy
  simp only [srcVal, Sl.v] at *
  unfold maxLen at hf2 hg2
  have hc1 : (xs.length : Int) ≤ 9223372036854775807 := by omega
  have hc2 : (ys.length : Int) ≤ 9223372036854775807 := by omega
  have HX := hid hnx
  have HY := hid hny
  obtain ⟨W0, hW0⟩ : ∃ W0, W0 = ((w.alloc (.cells #[.slice A xs.length cap] 56)).alloc (.cells #[.slice A' ys.length cap'] 56)) := ⟨_, rfl⟩
  have hb0 : Below w.heap.size w W0 := by rw [hW0]; exact ((Below.refl _ _).alloc (Nat.le_refl _) _).alloc (by simp) _
  have hz0 : w.heap.size + 1 < W0.heap.size := by rw [hW0]; simp
  have hx0 : W0.cell? ⟨w.heap.size, 0, none⟩ = some (.slice A xs.length cap) := by rw [hW0]; exact (boxed2_cell (Below.refl _ _) 0).1
  have hy0 : W0.cell? ⟨w.heap.size + 1, 0, none⟩ = some (.slice A' ys.length cap') := by rw [hW0]; exact (boxed2_cell (Below.refl _ _) 0).2
  have HW0 := hid hW0
  have HX0 := hid hx0
  have HY0 := hid hy0
  have HB0 := hid hb0
  clear hnx hny hf1 hf2 hg1 hg2 hW0 hx0 hy0 hb0
  by_cases hl : xs.length = ys.length
  · have HL := hid hl
    have hne : ((xs.length : Int) != (ys.length : Int)) = false := by rw [← hl]; simp
    clear hl
    go_enter Try.func42, Try.ntmps42
    go_wp2_with fail
    rw [← HW0.out]
    go_loopw [5, 6, 7, 8] (fun i _ _ _ wr => ∃ j : Nat, j ≤ xs.length ∧ i = .int .i64 j ∧ Hid (UptoZ nodeS xs ys j) ∧ Hind W0 wr) (fun i _ _ _ _ => xs.length - (intOf i).toNat)
    case atStart => exact ⟨0, by omega, rfl, UptoZ.zero _ _ _, Hind.refl W0⟩
    case round =>
      obtain ⟨j, hj, rfl, hup, hkr⟩ := hrel
      have hsz := Below.size hkr
      have z0 : wr.cell? ⟨w.heap.size, 0, none⟩ = some (.slice A xs.length cap) := (hkr.cell (by omega) 0).trans HX0.out
      have z1 : wr.cell? ⟨w.heap.size + 1, 0, none⟩ = some (.slice A' ys.length cap') := (hkr.cell hz0 0).trans HY0.out
      have hbr := HB0.out.trans (Below.mono hkr HB0.out.size)
      have hBr := Nat.le_trans hB hbr.size
      have hlt0 : w.heap.size < wr.heap.size := by omega
      have hlt1 : w.heap.size + 1 < wr.heap.size := by omega
      by_cases hlt : j < xs.length
      · have hlt' : j < ys.length := by have := HL.out; omega
        obtain ⟨b, o, rfl, hcx⟩ := HX.out j hlt
        obtain ⟨b', o', rfl, hcy⟩ := HY.out j hlt'
        have hno := hid (fun hp : nodeS xs[j] ys[j] = false => zip_hit hlt hlt' hp)
        have hyes := hid (fun hp : nodeS xs[j] ys[j] = true => hup.out.succ hlt hlt' hp)
        generalize xs[j] = x at *
        generalize ys[j] = y at *
        obtain ⟨hb1, S1, k1, i1⟩ := hcx.keep (same_below hB hbr)
        obtain ⟨hb2, S2, k2, i2⟩ := hcy.keep (same_below hB hbr)
        obtain ⟨c0, c1, c2, c3, c4, c5, c6⟩ := k1
        obtain ⟨d0, d1, d2, d3, d4, d5, d6⟩ := k2
        have hi0 : (0 : Int) ≤ (j : Int) := by omega
        have hi1 : (j : Int) < (xs.length : Int) := by omega
        have hi2 : (j : Int) < (ys.length : Int) := by omega
        have hlb1 : b < wr.heap.size := by omega
        have hlb2 : b' < wr.heap.size := by omega
        obtain ⟨xn, x1, x2, x3, x4, xl, xc⟩ := x
        obtain ⟨yn, y1, y2, y3, y4, yl, yc⟩ := y
        obtain ⟨⟨Ai, pi⟩, ⟨Ao, po⟩, ⟨Av, pv⟩, ⟨Ae, pe⟩⟩ := S1
        obtain ⟨⟨Bi, qi⟩, ⟨Bo, qo⟩, ⟨Bv, qv⟩, ⟨Be, qe⟩⟩ := S2
        simp only [Sl.v] at *
        obtain ⟨bx, hbx⟩ : ∃ bx : Array Value, bx = #[.string xn, .slice Ai x1.length pi, .slice Ao x2.length po, .slice Av x3.length pv, .slice Ae x4.length pe, .int .i64 xl, .int .i64 xc] := ⟨_, rfl⟩
        obtain ⟨bz, hbz⟩ : ∃ bz : Array Value, bz = #[.string yn, .slice Bi y1.length qi, .slice Bo y2.length qo, .slice Bv y3.length qv, .slice Be y4.length qe, .int .i64 yl, .int .i64 yc] := ⟨_, rfl⟩
        obtain ⟨V, hV⟩ : ∃ V, V = ((wr.alloc (.cells bx 61)).alloc (.cells bz 61)) := ⟨_, rfl⟩
        have hbV : Below wr.heap.size wr V := by rw [hV]; exact ((Below.refl _ _).alloc (Nat.le_refl _) _).alloc (by simp) _
        have hzV : wr.heap.size + 1 < V.heap.size := by rw [hV]; simp
        have hkV : Hind W0 V := hkr.then hbV
        have hVx : ∀ i, V.cell? ⟨wr.heap.size, i, none⟩ = bx[i]? := fun i => by rw [hV]; exact (boxed2_cell (Below.refl _ _) i).1
        have hVy : ∀ i, V.cell? ⟨wr.heap.size + 1, i, none⟩ = bz[i]? := fun i => by rw [hV]; exact (boxed2_cell (Below.refl _ _) i).2
        have HC : Hid (V.cell? ⟨wr.heap.size, 2, none⟩ = some (.slice Ao x2.length po) ∧ V.cell? ⟨wr.heap.size, 3, none⟩ = some (.slice Av x3.length pv) ∧ V.cell? ⟨wr.heap.size, 4, none⟩ = some (.slice Ae x4.length pe) ∧
            V.cell? ⟨wr.heap.size + 1, 2, none⟩ = some (.slice Bo y2.length qo) ∧ V.cell? ⟨wr.heap.size + 1, 3, none⟩ = some (.slice Bv y3.length qv) ∧ V.cell? ⟨wr.heap.size + 1, 4, none⟩ = some (.slice Be y4.length qe)) := by
          refine ⟨?_, ?_, ?_, ?_, ?_, ?_⟩
          · rw [hVx, hbx]; rfl
          · rw [hVx, hbx]; rfl
          · rw [hVx, hbx]; rfl
          · rw [hVy, hbz]; rfl
          · rw [hVy, hbz]; rfl
          · rw [hVy, hbz]; rfl
        have hsV : Go.Proofs.Ytiencmbbkbicnaa.Same B wr V := same_below hBr hbV
        have j1 := i1.keep hsV
        have j2 := i2.keep hsV
        have hv1 : ∀ n, Calls Try.prog 70 #[.slice Ai x1.length pi, .slice Bi y1.length qi] (V.drewN n) fun r w' => r = .returned (.bool (zipB varS x1 y1)) ∧ ∃ n, w' = V.drewN n := fun n =>
          (rsameVars_any x1 y1 ⟨Ai, pi⟩ ⟨Bi, qi⟩ B _ j1.fi j2.fi (j1.ins.imp fun _ _ _ => VarAt.keep (same_drewN _ n)) (j2.ins.imp fun _ _ _ => VarAt.keep (same_drewN _ n))).mono fun _ _ ⟨h1, m, h2⟩ => ⟨h1, n + m, by rw [h2, World.drewN_drewN]⟩
        have hv2 : ∀ n, Calls Try.prog 70 #[.slice Ao x2.length po, .slice Bo y2.length qo] (V.drewN n) fun r w' => r = .returned (.bool (zipB varS x2 y2)) ∧ ∃ n, w' = V.drewN n := fun n =>
          (rsameVars_any x2 y2 ⟨Ao, po⟩ ⟨Bo, qo⟩ B _ j1.fo j2.fo (j1.outs.imp fun _ _ _ => VarAt.keep (same_drewN _ n)) (j2.outs.imp fun _ _ _ => VarAt.keep (same_drewN _ n))).mono fun _ _ ⟨h1, m, h2⟩ => ⟨h1, n + m, by rw [h2, World.drewN_drewN]⟩
        have hv3 : ∀ n, Calls Try.prog 70 #[.slice Av x3.length pv, .slice Bv y3.length qv] (V.drewN n) fun r w' => r = .returned (.bool (zipB varS x3 y3)) ∧ ∃ n, w' = V.drewN n := fun n =>
          (rsameVars_any x3 y3 ⟨Av, pv⟩ ⟨Bv, qv⟩ B _ j1.fv j2.fv (j1.vars.imp fun _ _ _ => VarAt.keep (same_drewN _ n)) (j2.vars.imp fun _ _ _ => VarAt.keep (same_drewN _ n))).mono fun _ _ ⟨h1, m, h2⟩ => ⟨h1, n + m, by rw [h2, World.drewN_drewN]⟩
        have hv1' := hv1 0
        have h00 : V.drewN 0 = V := rfl
        rw [h00] at hv1'
        have HD : Hid (nodeS ⟨xn, x1, x2, x3, x4, xl, xc⟩ ⟨yn, y1, y2, y3, y4, yl, yc⟩ = (strS xn yn && zipB varS x1 y1 && zipB varS x2 y2 && zipB varS x3 y3 && zipB eqnS x4 y4)) := rfl
        obtain ⟨hfe1, hfe2⟩ := j1.fe
        obtain ⟨hfe3, hfe4⟩ := j2.fe
        have he1 := j1.eqs
        have he2 := j2.eqs
        simp only [maxLen] at hfe1 hfe2 hfe3 hfe4 he1 he2
        have hx4 : (x4.length : Int) ≤ 9223372036854775807 := by omega
        have hy4 : (y4.length : Int) ≤ 9223372036854775807 := by omega
        rw [hbx, hbz] at hV
        have HV := hid hV
        have HV1 := hid hv1'
        have HV2 := hid hv2
        have HV3 := hid hv3
        have HE1 := hid he1
        have HE2 := hid he2
        have hbf : Below w.heap.size w V := hbr.trans (hbV.mono hbr.size)
        clear hbx hbz bx bz hVx hVy hsV j1 j2 hv1 hv1' h00 hv2 hv3 hfe1 hfe2 hfe3 hfe4 he1 he2 hV i1 i2 hup hcx hcy
        cases h1 : (xn.toList == yn.toList)
        · have HS : Hid (nodeS ⟨xn, x1, x2, x3, x4, xl, xc⟩ ⟨yn, y1, y2, y3, y4, yl, yc⟩ = false) := by show _ = _; rw [HD.out, strS_eq, h1]; rfl
          have h1' : (xn.toList != yn.toList) = true := by simp [bne, h1]
          go_wp2_with fail
          go_ret
          refine ⟨ret_bool (hno.out HS.out).symm, ?_⟩
          rw [← HV.out]
          exact hbf
        · have h1' : (xn.toList != yn.toList) = false := by simp [bne, h1]
          cases q1 : zipB varS x1 y1
          · rw [q1] at HV1
            have HS : Hid (nodeS ⟨xn, x1, x2, x3, x4, xl, xc⟩ ⟨yn, y1, y2, y3, y4, yl, yc⟩ = false) := by show _ = _; rw [HD.out, strS_eq, h1, q1]; rfl
            go_wp2_with (first
              | (go_at_call 70; rw [← HV.out]; with_reducible refine HV1.out.mono ?_; rintro r w2 ⟨rfl, n2, rfl⟩; obtain ⟨e2, e3, e4, f2, f3, f4⟩ := HC.out))
            go_ret
            exact ⟨ret_bool (hno.out HS.out).symm, below_drewN hbf n2⟩
          · rw [q1] at HV1
            cases q2 : zipB varS x2 y2
            · rw [q2] at HV2
              have HS : Hid (nodeS ⟨xn, x1, x2, x3, x4, xl, xc⟩ ⟨yn, y1, y2, y3, y4, yl, yc⟩ = false) := by show _ = _; rw [HD.out, strS_eq, h1, q1, q2]; rfl
              go_wp2_with (first
                | (go_at_call 70; rw [← HV.out]; with_reducible refine HV1.out.mono ?_; rintro r w2 ⟨rfl, n2, rfl⟩; obtain ⟨e2, e3, e4, f2, f3, f4⟩ := HC.out)
                | (go_at_call 70; with_reducible refine (HV2.out _).mono ?_; rintro r w3 ⟨rfl, n3, rfl⟩))
              go_ret
              exact ⟨ret_bool (hno.out HS.out).symm, below_drewN hbf n3⟩
            · rw [q2] at HV2
              cases q3 : zipB varS x3 y3
              · rw [q3] at HV3
                have HS : Hid (nodeS ⟨xn, x1, x2, x3, x4, xl, xc⟩ ⟨yn, y1, y2, y3, y4, yl, yc⟩ = false) := by show _ = _; rw [HD.out, strS_eq, h1, q1, q2, q3]; rfl
                go_wp2_with (first
                  | (go_at_call 70; rw [← HV.out]; with_reducible refine HV1.out.mono ?_; rintro r w2 ⟨rfl, n2, rfl⟩; obtain ⟨e2, e3, e4, f2, f3, f4⟩ := HC.out)
                  | (go_at_call 70; with_reducible refine (HV2.out _).mono ?_; rintro r w3 ⟨rfl, n3, rfl⟩)
                  | (go_at_call 70; with_reducible refine (HV3.out _).mono ?_; rintro r w4 ⟨rfl, n4, rfl⟩))
                go_ret
                exact ⟨ret_bool (hno.out HS.out).symm, below_drewN hbf n4⟩
              · rw [q3] at HV3
                have HS : Hid (nodeS ⟨xn, x1, x2, x3, x4, xl, xc⟩ ⟨yn, y1, y2, y3, y4, yl, yc⟩ = zipB eqnS x4 y4) := by show _ = _; rw [HD.out, strS_eq, h1, q1, q2, q3]; rfl
                by_cases h4 : x4.length = y4.length
                · have HL4 := hid h4
                  have h4' : ((x4.length : Int) != (y4.length : Int)) = false := by rw [h4]; simp
                  clear h4
                  go_wp2_with (first
                    | (go_at_call 70; rw [← HV.out]; with_reducible refine HV1.out.mono ?_; rintro r w2 ⟨rfl, n2, rfl⟩; obtain ⟨e2, e3, e4, f2, f3, f4⟩ := HC.out)
                    | (go_at_call 70; with_reducible refine (HV2.out _).mono ?_; rintro r w3 ⟨rfl, n3, rfl⟩)
                    | (go_at_call 70; with_reducible refine (HV3.out _).mono ?_; rintro r w4 ⟨rfl, n4, rfl⟩))
                  generalize wr.heap.size = T at *
                  go_loopw [8] (fun i wr2 => ∃ k : Nat, k ≤ x4.length ∧ i = .int .i64 k ∧ Hid (UptoZ eqnS x4 y4 k) ∧ Hind V wr2) (fun i _ => x4.length - (intOf i).toNat)
                  case atStart => exact ⟨0, by omega, rfl, UptoZ.zero _ _ _, (Hind.refl V).drewN _⟩
                  case round =>
                    obtain ⟨k, hk, rfl, hupk, hk2⟩ := hrel
                    clear e2 e3 e4 f2 f3 f4
                    have e4 := (hk2.cell (show T < V.heap.size by omega) 4).trans HC.out.2.2.1
                    have f4 := (hk2.cell hzV 4).trans HC.out.2.2.2.2.2
                    have hzk := Below.size hk2
                    have hbk : Below w.heap.size w wr := hbf.trans (Below.mono hk2 hbf.size)
                    by_cases hltk : k < x4.length
                    · have hltk' : k < y4.length := by have := HL4.out; omega
                      obtain ⟨g1, o1, rfl, hc1⟩ := HE1.out k hltk
                      obtain ⟨g2, o2, rfl, hc2⟩ := HE2.out k hltk'
                      have hnok := hid (fun hp : eqnS x4[k] y4[k] = false => zip_hit hltk hltk' hp)
                      have hyesk := hid (fun hp : eqnS x4[k] y4[k] = true => hupk.out.succ hltk hltk' hp)
                      have hsk : Go.Proofs.Ytiencmbbkbicnaa.Same B V wr := same_below (by omega) hk2
                      generalize x4[k] = p at *
                      generalize y4[k] = q at *
                      obtain ⟨hg1, ⟨P1, r1⟩, C1, s1, k1, m1⟩ := hc1.keep hsk
                      obtain ⟨hg2, ⟨P2, r2⟩, C2, s2, k2, m2⟩ := hc2.keep hsk
                      obtain ⟨u0, u1, u2, u3, u4, u5, u6, u7, u8⟩ := k1
                      obtain ⟨v0, v1, v2, v3, v4, v5, v6, v7, v8⟩ := k2
                      obtain ⟨pl, pr, pa, pb⟩ := p
                      obtain ⟨ql, qr, qa, qb⟩ := q
                      have hk0 : (0 : Int) ≤ (k : Int) := by omega
                      have hk1 : (k : Int) < (x4.length : Int) := by omega
                      have hk3 : (k : Int) < (y4.length : Int) := by omega
                      have cT := fun d os => Calls.regrown_of (w := wr) (d := d) (os := os) ((rtexts2_any pl ql ⟨P1, r1⟩ ⟨P2, r2⟩ B (grow (redrawn wr d) os) m1.fits m2.fits (m1.left.imp fun _ _ _ => StrAt.keep (same_below (by omega) (below_regrown wr d os))) (m2.left.imp fun _ _ _ => StrAt.keep (same_below (by omega) (below_regrown wr d os)))).mono fun _ _ ⟨h1, h2⟩ => ⟨h1, below_of_drewN h2⟩)
                      have cS := fun d os => Calls.regrown_of (w := wr) (d := d) (os := os) (rsame_any pr qr B C1 C2 s1 s2 (grow (redrawn wr d) os) (ExAt.below m1.right (by omega) (below_regrown wr d os)) (ExAt.below m2.right (by omega) (below_regrown wr d os)) (by have := (below_regrown wr d os).size; omega))
                      simp only [Sl.v, Ex.val] at cT cS u0 v0
                      have HK : Hid (eqnS ⟨pl, pr, pa, pb⟩ ⟨ql, qr, qa, qb⟩ = (zipB strS pl ql && pr.same qr)) := rfl
                      have hge : g1 < wr.heap.size := by omega
                      have hgf : g2 < wr.heap.size := by omega
                      clear hc1 hc2 m1 m2 hsk hupk
                      go_wp2_with fail
                      have hmix : Try.prog.follows .mixedOrders = true := by kernel_rfl
                      have w0 := cell_regrown e4
                      have w1 := cell_regrown f4
                      have w2 := cell_regrown u0
                      have w3 := cell_regrown u1
                      have w4 := cell_regrown u2
                      have w5 := cell_regrown u3
                      have w6 := cell_regrown u4
                      have w7 := cell_regrown u5
                      have w8 := cell_regrown u6
                      have w9 := cell_regrown v0
                      have w10 := cell_regrown v1
                      have w11 := cell_regrown v2
                      have w12 := cell_regrown v3
                      have w13 := cell_regrown v4
                      have w14 := cell_regrown v5
                      have w15 := cell_regrown v6
                      clear u0 u1 u2 u3 u4 u5 u6 u7 u8 v0 v1 v2 v3 v4 v5 v6 v7 v8 e4 f4 c0 c1 c2 c3 c4 c5 c6 d0 d1 d2 d3 d4 d5 d6 z0 z1 hi0 hi1 hi2 hne hkr hbr hlt0 hlt1 hbV hkV hbf hzV h1 h1' hlb1 hlb2
                      cases t1 : zipB strS pl ql
                      · rw [t1] at cT HK
                        clear t1
                        refine wp_region_quiet_below hmix (by kernel_rfl) ?_
                        repeat (go_big_quiet_step (first | (go_at_call 23; with_reducible exact cT _ _) | (go_at_call 16; with_reducible exact cS _ _)))
                        refine wpQuiet_nil ?_
                        intro _ hw'
                        obtain ⟨⟨dq, osq⟩, hw''⟩ := hw'
                        subst hw''
                        have hzz : Hind wr (grow (redrawn wr dq) osq) := below_regrown wr dq osq
                        generalize grow (redrawn wr dq) osq = Wz at hzz ⊢
                        go_wp2_with fail
                        go_ret
                        exact ⟨ret_bool (hno.out (by rw [HS.out, hnok.out (by rw [HK.out]; rfl)])).symm, hbk.trans (Below.mono hzz hbk.size)⟩
                      · rw [t1] at cT HK
                        clear t1
                        cases t2 : pr.same qr
                        · rw [t2] at cS HK
                          clear t2
                          refine wp_region_quiet_below hmix (by kernel_rfl) ?_
                          repeat (go_big_quiet_step (first | (go_at_call 23; with_reducible exact cT _ _) | (go_at_call 16; with_reducible exact cS _ _)))
                          refine wpQuiet_nil ?_
                          intro _ hw'
                          obtain ⟨⟨dq, osq⟩, hw''⟩ := hw'
                          subst hw''
                          have hzz : Hind wr (grow (redrawn wr dq) osq) := below_regrown wr dq osq
                          generalize grow (redrawn wr dq) osq = Wz at hzz ⊢
                          go_wp2_with fail
                          go_ret
                          exact ⟨ret_bool (hno.out (by rw [HS.out, hnok.out (by rw [HK.out]; rfl)])).symm, hbk.trans (Below.mono hzz hbk.size)⟩
                        · rw [t2] at cS HK
                          clear t2
                          refine wp_region_quiet_below hmix (by kernel_rfl) ?_
                          repeat (go_big_quiet_step (first | (go_at_call 23; with_reducible exact cT _ _) | (go_at_call 16; with_reducible exact cS _ _)))
                          refine wpQuiet_nil ?_
                          intro _ hw'
                          obtain ⟨⟨dq, osq⟩, hw''⟩ := hw'
                          subst hw''
                          have hzz : Hind wr (grow (redrawn wr dq) osq) := below_regrown wr dq osq
                          generalize grow (redrawn wr dq) osq = Wz at hzz ⊢
                          go_wp2_with fail
                          go_roundw
                          case rel => exact ⟨k + 1, by omega, by go_num, hyesk.out (by rw [HK.out]; rfl), hk2.then hzz⟩
                          case measure => simp [intOf]; omega
                    · have : k = x4.length := by omega
                      subst this
                      have HZ := hid (UptoZ.all HL4.out hupk.out)
                      clear hupk
                      go_wp2_with fail
                      go_roundw
                      case rel => exact ⟨j + 1, by omega, by go_num, hyes.out (by rw [HS.out, HZ.out]), hkV.then (Below.mono hk2 (Nat.le_refl _))⟩
                      case measure => simp [intOf]; omega
                · have HN : Hid (zipB eqnS x4 y4 = false) := zip_len h4
                  have h4' : ((x4.length : Int) != (y4.length : Int)) = true := by simp; omega
                  clear h4
                  go_wp2_with (first
                    | (go_at_call 70; rw [← HV.out]; with_reducible refine HV1.out.mono ?_; rintro r w2 ⟨rfl, n2, rfl⟩; obtain ⟨e2, e3, e4, f2, f3, f4⟩ := HC.out)
                    | (go_at_call 70; with_reducible refine (HV2.out _).mono ?_; rintro r w3 ⟨rfl, n3, rfl⟩)
                    | (go_at_call 70; with_reducible refine (HV3.out _).mono ?_; rintro r w4 ⟨rfl, n4, rfl⟩))
                  go_ret
                  exact ⟨ret_bool (hno.out (by rw [HS.out, HN.out])).symm, below_drewN hbf n4⟩
      · have : j = xs.length := by omega
        subst this
        have HZ := hid (UptoZ.all HL.out hup.out)
        clear hup
        go_wp2_with fail
        go_ret
        exact ⟨ret_bool HZ.out.symm, hbr⟩
  · have HS := hid (zip_len (p := nodeS) hl)
    have hne : ((xs.length : Int) != (ys.length : Int)) = true := by simp; omega
    clear hl
    go_enter Try.func42, Try.ntmps42
    go_wp2_with fail
    go_ret
    refine ⟨ret_bool HS.out.symm, ?_⟩
    rw [← HW0.out]
    exact HB0.out
end Go.Proofs.Ytiencmbbkbicnaa
