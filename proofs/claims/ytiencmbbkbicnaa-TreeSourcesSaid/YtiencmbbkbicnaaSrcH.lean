/-
  The walk of the reference's sameVars.
-/
import Derived.Test.YtiencmbbkbicnaaSrcG
namespace Go.Proofs.Ytiencmbbkbicnaa
open Go.RowKit

theorem same_drewN {B : Nat} (w : World) (n : Nat) : Go.Proofs.Ytiencmbbkbicnaa.Same B w (w.drewN n) := fun _ _ _ => rfl

set_option maxHeartbeats 2000000 in
theorem rsameVars_any (xs ys : List VarE) (S S' : Sl) (B : Nat) (w : World) (hf : S.fits xs.length) (hf' : S'.fits ys.length) (hx : SlAt 5 (VarAt B w) S.A xs) (hy : SlAt 5 (VarAt B w) S'.A ys) :
    Calls Try.prog 70 #[S.v xs.length, S'.v ys.length] w fun r w' => r = .returned (.bool (zipB varS xs ys)) ∧ ∃ n, w' = w.drewN n := by
  obtain ⟨A, cap⟩ := S
  obtain ⟨A', cap'⟩ := S'
  obtain ⟨hf1, hf2⟩ := hf
  obtain ⟨hg1, hg2⟩ := hf'
  simp only [Sl.v] at *
  unfold maxLen at hf2 hg2
  have hc1 : (xs.length : Int) ≤ 9223372036854775807 := by omega
  have hc2 : (ys.length : Int) ≤ 9223372036854775807 := by omega
  have HX := hid hx
  have HY := hid hy
  clear hx hy hf1 hf2 hg1 hg2
  by_cases hl : xs.length = ys.length
  · have HL := hid hl
    rw [← hl]
    clear hl hc2
    go_enter Try.func70, Try.ntmps70
    go_wp2_with fail
    go_loopw [5] (fun i wr => ∃ j n : Nat, j ≤ xs.length ∧ i = .int .i64 j ∧ wr = w.drewN n ∧ Hid (UptoZ varS xs ys j)) (fun i _ => xs.length - (intOf i).toNat)
    case atStart => exact ⟨0, 0, by omega, rfl, rfl, UptoZ.zero _ _ _⟩
    case round =>
      obtain ⟨j, n, hj, rfl, hwr, hup⟩ := hrel
      have hsm : Go.Proofs.Ytiencmbbkbicnaa.Same B w wr := by rw [hwr]; exact same_drewN _ _
      have HWR := hid hwr
      clear hwr
      by_cases hlt : j < xs.length
      · have hlt' : j < ys.length := by have := HL.out; omega
        obtain ⟨b, o, rfl, hcx⟩ := HX.out j hlt
        obtain ⟨b', o', rfl, hcy⟩ := HY.out j hlt'
        have hno := hid (fun hp : varS xs[j] ys[j] = false => zip_hit hlt hlt' hp)
        have hyes := hid (fun hp : varS xs[j] ys[j] = true => hup.out.succ hlt hlt' hp)
        generalize xs[j] = x at *
        generalize ys[j] = y at *
        obtain ⟨_, S1, k1, i1⟩ := hcx.keep hsm
        obtain ⟨_, S2, k2, i2⟩ := hcy.keep hsm
        obtain ⟨c0, c1, c2, c3, c4⟩ := k1
        obtain ⟨d0, d1, d2, d3, d4⟩ := k2
        have hlit : ∀ k, Calls Try.prog 83 #[S1.v x.clock.length, S2.v y.clock.length] (wr.drewN k) fun e w' => e = .returned (.bool (zipB litS x.clock y.clock)) ∧ ∃ m, w' = wr.drewN m := fun k =>
          (rlits_any x.clock y.clock S1 S2 B _ i1.fits i2.fits (i1.clock.imp fun _ _ _ h => LitAt.keep (same_drewN _ k) h) (i2.clock.imp fun _ _ _ h => LitAt.keep (same_drewN _ k) h)).mono
            fun _ _ ⟨h1, m, h2⟩ => ⟨h1, k + m, by rw [h2, World.drewN_drewN]⟩
        have hi0 : (0 : Int) ≤ (j : Int) := by omega
        have hi1 : (j : Int) < (xs.length : Int) := by omega
        obtain ⟨xn, xt, xc, xl, xo⟩ := x
        obtain ⟨yn, yt, yc, yl, yo⟩ := y
        obtain ⟨A1, p1⟩ := S1
        obtain ⟨A2, p2⟩ := S2
        simp only [Sl.v] at *
        have HLIT := hid hlit
        clear hup hlit i1 i2 hsm
        cases h1 : (xn.toList == yn.toList)
        · have HP : Hid (varS ⟨xn, xt, xc, xl, xo⟩ ⟨yn, yt, yc, yl, yo⟩ = false) := by show _ = _; unfold varS; rw [strS_eq, h1]; rfl
          go_wp2_with fail
          go_quiet (fail)
          go_wp2_with fail
          go_ret
          exact ⟨ret_bool (hno.out HP.out).symm, n + nq, by rw [HWR.out, World.drewN_drewN]⟩
        · cases h2 : (xt == yt)
          · have HP : Hid (varS ⟨xn, xt, xc, xl, xo⟩ ⟨yn, yt, yc, yl, yo⟩ = false) := by show _ = _; unfold varS; rw [strS_eq, h1, h2]; rfl
            have h3 : (xt != yt) = true := by simp [bne, h2]
            go_wp2_with fail
            go_quiet (fail)
            go_wp2_with fail
            go_ret
            exact ⟨ret_bool (hno.out HP.out).symm, n + nq, by rw [HWR.out, World.drewN_drewN]⟩
          · have h3 : (xt != yt) = false := by simp [bne, h2]
            cases h4 : zipB litS xc yc
            · have HP : Hid (varS ⟨xn, xt, xc, xl, xo⟩ ⟨yn, yt, yc, yl, yo⟩ = false) := by show _ = _; unfold varS; rw [strS_eq, h1, h2, h4]; rfl
              rw [h4] at HLIT
              clear h4
              go_wp2_with fail
              go_quiet (exact HLIT.out _)
              go_wp2_with fail
              go_ret
              exact ⟨ret_bool (hno.out HP.out).symm, n + nq, by rw [HWR.out, World.drewN_drewN]⟩
            · have HP : Hid (varS ⟨xn, xt, xc, xl, xo⟩ ⟨yn, yt, yc, yl, yo⟩ = true) := by show _ = _; unfold varS; rw [strS_eq, h1, h2, h4]; rfl
              rw [h4] at HLIT
              clear h4
              go_wp2_with fail
              go_quiet (exact HLIT.out _)
              go_wp2_with fail
              go_roundw
              case rel => exact ⟨j + 1, n + nq, by omega, by go_num, by rw [HWR.out, World.drewN_drewN], hyes.out HP.out⟩
              case measure => simp [intOf]; omega
      · have : j = xs.length := by omega
        subst this
        have HZ := hid (UptoZ.all HL.out hup.out)
        clear hup
        go_wp2_with fail
        go_ret
        exact ⟨ret_bool HZ.out.symm, n, HWR.out⟩
  · have HS := hid (zip_len (p := varS) hl)
    have hne : ((xs.length : Int) != (ys.length : Int)) = true := by simp; omega
    clear hl
    go_enter Try.func70, Try.ntmps70
    go_wp2_with fail
    go_ret
    exact ⟨ret_bool HS.out.symm, 0, rfl⟩
end Go.Proofs.Ytiencmbbkbicnaa
