/-
  The walk of the reference's Same.
-/
import Derived.Test.YtmdnmodjdgcmjaaDoorHScT
import Derived.BigQuiet
namespace Go.Proofs.YtmdnmodjdgcmjaaDoor
open Go.RowKit

theorem stay_drewN (D : Nat → Prop) (w : World) (n : Nat) : Stay D w (w.drewN n) := fun _ _ _ _ h => h
theorem IntsAt.drewN {w : World} {A : Option Addr} {l : List Int} (h : IntsAt w A l) (n : Nat) : IntsAt (w.drewN n) A l := h
theorem BytesAt.drewN {w : World} {A : Option Addr} {l : List UInt8} (h : BytesAt w A l) (n : Nat) : BytesAt (w.drewN n) A l := h
set_option maxRecDepth 100000 in
set_option maxHeartbeats 8000000 in
theorem same_ref (l m : List EvE) (S S' : Sl) (D D' : Nat → Prop) (w : World) (hl : EvsIs D w l S) (hm : EvsIs D' w m S') :
    Calls Tryd.prog 13 #[S.v l.length, S'.v m.length] w fun e w' => e = .returned (.bool (decide (l = m))) ∧ ∃ k, w' = w.drewN k := by
  have h1 := hl.fits
  have h2 := hm.fits
  have hL := hid hl.evs
  have hM := hid hm.evs
  obtain ⟨A, a⟩ := S
  obtain ⟨B, b⟩ := S'
  simp only [Sl.v, Sl.fits, maxLen] at *
  have hx1 : (l.length : Int) ≤ 9223372036854775807 := by omega
  have hy1 : (m.length : Int) ≤ 9223372036854775807 := by omega
  clear hl hm
  by_cases hlen : l.length = m.length
  case neg =>
    have hd : decide (l = m) = false := decide_eq_false fun e => hlen (by rw [e])
    have hl' : ((l.length : Int) == (m.length : Int)) = false := beq_eq_false_iff_ne.2 (by omega)
    have hl2 : ((l.length : Int) != (m.length : Int)) = true := by simp only [bne, hl']; rfl
    rw [hd]
    go_enter Tryd.func13, Tryd.ntmps13
    go_wp2_with fail
    go_ret
    exact ⟨rfl, 0, rfl⟩
  case pos =>
  have hle := hid hlen
  rw [← hlen]
  clear hlen hy1
  generalize hn : l.length = n at *
  go_enter Tryd.func13, Tryd.ntmps13
  go_wp2_with fail
  go_loopw [5] (fun i wr => ∃ j : Nat, j ≤ n ∧ i = .int .i64 j ∧ Hid (UptoE l m j) ∧ Hid (∃ k, wr = w.drewN k)) (fun i _ => n - (intOf i).toNat)
  case atStart => exact ⟨0, by omega, rfl, (fun m _ _ h => absurd h (by omega)), 0, rfl⟩
  case round =>
    obtain ⟨j, hj, rfl, hup, hdr⟩ := hrel
    by_cases hlt : j < n
    · have g1 : j < l.length := by omega
      have g2 : j < m.length := by have := hle.out; omega
      have hL2 : SlAt 4 (EvIn D wr) A l := by obtain ⟨k, rfl⟩ := hdr.out; exact hL.out.imp fun _ _ _ h => EvIn.keep (stay_drewN _ _ _) (fun _ h => h) h
      have hM2 : SlAt 4 (EvIn D' wr) B m := by obtain ⟨k, rfl⟩ := hdr.out; exact hM.out.imp fun _ _ _ h => EvIn.keep (stay_drewN _ _ _) (fun _ h => h) h
      obtain ⟨b1, o1, R, C, rfl, ⟨c0, c1, c2, c3⟩, i1⟩ := ev_cells hL2 g1
      obtain ⟨b2, o2, R', C', rfl, ⟨d0, d1, d2, d3⟩, i2⟩ := ev_cells hM2 g2
      have hst := hid (fun he => hup.out.step g1 g2 he)
      have hno : l[j] ≠ m[j] → decide (l = m) = false := fun h => decide_eq_false fun e => h (by subst e; rfl)
      replace hno := hid hno
      generalize l[j] = x at *
      generalize m[j] = y at *
      have hi0 : (0 : Int) ≤ (j : Int) := by omega
      have hi1 : (j : Int) < (n : Int) := by omega
      have cI := fun q => Calls.quiet_of (n := q) (rints_any x.row y.row R.A R'.A R.cap R'.cap (wr.drewN q) ((ints_at i1.row).drewN q) ((ints_at i2.row).drewN q) (Nat.le_trans i1.fr.1 i1.fr.2) (Nat.le_trans i2.fr.1 i2.fr.2))
      have cB := fun q => Calls.quiet_of (n := q) (rbytes_any x.ch y.ch C.A C'.A C.cap C'.cap (wr.drewN q) ((bytes_at i1.ch).drewN q) ((bytes_at i2.ch).drewN q) (Nat.le_trans i1.fc.1 i1.fc.2) (Nat.le_trans i2.fc.1 i2.fc.2))
      have hdec := ev_decide x y
      obtain ⟨k, nn, row, ch⟩ := x
      obtain ⟨k', nn', row', ch'⟩ := y
      simp only [Sl.v] at c2 c3 d2 d3
      dsimp only at cI cB hdec c0 c1 c2 c3 d0 d1 d2 d3
      generalize decide (row = row') = dr at *
      generalize decide (ch = ch') = dc at *
      replace cI := hid cI
      replace cB := hid cB
      have hq : ∀ q, ∃ k, wr.drewN q = w.drewN k := fun q => by obtain ⟨k, rfl⟩ := hdr.out; exact ⟨k + q, World.drewN_drewN _ _ _⟩
      replace hq := hid hq
      clear hup hL2 hM2 i1 i2 hdr
      have hyes : (k == k' && nn == nn' && dr && dc) = true → UptoE l m (j + 1) := fun h => hst.out (by rw [← hdec] at h; exact of_decide_eq_true h)
      have hnot : (k == k' && nn == nn' && dr && dc) = false → decide (l = m) = false := fun h => hno.out (by rw [← hdec] at h; exact of_decide_eq_false h)
      replace hyes := hid hyes
      replace hnot := hid hnot
      clear hdec hst hno
      by_cases hk : k = k'
      case neg =>
        have e1 : (k == k') = false := beq_eq_false_iff_ne.2 hk
        have e2 : (k != k') = true := by simp only [bne, e1]; rfl
        replace hnot := hid (hnot.out (by rw [e1]; rfl))
        go_wp2_with fail
        go_quiet (fail)
        go_wp2_with fail
        go_ret
        exact ⟨ret_bool hnot.out.symm, hq.out _⟩
      case pos =>
      subst hk
      by_cases hnn : nn = nn'
      case neg =>
        have e1 : (nn == nn') = false := beq_eq_false_iff_ne.2 hnn
        have e2 : (nn != nn') = true := by simp only [bne, e1]; rfl
        replace hnot := hid (hnot.out (by rw [e1]; simp))
        go_wp2_with fail
        go_quiet (fail)
        go_wp2_with fail
        go_ret
        exact ⟨ret_bool hnot.out.symm, hq.out _⟩
      case pos =>
      subst hnn
      cases dr with
      | false =>
        replace hnot := hid (hnot.out (by simp))
        go_wp2_with fail
        go_quiet (exact cI.out _)
        go_wp2_with fail
        go_ret
        exact ⟨ret_bool hnot.out.symm, hq.out _⟩
      | true =>
      cases dc with
      | false =>
        replace hnot := hid (hnot.out (by simp))
        go_wp2_with fail
        go_quiet (first | (go_at_call 27; exact cI.out _) | (go_at_call 39; exact cB.out _))
        go_wp2_with fail
        go_ret
        exact ⟨ret_bool hnot.out.symm, hq.out _⟩
      | true =>
        replace hyes := hid (hyes.out (by simp))
        go_wp2_with fail
        go_quiet (first | (go_at_call 27; exact cI.out _) | (go_at_call 39; exact cB.out _))
        go_wp2_with fail
        go_roundw
        case rel => exact ⟨j + 1, by omega, by go_num, hyes.out, hq.out _⟩
        case measure => simp [intOf]; omega
    · have hje : j = n := by omega
      subst hje
      have hd : decide (l = m) = true := decide_eq_true (by
        have := hup.out
        rw [← hn] at this
        exact UptoE.all this (by rw [hn]; exact hle.out))
      replace hd := hid hd
      go_wp2_with fail
      go_ret
      exact ⟨ret_bool hd.out.symm, hdr.out⟩
end Go.Proofs.YtmdnmodjdgcmjaaDoor
