/-
  The walks of the reference's Same of rows of rows, and of Few.
-/
import Derived.Test.YtmdnmodjdgcmjaaDoorHTrQ
import Derived.Test.YtmdnmodjdgcmjaaDoorHScU
namespace Go.Proofs.YtmdnmodjdgcmjaaDoor
open Go.RowKit

set_option maxRecDepth 100000 in
set_option maxHeartbeats 2000000 in
theorem rsame1_any (xs ys : List Int) (A B : Option Addr) (p q : Nat) (w : World) (hx : IntsAt w A xs) (hy : IntsAt w B ys) (h1 : xs.length ≤ maxLen) (h2 : ys.length ≤ maxLen) :
    Calls Tryd.prog 59 #[.slice A xs.length p, .slice B ys.length q] w fun e w' => e = .returned (.bool (decide (xs = ys))) ∧ ∃ k, w' = w.drewN k := by
  unfold maxLen at h1 h2
  have hX := hid hx
  have hY := hid hy
  have hx1 : (xs.length : Int) ≤ 9223372036854775807 := by omega
  have hy1 : (ys.length : Int) ≤ 9223372036854775807 := by omega
  clear hx hy
  by_cases hl : xs.length = ys.length
  case neg =>
    have hd : decide (xs = ys) = false := decide_eq_false fun e => hl (by rw [e])
    have hl' : ((xs.length : Int) == (ys.length : Int)) = false := beq_eq_false_iff_ne.2 (by omega)
    have hl2 : ((xs.length : Int) != (ys.length : Int)) = true := by simp [bne, hl']
    rw [hd]
    go_enter Tryd.func59, Tryd.ntmps59
    go_wp2_with fail
    go_ret
    exact ⟨rfl, 0, rfl⟩
  case pos =>
  have hlH := hid hl
  rw [← hl]
  generalize hn : xs.length = n at *
  clear hl
  go_enter Tryd.func59, Tryd.ntmps59
  go_wp2_with fail
  go_loopw [5] (fun i wr => ∃ j : Nat, j ≤ n ∧ i = .int .i64 j ∧ Hid (UptoE xs ys j) ∧ Hid (∃ k, wr = w.drewN k)) (fun i _ => n - (intOf i).toNat)
  case atStart => exact ⟨0, Nat.zero_le _, rfl, (fun m _ _ h => absurd h (by omega)), ⟨0, rfl⟩⟩
  case round =>
    obtain ⟨j, hj, rfl, hup, hdr⟩ := hrel
    have hsame : Hid (∀ p, wr.cell? p = w.cell? p) := by
      obtain ⟨k, rfl⟩ := hdr.out
      exact fun p => rfl
    by_cases hlt : j < n
    · have g1 : j < xs.length := by omega
      have g2 : j < ys.length := by have := hlH.out; omega
      obtain ⟨b1, o1, rfl, c1⟩ := hX.out j g1
      obtain ⟨b2, o2, rfl, c2⟩ := hY.out j g2
      have hj0 : (0 : Int) ≤ (j : Int) := by omega
      have hj1 : (j : Int) < (n : Int) := by omega
      rw [← hsame.out] at c1 c2
      have hst := hid (fun he => hup.out.step g1 g2 he)
      have hno : xs[j] ≠ ys[j] → decide (xs = ys) = false := fun h => decide_eq_false fun e => h (by subst e; rfl)
      replace hno := hid hno
      generalize xs[j] = x at *
      generalize ys[j] = y at *
      clear hup
      by_cases hxy : x = y
      · replace hst := hid (hst.out hxy)
        subst hxy
        go_wp2_with fail
        go_region
        all_goals
          go_wp2_with fail
          go_roundw
          case rel => exact ⟨j + 1, by omega, by go_num, hst.out, drewN_drew hdr.out⟩
          case measure => simp [intOf]; omega
      · replace hno := hid (hno.out hxy)
        have e1 : (x == y) = false := beq_eq_false_iff_ne.2 hxy
        have e2 : (x != y) = true := by simp [bne, e1]
        go_wp2_with fail
        go_region
        all_goals
          go_wp2_with fail
          go_ret
          exact ⟨ret_bool hno.out.symm, drewN_drew hdr.out⟩
    · have hje : j = n := by omega
      subst hje
      have hd : decide (xs = ys) = true := decide_eq_true (by
        have := hup.out
        rw [← hn] at this
        exact UptoE.all this (by rw [hn]; exact hlH.out))
      replace hd := hid hd
      go_wp2_with fail
      go_ret
      exact ⟨ret_bool hd.out.symm, hdr.out⟩
theorem RowsAt.drewN {w : World} {A : Option Addr} {rs : List Ro} (h : RowsAt w A rs) (k : Nat) : RowsAt (w.drewN k) A rs := h.keep ⟨rfl, rfl, rfl, Nat.le_refl _, fun _ _ => rfl⟩
set_option maxRecDepth 100000 in
set_option maxHeartbeats 2000000 in
theorem rsame_any (rs qs : List Ro) (A B : Option Addr) (p q : Nat) (w : World) (hx : RowsAt w A rs) (hy : RowsAt w B qs) (h1 : rs.length ≤ maxLen) (h2 : qs.length ≤ maxLen) :
    Calls Tryd.prog 33 #[.slice A rs.length p, .slice B qs.length q] w fun e w' => e = .returned (.bool (decide (rosL rs = rosL qs))) ∧ ∃ k, w' = w.drewN k := by
  unfold maxLen at h1 h2
  have hX := hid hx
  have hY := hid hy
  have hx1 : (rs.length : Int) ≤ 9223372036854775807 := by omega
  have hy1 : (qs.length : Int) ≤ 9223372036854775807 := by omega
  clear hx hy
  by_cases hl : rs.length = qs.length
  case neg =>
    have hd : decide (rosL rs = rosL qs) = false := decide_eq_false fun e => hl (by rw [← rosL_len rs, ← rosL_len qs, e])
    have hl' : ((rs.length : Int) == (qs.length : Int)) = false := beq_eq_false_iff_ne.2 (by omega)
    have hl2 : ((rs.length : Int) != (qs.length : Int)) = true := by simp [bne, hl']
    rw [hd]
    go_enter Tryd.func33, Tryd.ntmps33
    go_wp2_with fail
    go_ret
    exact ⟨rfl, 0, rfl⟩
  case pos =>
  have hlH := hid hl
  rw [← hl]
  generalize hn : rs.length = n at *
  clear hl
  generalize hP : decide (rosL rs = rosL qs) = P at *
  replace hP := hid hP
  go_enter Tryd.func33, Tryd.ntmps33
  go_wp2_with fail
  go_loopw [5] (fun i wr => ∃ j : Nat, j ≤ n ∧ i = .int .i64 j ∧ Hid (UptoE (rosL rs) (rosL qs) j) ∧ Hid (∃ k, wr = w.drewN k)) (fun i _ => n - (intOf i).toNat)
  case atStart => exact ⟨0, Nat.zero_le _, rfl, (fun m _ _ h => absurd h (by omega)), ⟨0, rfl⟩⟩
  case round =>
    obtain ⟨j, hj, rfl, hup, hdr⟩ := hrel
    by_cases hlt : j < n
    · have g1 : j < rs.length := by omega
      have g2 : j < qs.length := by have := hlH.out; omega
      have hXw : RowsAt wr A rs := by
        obtain ⟨k, rfl⟩ := hdr.out
        exact hX.out.drewN k
      have hYw : RowsAt wr B qs := by
        obtain ⟨k, rfl⟩ := hdr.out
        exact hY.out.drewN k
      obtain ⟨b1, o1, hA1, c1, i1, m1, -⟩ := hXw j g1
      obtain ⟨b2, o2, hB1, c2, i2, m2, -⟩ := hYw j g2
      have cI := hid (fun q => Calls.quiet_of (n := q) (rsame1_any rs[j].l qs[j].l rs[j].S.A qs[j].S.A rs[j].S.cap qs[j].S.cap (wr.drewN q) (i1.drewN q) (i2.drewN q) m1 m2))
      have q1 : j < (rosL rs).length := by rw [rosL_len]; exact g1
      have q2 : j < (rosL qs).length := by rw [rosL_len]; exact g2
      have hst := fun he => hup.out.step q1 q2 he
      have hno : (rosL rs)[j] ≠ (rosL qs)[j] → P = false := fun h => by rw [← hP.out]; exact decide_eq_false fun e => h (by simp only [e])
      have e1 : (rosL rs)[j] = rs[j].l := List.getElem_map ..
      have e2 : (rosL qs)[j] = qs[j].l := List.getElem_map ..
      rw [e1, e2] at hst hno
      generalize rs[j] = x at *
      generalize qs[j] = y at *
      obtain ⟨lx, ⟨Ax, cx⟩⟩ := x
      obtain ⟨ly, ⟨Ay, cy⟩⟩ := y
      dsimp only at c1 c2 cI hst hno
      have hj0 : (0 : Int) ≤ (j : Int) := by omega
      have hj1 : (j : Int) < (n : Int) := by omega
      have hq : ∀ q, ∃ k, wr.drewN q = w.drewN k := fun q => by obtain ⟨k, rfl⟩ := hdr.out; exact ⟨k + q, World.drewN_drewN _ _ _⟩
      replace hq := hid hq
      clear hup hXw hYw i1 i2 hdr e1 e2 q1 q2 g1 g2
      subst hA1 hB1
      by_cases he : lx = ly
      · have hst2 := hid (hst he)
        rw [show decide (lx = ly) = true from decide_eq_true he] at cI
        clear hst hno
        replace he := hid he
        go_wp2_with fail
        go_quiet (exact cI.out _)
        go_wp2_with fail
        go_roundw
        case rel => exact ⟨j + 1, by omega, by go_num, hst2.out, hq.out _⟩
        case measure => simp [intOf]; omega
      · obtain rfl := hno he
        rw [show decide (lx = ly) = false from decide_eq_false he] at cI
        clear hst hno
        replace he := hid he
        go_wp2_with fail
        go_quiet (exact cI.out _)
        go_wp2_with fail
        go_ret
        exact ⟨rfl, hq.out _⟩
    · have hje : j = n := by omega
      subst hje
      obtain rfl : true = P := by
        rw [← hP.out]
        refine (decide_eq_true ?_).symm
        refine UptoE.all (by rw [rosL_len, hn]; exact hup.out) ?_
        rw [rosL_len, rosL_len]
        have := hlH.out
        omega
      go_wp2_with fail
      go_ret
      exact ⟨rfl, hdr.out⟩

def fewR (rs : List Ro) : Bool := rs.all (fun x => decide (x.l.length ≤ 20)) && decide (rs.length ≤ 30)
set_option maxRecDepth 100000 in
set_option maxHeartbeats 1000000 in
theorem tfew_any (rs : List Ro) (A : Option Addr) (p : Nat) (w : World) (hx : RowsAt w A rs) (h1 : rs.length ≤ maxLen) :
    Calls Tryd.prog 28 #[.slice A rs.length p] w fun e w' => e = .returned (.bool (fewR rs)) ∧ w = w' := by
  have hX := hid hx
  unfold maxLen at h1
  have hx1 : (rs.length : Int) ≤ 9223372036854775807 := by omega
  clear hx
  generalize hp : fewR rs = P at *
  have hbad := hid (fun j (hj : j < rs.length) (h : ¬ rs[j].l.length ≤ 20) => show P = false by
    rw [← hp]; unfold fewR
    rw [show rs.all (fun x => decide (x.l.length ≤ 20)) = false from List.all_eq_false.2 ⟨_, List.getElem_mem hj, by simpa using h⟩]; rfl)
  have hend := hid (fun (h : (rs.take rs.length).all (fun x => decide (x.l.length ≤ 20)) = true) => show P = decide (rs.length ≤ 30) by
    rw [List.take_length] at h; rw [← hp]; unfold fewR; rw [h]; rfl)
  clear hp
  obtain ⟨n, hn⟩ : ∃ n, n = rs.length := ⟨_, rfl⟩
  rw [← hn] at hx1 ⊢
  replace hn := hid hn
  go_enter Tryd.func28, Tryd.ntmps28
  go_wp2_with fail
  go_loopw [7] (fun i wr => ∃ j : Nat, j ≤ n ∧ i = .int .i64 j ∧ Hid ((rs.take j).all (fun x => decide (x.l.length ≤ 20)) = true) ∧ Hid (wr = w)) (fun i _ => n - (intOf i).toNat)
  case atStart => exact ⟨0, Nat.zero_le _, rfl, rfl, rfl⟩
  case round =>
    obtain ⟨j, hj, rfl, hall, hbr⟩ := hrel
    by_cases hlt : j < n
    · have hjl : j < rs.length := by rw [← hn.out]; exact hlt
      have hXw : RowsAt wr A rs := by rw [hbr.out]; exact hX.out
      obtain ⟨b, o, hA, hc, -, hm, -⟩ := hXw j hjl
      have hbd := hid (hbad.out j hjl)
      have hmo := hid (fun h : rs[j].l.length ≤ 20 => show (rs.take (j + 1)).all (fun x => decide (x.l.length ≤ 20)) = true by
        rw [List.take_succ_eq_append_getElem hjl, List.all_append, hall.out]; simpa using h)
      generalize rs[j] = x at *
      obtain ⟨l, ⟨SA, Sc⟩⟩ := x
      dsimp only at hc hm hbd hmo
      unfold maxLen at hm
      have hj0 : (0 : Int) ≤ (j : Int) := by omega
      have hj1 : (j : Int) < (n : Int) := by omega
      clear hXw
      subst hA
      by_cases h20 : l.length ≤ 20
      · have hi : ¬ (20 : Int) < (l.length : Int) := by omega
        have hok := hid (hmo.out h20)
        clear hbd hmo
        go_wp2_with fail
        go_roundw
        case rel => exact ⟨j + 1, by omega, by go_num, hok.out, hbr⟩
        case measure => simp [intOf]; omega
      · have hi : (20 : Int) < (l.length : Int) := by omega
        obtain rfl := hbd.out h20
        clear hbd hmo
        go_wp2_with fail
        go_ret
        exact ⟨rfl, hbr.out.symm⟩
    · have hje : j = n := by omega
      subst hje
      have he := hend.out (by rw [← hn.out]; exact hall.out)
      rw [← hn.out] at he
      subst he
      by_cases h6 : j ≤ 30
      · have hi : (j : Int) ≤ 30 := by omega
        go_wp2_with fail
        go_ret
        exact ⟨by first | (simp; done) | (simp [h6]; done), hbr.out.symm⟩
      · have hi : ¬ (j : Int) ≤ 30 := by omega
        go_wp2_with fail
        go_ret
        exact ⟨by first | (simp; done) | (simp [h6]; done), hbr.out.symm⟩
end Go.Proofs.YtmdnmodjdgcmjaaDoor
