/-
  The walk of blanks: what may stand between tokens is gone over.
-/
import Derived.Deep.LoopGhost
import Derived.Test.YtnlikhjmmnaknaaDoorScan
namespace Go.Proofs.YtnlikhjmmnaknaaDoor
open Go.RowKit

/-- how many bytes may stand between tokens; the first word: within a remark? -/
def ov : Bool → List UInt8 → Nat
  | _, [] => 0
  | true, c :: l => if c.toNat = 10 then 1 + ov false l else 1 + ov true l
  | false, c :: l => if c.toNat = 32 ∨ c.toNat = 9 ∨ c.toNat = 10 ∨ c.toNat = 13 then 1 + ov false l else if c.toNat = 35 then 1 + ov true l else 0
/-- where they end -/
def over (s : ByteArray) (i : Nat) : Nat := i + ov false (s.data.toList.drop i)
def overIn (s : ByteArray) (i : Nat) : Nat := i + ov true (s.data.toList.drop i)

theorem ov_le : ∀ (l : List UInt8) (b : Bool), ov b l ≤ l.length := by
  intro l
  induction l with
  | nil => intro b; cases b <;> simp [ov]
  | cons c l ih =>
    intro b
    have h1 := ih false
    have h2 := ih true
    cases b with
    | true => rw [ov]; split <;> simp <;> omega
    | false => rw [ov]; (repeat' split) <;> simp <;> omega
theorem over_le (s : ByteArray) (i : Nat) (h : i ≤ s.size) : i ≤ over s i ∧ over s i ≤ s.size := by
  have := ov_le (s.data.toList.drop i) false
  rw [List.length_drop, ← size_len] at this
  unfold over; omega
theorem drop_bt (s : ByteArray) (i : Nat) (h : i < s.size) : ∃ c : UInt8, s.data.toList.drop i = c :: s.data.toList.drop (i + 1) ∧ (c.toNat : Int) = bt s i := ⟨s[i], byte_data s i h, bt_eq s i h⟩
theorem drop_end (s : ByteArray) : s.data.toList.drop s.size = [] := List.drop_of_length_le (by rw [← size_len]; exact Nat.le_refl _)

theorem over_blank {s : ByteArray} {i : Nat} (h : i < s.size) (hb : bt s i = 32 ∨ bt s i = 9 ∨ bt s i = 10 ∨ bt s i = 13) : over s i = over s (i + 1) := by
  obtain ⟨c, hd, hc⟩ := drop_bt s i h
  unfold over
  rw [hd, ov, if_pos (by omega)]; omega
theorem over_rem {s : ByteArray} {i : Nat} (h : i < s.size) (hb : bt s i = 35) : over s i = overIn s i := by
  obtain ⟨c, hd, hc⟩ := drop_bt s i h
  unfold over overIn
  rw [hd, ov, ov, if_neg (by omega), if_pos (by omega), if_neg (by omega)]
theorem over_stop {s : ByteArray} {i : Nat} (h : i < s.size) (hb : ¬ (bt s i = 32 ∨ bt s i = 9 ∨ bt s i = 10 ∨ bt s i = 13)) (h2 : ¬ bt s i = 35) : over s i = i := by
  obtain ⟨c, hd, hc⟩ := drop_bt s i h
  unfold over
  rw [hd, ov, if_neg (by omega), if_neg (by omega)]; omega
theorem over_end (s : ByteArray) : over s s.size = s.size := by unfold over; rw [drop_end]; rfl
theorem overIn_on {s : ByteArray} {i : Nat} (h : i < s.size) (hb : ¬ bt s i = 10) : overIn s i = overIn s (i + 1) := by
  obtain ⟨c, hd, hc⟩ := drop_bt s i h
  unfold overIn
  rw [hd, ov, if_neg (by omega)]; omega
theorem overIn_nl {s : ByteArray} {i : Nat} (h : i < s.size) (hb : bt s i = 10) : overIn s i = over s i := by
  obtain ⟨c, hd, hc⟩ := drop_bt s i h
  unfold over overIn
  rw [hd, ov, ov, if_pos (by omega), if_pos (by omega)]
theorem overIn_end (s : ByteArray) : overIn s s.size = over s s.size := by unfold over overIn; rw [drop_end]; rfl

set_option maxRecDepth 100000 in
set_option maxHeartbeats 2000000 in
theorem blanks_any (g : Nat) (s : ByteArray) (i : Nat) (w : World) (hS : ScanAt w g s i) (hi : i ≤ s.size) (hs : s.size ≤ 1000000) :
    Calls Tryd.prog 60 #[.pointer (some ⟨g, 0, none⟩)] w fun r w' => r = .returned (.tuple #[]) ∧ ScanAt w' g s (over s i) ∧ w.grownBy w' (some g) := by
  have hsk : ∀ (q : Nat) (W : World), ScanAt W g s q → q < s.size → Calls Tryd.prog 77 #[.pointer (some ⟨g, 0, none⟩), .int .i64 1] W fun r w' => r = .returned (.tuple #[]) ∧ ScanAt w' g s (q + 1) ∧ W.grownBy w' (some g) := fun q W h hq =>
    skip_any g s q 1 W h (by omega) hs
  have HK := hid hsk
  clear hsk
  go_enter Tryd.func60, Tryd.ntmps60
  go_wp2_with fail
  go_step3
  go_wp2_with fail
  go_step3
  go_wp2_with fail
  go_loopg [21] s.size (fun k _ wr => ∃ q : Nat, q ≤ s.size ∧ s.size ≤ q + k ∧ q + k ≤ s.size + i ∧ ScanAt wr g s q ∧ Hid (over s q = over s i) ∧ w.grownBy wr (some g))
  case atStart => exact ⟨i, hi, by omega, by omega, hS, rfl, World.grownBy.refl _ _⟩
  case round =>
    obtain ⟨q, hq, hk1, hk2, hS1, hov, hg1⟩ := hrel
    obtain ⟨c0, c1, c2, c3⟩ := hS1.cells
    have f0 := hS1.free
    by_cases hlt : q < s.size
    · have hi0 : (0 : Int) ≤ (q : Int) := by omega
      have hi1 : (q : Int) < (s.size : Int) := by omega
      have hbt := bt_eq s q hlt
      by_cases hbl : bt s q = 32 ∨ bt s q = 9 ∨ bt s q = 10 ∨ bt s q = 13
      · have hov2 := hid (over_blank hlt hbl)
        generalize bt s q = b at *
        rcases hbl with rfl | rfl | rfl | rfl
        all_goals
          go_wp2_with fail
          go_quiet (fail)
          go_wp2_with fail
          go_quiet (fail)
          go_wp2_with fail
          refine (HK.out q _ (by exact hS1) hlt).mono ?_
          rintro r w1 ⟨rfl, hS2, hg2⟩
          go_wp2_with fail
          go_roundg (gk - 1)
          case measure => omega
          case rel =>
            refine ⟨q + 1, by omega, by omega, by omega, hS2, hov2.out.symm.trans hov.out, hg1.trans ((chg_drewN _ _ _).trans hg2)⟩
      · by_cases hre : bt s q = 35
        · have hov2 := hid ((over_rem hlt hre).symm.trans hov.out)
          have hne := hid (show bt s q ≠ 10 by omega)
          clear hbl
          have hbt2 : (s[q].toNat : Int) = 35 := by rw [hbt, hre]
          clear hbt hre
          go_wp2_with fail
          go_quiet (fail)
          go_wp2_with fail
          go_quiet (fail)
          go_wp2_with fail
          obtain ⟨wo, hwo⟩ : ∃ wo : World, wo = wr := ⟨_, rfl⟩
          rw [← hwo] at hS1 hg1 ⊢
          clear c0 c1 c2 c3 f0 hbt2 hwo
          go_loopg [52] s.size (fun k2 _ wr2 => ∃ p : Nat, q ≤ p ∧ p ≤ s.size ∧ s.size ≤ p + k2 ∧ p + k2 ≤ s.size + q ∧ ScanAt wr2 g s p ∧ Hid (overIn s p = over s i) ∧ w.grownBy wr2 (some g))
          case atStart => exact ⟨q, by omega, by omega, by omega, by omega, hS1, hov2, hg1.trans (chg_drewN _ _ _)⟩
          case round =>
            obtain ⟨p, hp, hps, hk3, hk4, hS3, hov3, hg3⟩ := hrel
            obtain ⟨c0, c1, c2, c3⟩ := hS3.cells
            have f0 := hS3.free
            by_cases hlp : p < s.size
            · have hp0 : (0 : Int) ≤ (p : Int) := by omega
              have hp1 : (p : Int) < (s.size : Int) := by omega
              have hd : decide ((p : Int) < (s.size : Int)) = true := by simp; omega
              have hbp := bt_eq s p hlp
              by_cases h10 : bt s p = 10
              · have hov4 := hid ((overIn_nl hlp h10).symm.trans hov3.out)
                have hpq : q < p := by
                  rcases Nat.lt_or_ge q p with h | h
                  · exact h
                  · obtain rfl : q = p := by omega
                    exact absurd h10 hne.out
                have t1 : ((s[p].toNat : Int) != 10) = false := by rw [hbp, h10]; rfl
                clear hbp h10
                go_wp2_with fail
                go_quiet (fail)
                go_wp2_with fail
                go_roundg (s.size - p)
                case measure => omega
                case rel => exact ⟨p, by omega, by omega, by omega, hS3, hov4, hg3.trans (chg_drewN _ _ _)⟩
              · have hov4 := hid ((overIn_on hlp h10).symm.trans hov3.out)
                have t1 : ((s[p].toNat : Int) != 10) = true := by rw [hbp]; simp; omega
                clear hbp h10
                go_wp2_with fail
                go_quiet (fail)
                go_wp2_with fail
                refine (HK.out p _ (by exact hS3) hlp).mono ?_
                rintro r w1 ⟨rfl, hS4, hg4⟩
                go_wp2_with fail
                go_roundg (gk - 1)
                case measure => omega
                case rel => exact ⟨p + 1, by omega, by omega, by omega, by omega, hS4, hov4, hg3.trans ((chg_drewN _ _ _).trans hg4)⟩
            · obtain rfl : p = s.size := by omega
              have hfl : decide ((s.size : Int) < (s.size : Int)) = false := by simp
              go_wp2_with fail
              go_quiet (fail)
              go_wp2_with fail
              go_roundg 0
              case measure => omega
              case rel => exact ⟨s.size, by omega, by omega, by omega, hS3, (overIn_end s).symm.trans hov3.out, hg3.trans (chg_drewN _ _ _)⟩
        · have hov2 := hid (over_stop hlt hbl hre)
          have t1 : (bt s q == 32) = false := by simp; omega
          have t2 : (bt s q == 9) = false := by simp; omega
          have t3 : (bt s q == 10) = false := by simp; omega
          have t4 : (bt s q == 13) = false := by simp; omega
          have t5 : (bt s q == 35) = false := by simp; omega
          clear hbl hre
          generalize bt s q = b at *
          go_wp2_with fail
          go_quiet (fail)
          go_wp2_with fail
          go_quiet (fail)
          go_wp2_with fail
          rw [Exit.noGoto_normal]
          go_end0
          exact ⟨rfl, by rw [← hov.out, hov2.out]; exact hS1, hg1.trans (chg_drewN _ _ _)⟩
    · obtain rfl : q = s.size := by omega
      have hfl : decide ((s.size : Int) < (s.size : Int)) = false := by simp
      go_wp2_with fail
      go_quiet (fail)
      go_wp2_with fail
      rw [Exit.noGoto_normal]
      go_end0
      exact ⟨rfl, by rw [← hov.out, over_end]; exact hS1, hg1.trans (chg_drewN _ _ _)⟩
end Go.Proofs.YtnlikhjmmnaknaaDoor
