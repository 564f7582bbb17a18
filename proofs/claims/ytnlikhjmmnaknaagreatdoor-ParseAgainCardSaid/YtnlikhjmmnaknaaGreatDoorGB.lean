/-
  Texts of this claim, joined: Scan Scan2 Scan3 Scan4 Scan5 Scan6 Scan7 Scan8 Scan9 RPlace ROne ROne2 RScan.
-/
import Derived.Deep.QuietTactic
import Derived.BigQuiet
import Derived.Maps.AppendAt
import Derived.Test.YtnlikhjmmnaknaaGreatDoorGA
import Derived.Deep.LoopGhost
import Derived.IntWalk
import Derived.StillTailTactics
import Derived.RangeFuncNested
import Derived.Shelf.Abstract
import Derived.Deep.RegionHeld3
import Derived.Deep.AppendLies
import Derived.RangeFuncRecord
/-
  The scanner: where it stands, and the walk of skip.
-/
namespace Go.Proofs.YtnlikhjmmnaknaaGreatDoor
open Go.RowKit

/-- a byte of a text -/
def bt (s : ByteArray) (i : Nat) : Int := ((s.data.toList[i]?.getD 0).toNat : Int)
theorem bt_eq (s : ByteArray) (i : Nat) (h : i < s.size) : (s[i].toNat : Int) = bt s i := by
  unfold bt
  rw [List.getElem?_eq_getElem (by simpa using h)]; rfl
/-- the place of a byte -/
def place (s : ByteArray) : Nat → Int × Int
  | 0 => (1, 1)
  | i + 1 => if bt s i = 10 then ((place s i).1 + 1, 1) else ((place s i).1, (place s i).2 + 1)
theorem place_bd (s : ByteArray) : ∀ i : Nat, 1 ≤ (place s i).1 ∧ (place s i).1 ≤ i + 1 ∧ 1 ≤ (place s i).2 ∧ (place s i).2 ≤ i + 1 := by
  intro i
  induction i with
  | zero => simp [place]
  | succ i ih =>
    unfold place
    split <;> simp <;> omega
theorem place_nl {s : ByteArray} {i : Nat} (h : bt s i = 10) : place s (i + 1) = ((place s i).1 + 1, 1) := by rw [place, if_pos h]
theorem place_on {s : ByteArray} {i : Nat} (h : ¬ bt s i = 10) : place s (i + 1) = ((place s i).1, (place s i).2 + 1) := by rw [place, if_neg h]

/-- the scanner's object: a text, and how far it was read -/
def ScanAt (w : World) (g : Nat) (s : ByteArray) (i : Nat) : Prop :=
  w.heap[g]? = some (.cells #[.string s, .int .i64 i, .int .i64 (place s i).1, .int .i64 (place s i).2] 87 (0, 0))
theorem ScanAt.lt {w : World} {g : Nat} {s : ByteArray} {i : Nat} (h : ScanAt w g s i) : g < w.heap.size := (Array.getElem?_eq_some_iff.1 h).1
theorem ScanAt.cells {w : World} {g : Nat} {s : ByteArray} {i : Nat} (h : ScanAt w g s i) :
    w.cell? ⟨g, 0, none⟩ = some (.string s) ∧ w.cell? ⟨g, 1, none⟩ = some (.int .i64 i) ∧ w.cell? ⟨g, 2, none⟩ = some (.int .i64 (place s i).1) ∧ w.cell? ⟨g, 3, none⟩ = some (.int .i64 (place s i).2) := by
  unfold ScanAt at h
  refine ⟨?_, ?_, ?_, ?_⟩ <;> simp [World.cell?, h]
theorem ScanAt.free {w : World} {g : Nat} {s : ByteArray} {i : Nat} (h : ScanAt w g s i) (k : Nat) : w.frozen? ⟨g, k, none⟩ = false := by
  unfold ScanAt at h
  simp [World.frozen?, h]
theorem blk_set {w : World} {g : Nat} {cs : Array Value} {t : TypeId} {fr : Nat × Nat} (h : w.heap[g]? = some (.cells cs t fr)) (k : Nat) (v : Value) :
    (w.setCell ⟨g, k, none⟩ v).heap[g]? = some (.cells (cs.setIfInBounds k v) t fr) := by
  simp [World.setCell, Array.getElem?_modify, h]
theorem chg_set (w : World) (g k : Nat) (v : Value) : w.grownBy (w.setCell ⟨g, k, none⟩ v) (some g) :=
  ⟨rfl, rfl, rfl, by simp [World.setCell], fun i _ hne => Below.heap_setCell w ⟨g, k, none⟩ v i (fun e => hne (by rw [e]))⟩
theorem chg_drewN (w : World) (n : Nat) (row : Option Nat) : w.grownBy (w.drewN n) row := ⟨rfl, rfl, rfl, Nat.le_refl _, fun _ _ _ => rfl⟩

set_option maxRecDepth 100000 in
set_option maxHeartbeats 1000000 in
theorem skip_any (g : Nat) (s : ByteArray) (i n : Nat) (w : World) (hS : ScanAt w g s i) (hn : i + n ≤ s.size) (hs : s.size ≤ 1000000) :
    Calls Tryz.prog 74 #[.pointer (some ⟨g, 0, none⟩), .int .i64 n] w fun r w' => r = .returned (.tuple #[]) ∧ ScanAt w' g s (i + n) ∧ w.grownBy w' (some g) := by
  go_enter Tryz.func74, Tryz.ntmps74
  go_wp2_with fail
  go_loopw [5] (fun c wr => ∃ j q : Nat, j ≤ n ∧ i + j ≤ q ∧ q ≤ i + j ∧ c = .int .i64 j ∧ ScanAt wr g s q ∧ w.grownBy wr (some g)) (fun c _ => n - (intOf c).toNat)
  case atStart => exact ⟨0, i, by omega, by omega, by omega, rfl, hS, World.grownBy.refl _ _⟩
  case round =>
    obtain ⟨j, q, hj, hq1, hq2, rfl, hS1, hg1⟩ := hrel
    by_cases hlt : j < n
    · obtain ⟨c0, c1, c2, c3⟩ := hS1.cells
      have f0 := hS1.free
      have hij : q < s.size := by omega
      have hbd := place_bd s q
      have hi0 : (0 : Int) ≤ (q : Int) := by omega
      have hi1 : (q : Int) < (s.size : Int) := by omega
      have hbt := bt_eq s q hij
      by_cases h10 : bt s q = 10
      · have hp := hid (place_nl h10)
        have ht : ((s[q].toNat : Int) == 10) = true := by rw [hbt, h10]; rfl
        clear hbt h10
        go_wp2_with fail
        go_quiet (fail)
        go_wp2_with fail
        go_roundw
        case rel =>
          refine ⟨j + 1, q + 1, by omega, by omega, by omega, by go_num, ?_, ?_⟩
          · have h := blk_set (blk_set (blk_set (blk_set (w := wr.drewN nq) hS1 2 (.int .i64 ((place s q).1 + 1))) 3 (.int .i64 0)) 3 (.int .i64 1)) 1 (.int .i64 ((q : Int) + 1))
            unfold ScanAt
            rw [hp.out, h]
            rfl
          · exact hg1.trans (((((chg_drewN _ _ _).trans (chg_set _ _ _ _)).trans (chg_set _ _ _ _)).trans (chg_set _ _ _ _)).trans (chg_set _ _ _ _))
        case measure => simp [intOf]; omega
      · have hp := hid (place_on h10)
        have ht : ((s[q].toNat : Int) == 10) = false := by rw [hbt]; simpa using h10
        clear hbt h10
        go_wp2_with fail
        go_quiet (fail)
        go_wp2_with fail
        go_roundw
        case rel =>
          refine ⟨j + 1, q + 1, by omega, by omega, by omega, by go_num, ?_, ?_⟩
          · have h := blk_set (blk_set (w := wr.drewN nq) hS1 3 (.int .i64 ((place s q).2 + 1))) 1 (.int .i64 ((q : Int) + 1))
            unfold ScanAt
            rw [hp.out, h]
            rfl
          · exact hg1.trans (((chg_drewN _ _ _).trans (chg_set _ _ _ _)).trans (chg_set _ _ _ _))
        case measure => simp [intOf]; omega
    · have : j = n := by omega
      subst this
      obtain rfl : q = i + j := by omega
      go_wp2_with fail
      go_end0
      exact ⟨rfl, hS1, hg1⟩
end Go.Proofs.YtnlikhjmmnaknaaGreatDoor
/-
  The walk of blanks: what may stand between tokens is gone over.
-/
namespace Go.Proofs.YtnlikhjmmnaknaaGreatDoor
open Go.RowKit

/-- how many bytes may stand between tokens; the first word: within a remark? -/
def ov : Bool → List UInt8 → Nat
  | _, [] => 0
  | true, c :: l => if c.toNat = 10 then 1 + ov false l else 1 + ov true l
  | false, c :: l => if c.toNat = 32 ∨ c.toNat = 9 ∨ c.toNat = 10 ∨ c.toNat = 13 then 1 + ov false l else if c.toNat = 35 then 1 + ov true l else 0
/-- where they end -/
def over (s : ByteArray) (i : Nat) : Nat := i + ov false (s.data.toList.drop i)
def overIn (s : ByteArray) (i : Nat) : Nat := i + ov true (s.data.toList.drop i)

theorem ov_le : ∀ (l : List UInt8) (b : Bool), ov b l ≤ l.length := by
  intro l
  induction l with
  | nil => intro b; cases b <;> simp [ov]
  | cons c l ih =>
    intro b
    have h1 := ih false
    have h2 := ih true
    cases b with
    | true => rw [ov]; split <;> simp <;> omega
    | false => rw [ov]; (repeat' split) <;> simp <;> omega
theorem over_le (s : ByteArray) (i : Nat) (h : i ≤ s.size) : i ≤ over s i ∧ over s i ≤ s.size := by
  have := ov_le (s.data.toList.drop i) false
  rw [List.length_drop, ← size_len] at this
  unfold over; omega
theorem drop_bt (s : ByteArray) (i : Nat) (h : i < s.size) : ∃ c : UInt8, s.data.toList.drop i = c :: s.data.toList.drop (i + 1) ∧ (c.toNat : Int) = bt s i := ⟨s[i], byte_data s i h, bt_eq s i h⟩
theorem drop_end (s : ByteArray) : s.data.toList.drop s.size = [] := List.drop_of_length_le (by rw [← size_len]; exact Nat.le_refl _)

theorem over_blank {s : ByteArray} {i : Nat} (h : i < s.size) (hb : bt s i = 32 ∨ bt s i = 9 ∨ bt s i = 10 ∨ bt s i = 13) : over s i = over s (i + 1) := by
  obtain ⟨c, hd, hc⟩ := drop_bt s i h
  unfold over
  rw [hd, ov, if_pos (by omega)]; omega
theorem over_rem {s : ByteArray} {i : Nat} (h : i < s.size) (hb : bt s i = 35) : over s i = overIn s i := by
  obtain ⟨c, hd, hc⟩ := drop_bt s i h
  unfold over overIn
  rw [hd, ov, ov, if_neg (by omega), if_pos (by omega), if_neg (by omega)]
theorem over_stop {s : ByteArray} {i : Nat} (h : i < s.size) (hb : ¬ (bt s i = 32 ∨ bt s i = 9 ∨ bt s i = 10 ∨ bt s i = 13)) (h2 : ¬ bt s i = 35) : over s i = i := by
  obtain ⟨c, hd, hc⟩ := drop_bt s i h
  unfold over
  rw [hd, ov, if_neg (by omega), if_neg (by omega)]; omega
theorem over_end (s : ByteArray) : over s s.size = s.size := by unfold over; rw [drop_end]; rfl
theorem overIn_on {s : ByteArray} {i : Nat} (h : i < s.size) (hb : ¬ bt s i = 10) : overIn s i = overIn s (i + 1) := by
  obtain ⟨c, hd, hc⟩ := drop_bt s i h
  unfold overIn
  rw [hd, ov, if_neg (by omega)]; omega
theorem overIn_nl {s : ByteArray} {i : Nat} (h : i < s.size) (hb : bt s i = 10) : overIn s i = over s i := by
  obtain ⟨c, hd, hc⟩ := drop_bt s i h
  unfold over overIn
  rw [hd, ov, ov, if_pos (by omega), if_pos (by omega)]
theorem overIn_end (s : ByteArray) : overIn s s.size = over s s.size := by unfold over overIn; rw [drop_end]; rfl

set_option maxRecDepth 100000 in
set_option maxHeartbeats 2000000 in
theorem blanks_any (g : Nat) (s : ByteArray) (i : Nat) (w : World) (hS : ScanAt w g s i) (hi : i ≤ s.size) (hs : s.size ≤ 1000000) :
    Calls Tryz.prog 39 #[.pointer (some ⟨g, 0, none⟩)] w fun r w' => r = .returned (.tuple #[]) ∧ ScanAt w' g s (over s i) ∧ w.grownBy w' (some g) := by
  have hsk : ∀ (q : Nat) (W : World), ScanAt W g s q → q < s.size → Calls Tryz.prog 74 #[.pointer (some ⟨g, 0, none⟩), .int .i64 1] W fun r w' => r = .returned (.tuple #[]) ∧ ScanAt w' g s (q + 1) ∧ W.grownBy w' (some g) := fun q W h hq =>
    skip_any g s q 1 W h (by omega) hs
  have HK := hid hsk
  clear hsk
  go_enter Tryz.func39, Tryz.ntmps39
  go_wp2_with fail
  go_step3
  go_wp2_with fail
  go_step3
  go_wp2_with fail
  go_loopg [21] s.size (fun k _ wr => ∃ q : Nat, q ≤ s.size ∧ s.size ≤ q + k ∧ q + k ≤ s.size + i ∧ ScanAt wr g s q ∧ Hid (over s q = over s i) ∧ w.grownBy wr (some g))
  case atStart => exact ⟨i, hi, by omega, by omega, hS, rfl, World.grownBy.refl _ _⟩
  case round =>
    obtain ⟨q, hq, hk1, hk2, hS1, hov, hg1⟩ := hrel
    obtain ⟨c0, c1, c2, c3⟩ := hS1.cells
    have f0 := hS1.free
    by_cases hlt : q < s.size
    · have hi0 : (0 : Int) ≤ (q : Int) := by omega
      have hi1 : (q : Int) < (s.size : Int) := by omega
      have hbt := bt_eq s q hlt
      by_cases hbl : bt s q = 32 ∨ bt s q = 9 ∨ bt s q = 10 ∨ bt s q = 13
      · have hov2 := hid (over_blank hlt hbl)
        generalize bt s q = b at *
        rcases hbl with rfl | rfl | rfl | rfl
        all_goals
          go_wp2_with fail
          go_quiet (fail)
          go_wp2_with fail
          go_quiet (fail)
          go_wp2_with fail
          refine (HK.out q _ (by exact hS1) hlt).mono ?_
          rintro r w1 ⟨rfl, hS2, hg2⟩
          go_wp2_with fail
          go_roundg (gk - 1)
          case measure => omega
          case rel =>
            refine ⟨q + 1, by omega, by omega, by omega, hS2, hov2.out.symm.trans hov.out, hg1.trans ((chg_drewN _ _ _).trans hg2)⟩
      · by_cases hre : bt s q = 35
        · have hov2 := hid ((over_rem hlt hre).symm.trans hov.out)
          have hne := hid (show bt s q ≠ 10 by omega)
          clear hbl
          have hbt2 : (s[q].toNat : Int) = 35 := by rw [hbt, hre]
          clear hbt hre
          go_wp2_with fail
          go_quiet (fail)
          go_wp2_with fail
          go_quiet (fail)
          go_wp2_with fail
          obtain ⟨wo, hwo⟩ : ∃ wo : World, wo = wr := ⟨_, rfl⟩
          rw [← hwo] at hS1 hg1 ⊢
          clear c0 c1 c2 c3 f0 hbt2 hwo
          go_loopg [52] s.size (fun k2 _ wr2 => ∃ p : Nat, q ≤ p ∧ p ≤ s.size ∧ s.size ≤ p + k2 ∧ p + k2 ≤ s.size + q ∧ ScanAt wr2 g s p ∧ Hid (overIn s p = over s i) ∧ w.grownBy wr2 (some g))
          case atStart => exact ⟨q, by omega, by omega, by omega, by omega, hS1, hov2, hg1.trans (chg_drewN _ _ _)⟩
          case round =>
            obtain ⟨p, hp, hps, hk3, hk4, hS3, hov3, hg3⟩ := hrel
            obtain ⟨c0, c1, c2, c3⟩ := hS3.cells
            have f0 := hS3.free
            by_cases hlp : p < s.size
            · have hp0 : (0 : Int) ≤ (p : Int) := by omega
              have hp1 : (p : Int) < (s.size : Int) := by omega
              have hd : decide ((p : Int) < (s.size : Int)) = true := by simp; omega
              have hbp := bt_eq s p hlp
              by_cases h10 : bt s p = 10
              · have hov4 := hid ((overIn_nl hlp h10).symm.trans hov3.out)
                have hpq : q < p := by
                  rcases Nat.lt_or_ge q p with h | h
                  · exact h
                  · obtain rfl : q = p := by omega
                    exact absurd h10 hne.out
                have t1 : ((s[p].toNat : Int) != 10) = false := by rw [hbp, h10]; rfl
                clear hbp h10
                go_wp2_with fail
                go_quiet (fail)
                go_wp2_with fail
                go_roundg (s.size - p)
                case measure => omega
                case rel => exact ⟨p, by omega, by omega, by omega, hS3, hov4, hg3.trans (chg_drewN _ _ _)⟩
              · have hov4 := hid ((overIn_on hlp h10).symm.trans hov3.out)
                have t1 : ((s[p].toNat : Int) != 10) = true := by rw [hbp]; simp; omega
                clear hbp h10
                go_wp2_with fail
                go_quiet (fail)
                go_wp2_with fail
                refine (HK.out p _ (by exact hS3) hlp).mono ?_
                rintro r w1 ⟨rfl, hS4, hg4⟩
                go_wp2_with fail
                go_roundg (gk - 1)
                case measure => omega
                case rel => exact ⟨p + 1, by omega, by omega, by omega, by omega, hS4, hov4, hg3.trans ((chg_drewN _ _ _).trans hg4)⟩
            · obtain rfl : p = s.size := by omega
              have hfl : decide ((s.size : Int) < (s.size : Int)) = false := by simp
              go_wp2_with fail
              go_quiet (fail)
              go_wp2_with fail
              go_roundg 0
              case measure => omega
              case rel => exact ⟨s.size, by omega, by omega, by omega, hS3, (overIn_end s).symm.trans hov3.out, hg3.trans (chg_drewN _ _ _)⟩
        · have hov2 := hid (over_stop hlt hbl hre)
          have t1 : (bt s q == 32) = false := by simp; omega
          have t2 : (bt s q == 9) = false := by simp; omega
          have t3 : (bt s q == 10) = false := by simp; omega
          have t4 : (bt s q == 13) = false := by simp; omega
          have t5 : (bt s q == 35) = false := by simp; omega
          clear hbl hre
          generalize bt s q = b at *
          go_wp2_with fail
          go_quiet (fail)
          go_wp2_with fail
          go_quiet (fail)
          go_wp2_with fail
          rw [Exit.noGoto_normal]
          go_end0
          exact ⟨rfl, by rw [← hov.out, hov2.out]; exact hS1, hg1.trans (chg_drewN _ _ _)⟩
    · obtain rfl : q = s.size := by omega
      have hfl : decide ((s.size : Int) < (s.size : Int)) = false := by simp
      go_wp2_with fail
      go_quiet (fail)
      go_wp2_with fail
      rw [Exit.noGoto_normal]
      go_end0
      exact ⟨rfl, by rw [← hov.out, over_end]; exact hS1, hg1.trans (chg_drewN _ _ _)⟩
end Go.Proofs.YtnlikhjmmnaknaaGreatDoor
/-
  The walks of run, number and sign.
-/
namespace Go.Proofs.YtnlikhjmmnaknaaGreatDoor
open Go.RowKit

/-- how many bytes are so at the head of a text -/
def rn (p : Int → Bool) : List UInt8 → Nat
  | [] => 0
  | c :: l => if p (c.toNat : Int) = true then 1 + rn p l else 0
theorem rn_le (p : Int → Bool) : ∀ l : List UInt8, rn p l ≤ l.length := by
  intro l
  induction l with
  | nil => simp [rn]
  | cons c l ih => rw [rn]; split <;> simp <;> omega
theorem rn_on {p : Int → Bool} {s : ByteArray} {q : Nat} (h : q < s.size) (hp : p (bt s q) = true) : rn p (s.data.toList.drop q) = 1 + rn p (s.data.toList.drop (q + 1)) := by
  obtain ⟨c, hd, hc⟩ := drop_bt s q h
  rw [hd, rn, if_pos (by rw [hc]; exact hp)]
theorem rn_off {p : Int → Bool} {s : ByteArray} {q : Nat} (h : q < s.size) (hp : p (bt s q) = false) : rn p (s.data.toList.drop q) = 0 := by
  obtain ⟨c, hd, hc⟩ := drop_bt s q h
  rw [hd, rn, if_neg (by rw [hc, hp]; simp)]
theorem rn_end (p : Int → Bool) (s : ByteArray) : rn p (s.data.toList.drop s.size) = 0 := by rw [drop_end]; rfl

def partB (c : Int) : Bool := isLetter c || isDigit c

set_option maxHeartbeats 400000 in
theorem next1_any (c : Int) (w : World) :
    Calls Tryz.prog 77 #[.int .u8 c] w fun e w' => e = .returned (.bool (partB c)) ∧ w = w' := by
  cases h : isLetter c with
  | true =>
    go_enter Tryz.func77, Tryz.ntmps77
    go_wp2_with (first | (go_at_call 75; refine (letter_any _ _).mono ?_; rintro e w' ⟨rfl, rfl⟩) | (go_at_call 78; refine (digit_any _ _).mono ?_; rintro e w' ⟨rfl, rfl⟩))
    go_ret
    exact ⟨ret_bool (by simp [partB, h]), rfl⟩
  | false =>
    go_enter Tryz.func77, Tryz.ntmps77
    go_wp2_with (first | (go_at_call 75; refine (letter_any _ _).mono ?_; rintro e w' ⟨rfl, rfl⟩) | (go_at_call 78; refine (digit_any _ _).mono ?_; rintro e w' ⟨rfl, rfl⟩))
    go_ret
    exact ⟨ret_bool (by simp [partB, h]), rfl⟩

set_option maxRecDepth 100000 in
set_option maxHeartbeats 2000000 in
theorem run_any (f : Nat) (p : Int → Bool) (hcf : ∀ (args : Array Value) (W : World), (callFunc f args).run Tryz.prog W = .ok (.enter f args) W) (hf : ∀ (c : Int) (W : World), Calls Tryz.prog f #[.int .u8 c] W fun e w' => e = .returned (.bool (p c)) ∧ W = w') (g : Nat) (s : ByteArray) (i : Nat) (w : World) (hS : ScanAt w g s i) (hi : i ≤ s.size) (hs : s.size ≤ 1000000) :
    Calls Tryz.prog 76 #[.pointer (some ⟨g, 0, none⟩), .func (.func f) #[] #[]] w fun r w' => r = .returned (.int .i64 (rn p (s.data.toList.drop i) : Nat)) ∧ ∃ n, w' = w.drewN n := by
  have hcall : ∀ (c : Int) (W : World) (n : Nat), Calls Tryz.prog f #[.int .u8 c] (W.drewN n) fun e w' => e = .returned (.bool (p c)) ∧ ∃ m, w' = W.drewN m := fun c W n =>
    (hf c (W.drewN n)).mono fun _ _ ⟨h1, h2⟩ => ⟨h1, n, h2.symm⟩
  have HF := hid hcall
  clear hf hcall
  go_enter Tryz.func76, Tryz.ntmps76
  go_wp2_with fail
  go_loopw [5] (fun c wr => ∃ j q : Nat, i + j ≤ q ∧ q ≤ i + j ∧ q ≤ s.size ∧ c = .int .i64 j ∧ Hid (rn p (s.data.toList.drop i) = j + rn p (s.data.toList.drop q)) ∧ ScanAt wr g s i ∧ ∃ n, wr = w.drewN n) (fun c _ => s.size - (intOf c).toNat)
  case atStart => exact ⟨0, i, by omega, by omega, hi, rfl, by show _ = _; omega, hS, 0, rfl⟩
  case round =>
    obtain ⟨j, q, hq1, hq2, hqs, rfl, hrn, hS1, n0, hn0⟩ := hrel
    have HN := hid hn0
    clear hn0
    obtain ⟨c0, c1, c2, c3⟩ := hS1.cells
    have f0 := hS1.free
    have hrl := rn_le p (s.data.toList.drop i)
    have hw : IntKind.i64.wrap ((i : Int) + (j : Int)) = (q : Int) := by rw [show (i : Int) + (j : Int) = (q : Int) by omega]; exact IntWalk.i64_in _ (by omega)
    by_cases hlt : q < s.size
    · have hq0 : (0 : Int) ≤ (q : Int) := by omega
      have hq3 : (q : Int) < (s.size : Int) := by omega
      have hd : decide ((q : Int) < (s.size : Int)) = true := by simp; omega
      have hbt := bt_eq s q hlt
      cases hp : p (bt s q) with
      | true =>
        have hr2 := hid (rn_on hlt hp)
        have HP := hid hp
        clear hp
        go_wp2_with fail
        go_quiet (exact HF.out _ _ _)
        rw [HP.out]
        go_wp2_with fail
        go_roundw
        case rel =>
          refine ⟨j + 1, q + 1, by omega, by omega, by omega, by go_num, ?_, hS1, ?_⟩
          · show _ = _
            rw [hrn.out, hr2.out]; omega
          · exact ⟨n0 + nq, by rw [HN.out, World.drewN_drewN]⟩
        case measure => simp [intOf]; omega
      | false =>
        have hr2 := hid (rn_off hlt hp)
        have HP := hid hp
        clear hp
        go_wp2_with fail
        go_quiet (exact HF.out _ _ _)
        rw [HP.out]
        go_wp2_with fail
        go_ret
        exact ⟨ret_int (by rw [hrn.out, hr2.out]; omega), n0 + nq, by rw [HN.out, World.drewN_drewN]⟩
    · obtain rfl : q = s.size := by omega
      have hfl : decide ((s.size : Int) < (s.size : Int)) = false := by simp
      go_wp2_with fail
      go_quiet (fail)
      go_wp2_with fail
      go_ret
      exact ⟨ret_int (by rw [hrn.out, rn_end]; omega), n0 + nq, by rw [HN.out, World.drewN_drewN]⟩
end Go.Proofs.YtnlikhjmmnaknaaGreatDoor
/-
  The walks of number and sign.
-/
namespace Go.Proofs.YtnlikhjmmnaknaaGreatDoor
open Go.RowKit

/-- the number of digits, behind one; none: it is too great -/
def numGo (n : Int) : List UInt8 → Option Int
  | [] => some n
  | c :: l => if (9223372036854775807 - ((c.toNat : Int) - 48)) / 10 < n then none else numGo (10 * n + ((c.toNat : Int) - 48)) l
def numOf (l : List UInt8) : Option Int := if 1 < l.length ∧ l.head? = some 48 then none else numGo 0 l
def numRes : Option Int → Value
  | some n => .tuple #[.int .i64 n, .bool true]
  | none => .tuple #[.int .i64 0, .bool false]

theorem numGo_bd (d n : Int) (h0 : 0 ≤ d) (h1 : d ≤ 9) (hn : 0 ≤ n) (h : ¬ (9223372036854775807 - d) / 10 < n) : 0 ≤ 10 * n + d ∧ 10 * n + d ≤ 9223372036854775807 := by omega
theorem numGo_on {n : Int} {s : ByteArray} {q : Nat} (hq : q < s.size) (h : ¬ (9223372036854775807 - (bt s q - 48)) / 10 < n) : numGo n (s.data.toList.drop q) = numGo (10 * n + (bt s q - 48)) (s.data.toList.drop (q + 1)) := by
  obtain ⟨c, hd, hc⟩ := drop_bt s q hq
  rw [hd, numGo, hc, if_neg h]
theorem numGo_off {n : Int} {s : ByteArray} {q : Nat} (hq : q < s.size) (h : (9223372036854775807 - (bt s q - 48)) / 10 < n) : numGo n (s.data.toList.drop q) = none := by
  obtain ⟨c, hd, hc⟩ := drop_bt s q hq
  rw [hd, numGo, hc, if_pos h]
theorem numGo_end (n : Int) (s : ByteArray) : numGo n (s.data.toList.drop s.size) = some n := by rw [drop_end]; rfl

theorem head_bt (s : ByteArray) (h : 0 < s.size) : s.data.toList.head? = some 48 ↔ bt s 0 = 48 := by
  obtain ⟨c, hd, hc⟩ := drop_bt s 0 h
  rw [List.drop_zero] at hd
  rw [hd, ← hc]
  simp only [List.head?_cons, Option.some.injEq]
  constructor
  · rintro rfl; rfl
  · intro h; exact UInt8.toNat_inj.1 (by have : (48 : UInt8).toNat = 48 := rfl; omega)

set_option maxHeartbeats 1000000 in
theorem number_any (s : ByteArray) (w : World) (hs : s.size ≤ 1000000) (hp : 0 < s.size) (hd : ∀ q, q < s.size → 48 ≤ bt s q ∧ bt s q ≤ 57) :
    Calls Tryz.prog 80 #[.string s] w fun r w' => r = .returned (numRes (numOf s.data.toList)) ∧ w = w' := by
  have hsl : s.data.toList.length = s.size := (size_len s).symm
  by_cases h1 : 1 < s.size ∧ bt s 0 = 48
  · have HN : Hid (numOf s.data.toList = none) := by
      show _ = _
      unfold numOf
      rw [if_pos ⟨by omega, (head_bt s hp).2 h1.2⟩]
    obtain ⟨h1, h2⟩ := h1
    have hb := bt_eq s 0 hp
    rw [h2] at hb
    clear h2 hsl
    go_enter Tryz.func80, Tryz.ntmps80
    go_wp2_with fail
    go_ret2
    exact ⟨by rw [HN.out]; rfl, rfl⟩
  · have HN : Hid (numOf s.data.toList = numGo 0 (s.data.toList.drop 0)) := by
      show _ = _
      unfold numOf
      rw [if_neg (fun h => h1 ⟨by omega, (head_bt s hp).1 h.2⟩), List.drop_zero]
    have hg : Hid (¬ (1 < s.size ∧ bt s 0 = 48)) := h1
    have hb := bt_eq s 0 hp
    have HD := hid hd
    clear h1 hsl hd
    have h4 : (1 : Int) < (s.size : Int) → (bt s 0 == 48) = false := fun h2 => by
      simp; intro h; exact hg.out ⟨by omega, h⟩
    by_cases h2 : (1 : Int) < (s.size : Int)
    all_goals
      first | (have h3 := h4 h2; clear h4) | (clear h4 hb)
      go_enter Tryz.func80, Tryz.ntmps80
      go_wp2_with fail
      go_loop [4, 5, 6, 17] (fun v _ _ c => ∃ (j : Nat) (n : Int), j ≤ s.size ∧ c = .int .i64 j ∧ v = .int .i64 n ∧ 0 ≤ n ∧ n ≤ 9223372036854775807 ∧ Hid (numOf s.data.toList = numGo n (s.data.toList.drop j))) (fun _ _ _ c => s.size - (intOf c).toNat)
      case atStart => exact ⟨0, 0, by omega, rfl, rfl, by omega, by omega, HN⟩
      case round =>
        obtain ⟨j, n, hj, rfl, rfl, hn0, hn1, hnum⟩ := hrel
        by_cases hlt : j < s.size
        · obtain ⟨hd0, hd1⟩ := HD.out j hlt
          have hbj := bt_eq s j hlt
          by_cases hbig : (9223372036854775807 - (bt s j - 48)) / 10 < n
          · have hr := hid (numGo_off hlt hbig)
            generalize bt s j = b at *
            go_wp2_with fail
            go_ret2
            exact ⟨by rw [hnum.out, hr.out]; rfl, rfl⟩
          · have hr := hid (numGo_on hlt hbig)
            obtain ⟨hm0, hm1⟩ := numGo_bd (bt s j - 48) n (by omega) (by omega) hn0 hbig
            generalize bt s j = b at *
            go_wp2_with fail
            go_round
            case rel => exact ⟨j + 1, 10 * n + (b - 48), by omega, by go_num, by first | rfl | (congr 1; omega), hm0, hm1, hnum.out.trans hr.out⟩
            case measure => simp [intOf]; omega
        · have : j = s.size := by omega
          subst this
          go_wp2_with fail
          go_ret2
          exact ⟨by rw [hnum.out, numGo_end]; rfl, rfl⟩
end Go.Proofs.YtnlikhjmmnaknaaGreatDoor
/-
  The walk of sign.
-/
namespace Go.Proofs.YtnlikhjmmnaknaaGreatDoor
open Go.RowKit

def sign2 (s : ByteArray) : Bool := decide (2 ≤ s.size) && ((s.extract 0 2).toList == [45, 62] || (s.extract 0 2).toList == [60, 62] || (s.extract 0 2).toList == [60, 61] || (s.extract 0 2).toList == [62, 61])
def sign1 (b : Int) : Bool := b == 40 || b == 41 || b == 44 || b == 59 || b == 58 || b == 61 || b == 60 || b == 62 || b == 43 || b == 45 || b == 42 || b == 47 || b == 37
/-- how many bytes the sign has at the head of a text -/
def signOf (s : ByteArray) : Nat := if sign2 s = true then 2 else if sign1 (bt s 0) = true then 1 else 0

set_option maxHeartbeats 2000000 in
theorem sign_any (s : ByteArray) (w : World) (hs : s.size ≤ 1000000) (hp : 0 < s.size) :
    Calls Tryz.prog 81 #[.string s] w fun r w' => r = .returned (.int .i64 (signOf s)) ∧ w = w' := by
  have hb := bt_eq s 0 hp
  cases h2 : sign2 s with
  | true =>
    have HS : Hid (signOf s = 2) := by show _ = _; unfold signOf; rw [if_pos h2]
    simp only [sign2, Bool.and_eq_true, Bool.or_eq_true, decide_eq_true_eq] at h2
    obtain ⟨h3, h4⟩ := h2
    have h5 : (2 : Int) ≤ (s.size : Int) := by omega
    go_enter Tryz.func81, Tryz.ntmps81
    go_wp2_with fail
    all_goals first
      | (go_ret; exact ⟨ret_int (by rw [HS.out]; rfl), rfl⟩)
      | (exfalso; simp_all; done)
  | false =>
    have HS : Hid (signOf s = if sign1 (bt s 0) = true then 1 else 0) := by show _ = _; unfold signOf; rw [if_neg (by rw [h2]; simp)]
    cases h1 : sign1 (bt s 0) with
    | true =>
      rw [h1] at HS
      unfold sign2 at h2
      unfold sign1 at h1
      generalize bt s 0 = b at *
      by_cases h5 : (2 : Int) ≤ (s.size : Int)
      · rw [decide_eq_true (by omega), Bool.true_and] at h2
        simp only [Bool.or_eq_false_iff] at h2
        obtain ⟨⟨⟨t1, t2⟩, t3⟩, t4⟩ := h2
        have H1 := hid h1
        clear h1
        go_enter Tryz.func81, Tryz.ntmps81
        go_wp2_with fail
        all_goals first
          | (go_ret; exact ⟨ret_int (by rw [HS.out]; rfl), rfl⟩)
          | (exfalso; have h1 := H1.out; simp_all; done)
      · have H1 := hid h1
        clear h1 h2
        go_enter Tryz.func81, Tryz.ntmps81
        go_wp2_with fail
        all_goals first
          | (go_ret; exact ⟨ret_int (by rw [HS.out]; rfl), rfl⟩)
          | (exfalso; have h1 := H1.out; simp_all; done)
    | false =>
      rw [h1] at HS
      unfold sign2 at h2
      unfold sign1 at h1
      simp only [Bool.or_eq_false_iff] at h1
      obtain ⟨⟨⟨⟨⟨⟨⟨⟨⟨⟨⟨⟨a1, a2⟩, a3⟩, a4⟩, a5⟩, a6⟩, a7⟩, a8⟩, a9⟩, a10⟩, a11⟩, a12⟩, a13⟩ := h1
      generalize bt s 0 = b at *
      by_cases h5 : (2 : Int) ≤ (s.size : Int)
      · rw [decide_eq_true (by omega), Bool.true_and] at h2
        simp only [Bool.or_eq_false_iff] at h2
        obtain ⟨⟨⟨t1, t2⟩, t3⟩, t4⟩ := h2
        go_enter Tryz.func81, Tryz.ntmps81
        go_wp2_with fail
        go_ret
        exact ⟨ret_int (by rw [HS.out]; rfl), rfl⟩
      · clear h2
        go_enter Tryz.func81, Tryz.ntmps81
        go_wp2_with fail
        go_ret
        exact ⟨ret_int (by rw [HS.out]; rfl), rfl⟩
end Go.Proofs.YtnlikhjmmnaknaaGreatDoor
/-
  The walk of next: the token that comes.
-/
namespace Go.Proofs.YtnlikhjmmnaknaaGreatDoor
open Go.RowKit

def textOf (s : ByteArray) (i n : Nat) : ByteArray := s.extract i (i + n)
def tokLen (s : ByteArray) (i : Nat) : Nat :=
  if isLetter (bt s i) = true then rn partB (s.data.toList.drop i) else if isDigit (bt s i) = true then rn isDigit (s.data.toList.drop i) else signOf (s.extract i s.size)
def tokKind (s : ByteArray) (i : Nat) : Int :=
  if isLetter (bt s i) = true then (if isWord (textOf s i (tokLen s i)).data.toList = true then 4 else 1) else if isDigit (bt s i) = true then 2 else 3
def tokNum (s : ByteArray) (i : Nat) : Int :=
  if isLetter (bt s i) = true then 0 else if isDigit (bt s i) = true then (numOf (textOf s i (tokLen s i)).data.toList).getD 0 else 0
def tokOk (s : ByteArray) (i : Nat) : Bool :=
  if isLetter (bt s i) = true then decide (tokLen s i ≤ 20) else if isDigit (bt s i) = true then (numOf (textOf s i (tokLen s i)).data.toList).isSome else decide (0 < tokLen s i)
/-- a token's value -/
def tokVal (k : Int) (t : ByteArray) (n : Int) (p : Int × Int) : Value := .agg #[.int .i64 k, .string t, .int .i64 n, .int .i64 p.1, .int .i64 p.2]

/-- what next comes to -/
def NextPost (g : Nat) (s : ByteArray) (i : Nat) (w : World) (r : Ending) (w' : World) : Prop :=
  r = .returned (.tuple #[tokVal (tokKind s i) (textOf s i (tokLen s i)) (tokNum s i) (place s i), .bool (tokOk s i)]) ∧ ScanAt w' g s (i + tokLen s i) ∧ w.grownBy w' (some g)

theorem ScanAt.alloc {w : World} {g : Nat} {s : ByteArray} {i : Nat} (h : ScanAt w g s i) (o : Obj) : ScanAt (w.alloc o) g s i := (Below.heap_alloc w o g h.lt).trans h
theorem ScanAt.far {w : World} {g : Nat} {s : ByteArray} {i : Nat} (h : ScanAt w g s i) (b k : Nat) (v : Value) (hne : g ≠ b) : ScanAt (w.setCell ⟨b, k, none⟩ v) g s i := (Below.heap_setCell w ⟨b, k, none⟩ v g hne).trans h
theorem ScanAt.below {w w' : World} {g : Nat} {s : ByteArray} {i B : Nat} (h : ScanAt w g s i) (hb : Below B w w') (hg : g < B) : ScanAt w' g s i := (hb.block g hg).trans h

/-- where next stands: the scanner, the token's variable, the result's -/
structure NextAt (w W : World) (g : Nat) (s : ByteArray) (q : Nat) (t : Array Value) : Prop where
  scan : ScanAt W g s q
  tok : W.heap[w.heap.size + 1]? = some (.cells t 56 (0, 0))
  res : W.heap[w.heap.size]? = some (.cells #[.int .i64 0, .string ⟨#[]⟩, .int .i64 0, .int .i64 0, .int .i64 0] 56 (0, 0))
  chg : w.grownBy W (some g)
  size : w.heap.size + 1 < W.heap.size
theorem NextAt.drewN {w W : World} {g : Nat} {s : ByteArray} {q : Nat} {t : Array Value} (h : NextAt w W g s q t) (n : Nat) : NextAt w (W.drewN n) g s q t :=
  ⟨h.scan, h.tok, h.res, h.chg.trans (chg_drewN _ _ _), h.size⟩
theorem NextAt.set {w W : World} {g : Nat} {s : ByteArray} {q : Nat} {t : Array Value} (h : NextAt w W g s q t) (hg : g < w.heap.size) (k : Nat) (v : Value) : NextAt w (W.setCell ⟨w.heap.size + 1, k, none⟩ v) g s q (t.setIfInBounds k v) :=
  ⟨h.scan.far _ _ _ (by omega), blk_set h.tok k v, (Below.heap_setCell W ⟨w.heap.size + 1, k, none⟩ v w.heap.size (by simp)).trans h.res,
    ⟨h.chg.os, h.chg.tape, h.chg.output, by simpa [World.setCell] using h.chg.size, fun i hi hne => (Below.heap_setCell W ⟨w.heap.size + 1, k, none⟩ v i (by simp; omega)).trans (h.chg.block i hi hne)⟩, by simpa [World.setCell] using h.size⟩
theorem NextAt.below {w W W' : World} {g : Nat} {s : ByteArray} {q : Nat} {t : Array Value} (h : NextAt w W g s q t) (hb : Below W.heap.size W W') : NextAt w W' g s q t :=
  ⟨h.scan.below hb h.scan.lt, (hb.block _ h.size).trans h.tok, (hb.block _ (by have := h.size; omega)).trans h.res,
    ⟨hb.os.trans h.chg.os, hb.tape.trans h.chg.tape, hb.output.trans h.chg.output, Nat.le_trans h.chg.size hb.size, fun i hi hne => (hb.block i (Nat.lt_of_lt_of_le hi h.chg.size)).trans (h.chg.block i hi hne)⟩, Nat.lt_of_lt_of_le h.size hb.size⟩
theorem NextAt.skipped {w W W' : World} {g : Nat} {s : ByteArray} {q q' : Nat} {t : Array Value} (h : NextAt w W g s q t) (hg : g < w.heap.size) (hS : ScanAt W' g s q') (hc : W.grownBy W' (some g)) : NextAt w W' g s q' t :=
  ⟨hS, (hc.block _ h.size (by simp; omega)).trans h.tok, (hc.block _ (by have := h.size; omega) (by simp; omega)).trans h.res, h.chg.trans hc, Nat.lt_of_lt_of_le h.size hc.size⟩
theorem NextAt.new {w : World} {g : Nat} {s : ByteArray} {q : Nat} (h : ScanAt w g s q) (t : Array Value) :
    NextAt w ((w.alloc (.cells #[.int .i64 0, .string ⟨#[]⟩, .int .i64 0, .int .i64 0, .int .i64 0] 56)).alloc (.cells t 56)) g s q t :=
  ⟨(h.alloc _).alloc _, by have := World.alloc_heap_new (w.alloc (.cells #[.int .i64 0, .string ⟨#[]⟩, .int .i64 0, .int .i64 0, .int .i64 0] 56)) (.cells t 56); rwa [World.size_alloc] at this,
    (Below.heap_alloc _ _ _ (by simp)).trans (World.alloc_heap_new w _), (World.grownBy_alloc w _ _).trans (World.grownBy_alloc _ _ _), by simp⟩
theorem NextAt.tcell {w W : World} {g : Nat} {s : ByteArray} {q : Nat} {t : Array Value} (h : NextAt w W g s q t) (k : Nat) : W.cell? ⟨w.heap.size + 1, k, none⟩ = t[k]? ∧ W.frozen? ⟨w.heap.size + 1, k, none⟩ = false := by
  have := h.tok
  constructor <;> simp [World.cell?, World.frozen?, this]
theorem NextAt.rcell {w W : World} {g : Nat} {s : ByteArray} {q : Nat} {t : Array Value} (h : NextAt w W g s q t) :
    (∀ k, W.cell? ⟨w.heap.size, k, none⟩ = (#[.int .i64 0, .string ⟨#[]⟩, .int .i64 0, .int .i64 0, .int .i64 0] : Array Value)[k]?) ∧ ∀ k, W.frozen? ⟨w.heap.size, k, none⟩ = false := by
  have := h.res
  constructor <;> intro k <;> simp [World.cell?, World.frozen?, this]

/-- the result written -/
theorem NextAt.wrote {w W : World} {g : Nat} {s : ByteArray} {q : Nat} {t : Array Value} (h : NextAt w W g s q t) (hg : g < w.heap.size) (v0 v1 v2 v3 v4 : Value) :
    ∃ W', W' = ((((W.setCell ⟨w.heap.size, 0, none⟩ v0).setCell ⟨w.heap.size, 1, none⟩ v1).setCell ⟨w.heap.size, 2, none⟩ v2).setCell ⟨w.heap.size, 3, none⟩ v3).setCell ⟨w.heap.size, 4, none⟩ v4 ∧
      (W'.cell? ⟨w.heap.size, 0, none⟩ = some v0 ∧ W'.cell? ⟨w.heap.size, 1, none⟩ = some v1 ∧ W'.cell? ⟨w.heap.size, 2, none⟩ = some v2 ∧ W'.cell? ⟨w.heap.size, 3, none⟩ = some v3 ∧ W'.cell? ⟨w.heap.size, 4, none⟩ = some v4) ∧
      ScanAt W' g s q ∧ w.grownBy W' (some g) := by
  have hb := blk_set (blk_set (blk_set (blk_set (blk_set h.res 0 v0) 1 v1) 2 v2) 3 v3) 4 v4
  simp only [List.setIfInBounds_toArray, List.set_cons_zero, List.set_cons_succ] at hb
  have hne : g ≠ w.heap.size := by omega
  have hS := ((((h.scan.far w.heap.size 0 v0 hne).far w.heap.size 1 v1 hne).far w.heap.size 2 v2 hne).far w.heap.size 3 v3 hne).far w.heap.size 4 v4 hne
  have hfar : ∀ (W : World) (k : Nat) (v : Value), w.grownBy W (some g) → w.grownBy (W.setCell ⟨w.heap.size, k, none⟩ v) (some g) := fun W k v hc =>
    ⟨hc.os, hc.tape, hc.output, by simpa [World.setCell] using hc.size, fun i hi hne => (Below.heap_setCell W ⟨w.heap.size, k, none⟩ v i (by simp; omega)).trans (hc.block i hi hne)⟩
  refine ⟨_, rfl, ?_, hS, hfar _ _ _ (hfar _ _ _ (hfar _ _ _ (hfar _ _ _ (hfar _ _ _ h.chg))))⟩
  refine ⟨?_, ?_, ?_, ?_, ?_⟩ <;> (unfold World.cell?; rw [hb]; rfl)

set_option maxRecDepth 100000 in
set_option maxHeartbeats 4000000 in
theorem next_letter (g : Nat) (s : ByteArray) (i : Nat) (w : World) (hS : ScanAt w g s i) (hi : i < s.size) (hs : s.size ≤ 1000000) (hl : isLetter (bt s i) = true) :
    Calls Tryz.prog 40 #[.pointer (some ⟨g, 0, none⟩)] w (NextPost g s i w) := by
  have hlen : Hid (tokLen s i = rn partB (s.data.toList.drop i)) := by show _ = _; unfold tokLen; rw [if_pos hl]
  have hnum : Hid (tokNum s i = 0) := by show _ = _; unfold tokNum; rw [if_pos hl]
  have hok : Hid (tokOk s i = decide (tokLen s i ≤ 20)) := by show _ = _; unfold tokOk; rw [if_pos hl]
  have hkd : Hid (tokKind s i = if isWord (textOf s i (tokLen s i)).data.toList = true then 4 else 1) := by show _ = _; unfold tokKind; rw [if_pos hl]
  have hrl := rn_le partB (s.data.toList.drop i)
  rw [List.length_drop, ← size_len, ← hlen.out] at hrl
  have hglt := hS.lt
  have hbt := bt_eq s i hi
  have hi0 : (0 : Int) ≤ (i : Int) := by omega
  have hi1 : (i : Int) < (s.size : Int) := by omega
  have hpb := place_bd s i
  obtain ⟨c0, c1, c2, c3⟩ := hS.cells
  have f0 := hS.free
  have hrun : ∀ W : World, ScanAt W g s i → Calls Tryz.prog 76 #[.pointer (some ⟨g, 0, none⟩), .func (.func 77) #[] #[]] W fun r w' => r = .returned (.int .i64 (tokLen s i : Nat)) ∧ ∃ n, w' = W.drewN n := fun W h => by
    rw [hlen.out]
    exact run_any 77 partB (Go.Proofs.enters_of Tryz.func77 (by kernel_rfl) rfl) next1_any g s i W h (by omega) hs
  have HR := hid hrun
  have HL := hid hl
  clear hrun hl
  generalize hnl : tokLen s i = n at *
  have HNL := hid hnl
  clear hnl
  go_enter Tryz.func40, Tryz.ntmps40
  go_wp2_with fail
  have hN := NextAt.new hS #[.int .i64 0, .string ⟨#[]⟩, .int .i64 0, .int .i64 (place s i).1, .int .i64 (place s i).2]
  generalize ((w.alloc (.cells #[.int .i64 0, .string ⟨#[]⟩, .int .i64 0, .int .i64 0, .int .i64 0] 56)).alloc (.cells #[.int .i64 0, .string ⟨#[]⟩, .int .i64 0, .int .i64 (place s i).1, .int .i64 (place s i).2] 56)) = W at *
  clear c0 c1 c2 c3 f0 hS
  obtain ⟨c0, c1, c2, c3⟩ := hN.scan.cells
  have f0 := hN.scan.free
  go_quiet (fail)
  go_wp2_with fail
  refine (letter_any _ _).mono ?_
  rintro r w1 ⟨rfl, rfl⟩
  rw [HL.out]
  go_wp2_with fail
  refine (HR.out _ (by exact hN.scan)).mono ?_
  rintro r w1 ⟨rfl, n2, hw1⟩
  have hN1 : NextAt w w1 g s i #[.int .i64 0, .string ⟨#[]⟩, .int .i64 0, .int .i64 (place s i).1, .int .i64 (place s i).2] := by rw [hw1]; exact (hN.drewN _).drewN _
  clear c0 c1 c2 c3 f0 hN hw1
  have t0 := hN1.tcell 0
  simp only [List.getElem?_toArray, List.getElem?_cons_zero] at t0
  obtain ⟨t0, tf0⟩ := t0
  go_wp2_with fail
  have hN2 := hN1.set hglt 0 (.int .i64 1)
  generalize w1.setCell ⟨w.heap.size + 1, 0, none⟩ (.int .i64 1) = w2 at *
  clear t0 tf0 hN1
  simp only [List.setIfInBounds_toArray, List.set_cons_zero] at hN2
  obtain ⟨m, hm⟩ : ∃ m, m = i + n := ⟨_, rfl⟩
  have hm1 : i + n ≤ m := by omega
  have hm2 : m ≤ i + n := by omega
  have HM := hid hm
  clear hm
  have hwr : IntKind.i64.wrap ((i : Int) + (n : Int)) = (m : Int) := by rw [show (i : Int) + (n : Int) = (m : Int) by omega]; exact IntWalk.i64_in _ (by omega)
  have him : (i : Int) ≤ (m : Int) := by omega
  have hms : (m : Int) ≤ (s.size : Int) := by omega
  obtain ⟨c0, c1, c2, c3⟩ := hN2.scan.cells
  have f0 := hN2.scan.free
  go_still_tail 15, (by kernel_rfl)
  change wpList _ _ _ _ _ w2.drew
  have hN3 : NextAt w w2.drew g s i _ := hN2.drewN 1
  generalize w2.drew = w3 at hN3 ⊢
  clear c0 c1 c2 c3 f0 hN2
  go_wp2_with fail
  refine (word_any _ _).mono ?_
  rintro r w4 ⟨rfl, hb4⟩
  have hN4 := hN3.below hb4
  have htx : Hid (textOf s i n = s.extract i m) := by show _ = _; unfold textOf; rw [HM.out]
  clear hN3 hb4
  cases hw : isWord (s.extract i m).data.toList with
  | true =>
    have t0 := hN4.tcell 0
    simp only [List.getElem?_toArray, List.getElem?_cons_zero] at t0
    obtain ⟨t0, tf0⟩ := t0
    go_wp2_with fail
    have hN5 := hN4.set hglt 0 (.int .i64 4)
    generalize w4.setCell ⟨w.heap.size + 1, 0, none⟩ (.int .i64 4) = w5 at hN5 ⊢
    clear t0 tf0 hN4
    simp only [List.setIfInBounds_toArray, List.set_cons_zero] at hN5
    obtain ⟨c0, c1, c2, c3⟩ := hN5.scan.cells
    have f0 := hN5.scan.free
    go_still_tail 16, (by kernel_rfl)
    change wpList _ _ _ _ _ w5.drew
    have hN6 : NextAt w w5.drew g s i _ := hN5.drewN 1
    generalize w5.drew = w6 at hN6 ⊢
    clear c0 c1 c2 c3 f0 hN5
    have t1 := hN6.tcell 1
    simp only [List.getElem?_toArray, List.getElem?_cons_zero, List.getElem?_cons_succ] at t1
    obtain ⟨t1, tf1⟩ := t1
    go_wp2_with fail
    have hN7 := hN6.set hglt 1 (.string (s.extract i m))
    generalize w6.setCell ⟨w.heap.size + 1, 1, none⟩ (.string (s.extract i m)) = w7 at hN7 ⊢
    clear hN6 t1 tf1
    simp only [List.setIfInBounds_toArray, List.set_cons_zero, List.set_cons_succ] at hN7
    refine (skip_any g s i n w7 hN7.scan (by omega) hs).mono ?_
    rintro r w8 ⟨rfl, hS8, hc8⟩
    have hN8 := hN7.skipped hglt hS8 hc8
    clear hN7 hS8 hc8
    have t0 := (hN8.tcell 0).1
    have t1 := (hN8.tcell 1).1
    have t2 := (hN8.tcell 2).1
    have t3 := (hN8.tcell 3).1
    have t4 := (hN8.tcell 4).1
    have r0 := hN8.rcell.1 0
    have r1 := hN8.rcell.1 1
    have r2 := hN8.rcell.1 2
    have r3 := hN8.rcell.1 3
    have r4 := hN8.rcell.1 4
    have rf := hN8.rcell.2
    simp only [List.getElem?_toArray, List.getElem?_cons_zero, List.getElem?_cons_succ] at t0 t1 t2 t3 t4 r0 r1 r2 r3 r4
    go_wp2_with fail
    obtain ⟨w9, hw9, ⟨q0, q1, q2, q3, q4⟩, hS9, hc9⟩ := hN8.wrote hglt (.int .i64 4) (.string (s.extract i m)) (.int .i64 0) (.int .i64 (place s i).1) (.int .i64 (place s i).2)
    rw [← hw9]
    refine bodyPost_ret (v := .tuple #[.agg #[.int .i64 4, .string (s.extract i m), .int .i64 0, .int .i64 (place s i).1, .int .i64 (place s i).2], .bool (decide ((n : Int) ≤ 20))]) (by simp [results, Tryz.results40, go_sem, q0, q1, q2, q3, q4]) rfl ?_
    refine ⟨?_, by rw [HNL.out]; exact hS9, hc9⟩
    rw [HNL.out, hkd.out, hnum.out, hok.out, htx.out, hw]
    simp [tokVal]
    omega
  | false =>
    have hN5 := hN4
    clear hN4
    have t0 := hN5.tcell 0
    simp only [List.getElem?_toArray, List.getElem?_cons_zero] at t0
    go_wp2_with fail
    obtain ⟨c0, c1, c2, c3⟩ := hN5.scan.cells
    have f0 := hN5.scan.free
    go_still_tail 16, (by kernel_rfl)
    change wpList _ _ _ _ _ w4.drew
    have hN6 : NextAt w w4.drew g s i _ := hN5.drewN 1
    generalize w4.drew = w6 at hN6 ⊢
    clear c0 c1 c2 c3 f0 hN5
    have t1 := hN6.tcell 1
    simp only [List.getElem?_toArray, List.getElem?_cons_zero, List.getElem?_cons_succ] at t1
    obtain ⟨t1, tf1⟩ := t1
    go_wp2_with fail
    have hN7 := hN6.set hglt 1 (.string (s.extract i m))
    generalize w6.setCell ⟨w.heap.size + 1, 1, none⟩ (.string (s.extract i m)) = w7 at hN7 ⊢
    clear hN6 t1 tf1
    simp only [List.setIfInBounds_toArray, List.set_cons_zero, List.set_cons_succ] at hN7
    refine (skip_any g s i n w7 hN7.scan (by omega) hs).mono ?_
    rintro r w8 ⟨rfl, hS8, hc8⟩
    have hN8 := hN7.skipped hglt hS8 hc8
    clear hN7 hS8 hc8
    have t0 := (hN8.tcell 0).1
    have t1 := (hN8.tcell 1).1
    have t2 := (hN8.tcell 2).1
    have t3 := (hN8.tcell 3).1
    have t4 := (hN8.tcell 4).1
    have r0 := hN8.rcell.1 0
    have r1 := hN8.rcell.1 1
    have r2 := hN8.rcell.1 2
    have r3 := hN8.rcell.1 3
    have r4 := hN8.rcell.1 4
    have rf := hN8.rcell.2
    simp only [List.getElem?_toArray, List.getElem?_cons_zero, List.getElem?_cons_succ] at t0 t1 t2 t3 t4 r0 r1 r2 r3 r4
    go_wp2_with fail
    obtain ⟨w9, hw9, ⟨q0, q1, q2, q3, q4⟩, hS9, hc9⟩ := hN8.wrote hglt (.int .i64 1) (.string (s.extract i m)) (.int .i64 0) (.int .i64 (place s i).1) (.int .i64 (place s i).2)
    rw [← hw9]
    refine bodyPost_ret (v := .tuple #[.agg #[.int .i64 1, .string (s.extract i m), .int .i64 0, .int .i64 (place s i).1, .int .i64 (place s i).2], .bool (decide ((n : Int) ≤ 20))]) (by simp [results, Tryz.results40, go_sem, q0, q1, q2, q3, q4]) rfl ?_
    refine ⟨?_, by rw [HNL.out]; exact hS9, hc9⟩
    rw [HNL.out, hkd.out, hnum.out, hok.out, htx.out, hw]
    simp [tokVal]
    omega
end Go.Proofs.YtnlikhjmmnaknaaGreatDoor
/-
  The walk of next where a digit or a sign comes.
-/
namespace Go.Proofs.YtnlikhjmmnaknaaGreatDoor
open Go.RowKit

theorem rn_all (p : Int → Bool) (s : ByteArray) (i : Nat) : ∀ q, q < rn p (s.data.toList.drop i) → p (bt s (i + q)) = true := by
  intro q
  have hlen : i + rn p (s.data.toList.drop i) ≤ s.size ∨ s.data.toList.drop i = [] := by
    have := rn_le p (s.data.toList.drop i)
    rw [List.length_drop, ← size_len] at this
    rcases Nat.lt_or_ge i s.size with h | h
    · left; omega
    · right; exact List.drop_of_length_le (by rw [← size_len]; exact h)
  revert i
  induction q with
  | zero =>
    intro i hlen h
    rcases hlen with hlen | hlen
    · have hi : i < s.size := by omega
      cases hp : p (bt s (i + 0)) with
      | true => rfl
      | false => rw [rn_off hi hp] at h; omega
    · rw [hlen] at h; simp [rn] at h
  | succ q ih =>
    intro i hlen h
    rcases hlen with hlen | hlen
    · have hi : i < s.size := by omega
      cases hp : p (bt s i) with
      | true =>
        rw [rn_on hi hp] at h hlen
        have := ih (i + 1) (.inl (by omega)) (by omega)
        rwa [show i + (q + 1) = i + 1 + q by omega]
      | false => rw [rn_off hi hp] at h; omega
    · rw [hlen] at h; simp [rn] at h
theorem rn_pos {p : Int → Bool} {s : ByteArray} {i : Nat} (hi : i < s.size) (hp : p (bt s i) = true) : 0 < rn p (s.data.toList.drop i) := by rw [rn_on hi hp]; omega
theorem bt_extract (s : ByteArray) (i m q : Nat) (hq : i + q < m) : bt (s.extract i m) q = bt s (i + q) := by
  unfold bt
  rw [Lib.extract_data, List.getElem?_take_of_lt (by omega), List.getElem?_drop]
theorem size_extract' (s : ByteArray) (i m : Nat) (hm : m ≤ s.size) : (s.extract i m).size = m - i := by
  rw [ByteArray.size_extract]; omega

set_option maxRecDepth 100000 in
set_option maxHeartbeats 4000000 in
theorem next_digit (g : Nat) (s : ByteArray) (i : Nat) (w : World) (hS : ScanAt w g s i) (hi : i < s.size) (hs : s.size ≤ 1000000) (hl : isLetter (bt s i) = false) (hdg : isDigit (bt s i) = true) :
    Calls Tryz.prog 40 #[.pointer (some ⟨g, 0, none⟩)] w (NextPost g s i w) := by
  have hlen : Hid (tokLen s i = rn isDigit (s.data.toList.drop i)) := by show _ = _; unfold tokLen; rw [hl, if_neg (by simp), if_pos hdg]
  have hnum : Hid (tokNum s i = (numOf (textOf s i (tokLen s i)).data.toList).getD 0) := by show _ = _; unfold tokNum; rw [hl, if_neg (by simp), if_pos hdg]
  have hok : Hid (tokOk s i = (numOf (textOf s i (tokLen s i)).data.toList).isSome) := by show _ = _; unfold tokOk; rw [hl, if_neg (by simp), if_pos hdg]
  have hkd : Hid (tokKind s i = 2) := by show _ = _; unfold tokKind; rw [hl, if_neg (by simp), if_pos hdg]
  have hrl := rn_le isDigit (s.data.toList.drop i)
  rw [List.length_drop, ← size_len, ← hlen.out] at hrl
  have hglt := hS.lt
  have hbt := bt_eq s i hi
  have hi0 : (0 : Int) ≤ (i : Int) := by omega
  have hi1 : (i : Int) < (s.size : Int) := by omega
  have hpb := place_bd s i
  obtain ⟨c0, c1, c2, c3⟩ := hS.cells
  have f0 := hS.free
  have hrun : ∀ W : World, ScanAt W g s i → Calls Tryz.prog 76 #[.pointer (some ⟨g, 0, none⟩), .func (.func 78) #[] #[]] W fun r w' => r = .returned (.int .i64 (tokLen s i : Nat)) ∧ ∃ n, w' = W.drewN n := fun W h => by
    rw [hlen.out]
    exact run_any 78 isDigit (Go.Proofs.enters_of Tryz.func78 (by kernel_rfl) rfl) digit_any g s i W h (by omega) hs
  have HR := hid hrun
  have HL := hid hl
  have HDG := hid hdg
  have hdig : Hid (∀ q, q < tokLen s i → 48 ≤ bt s (i + q) ∧ bt s (i + q) ≤ 57) := fun q hq => by
    rw [hlen.out] at hq
    have := rn_all isDigit s i q hq
    simpa [isDigit] using this
  have hn0 : 0 < tokLen s i := by rw [hlen.out]; exact rn_pos hi hdg
  clear hrun hl hdg
  generalize hnl : tokLen s i = n at *
  have HNL := hid hnl
  clear hnl
  go_enter Tryz.func40, Tryz.ntmps40
  go_wp2_with fail
  have hN := NextAt.new hS #[.int .i64 0, .string ⟨#[]⟩, .int .i64 0, .int .i64 (place s i).1, .int .i64 (place s i).2]
  generalize ((w.alloc (.cells #[.int .i64 0, .string ⟨#[]⟩, .int .i64 0, .int .i64 0, .int .i64 0] 56)).alloc (.cells #[.int .i64 0, .string ⟨#[]⟩, .int .i64 0, .int .i64 (place s i).1, .int .i64 (place s i).2] 56)) = W at *
  clear c0 c1 c2 c3 f0 hS
  obtain ⟨c0, c1, c2, c3⟩ := hN.scan.cells
  have f0 := hN.scan.free
  go_quiet (fail)
  go_wp2_with fail
  refine (letter_any _ _).mono ?_
  rintro r w1 ⟨rfl, rfl⟩
  rw [HL.out]
  go_wp2_with fail
  refine (digit_any _ _).mono ?_
  rintro r w1 ⟨rfl, rfl⟩
  rw [HDG.out]
  go_wp2_with fail
  refine (HR.out _ (by exact hN.scan)).mono ?_
  rintro r w1 ⟨rfl, n2, hw1⟩
  have hN1 : NextAt w w1 g s i #[.int .i64 0, .string ⟨#[]⟩, .int .i64 0, .int .i64 (place s i).1, .int .i64 (place s i).2] := by rw [hw1]; exact (hN.drewN _).drewN _
  clear c0 c1 c2 c3 f0 hN hw1
  have t0 := hN1.tcell 0
  simp only [List.getElem?_toArray, List.getElem?_cons_zero] at t0
  obtain ⟨t0, tf0⟩ := t0
  go_wp2_with fail
  have hN2 := hN1.set hglt 0 (.int .i64 2)
  generalize w1.setCell ⟨w.heap.size + 1, 0, none⟩ (.int .i64 2) = w2 at *
  clear t0 tf0 hN1
  simp only [List.setIfInBounds_toArray, List.set_cons_zero] at hN2
  obtain ⟨m, hm⟩ : ∃ m, m = i + n := ⟨_, rfl⟩
  have hm1 : i + n ≤ m := by omega
  have hm2 : m ≤ i + n := by omega
  have HM := hid hm
  clear hm
  have hwr : IntKind.i64.wrap ((i : Int) + (n : Int)) = (m : Int) := by rw [show (i : Int) + (n : Int) = (m : Int) by omega]; exact IntWalk.i64_in _ (by omega)
  have him : (i : Int) ≤ (m : Int) := by omega
  have hms : (m : Int) ≤ (s.size : Int) := by omega
  obtain ⟨c0, c1, c2, c3⟩ := hN2.scan.cells
  have f0 := hN2.scan.free
  have hsz1 : (s.extract i m).size ≤ 1000000 := by rw [size_extract' s i m (by omega)]; omega
  have hsz0 : 0 < (s.extract i m).size := by rw [size_extract' s i m (by omega)]; omega
  have hnb := fun W => number_any (s.extract i m) W hsz1 hsz0 (fun q hq => by
    rw [size_extract' s i m (by omega)] at hq
    rw [bt_extract s i m q (by omega)]
    exact hdig.out q (by omega))
  have HNB := hid hnb
  have htx : Hid (textOf s i n = s.extract i m) := by show _ = _; unfold textOf; rw [HM.out]
  clear hnb hsz1 hsz0
  have t2 := hN2.tcell 2
  simp only [List.getElem?_toArray, List.getElem?_cons_zero, List.getElem?_cons_succ] at t2
  obtain ⟨t2, tf2⟩ := t2
  cases hno : numOf (s.extract i m).data.toList with
  | some v =>
    rw [hno] at HNB
    simp only [numRes] at HNB
    have hN3 := (hN2.set hglt 2 (.int .i64 v)).drewN 1
    have z0 : (w2.setCell ⟨w.heap.size + 1, 2, none⟩ (.int .i64 v)).drew.cell? ⟨g, 0, none⟩ = some (.string s) := hN3.scan.cells.1
    have z1 : (w2.setCell ⟨w.heap.size + 1, 2, none⟩ (.int .i64 v)).drew.cell? ⟨g, 1, none⟩ = some (.int .i64 i) := hN3.scan.cells.2.1
    go_region_held3 (fun w' => w'.cell? ⟨g, 0, none⟩ = some (.string s) ∧ w'.cell? ⟨g, 1, none⟩ = some (.int .i64 i)) (first | exact ⟨z0, z1⟩ | go_keep)
      (first | (go_at_call 80; refine (HNB.out _).mono ?_; rintro r w4 ⟨rfl, rfl⟩))
    have hN5 := hN3
    have hWe : ∃ w5, w5 = (w2.setCell ⟨w.heap.size + 1, 2, none⟩ (.int .i64 v)).drew := ⟨_, rfl⟩
    obtain ⟨w5, hW5⟩ := hWe
    change NextAt w (w2.setCell ⟨w.heap.size + 1, 2, none⟩ (.int .i64 v)).drew g s i _ at hN5
    rw [← hW5] at hN5 ⊢
    clear hW5 z0 z1 hN3 hN2 t2 tf2 c0 c1 c2 c3 f0
    simp only [List.setIfInBounds_toArray, List.set_cons_zero, List.set_cons_succ] at hN5
    go_wp2_with fail
    obtain ⟨c0, c1, c2, c3⟩ := hN5.scan.cells
    have f0 := hN5.scan.free
    go_still_tail 16, (by kernel_rfl)
    change wpList _ _ _ _ _ w5.drew
    have hN6 : NextAt w w5.drew g s i _ := hN5.drewN 1
    generalize w5.drew = w6 at hN6 ⊢
    clear c0 c1 c2 c3 f0 hN5
    have t1 := hN6.tcell 1
    simp only [List.getElem?_toArray, List.getElem?_cons_zero, List.getElem?_cons_succ] at t1
    obtain ⟨t1, tf1⟩ := t1
    go_wp2_with fail
    have hN7 := hN6.set hglt 1 (.string (s.extract i m))
    generalize w6.setCell ⟨w.heap.size + 1, 1, none⟩ (.string (s.extract i m)) = w7 at hN7 ⊢
    clear hN6 t1 tf1
    simp only [List.setIfInBounds_toArray, List.set_cons_zero, List.set_cons_succ] at hN7
    refine (skip_any g s i n w7 hN7.scan (by omega) hs).mono ?_
    rintro r w8 ⟨rfl, hS8, hc8⟩
    have hN8 := hN7.skipped hglt hS8 hc8
    clear hN7 hS8 hc8
    have t0 := (hN8.tcell 0).1
    have t1 := (hN8.tcell 1).1
    have t2 := (hN8.tcell 2).1
    have t3 := (hN8.tcell 3).1
    have t4 := (hN8.tcell 4).1
    have r0 := hN8.rcell.1 0
    have r1 := hN8.rcell.1 1
    have r2 := hN8.rcell.1 2
    have r3 := hN8.rcell.1 3
    have r4 := hN8.rcell.1 4
    have rf := hN8.rcell.2
    simp only [List.getElem?_toArray, List.getElem?_cons_zero, List.getElem?_cons_succ] at t0 t1 t2 t3 t4 r0 r1 r2 r3 r4
    go_wp2_with fail
    obtain ⟨w9, hw9, ⟨q0, q1, q2, q3, q4⟩, hS9, hc9⟩ := hN8.wrote hglt (.int .i64 2) (.string (s.extract i m)) (.int .i64 v) (.int .i64 (place s i).1) (.int .i64 (place s i).2)
    rw [← hw9]
    refine bodyPost_ret (v := .tuple #[.agg #[.int .i64 2, .string (s.extract i m), .int .i64 v, .int .i64 (place s i).1, .int .i64 (place s i).2], .bool true]) (by simp [results, Tryz.results40, go_sem, q0, q1, q2, q3, q4]) rfl ?_
    refine ⟨?_, by rw [HNL.out]; exact hS9, hc9⟩
    rw [HNL.out, hkd.out, hnum.out, hok.out, htx.out, hno]
    simp [tokVal]
  | none =>
    rw [hno] at HNB
    simp only [numRes] at HNB
    have hN3 := (hN2.set hglt 2 (.int .i64 0)).drewN 1
    have z0 : (w2.setCell ⟨w.heap.size + 1, 2, none⟩ (.int .i64 0)).drew.cell? ⟨g, 0, none⟩ = some (.string s) := hN3.scan.cells.1
    have z1 : (w2.setCell ⟨w.heap.size + 1, 2, none⟩ (.int .i64 0)).drew.cell? ⟨g, 1, none⟩ = some (.int .i64 i) := hN3.scan.cells.2.1
    go_region_held3 (fun w' => w'.cell? ⟨g, 0, none⟩ = some (.string s) ∧ w'.cell? ⟨g, 1, none⟩ = some (.int .i64 i)) (first | exact ⟨z0, z1⟩ | go_keep)
      (first | (go_at_call 80; refine (HNB.out _).mono ?_; rintro r w4 ⟨rfl, rfl⟩))
    have hN5 := hN3
    have hWe : ∃ w5, w5 = (w2.setCell ⟨w.heap.size + 1, 2, none⟩ (.int .i64 0)).drew := ⟨_, rfl⟩
    obtain ⟨w5, hW5⟩ := hWe
    change NextAt w (w2.setCell ⟨w.heap.size + 1, 2, none⟩ (.int .i64 0)).drew g s i _ at hN5
    rw [← hW5] at hN5 ⊢
    clear hW5 z0 z1 hN3 hN2 t2 tf2 c0 c1 c2 c3 f0
    simp only [List.setIfInBounds_toArray, List.set_cons_zero, List.set_cons_succ] at hN5
    go_wp2_with fail
    obtain ⟨c0, c1, c2, c3⟩ := hN5.scan.cells
    have f0 := hN5.scan.free
    go_still_tail 16, (by kernel_rfl)
    change wpList _ _ _ _ _ w5.drew
    have hN6 : NextAt w w5.drew g s i _ := hN5.drewN 1
    generalize w5.drew = w6 at hN6 ⊢
    clear c0 c1 c2 c3 f0 hN5
    have t1 := hN6.tcell 1
    simp only [List.getElem?_toArray, List.getElem?_cons_zero, List.getElem?_cons_succ] at t1
    obtain ⟨t1, tf1⟩ := t1
    go_wp2_with fail
    have hN7 := hN6.set hglt 1 (.string (s.extract i m))
    generalize w6.setCell ⟨w.heap.size + 1, 1, none⟩ (.string (s.extract i m)) = w7 at hN7 ⊢
    clear hN6 t1 tf1
    simp only [List.setIfInBounds_toArray, List.set_cons_zero, List.set_cons_succ] at hN7
    refine (skip_any g s i n w7 hN7.scan (by omega) hs).mono ?_
    rintro r w8 ⟨rfl, hS8, hc8⟩
    have hN8 := hN7.skipped hglt hS8 hc8
    clear hN7 hS8 hc8
    have t0 := (hN8.tcell 0).1
    have t1 := (hN8.tcell 1).1
    have t2 := (hN8.tcell 2).1
    have t3 := (hN8.tcell 3).1
    have t4 := (hN8.tcell 4).1
    have r0 := hN8.rcell.1 0
    have r1 := hN8.rcell.1 1
    have r2 := hN8.rcell.1 2
    have r3 := hN8.rcell.1 3
    have r4 := hN8.rcell.1 4
    have rf := hN8.rcell.2
    simp only [List.getElem?_toArray, List.getElem?_cons_zero, List.getElem?_cons_succ] at t0 t1 t2 t3 t4 r0 r1 r2 r3 r4
    go_wp2_with fail
    obtain ⟨w9, hw9, ⟨q0, q1, q2, q3, q4⟩, hS9, hc9⟩ := hN8.wrote hglt (.int .i64 2) (.string (s.extract i m)) (.int .i64 0) (.int .i64 (place s i).1) (.int .i64 (place s i).2)
    rw [← hw9]
    refine bodyPost_ret (v := .tuple #[.agg #[.int .i64 2, .string (s.extract i m), .int .i64 0, .int .i64 (place s i).1, .int .i64 (place s i).2], .bool false]) (by simp [results, Tryz.results40, go_sem, q0, q1, q2, q3, q4]) rfl ?_
    refine ⟨?_, by rw [HNL.out]; exact hS9, hc9⟩
    rw [HNL.out, hkd.out, hnum.out, hok.out, htx.out, hno]
    simp [tokVal]
end Go.Proofs.YtnlikhjmmnaknaaGreatDoor
/-
  The walk of next where neither a letter nor a digit comes; and next at any byte.
-/
namespace Go.Proofs.YtnlikhjmmnaknaaGreatDoor
open Go.RowKit

theorem signOf_le (t : ByteArray) (h : 0 < t.size) : signOf t ≤ t.size := by
  unfold signOf
  split
  · rename_i h2
    simp only [sign2, Bool.and_eq_true, decide_eq_true_eq] at h2
    exact h2.1
  · split <;> omega

set_option maxRecDepth 100000 in
set_option maxHeartbeats 4000000 in
theorem next_sign (g : Nat) (s : ByteArray) (i : Nat) (w : World) (hS : ScanAt w g s i) (hi : i < s.size) (hs : s.size ≤ 1000000) (hl : isLetter (bt s i) = false) (hdg : isDigit (bt s i) = false) :
    Calls Tryz.prog 40 #[.pointer (some ⟨g, 0, none⟩)] w (NextPost g s i w) := by
  have hlen : Hid (tokLen s i = signOf (s.extract i s.size)) := by show _ = _; unfold tokLen; rw [hl, hdg, if_neg (by simp), if_neg (by simp)]
  have hnum : Hid (tokNum s i = 0) := by show _ = _; unfold tokNum; rw [hl, hdg, if_neg (by simp), if_neg (by simp)]
  have hok : Hid (tokOk s i = decide (0 < tokLen s i)) := by show _ = _; unfold tokOk; rw [hl, hdg, if_neg (by simp), if_neg (by simp)]
  have hkd : Hid (tokKind s i = 3) := by show _ = _; unfold tokKind; rw [hl, hdg, if_neg (by simp), if_neg (by simp)]
  have hsz1 : (s.extract i s.size).size = s.size - i := size_extract' s i s.size (Nat.le_refl _)
  have hrl := signOf_le (s.extract i s.size) (by omega)
  rw [hsz1, ← hlen.out] at hrl
  have hglt := hS.lt
  have hbt := bt_eq s i hi
  have hi0 : (0 : Int) ≤ (i : Int) := by omega
  have hi1 : (i : Int) < (s.size : Int) := by omega
  have hpb := place_bd s i
  obtain ⟨c0, c1, c2, c3⟩ := hS.cells
  have f0 := hS.free
  have hsg : ∀ (W : World) (k : Nat), Calls Tryz.prog 81 #[.string (s.extract i s.size)] (W.drewN k) fun e w'' => e = .returned (.int .i64 (tokLen s i : Nat)) ∧ ∃ m, w'' = W.drewN m := fun W k => by
    rw [hlen.out]
    exact (sign_any (s.extract i s.size) (W.drewN k) (by omega) (by omega)).mono fun _ _ ⟨h1, h2⟩ => ⟨h1, k, h2.symm⟩
  have HSG := hid hsg
  clear hsz1 hsg
  have HL := hid hl
  have HDG := hid hdg
  clear hl hdg
  generalize hnl : tokLen s i = n at *
  have HNL := hid hnl
  clear hnl
  go_enter Tryz.func40, Tryz.ntmps40
  go_wp2_with fail
  have hN := NextAt.new hS #[.int .i64 0, .string ⟨#[]⟩, .int .i64 0, .int .i64 (place s i).1, .int .i64 (place s i).2]
  generalize ((w.alloc (.cells #[.int .i64 0, .string ⟨#[]⟩, .int .i64 0, .int .i64 0, .int .i64 0] 56)).alloc (.cells #[.int .i64 0, .string ⟨#[]⟩, .int .i64 0, .int .i64 (place s i).1, .int .i64 (place s i).2] 56)) = W at *
  clear c0 c1 c2 c3 f0 hS
  obtain ⟨c0, c1, c2, c3⟩ := hN.scan.cells
  have f0 := hN.scan.free
  go_quiet (fail)
  go_wp2_with fail
  refine (letter_any _ _).mono ?_
  rintro r w1 ⟨rfl, rfl⟩
  rw [HL.out]
  go_wp2_with fail
  refine (digit_any _ _).mono ?_
  rintro r w1 ⟨rfl, rfl⟩
  rw [HDG.out]
  have hN0 : NextAt w (W.drewN nq) g s i #[.int .i64 0, .string ⟨#[]⟩, .int .i64 0, .int .i64 (place s i).1, .int .i64 (place s i).2] := hN.drewN _
  clear hN c0 c1 c2 c3 f0
  obtain ⟨c0, c1, c2, c3⟩ := hN0.scan.cells
  have f0 := hN0.scan.free
  generalize W.drewN nq = W1 at *
  go_wp2_with fail
  go_quiet (exact HSG.out _ _)
  have hN1 := hN0.drewN nq
  clear hN0 c0 c1 c2 c3 f0
  generalize W1.drewN nq = w1 at *
  have t0 := hN1.tcell 0
  simp only [List.getElem?_toArray, List.getElem?_cons_zero] at t0
  obtain ⟨t0, tf0⟩ := t0
  go_wp2_with fail
  have hN2 := hN1.set hglt 0 (.int .i64 3)
  generalize w1.setCell ⟨w.heap.size + 1, 0, none⟩ (.int .i64 3) = w2 at *
  clear t0 tf0 hN1
  simp only [List.setIfInBounds_toArray, List.set_cons_zero] at hN2
  obtain ⟨m, hm⟩ : ∃ m, m = i + n := ⟨_, rfl⟩
  have hm1 : i + n ≤ m := by omega
  have hm2 : m ≤ i + n := by omega
  have HM := hid hm
  clear hm
  have hwr : IntKind.i64.wrap ((i : Int) + (n : Int)) = (m : Int) := by rw [show (i : Int) + (n : Int) = (m : Int) by omega]; exact IntWalk.i64_in _ (by omega)
  have him : (i : Int) ≤ (m : Int) := by omega
  have hms : (m : Int) ≤ (s.size : Int) := by omega
  have htx : Hid (textOf s i n = s.extract i m) := by show _ = _; unfold textOf; rw [HM.out]
  have hN5 := hN2
  clear hN2
  obtain ⟨c0, c1, c2, c3⟩ := hN5.scan.cells
  have f0 := hN5.scan.free
  go_still_tail 16, (by kernel_rfl)
  change wpList _ _ _ _ _ w2.drew
  have hN6 : NextAt w w2.drew g s i _ := hN5.drewN 1
  generalize w2.drew = w6 at hN6 ⊢
  clear c0 c1 c2 c3 f0 hN5
  have t1 := hN6.tcell 1
  simp only [List.getElem?_toArray, List.getElem?_cons_zero, List.getElem?_cons_succ] at t1
  obtain ⟨t1, tf1⟩ := t1
  go_wp2_with fail
  have hN7 := hN6.set hglt 1 (.string (s.extract i m))
  generalize w6.setCell ⟨w.heap.size + 1, 1, none⟩ (.string (s.extract i m)) = w7 at hN7 ⊢
  clear hN6 t1 tf1
  simp only [List.setIfInBounds_toArray, List.set_cons_zero, List.set_cons_succ] at hN7
  refine (skip_any g s i n w7 hN7.scan (by omega) hs).mono ?_
  rintro r w8 ⟨rfl, hS8, hc8⟩
  have hN8 := hN7.skipped hglt hS8 hc8
  clear hN7 hS8 hc8
  have t0 := (hN8.tcell 0).1
  have t1 := (hN8.tcell 1).1
  have t2 := (hN8.tcell 2).1
  have t3 := (hN8.tcell 3).1
  have t4 := (hN8.tcell 4).1
  have r0 := hN8.rcell.1 0
  have r1 := hN8.rcell.1 1
  have r2 := hN8.rcell.1 2
  have r3 := hN8.rcell.1 3
  have r4 := hN8.rcell.1 4
  have rf := hN8.rcell.2
  simp only [List.getElem?_toArray, List.getElem?_cons_zero, List.getElem?_cons_succ] at t0 t1 t2 t3 t4 r0 r1 r2 r3 r4
  go_wp2_with fail
  obtain ⟨w9, hw9, ⟨q0, q1, q2, q3, q4⟩, hS9, hc9⟩ := hN8.wrote hglt (.int .i64 3) (.string (s.extract i m)) (.int .i64 0) (.int .i64 (place s i).1) (.int .i64 (place s i).2)
  rw [← hw9]
  refine bodyPost_ret (v := .tuple #[.agg #[.int .i64 3, .string (s.extract i m), .int .i64 0, .int .i64 (place s i).1, .int .i64 (place s i).2], .bool (decide ((0 : Int) < (n : Int)))]) (by simp [results, Tryz.results40, go_sem, q0, q1, q2, q3, q4]) rfl ?_
  refine ⟨?_, by rw [HNL.out]; exact hS9, hc9⟩
  rw [HNL.out, hkd.out, hnum.out, hok.out, htx.out]
  simp [tokVal]

theorem next_any (g : Nat) (s : ByteArray) (i : Nat) (w : World) (hS : ScanAt w g s i) (hi : i < s.size) (hs : s.size ≤ 1000000) :
    Calls Tryz.prog 40 #[.pointer (some ⟨g, 0, none⟩)] w (NextPost g s i w) := by
  cases hl : isLetter (bt s i) with
  | true => exact next_letter g s i w hS hi hs hl
  | false =>
    cases hd : isDigit (bt s i) with
    | true => exact next_digit g s i w hS hi hs hl hd
    | false => exact next_sign g s i w hS hi hs hl hd
end Go.Proofs.YtnlikhjmmnaknaaGreatDoor
/-
  The walk of Scan: a source's tokens.
-/
namespace Go.Proofs.YtnlikhjmmnaknaaGreatDoor
open Go.RowKit

/-- a token: kind, text, number, where it begins -/
structure Tk where
  kind : Int
  text : ByteArray
  num : Int
  pos : Nat
/-- its cells -/
def Tk.cells (s : ByteArray) (t : Tk) : List Value := [.int .i64 t.kind, .string t.text, .int .i64 t.num, .int .i64 (place s t.pos).1, .int .i64 (place s t.pos).2]
/-- the token that begins at a byte -/
def tkAt (s : ByteArray) (j : Nat) : Tk := ⟨tokKind s j, textOf s j (tokLen s j), tokNum s j, j⟩
def tkEnd (j : Nat) : Tk := ⟨5, ⟨#[]⟩, 0, j⟩

/-- what scanning comes to: tokens; or a fault's number, and where -/
inductive Sc where
  | toks (l : List Tk)
  | bad (err : Int) (pos : Nat)
/-- from a byte on, behind so many tokens; the first number: fuel -/
def scanGo (s : ByteArray) : Nat → Nat → Nat → List Tk → Sc
  | 0, _, _, l => .toks l
  | f + 1, n, i, l =>
    if over s i = s.size then .toks (l ++ [tkEnd s.size])
    else if n = 4096 then .bad 3 (over s i)
    else if tokOk s (over s i) = true then scanGo s f (n + 1) (over s i + tokLen s (over s i)) (l ++ [tkAt s (over s i)])
    else .bad 20 (over s i)
/-- a text's tokens -/
def scanOf (s : ByteArray) : Sc := if 16384 < s.size then .bad 3 0 else scanGo s (s.size + 1) 0 0 []

theorem tk_len {s : ByteArray} (l : List Tk) : (l.flatMap (Tk.cells s)).length = l.length * 5 := by
  induction l with
  | nil => rfl
  | cons y ys ih => simp only [List.flatMap_cons, List.length_append, ih, Tk.cells, List.length_cons, List.length_nil]; omega
theorem tk_one {s : ByteArray} (l : List Tk) : ∀ u ∈ l.flatMap (Tk.cells s), u.oneCell' = true := by
  intro u hu
  obtain ⟨y, _, hy⟩ := List.mem_flatMap.1 hu
  simp only [Tk.cells, List.mem_cons, List.not_mem_nil, or_false] at hy
  rcases hy with rfl | rfl | rfl | rfl | rfl <;> rfl

theorem Token.info : (Tryz.prog.info? 56).map (fun i => (i.zero, i.size, i.bytes)) = some (some (.agg #[.int .i64 0, .string ⟨#[]⟩, .int .i64 0, .int .i64 0, .int .i64 0]), 5, 48) := by kernel_rfl

/-- what Scan returns -/
def Scanned (s : ByteArray) (w : World) (r : Ending) (w' : World) : Prop :=
  Below w.heap.size w w' ∧ match scanOf s with
    | .toks l => ∃ g c, r = .returned (.tuple #[.slice (some ⟨g, 0, none⟩) l.length c, .agg #[.int .i64 0, .int .i64 0, .int .i64 0]]) ∧ w'.ownsRow w.heap.size 56 5 (.slice (some ⟨g, 0, none⟩) l.length c) l.length (l.flatMap (Tk.cells s))
    | .bad e p => r = .returned (.tuple #[.slice none 0 0, .agg #[.int .i64 e, .int .i64 (place s p).1, .int .i64 (place s p).2]])

theorem row_base {w : World} {base base' : Nat} {e : TypeId} {size : Nat} {v : Value} {n : Nat} {xs : List Value} (h : w.ownsRow base e size v n xs) (hb : base' ≤ base) : w.ownsRow base' e size v n xs := by
  refine ⟨h.1, ?_⟩
  rcases h.2 with h0 | ⟨g, cap, cur, h1, h2, h3⟩
  · exact .inl h0
  · exact .inr ⟨g, cap, cur, h1, by omega, h3⟩

/-- where Scan stands: the fault's variable, the scanner, the tokens so far -/
structure ScanW (w W : World) (s : ByteArray) (i : Nat) (v : Value) (l : List Tk) : Prop where
  scan : ScanAt W (w.heap.size + 1) s i
  res : W.heap[w.heap.size]? = some (.cells #[.int .i64 0, .int .i64 0, .int .i64 0] 30 (0, 0))
  below : Below w.heap.size w W
  size : w.heap.size + 1 < W.heap.size
  own : W.ownsRow (w.heap.size + 2) 56 5 v l.length (l.flatMap (Tk.cells s))
section
variable {w W W' : World} {s : ByteArray} {i j : Nat} {v : Value} {l : List Tk}
theorem ScanW.step (h : ScanW w W s i v l) (hS : ScanAt W' (w.heap.size + 1) s j) (hc : W.grownBy W' (some (w.heap.size + 1))) : ScanW w W' s j v l :=
  ⟨hS, (hc.block _ (by have := h.size; omega) (by simp)).trans h.res, h.below.grown hc (by have := h.below.size; omega) (fun k e => by cases e; omega), Nat.lt_of_lt_of_le h.size hc.size,
    h.own.kept hc (.inr (fun e => by have := (h.own.lt _ e).1; omega))⟩
theorem ScanW.alloc (h : ScanW w W s i v l) (o : Obj) : ScanW w (W.alloc o) s i v l :=
  ⟨h.scan.alloc o, (Below.heap_alloc W o _ (by have := h.size; omega)).trans h.res, h.below.alloc (by have := h.size; omega) o, by simp; have := h.size; omega, h.own.alloc o⟩
theorem ScanW.drewN (h : ScanW w W s i v l) (n : Nat) : ScanW w (W.drewN n) s i v l :=
  ⟨h.scan, h.res, h.below.trans ⟨rfl, rfl, rfl, Nat.le_refl _, fun _ _ => rfl⟩, h.size, h.own⟩
theorem ScanW.appended {v' : Value} {l' : List Tk} (h : ScanW w W s i v l) (hown : W'.ownsRow (w.heap.size + 2) 56 5 v' l'.length (l'.flatMap (Tk.cells s))) (hc : W.grownBy W' v.ownBlock) : ScanW w W' s i v' l' :=
  ⟨(hc.block _ h.size (fun e => by have := (h.own.lt _ e.symm).1; omega)).trans h.scan, (hc.block _ (by have := h.size; omega) (fun e => by have := (h.own.lt _ e.symm).1; omega)).trans h.res,
    h.below.grown hc (by have := h.size; omega) (fun k e => by have := (h.own.lt _ e).1; omega), Nat.lt_of_lt_of_le h.size hc.size, hown⟩
theorem ScanW.rcells (h : ScanW w W s i v l) : W.cell? ⟨w.heap.size, 0, none⟩ = some (.int .i64 0) ∧ W.cell? ⟨w.heap.size, 1, none⟩ = some (.int .i64 0) ∧ W.cell? ⟨w.heap.size, 2, none⟩ = some (.int .i64 0) ∧ ∀ k, W.frozen? ⟨w.heap.size, k, none⟩ = false := by
  have := h.res
  refine ⟨?_, ?_, ?_, fun k => ?_⟩ <;> simp [World.cell?, World.frozen?, this]
theorem ScanW.form (h : ScanW w W s i v l) : ∃ (A : Option Addr) (c : Nat), v = .slice A l.length c := by
  rcases h.own.2 with ⟨h1, h2⟩ | ⟨g, cap, cur, h1, _, h3, h4⟩
  · exact ⟨none, 0, by rw [h1, h2]⟩
  · exact ⟨some ⟨g, 0, none⟩, cap, h1⟩
end
/-- the fault written -/
theorem fault_wrote {w W : World} {s : ByteArray} {i : Nat} {v : Value} {l : List Tk} (h : ScanW w W s i v l) (v0 v1 v2 : Value) :
    ∃ W', W' = (((W.setCell ⟨w.heap.size, 0, none⟩ v0).setCell ⟨w.heap.size, 1, none⟩ v1).setCell ⟨w.heap.size, 2, none⟩ v2) ∧
      (W'.cell? ⟨w.heap.size, 0, none⟩ = some v0 ∧ W'.cell? ⟨w.heap.size, 1, none⟩ = some v1 ∧ W'.cell? ⟨w.heap.size, 2, none⟩ = some v2) ∧ Below w.heap.size w W' ∧
      W'.ownsRow (w.heap.size + 2) 56 5 v l.length (l.flatMap (Tk.cells s)) := by
  have hb := blk_set (blk_set (blk_set h.res 0 v0) 1 v1) 2 v2
  simp only [List.setIfInBounds_toArray, List.set_cons_zero, List.set_cons_succ] at hb
  have hk : ∀ (W : World) (k : Nat) (u : Value), W.ownsRow (w.heap.size + 2) 56 5 v l.length (l.flatMap (Tk.cells s)) → (W.setCell ⟨w.heap.size, k, none⟩ u).ownsRow (w.heap.size + 2) 56 5 v l.length (l.flatMap (Tk.cells s)) := fun W k u ho =>
    ho.kept (chg_set W w.heap.size k u) (.inr (fun e => by have := (ho.lt _ e).1; omega))
  refine ⟨_, rfl, ⟨?_, ?_, ?_⟩, ((h.below.setCell (p := ⟨w.heap.size, 0, none⟩) (Nat.le_refl _) _).setCell (p := ⟨w.heap.size, 1, none⟩) (Nat.le_refl _) _).setCell (p := ⟨w.heap.size, 2, none⟩) (Nat.le_refl _) _, hk _ _ _ (hk _ _ _ (hk _ _ _ h.own))⟩ <;> (unfold World.cell?; rw [hb]; rfl)

theorem tok_le {s : ByteArray} {j : Nat} (h : j < s.size) : j + tokLen s j ≤ s.size := by
  unfold tokLen
  split
  · have := rn_le partB (s.data.toList.drop j); rw [List.length_drop, ← size_len] at this; omega
  · split
    · have := rn_le isDigit (s.data.toList.drop j); rw [List.length_drop, ← size_len] at this; omega
    · have h1 := size_extract' s j s.size (Nat.le_refl _)
      have := signOf_le (s.extract j s.size) (by omega)
      omega
theorem tok_pos {s : ByteArray} {j : Nat} (h : j < s.size) (hk : tokOk s j = true) : 0 < tokLen s j := by
  by_cases hl : isLetter (bt s j) = true
  · unfold tokLen; rw [if_pos hl]; exact rn_pos h (by simp [partB, hl])
  · by_cases hd : isDigit (bt s j) = true
    · unfold tokLen; rw [if_neg hl, if_pos hd]; exact rn_pos h hd
    · unfold tokOk at hk; rw [if_neg hl, if_neg hd] at hk; simpa using hk

set_option maxRecDepth 100000 in
set_option maxHeartbeats 4000000 in
theorem scan_any (s : ByteArray) (w : World) (hs : s.size ≤ maxLen) : Calls Tryz.prog 18 #[.string s] w (Scanned s w) := by
  unfold maxLen at hs
  obtain ⟨i0, hi0, hz0, hz1, hz2⟩ : ∃ i0, Tryz.prog.info? 56 = some i0 ∧ i0.zero = some (.agg #[.int .i64 0, .string ⟨#[]⟩, .int .i64 0, .int .i64 0, .int .i64 0]) ∧ i0.size = 5 ∧ i0.bytes = 48 := by
    have hi := Token.info
    cases h : Tryz.prog.info? 56 with
    | none => rw [h] at hi; cases hi
    | some i0 => rw [h] at hi; simp only [Option.map_some, Option.some.injEq, Prod.mk.injEq] at hi; exact ⟨i0, rfl, hi.1, hi.2.1, hi.2.2⟩
  have hW0 : ScanW w ((w.alloc (.cells #[.int .i64 0, .int .i64 0, .int .i64 0] 30)).alloc (.cells #[.string s, .int .i64 0, .int .i64 1, .int .i64 1] 87)) s 0 (.slice none 0 0) [] :=
    ⟨by have := World.alloc_heap_new (w.alloc (.cells #[.int .i64 0, .int .i64 0, .int .i64 0] 30)) (.cells #[.string s, .int .i64 0, .int .i64 1, .int .i64 1] 87); rwa [World.size_alloc] at this,
      (Below.heap_alloc _ _ _ (by simp)).trans (World.alloc_heap_new w _), ((Below.refl _ _).alloc (Nat.le_refl _) _).alloc (by simp) _, by simp, World.ownsRow_nil _ _ _ _⟩
  have HW := hid hW0
  clear hW0
  by_cases hbig : 16384 < s.size
  · have HS : Hid (scanOf s = .bad 3 0) := by show _ = _; unfold scanOf; rw [if_pos hbig]
    go_enter Tryz.func18, Tryz.ntmps18
    go_wp2_with fail
    have hW := HW.out
    generalize ((w.alloc (.cells #[.int .i64 0, .int .i64 0, .int .i64 0] 30)).alloc (.cells #[.string s, .int .i64 0, .int .i64 1, .int .i64 1] 87)) = W at *
    obtain ⟨c0, c1, c2, c3⟩ := hW.scan.cells
    obtain ⟨r0, r1, r2, rf⟩ := hW.rcells
    simp only [place] at c2 c3
    go_region
    go_wp2_with fail
    obtain ⟨Wf, hWf, ⟨q0, q1, q2⟩, hbf, hof⟩ := fault_wrote hW (.int .i64 3) (.int .i64 1) (.int .i64 1)
    rw [← hWf]
    refine bodyPost_ret (v := .tuple #[.slice none 0 0, .agg #[.int .i64 3, .int .i64 1, .int .i64 1]]) (by simp [results, Tryz.results18, go_sem, q0, q1, q2]) rfl ⟨hbf.trans ⟨rfl, rfl, rfl, Nat.le_refl _, fun _ _ => rfl⟩, ?_⟩
    rw [HS.out]
    rfl
  · have HS : Hid (scanOf s = scanGo s (s.size + 1) 0 0 []) := by show _ = _; unfold scanOf; rw [if_neg hbig]
    go_enter Tryz.func18, Tryz.ntmps18
    go_wp2_with fail
    have hW := HW.out
    clear HW
    generalize ((w.alloc (.cells #[.int .i64 0, .int .i64 0, .int .i64 0] 30)).alloc (.cells #[.string s, .int .i64 0, .int .i64 1, .int .i64 1] 87)) = W at *
    go_loopg [5, 6, 7] (s.size + 1) (fun k v _ _ wr => ∃ (i : Nat) (l : List Tk), i ≤ s.size ∧ s.size + 1 ≤ i + k ∧ l.length ≤ 4096 ∧ ScanW w wr s i v l ∧ Hid (scanOf s = scanGo s k l.length i l))
    case atStart => exact ⟨0, [], by omega, by omega, by simp, hW, HS⟩
    case round =>
      obtain ⟨i, l, hi, hk, hl, hW1, HG⟩ := hrel
      go_wp2_with fail
      refine (blanks_any (w.heap.size + 1) s i _ hW1.scan hi (by omega)).mono ?_
      rintro r w1 ⟨rfl, hS1, hc1⟩
      have hW2 := hW1.step hS1 hc1
      clear hW1 hS1 hc1
      obtain ⟨hov1, hov2⟩ := over_le s i hi
      obtain ⟨A, c, rfl⟩ := hW2.form
      obtain ⟨c0, c1, c2, c3⟩ := hW2.scan.cells
      obtain ⟨r0, r1, r2, rf⟩ := hW2.rcells
      by_cases hend : over s i = s.size
      · have HR : Hid (scanOf s = .toks (l ++ [tkEnd s.size])) := by
          show _ = _
          rw [HG.out]
          match gk with
          | 0 => omega
          | k + 1 => unfold scanGo; rw [if_pos hend]
        rw [hend] at c1 c2 c3 hW2
        have hsz1 := hW2.size
        have hown := hW2.own.alloc (.cells (tkEnd s.size |>.cells s).toArray 56)
        go_wp2_with (at_builtin; refine wpList_append_lies _ rfl _ _ _ rfl (w.heap.size + 2) 56 i0 _ 5 48 Tryz.underlying48 hi0 hz0 hz1 hz2 rfl (by omega) _ _ _ (by rfl) hown ⟨w1.heap.size, 0, none⟩ 1 1 ((tkEnd s.size).cells s) (by rfl) (by rfl) (World.news_of_block (World.alloc_heap_new _ _)) (by intro u hu; exact tk_one [tkEnd s.size] u (by simpa using hu)) (by omega) (by unfold maxLen; omega) (by omega) (by rw [World.size_alloc]; omega) _ rfl ?_; intro g2 cap2 w2 hown2 hgrow2 hat2 hlt2; have hW3 : ScanW w w2 s s.size (.slice (some ⟨g2, 0, none⟩) (l.length + 1) cap2) (l ++ [tkEnd s.size]) := (hW2.alloc _).appended (by simpa using hown2) hgrow2; obtain ⟨q0, q1, q2, qf⟩ := hW3.rcells)
        obtain ⟨Wf, hWf, ⟨q0, q1, q2⟩, hbf, hof⟩ := fault_wrote hW3 (.int .i64 0) (.int .i64 0) (.int .i64 0)
        rw [← hWf]
        refine bodyPost_ret (v := .tuple #[.slice (some ⟨g2, 0, none⟩) (l.length + 1) cap2, .agg #[.int .i64 0, .int .i64 0, .int .i64 0]]) (by simp [results, Tryz.results18, go_sem, q0, q1, q2]) rfl ⟨hbf, ?_⟩
        rw [HR.out]
        have hln : (l ++ [tkEnd s.size]).length = l.length + 1 := by simp
        refine ⟨g2, cap2, by rw [hln], ?_⟩
        have := row_base hof (show w.heap.size ≤ w.heap.size + 2 by omega)
        rwa [hln] at this ⊢
      · have hlt : over s i < s.size := by omega
        have hi0' : (over s i : Int) < (s.size : Int) := by omega
        have hne : ((over s i : Int) == (s.size : Int)) = false := by simp; omega
        by_cases h4096 : l.length = 4096
        · have HR : Hid (scanOf s = .bad 3 (over s i)) := by
            show _ = _
            rw [HG.out]
            match gk with
            | 0 => omega
            | k + 1 => unfold scanGo; rw [if_neg hend, if_pos h4096]
          go_wp2_with fail
          go_region
          go_wp2_with fail
          obtain ⟨Wf, hWf, ⟨q0, q1, q2⟩, hbf, hof⟩ := fault_wrote hW2 (.int .i64 3) (.int .i64 (place s (over s i)).1) (.int .i64 (place s (over s i)).2)
          rw [← hWf]
          refine bodyPost_ret (v := .tuple #[.slice none 0 0, .agg #[.int .i64 3, .int .i64 (place s (over s i)).1, .int .i64 (place s (over s i)).2]]) (by simp [results, Tryz.results18, go_sem, q0, q1, q2]) rfl ⟨hbf.trans ⟨rfl, rfl, rfl, Nat.le_refl _, fun _ _ => rfl⟩, ?_⟩
          rw [HR.out]
        · go_wp2_with fail
          refine (next_any (w.heap.size + 1) s (over s i) _ hW2.scan hlt (by omega)).mono ?_
          rintro r w2 ⟨rfl, hS2, hc2⟩
          have hW3 := hW2.step hS2 hc2
          have htl := tok_le hlt
          clear hW2 hS2 hc2 c0 c1 c2 c3 r0 r1 r2 rf
          unfold tokVal
          have htp := hid (@tok_pos s (over s i) hlt)
          obtain ⟨ok, hok⟩ : ∃ ok, ok = tokOk s (over s i) := ⟨_, rfl⟩
          rw [← hok]
          have HOK := hid hok
          clear hok
          have hsz3 := hW3.size
          have hgr3 := hW3.below.size
          cases ok
          · have HR : Hid (scanOf s = .bad 20 (over s i)) := by
              show _ = _
              rw [HG.out]
              match gk with
              | 0 => omega
              | k + 1 => unfold scanGo; rw [if_neg hend, if_neg h4096, if_neg (by rw [← HOK.out]; simp)]
            go_wp2_with fail
            have hW4 := hW3.alloc (.cells ((tkAt s (over s i)).cells s).toArray 56)
            have hT := World.alloc_heap_new w2 (.cells ((tkAt s (over s i)).cells s).toArray 56)
            simp only [Tk.cells, tkAt] at hW4 hT
            generalize w2.alloc _ = w4 at hW4 hT ⊢
            have t3 : w4.cell? ⟨w2.heap.size, 3, none⟩ = some (.int .i64 (place s (over s i)).1) := by unfold World.cell?; rw [hT]; rfl
            have t4 : w4.cell? ⟨w2.heap.size, 4, none⟩ = some (.int .i64 (place s (over s i)).2) := by unfold World.cell?; rw [hT]; rfl
            obtain ⟨r0, r1, r2, rf⟩ := hW4.rcells
            have hne0 : w2.heap.size ≠ w.heap.size := by omega
            go_region
            go_wp2_with fail
            obtain ⟨Wf, hWf, ⟨q0, q1, q2⟩, hbf, hof⟩ := fault_wrote hW4 (.int .i64 20) (.int .i64 (place s (over s i)).1) (.int .i64 (place s (over s i)).2)
            rw [← hWf]
            refine bodyPost_ret (v := .tuple #[.slice none 0 0, .agg #[.int .i64 20, .int .i64 (place s (over s i)).1, .int .i64 (place s (over s i)).2]]) (by simp [results, Tryz.results18, go_sem, q0, q1, q2]) rfl ⟨hbf.trans ⟨rfl, rfl, rfl, Nat.le_refl _, fun _ _ => rfl⟩, ?_⟩
            rw [HR.out]
          · have hpos := htp.out HOK.out.symm
            have hW5 := (hW3.alloc (.cells ((tkAt s (over s i)).cells s).toArray 56)).alloc (.cells ((tkAt s (over s i)).cells s).toArray 56)
            have hT := World.alloc_heap_new (w2.alloc (.cells ((tkAt s (over s i)).cells s).toArray 56)) (.cells ((tkAt s (over s i)).cells s).toArray 56)
            rw [World.size_alloc] at hT
            have HN := hid (World.news_of_block hT)
            have hown := hW5.own
            have HW5 := hid hW5
            clear hT hW5 hW3
            go_wp2_with (at_builtin; refine wpList_append_lies _ rfl _ _ _ rfl (w.heap.size + 2) 56 i0 _ 5 48 Tryz.underlying48 hi0 hz0 hz1 hz2 rfl (by omega) _ _ _ (by rfl) hown ⟨w2.heap.size + 1, 0, none⟩ 1 1 ((tkAt s (over s i)).cells s) (by rfl) (by rfl) HN.out (by intro u hu; exact tk_one [tkAt s (over s i)] u (by simpa using hu)) (by omega) (by unfold maxLen; omega) (by omega) (by rw [World.size_alloc, World.size_alloc]; omega) _ rfl ?_; intro g3 cap3 w3 hown3 hgrow3 hat3 hlt3)
            have hln : (l ++ [tkAt s (over s i)]).length = l.length + 1 := by simp
            have hW6 : ScanW w w3 s (over s i + tokLen s (over s i)) (.slice (some ⟨g3, 0, none⟩) (l.length + 1) cap3) (l ++ [tkAt s (over s i)]) := HW5.out.appended (by simpa using hown3) hgrow3
            go_roundg (gk - 1)
            case rel =>
              refine ⟨over s i + tokLen s (over s i), l ++ [tkAt s (over s i)], by omega, by omega, by omega, hW6, ?_⟩
              show _ = _
              rw [HG.out, hln]
              match gk with
              | 0 => omega
              | k + 1 => conv => lhs; unfold scanGo
                         rw [if_neg hend, if_neg h4096, if_pos HOK.out.symm]; rfl
            case measure => omega
end Go.Proofs.YtnlikhjmmnaknaaGreatDoor
/-
  The walks of the reference's Place and over.
-/
namespace Go.Proofs.YtnlikhjmmnaknaaGreatDoor
open Go.RowKit

/-- where Place stands: the result's cells, the place's -/
structure PlaceW (w W : World) (p : Int × Int) : Prop where
  res : W.heap[w.heap.size]? = some (.cells #[.int .i64 0, .int .i64 0] 28 (0, 0))
  pos : W.heap[w.heap.size + 1]? = some (.cells #[.int .i64 p.1, .int .i64 p.2] 28 (0, 0))
  below : Below w.heap.size w W
  size : w.heap.size + 1 < W.heap.size
theorem PlaceW.cells {w W : World} {p : Int × Int} (h : PlaceW w W p) :
    W.cell? ⟨w.heap.size, 0, none⟩ = some (.int .i64 0) ∧ W.cell? ⟨w.heap.size, 1, none⟩ = some (.int .i64 0) ∧ W.cell? ⟨w.heap.size + 1, 0, none⟩ = some (.int .i64 p.1) ∧ W.cell? ⟨w.heap.size + 1, 1, none⟩ = some (.int .i64 p.2) ∧
      (∀ k, W.frozen? ⟨w.heap.size, k, none⟩ = false) ∧ ∀ k, W.frozen? ⟨w.heap.size + 1, k, none⟩ = false := by
  have h1 := h.res
  have h2 := h.pos
  refine ⟨?_, ?_, ?_, ?_, fun k => ?_, fun k => ?_⟩ <;> simp [World.cell?, World.frozen?, h1, h2]
theorem PlaceW.set {w W : World} {p : Int × Int} (h : PlaceW w W p) (k : Nat) (x : Int) (p' : Int × Int) (hk : (#[.int .i64 p.1, .int .i64 p.2] : Array Value).setIfInBounds k (.int .i64 x) = #[.int .i64 p'.1, .int .i64 p'.2]) : PlaceW w (W.setCell ⟨w.heap.size + 1, k, none⟩ (.int .i64 x)) p' :=
  ⟨(Below.heap_setCell W ⟨w.heap.size + 1, k, none⟩ _ w.heap.size (by simp)).trans h.res, by rw [blk_set h.pos k (.int .i64 x), hk], h.below.setCell (p := ⟨w.heap.size + 1, k, none⟩) (by simp) _, by simpa [World.setCell] using h.size⟩

set_option maxRecDepth 100000 in
set_option maxHeartbeats 1000000 in
theorem rplace_any (s : ByteArray) (n : Nat) (w : World) (hn : n ≤ s.size) (hs : s.size ≤ 1000000) :
    Calls Tryz.prog 59 #[.string s, .int .i64 n] w fun r w' => r = .returned (.agg #[.int .i64 (place s n).1, .int .i64 (place s n).2]) ∧ Below w.heap.size w w' := by
  have hW0 : PlaceW w ((w.alloc (.cells #[.int .i64 0, .int .i64 0] 28)).alloc (.cells #[.int .i64 1, .int .i64 1] 28)) (place s 0) :=
    ⟨(Below.heap_alloc _ _ _ (by simp)).trans (World.alloc_heap_new w _), by have := World.alloc_heap_new (w.alloc (.cells #[.int .i64 0, .int .i64 0] 28)) (.cells #[.int .i64 1, .int .i64 1] 28); rwa [World.size_alloc] at this,
      ((Below.refl _ _).alloc (Nat.le_refl _) _).alloc (by simp) _, by simp⟩
  have HW := hid hW0
  clear hW0
  go_enter Tryz.func59, Tryz.ntmps59
  go_wp2_with fail
  have hW := HW.out
  clear HW
  generalize ((w.alloc (.cells #[.int .i64 0, .int .i64 0] 28)).alloc (.cells #[.int .i64 1, .int .i64 1] 28)) = W at *
  go_loopw [6] (fun c wr => ∃ j : Nat, j ≤ n ∧ c = .int .i64 j ∧ PlaceW w wr (place s j)) (fun c _ => n - (intOf c).toNat)
  case atStart => exact ⟨0, by omega, rfl, hW⟩
  case round =>
    obtain ⟨j, hj, rfl, hW1⟩ := hrel
    obtain ⟨r0, r1, c0, c1, fr, fc⟩ := hW1.cells
    by_cases hlt : j < n
    · have hjs : j < s.size := by omega
      have hbd := place_bd s j
      have hbt := bt_eq s j hjs
      by_cases h10 : bt s j = 10
      · have hp := hid (place_nl h10)
        have ht : ((s[j].toNat : Int) == 10) = true := by rw [hbt, h10]; rfl
        clear hbt h10
        go_wp2_with fail
        go_roundw
        case rel => exact ⟨j + 1, by omega, by go_num, by rw [hp.out]; exact ((hW1.set 1 _ ((place s j).1, (place s j).2 + 1) rfl).set 0 _ ((place s j).1 + 1, (place s j).2 + 1) rfl).set 1 _ _ rfl⟩
        case measure => simp [intOf]; omega
      · have hp := hid (place_on h10)
        have ht : ((s[j].toNat : Int) == 10) = false := by rw [hbt]; simpa using h10
        clear hbt h10
        go_wp2_with fail
        go_roundw
        case rel => exact ⟨j + 1, by omega, by go_num, by rw [hp.out]; exact hW1.set 1 _ _ rfl⟩
        case measure => simp [intOf]; omega
    · have : j = n := by omega
      subst this
      go_wp2_with fail
      have hb := blk_set (blk_set hW1.res 0 (.int .i64 (place s j).1)) 1 (.int .i64 (place s j).2)
      simp only [List.setIfInBounds_toArray, List.set_cons_zero, List.set_cons_succ] at hb
      have hbel := (hW1.below.setCell (p := ⟨w.heap.size, 0, none⟩) (Nat.le_refl _) (.int .i64 (place s j).1)).setCell (p := ⟨w.heap.size, 1, none⟩) (Nat.le_refl _) (.int .i64 (place s j).2)
      generalize (wr.setCell ⟨w.heap.size, 0, none⟩ (.int .i64 (place s j).1)).setCell ⟨w.heap.size, 1, none⟩ (.int .i64 (place s j).2) = W2 at *
      have q0 : W2.cell? ⟨w.heap.size, 0, none⟩ = some (.int .i64 (place s j).1) := by unfold World.cell?; rw [hb]; rfl
      have q1 : W2.cell? ⟨w.heap.size, 1, none⟩ = some (.int .i64 (place s j).2) := by unfold World.cell?; rw [hb]; rfl
      refine bodyPost_ret (v := .agg #[.int .i64 (place s j).1, .int .i64 (place s j).2]) (by simp [results, Tryz.results59, go_sem, q0, q1]) rfl ⟨rfl, hbel⟩

set_option maxHeartbeats 1000000 in
theorem rover_any (s : ByteArray) (i : Nat) (w : World) (hi : i ≤ s.size) (hs : s.size ≤ 1000000) :
    Calls Tryz.prog 58 #[.string s, .int .i64 i] w fun r w' => r = .returned (.int .i64 (over s i : Nat)) ∧ w = w' := by
  go_enter Tryz.func58, Tryz.ntmps58
  go_wp2_with fail
  go_loopg [1] s.size (fun k v wr => ∃ q : Nat, q ≤ s.size ∧ s.size ≤ q + k ∧ q + k ≤ s.size + i ∧ v = .int .i64 q ∧ Hid (over s q = over s i) ∧ w = wr)
  case atStart => exact ⟨i, hi, by omega, by omega, rfl, rfl, rfl⟩
  case round =>
    obtain ⟨q, hq, hk1, hk2, rfl, hov, rfl⟩ := hrel
    by_cases hlt : q < s.size
    · have hbt := bt_eq s q hlt
      have hd : decide ((q : Int) < (s.size : Int)) = true := by simp; omega
      by_cases hbl : bt s q = 32 ∨ bt s q = 9 ∨ bt s q = 10 ∨ bt s q = 13
      · have hov2 := hid (over_blank hlt hbl)
        generalize bt s q = b at *
        rcases hbl with rfl | rfl | rfl | rfl
        all_goals
          go_wp2_with fail
          go_roundg (gk - 1)
          case measure => omega
          case rel => exact ⟨q + 1, by omega, by omega, by omega, by go_num, hov2.out.symm.trans hov.out, rfl⟩
      · by_cases hre : bt s q = 35
        · have hov2 := hid ((over_rem hlt hre).symm.trans hov.out)
          have hne := hid (show bt s q ≠ 10 by omega)
          clear hbl
          have hbt2 : ((s[q].toNat : Int) == 35) = true := by rw [hbt, hre]; rfl
          clear hbt hre
          go_wp2_with fail
          clear hbt2 hd
          go_loopg [1] s.size (fun k2 v wr => ∃ p : Nat, q ≤ p ∧ p ≤ s.size ∧ s.size ≤ p + k2 ∧ p + k2 ≤ s.size + q ∧ v = .int .i64 p ∧ Hid (overIn s p = over s i) ∧ w = wr)
          case atStart => exact ⟨q, by omega, by omega, by omega, by omega, rfl, hov2, rfl⟩
          case round =>
            obtain ⟨p, hp, hps, hk3, hk4, rfl, hov3, rfl⟩ := hrel
            by_cases hlp : p < s.size
            · have hd : decide ((p : Int) < (s.size : Int)) = true := by simp; omega
              have hbp := bt_eq s p hlp
              by_cases h10 : bt s p = 10
              · have hov4 := hid ((overIn_nl hlp h10).symm.trans hov3.out)
                have hpq : q < p := by
                  rcases Nat.lt_or_ge q p with h | h
                  · exact h
                  · obtain rfl : q = p := by omega
                    exact absurd h10 hne.out
                have t1 : ((s[p].toNat : Int) != 10) = false := by rw [hbp, h10]; rfl
                clear hbp h10
                go_wp2_with fail
                go_roundg (s.size - p)
                case measure => omega
                case rel => exact ⟨p, by omega, by omega, by omega, rfl, hov4, rfl⟩
              · have hov4 := hid ((overIn_on hlp h10).symm.trans hov3.out)
                have t1 : ((s[p].toNat : Int) != 10) = true := by rw [hbp]; simp; omega
                clear hbp h10
                go_wp2_with fail
                go_roundg (gk - 1)
                case measure => omega
                case rel => exact ⟨p + 1, by omega, by omega, by omega, by omega, by go_num, hov4, rfl⟩
            · obtain rfl : p = s.size := by omega
              have hfl : decide ((s.size : Int) < (s.size : Int)) = false := by simp
              go_wp2_with fail
              go_roundg 0
              case measure => omega
              case rel => exact ⟨s.size, by omega, by omega, by omega, rfl, (overIn_end s).symm.trans hov3.out, rfl⟩
        · have hov2 := hid (over_stop hlt hbl hre)
          have t1 : (bt s q == 32) = false := by simp; omega
          have t2 : (bt s q == 9) = false := by simp; omega
          have t3 : (bt s q == 10) = false := by simp; omega
          have t4 : (bt s q == 13) = false := by simp; omega
          have t5 : (bt s q == 35) = false := by simp; omega
          clear hbl hre
          generalize bt s q = b at *
          go_wp2_with fail
          go_ret
          exact ⟨ret_int (by rw [← hov.out, hov2.out]), rfl⟩
    · obtain rfl : q = s.size := by omega
      have hfl : decide ((s.size : Int) < (s.size : Int)) = false := by simp
      go_wp2_with fail
      go_ret
      exact ⟨ret_int (by rw [← hov.out, over_end]), rfl⟩
end Go.Proofs.YtnlikhjmmnaknaaGreatDoor
/-
  The reference's one: plain facts, and the walks.
-/
namespace Go.Proofs.YtnlikhjmmnaknaaGreatDoor
open Go.RowKit

theorem rn_stop (p : Int → Bool) (s : ByteArray) (i : Nat) (hi : i ≤ s.size) (h : i + rn p (s.data.toList.drop i) < s.size) : p (bt s (i + rn p (s.data.toList.drop i))) = false := by
  generalize hm : rn p (s.data.toList.drop i) = m at *
  revert i
  induction m with
  | zero =>
    intro i hi hm h
    cases hp : p (bt s (i + 0)) with
    | false => rfl
    | true => rw [rn_on (show i < s.size by omega) hp] at hm; omega
  | succ m ih =>
    intro i hi hm h
    cases hp : p (bt s i) with
    | false => rw [rn_off (show i < s.size by omega) hp] at hm; omega
    | true =>
      rw [rn_on (show i < s.size by omega) hp] at hm
      have := ih (i + 1) (by omega) (by omega) (by omega)
      rwa [show i + (m + 1) = i + 1 + m by omega]

theorem word_short {l : List UInt8} (h : isWord l = true) : l.length ≤ 20 := by
  obtain ⟨x, hx, rfl⟩ := isWord_mem h
  have : ∀ x ∈ wordL, x.data.toList.length ≤ 20 := by decide +kernel
  exact this x hx

/-- what one comes to -/
def OnePost (s : ByteArray) (i : Nat) (w : World) (r : Ending) (w' : World) : Prop :=
  ∃ (k : Int) (t : ByteArray) (n : Int), r = .returned (.tuple #[.agg #[.int .i64 k, .string t, .int .i64 n, .int .i64 0, .int .i64 0], .bool (tokOk s i)]) ∧
    (tokOk s i = true → k = tokKind s i ∧ t = textOf s i (tokLen s i) ∧ n = tokNum s i) ∧ Below w.heap.size w w'

/-- where one stands: the result's cells -/
structure OneW (w W : World) : Prop where
  res : W.heap[w.heap.size]? = some (.cells #[.int .i64 0, .string ⟨#[]⟩, .int .i64 0, .int .i64 0, .int .i64 0] 56 (0, 0))
  below : Below w.heap.size w W
theorem OneW.new (w : World) : OneW w (w.alloc (.cells #[.int .i64 0, .string ⟨#[]⟩, .int .i64 0, .int .i64 0, .int .i64 0] 56)) :=
  ⟨World.alloc_heap_new w _, (Below.refl _ _).alloc (Nat.le_refl _) _⟩
theorem OneW.drewN {w W : World} (h : OneW w W) (n : Nat) : OneW w (W.drewN n) := ⟨h.res, h.below.trans ⟨rfl, rfl, rfl, Nat.le_refl _, fun _ _ => rfl⟩⟩
theorem OneW.cells {w W : World} (h : OneW w W) : W.cell? ⟨w.heap.size, 0, none⟩ = some (.int .i64 0) ∧ W.cell? ⟨w.heap.size, 1, none⟩ = some (.string ⟨#[]⟩) ∧ W.cell? ⟨w.heap.size, 2, none⟩ = some (.int .i64 0) ∧
    W.cell? ⟨w.heap.size, 3, none⟩ = some (.int .i64 0) ∧ W.cell? ⟨w.heap.size, 4, none⟩ = some (.int .i64 0) ∧ ∀ k, W.frozen? ⟨w.heap.size, k, none⟩ = false := by
  have h1 := h.res
  refine ⟨?_, ?_, ?_, ?_, ?_, fun k => ?_⟩ <;> simp [World.cell?, World.frozen?, h1]
theorem OneW.wrote {w W : World} (h : OneW w W) (v0 v1 v2 v3 v4 : Value) :
    ∃ W', W' = ((((W.setCell ⟨w.heap.size, 0, none⟩ v0).setCell ⟨w.heap.size, 1, none⟩ v1).setCell ⟨w.heap.size, 2, none⟩ v2).setCell ⟨w.heap.size, 3, none⟩ v3).setCell ⟨w.heap.size, 4, none⟩ v4 ∧
      (W'.cell? ⟨w.heap.size, 0, none⟩ = some v0 ∧ W'.cell? ⟨w.heap.size, 1, none⟩ = some v1 ∧ W'.cell? ⟨w.heap.size, 2, none⟩ = some v2 ∧ W'.cell? ⟨w.heap.size, 3, none⟩ = some v3 ∧ W'.cell? ⟨w.heap.size, 4, none⟩ = some v4) ∧
      Below w.heap.size w W' := by
  have hb := blk_set (blk_set (blk_set (blk_set (blk_set h.res 0 v0) 1 v1) 2 v2) 3 v3) 4 v4
  simp only [List.setIfInBounds_toArray, List.set_cons_zero, List.set_cons_succ] at hb
  have hf : ∀ (W : World) (k : Nat) (v : Value), Below w.heap.size w W → Below w.heap.size w (W.setCell ⟨w.heap.size, k, none⟩ v) := fun W k v hb => hb.setCell (p := ⟨w.heap.size, k, none⟩) (Nat.le_refl _) v
  refine ⟨_, rfl, ?_, hf _ _ _ (hf _ _ _ (hf _ _ _ (hf _ _ _ (hf _ _ _ h.below))))⟩
  refine ⟨?_, ?_, ?_, ?_, ?_⟩ <;> (unfold World.cell?; rw [hb]; rfl)

set_option maxRecDepth 100000 in
set_option maxHeartbeats 2000000 in
theorem one_letter (s : ByteArray) (i : Nat) (w : World) (hi : i < s.size) (hs : s.size ≤ 1000000) (hl : isLetter (bt s i) = true) :
    Calls Tryz.prog 60 #[.string s, .int .i64 i] w (OnePost s i w) := by
  have hlen : Hid (tokLen s i = rn partB (s.data.toList.drop i)) := by show _ = _; unfold tokLen; rw [if_pos hl]
  have hnum : Hid (tokNum s i = 0) := by show _ = _; unfold tokNum; rw [if_pos hl]
  have hok : Hid (tokOk s i = decide (tokLen s i ≤ 20)) := by show _ = _; unfold tokOk; rw [if_pos hl]
  have hkd : Hid (tokKind s i = if isWord (textOf s i (tokLen s i)).data.toList = true then 4 else 1) := by show _ = _; unfold tokKind; rw [if_pos hl]
  have hrl := rn_le partB (s.data.toList.drop i)
  rw [List.length_drop, ← size_len, ← hlen.out] at hrl
  have hall : Hid (∀ q, q < tokLen s i → partB (bt s (i + q)) = true) := by rw [hlen.out]; exact rn_all partB s i
  have hstop : Hid (i + tokLen s i < s.size → partB (bt s (i + tokLen s i)) = false) := by rw [hlen.out]; exact rn_stop partB s i (by omega)
  have hbt := bt_eq s i hi
  have hnd : isDigit (bt s i) = false := by
    cases h : isDigit (bt s i) with
    | false => rfl
    | true => rw [not_both _ h] at hl; cases hl
  obtain ⟨m, hm⟩ : ∃ m, m = i + tokLen s i := ⟨_, rfl⟩
  have hmi : i ≤ m := by omega
  have hms : m ≤ s.size := by omega
  have htx : Hid (textOf s i (tokLen s i) = s.extract i m) := by show _ = _; unfold textOf; rw [hm]
  have htl : Hid ((s.extract i m).size = tokLen s i) := by show _ = _; rw [size_extract' s i m hms]; omega
  have HM := hid hm
  have hW := OneW.new w
  clear hm hrl
  have HW := hid hW
  clear hW
  go_enter Tryz.func60, Tryz.ntmps60
  go_wp2_with (first | (go_at_call 86; refine (rpart_any _ _).mono ?_; rintro e w' ⟨rfl, rfl⟩; rw [hl]; simp only [Bool.true_or]) | (go_at_call 87; refine (rdigit_any _ _).mono ?_; rintro e w' ⟨rfl, rfl⟩; rw [hnd]))
  have hW := HW.out
  clear HW
  generalize w.alloc (.cells #[.int .i64 0, .string ⟨#[]⟩, .int .i64 0, .int .i64 0, .int .i64 0] 56) = W at *
  clear hl hnd hbt
  go_loopg [6] (s.size + 1) (fun k v wr => ∃ q : Nat, i ≤ q ∧ q ≤ m ∧ s.size + 1 ≤ q + k ∧ v = .int .i64 q ∧ W = wr)
  case atStart => exact ⟨i, by omega, by omega, by omega, rfl, rfl⟩
  case round =>
    obtain ⟨q, hq1, hq2, hk, rfl, rfl⟩ := hrel
    by_cases hlt : q < m
    · have hpt : partB (bt s q) = true := by have := hall.out (q - i) (by have := HM.out; omega); rwa [show i + (q - i) = q by omega] at this
      have hbq := bt_eq s q (by omega)
      have hqs : (q : Int) < (s.size : Int) := by omega
      unfold partB at hpt
      go_wp2_with (first | (go_at_call 86; refine (rpart_any _ _).mono ?_; rintro e w' ⟨rfl, rfl⟩; rw [hpt]))
      go_roundg (gk - 1)
      case measure => omega
      case rel => exact ⟨q + 1, by omega, by omega, by omega, by go_num, rfl⟩
    · obtain rfl : q = m := by omega
      obtain ⟨c0, c1, c2, c3, c4, cf⟩ := hW.cells
      have hst : Hid ((q : Int) < (s.size : Int) → partB (bt s q) = false) := fun h => by have := hstop.out (by have := HM.out; omega); rwa [← HM.out] at this
      by_cases hqs : (q : Int) < (s.size : Int)
      all_goals
        (try have hpt := hst.out hqs)
        (try have hbq := bt_eq s q (by omega))
        (try unfold partB at hpt)
        cases hw : isWord (s.extract i q).data.toList
        all_goals
          go_wp2_with (first | (go_at_call 86; refine (rpart_any _ _).mono ?_; rintro e w' ⟨rfl, rfl⟩; rw [hpt]) | (go_at_call 88; refine (rword_any _ _ (by have := size_extract' s i q hms; omega)).mono ?_; rintro e w' ⟨rfl, rfl⟩; rw [hw]))
      · obtain ⟨W', hW', ⟨q0, q1, q2, q3, q4⟩, hb'⟩ := hW.wrote (.int .i64 1) (.string (s.extract i q)) (.int .i64 0) (.int .i64 0) (.int .i64 0)
        rw [← hW']
        refine bodyPost_ret (v := .tuple #[.agg #[.int .i64 1, .string (s.extract i q), .int .i64 0, .int .i64 0, .int .i64 0], .bool (decide (((q - i : Nat) : Int) ≤ 20))]) (by simp [results, Tryz.results60, go_sem, q0, q1, q2, q3, q4]) rfl ⟨1, s.extract i q, 0, ?_, fun _ => ⟨?_, htx.out.symm, hnum.out.symm⟩, hb'⟩
        · rw [hok.out, show decide (((q - i : Nat) : Int) ≤ 20) = decide (tokLen s i ≤ 20) from decide_eq_decide.2 (by have := HM.out; omega)]
        · rw [hkd.out, htx.out, hw]; rfl
      · obtain ⟨W', hW', ⟨q0, q1, q2, q3, q4⟩, hb'⟩ := hW.wrote (.int .i64 4) (.string (s.extract i q)) (.int .i64 0) (.int .i64 0) (.int .i64 0)
        rw [← hW']
        have hsh := word_short hw
        rw [← size_len, htl.out] at hsh
        refine bodyPost_ret (v := .tuple #[.agg #[.int .i64 4, .string (s.extract i q), .int .i64 0, .int .i64 0, .int .i64 0], .bool true]) (by simp [results, Tryz.results60, go_sem, q0, q1, q2, q3, q4]) rfl ⟨4, s.extract i q, 0, ?_, fun _ => ⟨?_, htx.out.symm, hnum.out.symm⟩, hb'⟩
        · rw [hok.out, decide_eq_true hsh]
        · rw [hkd.out, htx.out, hw]; rfl
      · obtain ⟨W', hW', ⟨q0, q1, q2, q3, q4⟩, hb'⟩ := hW.wrote (.int .i64 1) (.string (s.extract i q)) (.int .i64 0) (.int .i64 0) (.int .i64 0)
        rw [← hW']
        refine bodyPost_ret (v := .tuple #[.agg #[.int .i64 1, .string (s.extract i q), .int .i64 0, .int .i64 0, .int .i64 0], .bool (decide (((q - i : Nat) : Int) ≤ 20))]) (by simp [results, Tryz.results60, go_sem, q0, q1, q2, q3, q4]) rfl ⟨1, s.extract i q, 0, ?_, fun _ => ⟨?_, htx.out.symm, hnum.out.symm⟩, hb'⟩
        · rw [hok.out, show decide (((q - i : Nat) : Int) ≤ 20) = decide (tokLen s i ≤ 20) from decide_eq_decide.2 (by have := HM.out; omega)]
        · rw [hkd.out, htx.out, hw]; rfl
      · obtain ⟨W', hW', ⟨q0, q1, q2, q3, q4⟩, hb'⟩ := hW.wrote (.int .i64 4) (.string (s.extract i q)) (.int .i64 0) (.int .i64 0) (.int .i64 0)
        rw [← hW']
        have hsh := word_short hw
        rw [← size_len, htl.out] at hsh
        refine bodyPost_ret (v := .tuple #[.agg #[.int .i64 4, .string (s.extract i q), .int .i64 0, .int .i64 0, .int .i64 0], .bool true]) (by simp [results, Tryz.results60, go_sem, q0, q1, q2, q3, q4]) rfl ⟨4, s.extract i q, 0, ?_, fun _ => ⟨?_, htx.out.symm, hnum.out.symm⟩, hb'⟩
        · rw [hok.out, decide_eq_true hsh]
        · rw [hkd.out, htx.out, hw]; rfl

theorem big_iff (d n : Int) (h0 : 0 ≤ d) (h1 : d ≤ 9) : (9223372036854775807 - d) / 10 < n ↔ (922337203685477580 < n ∨ n = 922337203685477580 ∧ 7 < d) := by omega
/-- what the loop over the digits has come to -/
def numIs (v : Int) (fits : Bool) (l : List UInt8) (r : Option Int) : Prop := if fits = true then r = numGo v l else r = none

set_option maxRecDepth 100000 in
set_option maxHeartbeats 4000000 in
theorem one_digit (s : ByteArray) (i : Nat) (w : World) (hi : i < s.size) (hs : s.size ≤ 1000000) (hl : isLetter (bt s i) = false) (hdg : isDigit (bt s i) = true) :
    Calls Tryz.prog 60 #[.string s, .int .i64 i] w (OnePost s i w) := by
  have hlen : Hid (tokLen s i = rn isDigit (s.data.toList.drop i)) := by show _ = _; unfold tokLen; rw [hl, if_neg (by simp), if_pos hdg]
  have hnum : Hid (tokNum s i = (numOf (textOf s i (tokLen s i)).data.toList).getD 0) := by show _ = _; unfold tokNum; rw [hl, if_neg (by simp), if_pos hdg]
  have hok : Hid (tokOk s i = (numOf (textOf s i (tokLen s i)).data.toList).isSome) := by show _ = _; unfold tokOk; rw [hl, if_neg (by simp), if_pos hdg]
  have hkd : Hid (tokKind s i = 2) := by show _ = _; unfold tokKind; rw [hl, if_neg (by simp), if_pos hdg]
  have hrl := rn_le isDigit (s.data.toList.drop i)
  rw [List.length_drop, ← size_len, ← hlen.out] at hrl
  have hpos : 0 < tokLen s i := by rw [hlen.out]; exact rn_pos hi hdg
  have hall : Hid (∀ q, q < tokLen s i → isDigit (bt s (i + q)) = true) := by rw [hlen.out]; exact rn_all isDigit s i
  have hstop : Hid (i + tokLen s i < s.size → isDigit (bt s (i + tokLen s i)) = false) := by rw [hlen.out]; exact rn_stop isDigit s i (by omega)
  have hbt := bt_eq s i hi
  obtain ⟨m, hm⟩ : ∃ m, m = i + tokLen s i := ⟨_, rfl⟩
  have hmi : i < m := by omega
  have hms : m ≤ s.size := by omega
  have htx : Hid (textOf s i (tokLen s i) = s.extract i m) := by show _ = _; unfold textOf; rw [hm]
  have htl : Hid ((s.extract i m).size = m - i) := size_extract' s i m hms
  have HM := hid hm
  have hW := OneW.new w
  clear hm hrl
  have HW := hid hW
  clear hW
  go_enter Tryz.func60, Tryz.ntmps60
  go_wp2_with (first | (go_at_call 86; refine (rpart_any _ _).mono ?_; rintro e w' ⟨rfl, rfl⟩; rw [hl, hdg]; simp only [Bool.false_or]) | (go_at_call 87; refine (rdigit_any _ _).mono ?_; rintro e w' ⟨rfl, rfl⟩; rw [hdg]))
  have hW := HW.out
  clear HW
  generalize w.alloc (.cells #[.int .i64 0, .string ⟨#[]⟩, .int .i64 0, .int .i64 0, .int .i64 0] 56) = W at *
  clear hl hdg hbt
  go_loopg [6, 8, 9, 10] (s.size + 1) (fun k v n f _ wr => ∃ (q : Nat) (x : Int) (fits : Bool), i ≤ q ∧ q ≤ m ∧ s.size + 1 ≤ q + k ∧ v = .int .i64 q ∧ n = .int .i64 x ∧ f = .bool fits ∧ 0 ≤ x ∧ x ≤ 9223372036854775807 ∧ Hid (numIs x fits ((s.extract i m).data.toList.drop (q - i)) (numGo 0 ((s.extract i m).data.toList.drop 0))) ∧ W = wr)
  case atStart => exact ⟨i, 0, true, by omega, by omega, by omega, rfl, rfl, rfl, by omega, by omega, by show numIs _ _ _ _; rw [Nat.sub_self]; unfold numIs; rw [if_pos rfl], rfl⟩
  case round =>
    obtain ⟨q, x, fits, hq1, hq2, hk, rfl, rfl, rfl, hx0, hx1, hnu, rfl⟩ := hrel
    by_cases hlt : q < m
    · have hdt : isDigit (bt s q) = true := by have := hall.out (q - i) (by have := HM.out; omega); rwa [show i + (q - i) = q by omega] at this
      have hbq := bt_eq s q (by omega)
      have hqs : (q : Int) < (s.size : Int) := by omega
      have hdb : 48 ≤ bt s q ∧ bt s q ≤ 57 := by simpa [isDigit] using hdt
      have hbe : bt (s.extract i m) (q - i) = bt s q := by rw [bt_extract s i m (q - i) (by omega)]; congr 1; omega
      have hqe : q - i < (s.extract i m).size := by rw [htl.out]; omega
      have hbi := big_iff (bt s q - 48) x (by omega) (by omega)
      have hoff : Hid ((9223372036854775807 - (bt s q - 48)) / 10 < x → numGo x ((s.extract i m).data.toList.drop (q - i)) = none) := fun h => numGo_off hqe (by rw [hbe]; exact h)
      have hon : Hid (¬ (9223372036854775807 - (bt s q - 48)) / 10 < x → numGo x ((s.extract i m).data.toList.drop (q - i)) = numGo (10 * x + (bt s q - 48)) ((s.extract i m).data.toList.drop (q + 1 - i))) := fun h => by
        rw [numGo_on hqe (by rw [hbe]; exact h), hbe, show q - i + 1 = q + 1 - i by omega]
      have HDT := hid hdt
      clear hdt hbe hqe
      obtain ⟨hd0, hd1⟩ := hdb
      cases fits with
      | false =>
        have hn1 : Hid (numIs x false ((s.extract i m).data.toList.drop (q + 1 - i)) (numGo 0 ((s.extract i m).data.toList.drop 0))) := hnu.out
        clear hnu hon hoff hbi
        generalize bt s q = b at *
        by_cases hxe : x = 922337203685477580
        · subst hxe
          go_wp2_with (first | (go_at_call 87; refine (rdigit_any _ _).mono ?_; rintro e w' ⟨rfl, rfl⟩; rw [HDT.out]))
          all_goals
            go_roundg (gk - 1)
            case measure => omega
            case rel => exact ⟨q + 1, _, false, by omega, by omega, by omega, by go_num, rfl, rfl, by omega, by omega, hn1, rfl⟩
        have hx3 : (x == 922337203685477580) = false := by simpa using hxe
        go_wp2_with (first | (go_at_call 87; refine (rdigit_any _ _).mono ?_; rintro e w' ⟨rfl, rfl⟩; rw [HDT.out]))
        all_goals
          go_roundg (gk - 1)
          case measure => omega
          case rel => exact ⟨q + 1, x, false, by omega, by omega, by omega, by go_num, rfl, rfl, by omega, by omega, hn1, rfl⟩
      | true =>
        have hnu' : Hid (numGo 0 ((s.extract i m).data.toList.drop 0) = numGo x ((s.extract i m).data.toList.drop (q - i))) := by have := hnu.out; unfold numIs at this; rw [if_pos rfl] at this; exact this
        clear hnu
        by_cases hbig : 922337203685477580 < x ∨ x = 922337203685477580 ∧ 7 < bt s q - 48
        · have hn1 : Hid (numIs x false ((s.extract i m).data.toList.drop (q + 1 - i)) (numGo 0 ((s.extract i m).data.toList.drop 0))) := by
            show numIs _ _ _ _
            unfold numIs
            rw [if_neg (by simp)]
            exact hnu'.out.trans (hoff.out (hbi.2 hbig))
          clear hnu' hon hoff hbi
          generalize bt s q = b at *
          rcases hbig with hbig | ⟨hbig, hb7⟩
          · go_wp2_with (first | (go_at_call 87; refine (rdigit_any _ _).mono ?_; rintro e w' ⟨rfl, rfl⟩; rw [HDT.out]))
            go_roundg (gk - 1)
            case measure => omega
            case rel => exact ⟨q + 1, x, false, by omega, by omega, by omega, by go_num, rfl, rfl, by omega, by omega, hn1, rfl⟩
          · subst hbig
            go_wp2_with (first | (go_at_call 87; refine (rdigit_any _ _).mono ?_; rintro e w' ⟨rfl, rfl⟩; rw [HDT.out]))
            go_roundg (gk - 1)
            case measure => omega
            case rel => exact ⟨q + 1, _, false, by omega, by omega, by omega, by go_num, rfl, rfl, by omega, by omega, hn1, rfl⟩
        · have hn1 : Hid (numIs (10 * x + (bt s q - 48)) true ((s.extract i m).data.toList.drop (q + 1 - i)) (numGo 0 ((s.extract i m).data.toList.drop 0))) := by
            show numIs _ _ _ _
            unfold numIs
            rw [if_pos rfl]
            exact hnu'.out.trans (hon.out (fun h => hbig (hbi.1 h)))
          clear hnu' hon hoff hbi
          generalize bt s q = b at *
          have hx2 : x ≤ 922337203685477580 := by omega
          by_cases hxe : x = 922337203685477580
          · have hb7 : b - 48 ≤ 7 := by omega
            subst hxe
            clear hbig
            go_wp2_with (first | (go_at_call 87; refine (rdigit_any _ _).mono ?_; rintro e w' ⟨rfl, rfl⟩; rw [HDT.out]))
            go_roundg (gk - 1)
            case measure => omega
            case rel => exact ⟨q + 1, _, true, by omega, by omega, by omega, by go_num, rfl, rfl, by omega, by omega, hn1, rfl⟩
          · clear hbig
            have hx3 : (x == 922337203685477580) = false := by simpa using hxe
            go_wp2_with (first | (go_at_call 87; refine (rdigit_any _ _).mono ?_; rintro e w' ⟨rfl, rfl⟩; rw [HDT.out]))
            go_roundg (gk - 1)
            case measure => omega
            case rel => exact ⟨q + 1, _, true, by omega, by omega, by omega, by go_num, rfl, rfl, by omega, by omega, hn1, rfl⟩
    · obtain rfl : q = m := by omega
      have hnq : Hid (numIs x fits [] (numGo 0 ((s.extract i q).data.toList.drop 0))) := by
        have := hnu.out
        rw [List.drop_of_length_le (by rw [← size_len, htl.out]; exact Nat.le_refl _)] at this
        exact this
      clear hnu
      obtain ⟨c0, c1, c2, c3, c4, cf⟩ := hW.cells
      have hst : Hid ((q : Int) < (s.size : Int) → isDigit (bt s q) = false) := fun h => by have := hstop.out (by have := HM.out; omega); rwa [← HM.out] at this
      have hbt := bt_eq s i hi
      have hhd := head_bt (s.extract i q) (by rw [htl.out]; omega)
      rw [bt_extract s i q 0 (by omega), Nat.add_zero] at hhd
      have hlen1 : (s.extract i q).data.toList.length = q - i := by rw [← size_len, htl.out]
      by_cases hz : 1 < q - i ∧ bt s i = 48
      · have hno : Hid (numOf (s.extract i q).data.toList = none) := by show _ = _; unfold numOf; rw [if_pos ⟨by omega, hhd.2 hz.2⟩]
        obtain ⟨hz1, hz2⟩ := hz
        have hz3 : (1 : Int) < (q : Int) - (i : Int) := by omega
        rw [hz2] at hbt
        clear hhd hlen1 hz2
        have hres : Hid (tokOk s i = false) := by show _ = _; rw [hok.out, htx.out, hno.out]; rfl
        by_cases hqs : (q : Int) < (s.size : Int)
        all_goals
          (try have hpt := hst.out hqs)
          (try have hbq := bt_eq s q (by omega))
          go_wp2_with (first | (go_at_call 87; refine (rdigit_any _ _).mono ?_; rintro e w' ⟨rfl, rfl⟩; rw [hpt]))
          obtain ⟨W', hW', ⟨q0, q1, q2, q3, q4⟩, hb'⟩ := hW.wrote (.int .i64 0) (.string ⟨#[]⟩) (.int .i64 0) (.int .i64 0) (.int .i64 0)
          rw [← hW']
          refine bodyPost_ret (v := .tuple #[.agg #[.int .i64 0, .string ⟨#[]⟩, .int .i64 0, .int .i64 0, .int .i64 0], .bool false]) (by simp [results, Tryz.results60, go_sem, q0, q1, q2, q3, q4]) rfl ⟨0, ⟨#[]⟩, 0, by rw [hres.out], (fun h => by rw [hres.out] at h; cases h), hb'⟩
      · have hno : Hid (numOf (s.extract i q).data.toList = numGo 0 ((s.extract i q).data.toList.drop 0)) := by
          show _ = _
          unfold numOf
          rw [if_neg (fun h => hz ⟨by omega, hhd.1 h.2⟩), List.drop_zero]
        have hz3 : Hid ((1 : Int) < (q : Int) - (i : Int) → (bt s i == 48) = false) := fun h => by simp; intro h2; exact hz ⟨by omega, h2⟩
        clear hz hhd hlen1
        cases fits with
        | false =>
          have hres : Hid (tokOk s i = false) := by
            have hnq' := hnq.out
            unfold numIs at hnq'
            rw [if_neg (by simp)] at hnq'
            show _ = _; rw [hok.out, htx.out, hno.out, hnq']; rfl
          clear hnq hno
          by_cases hqs : (q : Int) < (s.size : Int)
          all_goals
            (try have hpt := hst.out hqs)
            (try have hbq := bt_eq s q (by omega))
            by_cases hz4 : (1 : Int) < (q : Int) - (i : Int)
            all_goals
              first | have hz5 := hz3.out hz4 | skip
              go_wp2_with (first | (go_at_call 87; refine (rdigit_any _ _).mono ?_; rintro e w' ⟨rfl, rfl⟩; rw [hpt]))
              obtain ⟨W', hW', ⟨q0, q1, q2, q3, q4⟩, hb'⟩ := hW.wrote (.int .i64 0) (.string ⟨#[]⟩) (.int .i64 0) (.int .i64 0) (.int .i64 0)
              rw [← hW']
              refine bodyPost_ret (v := .tuple #[.agg #[.int .i64 0, .string ⟨#[]⟩, .int .i64 0, .int .i64 0, .int .i64 0], .bool false]) (by simp [results, Tryz.results60, go_sem, q0, q1, q2, q3, q4]) rfl ⟨0, ⟨#[]⟩, 0, by rw [hres.out], (fun h => by rw [hres.out] at h; cases h), hb'⟩
        | true =>
          have hnq' := hnq.out
          unfold numIs at hnq'
          rw [if_pos rfl] at hnq'
          have hres : Hid (tokOk s i = true) := by show _ = _; rw [hok.out, htx.out, hno.out, hnq']; rfl
          have hres2 : Hid (tokNum s i = x) := by show _ = _; rw [hnum.out, htx.out, hno.out, hnq']; rfl
          clear hnq hno hnq'
          by_cases hqs : (q : Int) < (s.size : Int)
          all_goals
            (try have hpt := hst.out hqs)
            (try have hbq := bt_eq s q (by omega))
            by_cases hz4 : (1 : Int) < (q : Int) - (i : Int)
            all_goals
              first | have hz5 := hz3.out hz4 | skip
              go_wp2_with (first | (go_at_call 87; refine (rdigit_any _ _).mono ?_; rintro e w' ⟨rfl, rfl⟩; rw [hpt]))
              obtain ⟨W', hW', ⟨q0, q1, q2, q3, q4⟩, hb'⟩ := hW.wrote (.int .i64 2) (.string (s.extract i q)) (.int .i64 x) (.int .i64 0) (.int .i64 0)
              rw [← hW']
              refine bodyPost_ret (v := .tuple #[.agg #[.int .i64 2, .string (s.extract i q), .int .i64 x, .int .i64 0, .int .i64 0], .bool true]) (by simp [results, Tryz.results60, go_sem, q0, q1, q2, q3, q4]) rfl ⟨2, s.extract i q, x, by rw [hres.out], fun _ => ⟨hkd.out.symm, htx.out.symm, hres2.out.symm⟩, hb'⟩
end Go.Proofs.YtnlikhjmmnaknaaGreatDoor
/-
  The reference's one where neither a letter nor a digit comes; and at any byte.
-/
namespace Go.Proofs.YtnlikhjmmnaknaaGreatDoor
open Go.RowKit

def signsC : ByteArray := ⟨#[40, 41, 44, 59, 58, 61, 60, 62, 43, 45, 42, 47, 37]⟩
theorem signs_at (b : Int) (k : Nat) (hk : k < 13) (h : bt signsC k = b) : sign1 b = true := by
  have : ∀ k, k < 13 → sign1 (bt signsC k) = true := by decide +kernel
  rw [← h]; exact this k hk
theorem signs_no (b : Int) (h : ∀ k, k < 13 → bt signsC k ≠ b) : sign1 b = false := by
  cases hs : sign1 b with
  | false => rfl
  | true =>
    simp only [sign1, Bool.or_eq_true, beq_iff_eq] at hs
    rcases hs with (((((((((((h1 | h1) | h1) | h1) | h1) | h1) | h1) | h1) | h1) | h1) | h1) | h1) | h1
    · exact absurd h1.symm (h 0 (by omega))
    · exact absurd h1.symm (h 1 (by omega))
    · exact absurd h1.symm (h 2 (by omega))
    · exact absurd h1.symm (h 3 (by omega))
    · exact absurd h1.symm (h 4 (by omega))
    · exact absurd h1.symm (h 5 (by omega))
    · exact absurd h1.symm (h 6 (by omega))
    · exact absurd h1.symm (h 7 (by omega))
    · exact absurd h1.symm (h 8 (by omega))
    · exact absurd h1.symm (h 9 (by omega))
    · exact absurd h1.symm (h 10 (by omega))
    · exact absurd h1.symm (h 11 (by omega))
    · exact absurd h1.symm (h 12 (by omega))
theorem two_eq (s : ByteArray) (i : Nat) (h : i + 2 ≤ s.size) : ((s.extract i s.size).extract 0 2).toList = (s.extract i (i + 2)).toList := by
  rw [ByteArray.toList_eq, ByteArray.toList_eq, Lib.extract_data, Lib.extract_data, Lib.extract_data, List.drop_zero, List.take_take]
  congr 1; omega
/-- do two bytes make a sign? -/
def pairB (l : List UInt8) : Bool := l == [45, 62] || l == [60, 62] || l == [60, 61] || l == [62, 61]
theorem sign2_yes (s : ByteArray) (i : Nat) (h : i + 2 ≤ s.size) : sign2 (s.extract i s.size) = pairB (s.extract i (i + 2)).toList := by
  unfold sign2 pairB
  rw [two_eq s i h, decide_eq_true (by rw [size_extract' s i s.size (Nat.le_refl _)]; omega), Bool.true_and]
theorem sign2_no (s : ByteArray) (i : Nat) (h : ¬ i + 2 ≤ s.size) : sign2 (s.extract i s.size) = false := by
  unfold sign2
  rw [decide_eq_false (by rw [size_extract' s i s.size (Nat.le_refl _)]; omega), Bool.false_and]

set_option maxRecDepth 100000 in
set_option maxHeartbeats 4000000 in
theorem one_sign (s : ByteArray) (i : Nat) (w : World) (hi : i < s.size) (hs : s.size ≤ 1000000) (hl : isLetter (bt s i) = false) (hdg : isDigit (bt s i) = false) :
    Calls Tryz.prog 60 #[.string s, .int .i64 i] w (OnePost s i w) := by
  have hlen : Hid (tokLen s i = signOf (s.extract i s.size)) := by show _ = _; unfold tokLen; rw [hl, hdg, if_neg (by simp), if_neg (by simp)]
  have hnum : Hid (tokNum s i = 0) := by show _ = _; unfold tokNum; rw [hl, hdg, if_neg (by simp), if_neg (by simp)]
  have hok : Hid (tokOk s i = decide (0 < tokLen s i)) := by show _ = _; unfold tokOk; rw [hl, hdg, if_neg (by simp), if_neg (by simp)]
  have hkd : Hid (tokKind s i = 3) := by show _ = _; unfold tokKind; rw [hl, hdg, if_neg (by simp), if_neg (by simp)]
  have hb0 : Hid (bt (s.extract i s.size) 0 = bt s i) := by show _ = _; rw [bt_extract s i s.size 0 (by omega), Nat.add_zero]
  have hbt := bt_eq s i hi
  have hW := OneW.new w
  have HW := hid hW
  clear hW
  cases h2 : sign2 (s.extract i s.size) with
  | true =>
    have hle : i + 2 ≤ s.size := by
      rcases Nat.lt_or_ge s.size (i + 2) with h | h
      · rw [sign2_no s i (by omega)] at h2; cases h2
      · exact h
    rw [sign2_yes s i hle] at h2
    have hl2 : Hid (tokLen s i = 2) := by show _ = _; rw [hlen.out]; unfold signOf; rw [if_pos (by rw [sign2_yes s i hle]; exact h2)]
    have ht2 : Hid (textOf s i (tokLen s i) = s.extract i (i + 2)) := by show _ = _; rw [hl2.out]; rfl
    have hok2 : Hid (tokOk s i = true) := by show _ = _; rw [hok.out, hl2.out]; rfl
    have H2 := hid h2
    clear h2
    go_enter Tryz.func60, Tryz.ntmps60
    go_wp2_with (first | (go_at_call 86; refine (rpart_any _ _).mono ?_; rintro e w' ⟨rfl, rfl⟩; rw [hl, hdg]; simp only [Bool.false_or]) | (go_at_call 87; refine (rdigit_any _ _).mono ?_; rintro e w' ⟨rfl, rfl⟩; rw [hdg]))
    all_goals first
      | (have h2 := H2.out
         exfalso
         simp_all [pairB]
         done)
      | (refine bodyPost_ret (v := .tuple #[.agg #[.int .i64 3, .string (s.extract i (i + 2)), .int .i64 0, .int .i64 0, .int .i64 0], .bool true]) (by simp [results, Tryz.results60, go_sem]) rfl ⟨3, s.extract i (i + 2), 0, by rw [hok2.out], fun _ => ⟨hkd.out.symm, ht2.out.symm, hnum.out.symm⟩, (Below.refl _ _).alloc (Nat.le_refl _) _⟩)
  | false =>
    have hl2 : Hid (tokLen s i = if sign1 (bt s i) = true then 1 else 0) := by show _ = _; rw [hlen.out]; unfold signOf; rw [if_neg (by rw [h2]; simp), hb0.out]
    have hp2 : Hid ((i : Int) + 1 < (s.size : Int) → pairB (s.extract i (i + 2)).toList = false) := fun h => by rw [← sign2_yes s i (by omega)]; exact h2
    clear h2
    by_cases hle : (i : Int) + 1 < (s.size : Int)
    all_goals
      (try have hpp := hp2.out hle)
      (try unfold pairB at hpp)
      (try simp only [Bool.or_eq_false_iff] at hpp)
      (try obtain ⟨⟨⟨t1, t2⟩, t3⟩, t4⟩ := hpp)
      go_enter Tryz.func60, Tryz.ntmps60
      go_wp2_with (first | (go_at_call 86; refine (rpart_any _ _).mono ?_; rintro e w' ⟨rfl, rfl⟩; rw [hl, hdg]; simp only [Bool.false_or]) | (go_at_call 87; refine (rdigit_any _ _).mono ?_; rintro e w' ⟨rfl, rfl⟩; rw [hdg]))
      have hW := HW.out
      clear HW
      generalize w.alloc (.cells #[.int .i64 0, .string ⟨#[]⟩, .int .i64 0, .int .i64 0, .int .i64 0] 56) = W at *
      (try clear t1 t2 t3 t4)
      have hsg : ∃ sg : ByteArray, sg = ⟨#[40, 41, 44, 59, 58, 61, 60, 62, 43, 45, 42, 47, 37]⟩ := ⟨_, rfl⟩
      obtain ⟨sg, hsg⟩ := hsg
      rw [← hsg]
      have hs1 : sg.size ≤ 13 := by rw [hsg]; decide
      have hs2 : 13 ≤ sg.size := by rw [hsg]; decide
      have hyes : Hid (∀ k, k < 13 → bt sg k = bt s i → sign1 (bt s i) = true) := fun k hk h => signs_at _ k hk (by rw [← h, hsg]; rfl)
      have hno : Hid ((∀ k, k < 13 → bt sg k ≠ bt s i) → sign1 (bt s i) = false) := fun h => signs_no _ (fun k hk => by have := h k hk; rw [hsg] at this; exact this)
      clear hsg
      go_loopg [13] 13 (fun k v wr => ∃ q : Nat, q ≤ 13 ∧ 13 ≤ q + k ∧ v = .int .i64 q ∧ Hid (∀ j, j < q → bt sg j ≠ bt s i) ∧ OneW w wr)
      case atStart => exact ⟨0, by omega, by omega, rfl, fun j hj => absurd hj (by omega), hW⟩
      case round =>
        obtain ⟨q, hq, hk, rfl, hmiss, hW1⟩ := hrel
        obtain ⟨c0, c1, c2, c3, c4, cf⟩ := hW1.cells
        by_cases hlt : q < 13
        · have hbq := bt_eq sg q (by omega)
          have hi0 : (0 : Int) ≤ (i : Int) := by omega
          have hi1 : (i : Int) < (s.size : Int) := by omega
          have hq0 : (0 : Int) ≤ (q : Int) := by omega
          have hq1 : (q : Int) < (sg.size : Int) := by omega
          by_cases he : bt sg q = bt s i
          · have hsi := hyes.out q hlt he
            have hl3 : Hid (tokLen s i = 1) := by show _ = _; rw [hl2.out, if_pos hsi]
            have ht3 : Hid (textOf s i (tokLen s i) = s.extract i (i + 1)) := by show _ = _; rw [hl3.out]; rfl
            have hok3 : Hid (tokOk s i = true) := by show _ = _; rw [hok.out, hl3.out]; rfl
            have htt : (bt sg q == bt s i) = true := by rw [he]; simp
            clear he hsi
            go_wp2_with fail
            go_quiet (fail)
            go_wp2_with fail
            have hW2 := hW1.drewN nq
            obtain ⟨W', hW', ⟨q0, q1, q2, q3, q4⟩, hb'⟩ := hW2.wrote (.int .i64 3) (.string (s.extract i (i + 1))) (.int .i64 0) (.int .i64 0) (.int .i64 0)
            rw [← hW']
            refine bodyPost_ret (v := .tuple #[.agg #[.int .i64 3, .string (s.extract i (i + 1)), .int .i64 0, .int .i64 0, .int .i64 0], .bool true]) (by simp [results, Tryz.results60, go_sem, q0, q1, q2, q3, q4]) rfl ⟨3, s.extract i (i + 1), 0, by rw [hok3.out], fun _ => ⟨hkd.out.symm, ht3.out.symm, hnum.out.symm⟩, hb'⟩
          · have htt : (bt sg q == bt s i) = false := by simpa using he
            have hm2 : Hid (∀ j, j < q + 1 → bt sg j ≠ bt s i) := fun j hj => by
              by_cases hjq : j = q
              · rw [hjq]; exact he
              · exact hmiss.out j (by omega)
            clear he
            go_wp2_with fail
            go_quiet (fail)
            go_wp2_with fail
            go_roundg (gk - 1)
            case measure => omega
            case rel => exact ⟨q + 1, by omega, by omega, by go_num, hm2, hW1.drewN nq⟩
        · obtain rfl : q = 13 := by omega
          have hsi := hno.out (fun k hk => hmiss.out k hk)
          have hl3 : Hid (tokLen s i = 0) := by show _ = _; rw [hl2.out, hsi]; rfl
          have hok3 : Hid (tokOk s i = false) := by show _ = _; rw [hok.out, hl3.out]; rfl
          clear hsi
          go_wp2_with fail
          obtain ⟨W', hW', ⟨q0, q1, q2, q3, q4⟩, hb'⟩ := hW1.wrote (.int .i64 0) (.string ⟨#[]⟩) (.int .i64 0) (.int .i64 0) (.int .i64 0)
          rw [← hW']
          refine bodyPost_ret (v := .tuple #[.agg #[.int .i64 0, .string ⟨#[]⟩, .int .i64 0, .int .i64 0, .int .i64 0], .bool false]) (by simp [results, Tryz.results60, go_sem, q0, q1, q2, q3, q4]) rfl ⟨0, ⟨#[]⟩, 0, by rw [hok3.out], (fun h => by rw [hok3.out] at h; cases h), hb'⟩

theorem one_any (s : ByteArray) (i : Nat) (w : World) (hi : i < s.size) (hs : s.size ≤ 1000000) :
    Calls Tryz.prog 60 #[.string s, .int .i64 i] w (OnePost s i w) := by
  cases hl : isLetter (bt s i) with
  | true => exact one_letter s i w hi hs hl
  | false =>
    cases hd : isDigit (bt s i) with
    | true => exact one_digit s i w hi hs hl hd
    | false => exact one_sign s i w hi hs hl hd
end Go.Proofs.YtnlikhjmmnaknaaGreatDoor
/-
  The walk of the reference's Scan.
-/
namespace Go.Proofs.YtnlikhjmmnaknaaGreatDoor
open Go.RowKit

/-- where the reference's Scan stands: the fault's variable, the tokens so far -/
structure RScanW (w W : World) (s : ByteArray) (v : Value) (l : List Tk) : Prop where
  res : W.heap[w.heap.size]? = some (.cells #[.int .i64 0, .int .i64 0, .int .i64 0] 30 (0, 0))
  below : Below w.heap.size w W
  size : w.heap.size < W.heap.size
  own : W.ownsRow (w.heap.size + 1) 56 5 v l.length (l.flatMap (Tk.cells s))
section
variable {w W W' : World} {s : ByteArray} {v : Value} {l : List Tk}
theorem RScanW.then (h : RScanW w W s v l) (hb : Below W.heap.size W W') : RScanW w W' s v l :=
  ⟨(hb.block _ h.size).trans h.res, h.below.trans (hb.mono h.below.size), Nat.lt_of_lt_of_le h.size hb.size, h.own.kept (w' := W') (row := none) ⟨hb.os, hb.tape, hb.output, hb.size, fun i hi _ => hb.block i hi⟩ (by cases v.ownBlock <;> simp)⟩
theorem RScanW.alloc (h : RScanW w W s v l) (o : Obj) : RScanW w (W.alloc o) s v l := h.then ((Below.refl _ _).alloc (Nat.le_refl _) o)
theorem RScanW.drewN (h : RScanW w W s v l) (n : Nat) : RScanW w (W.drewN n) s v l := h.then ⟨rfl, rfl, rfl, Nat.le_refl _, fun _ _ => rfl⟩
theorem RScanW.appended {v' : Value} {l' : List Tk} (h : RScanW w W s v l) (hown : W'.ownsRow (w.heap.size + 1) 56 5 v' l'.length (l'.flatMap (Tk.cells s))) (hc : W.grownBy W' v.ownBlock) : RScanW w W' s v' l' :=
  ⟨(hc.block _ h.size (fun e => by have := (h.own.lt _ e.symm).1; omega)).trans h.res,
    h.below.grown hc (by have := h.size; omega) (fun k e => by have := (h.own.lt _ e).1; omega), Nat.lt_of_lt_of_le h.size hc.size, hown⟩
theorem RScanW.rcells (h : RScanW w W s v l) : W.cell? ⟨w.heap.size, 0, none⟩ = some (.int .i64 0) ∧ W.cell? ⟨w.heap.size, 1, none⟩ = some (.int .i64 0) ∧ W.cell? ⟨w.heap.size, 2, none⟩ = some (.int .i64 0) ∧ ∀ k, W.frozen? ⟨w.heap.size, k, none⟩ = false := by
  have := h.res
  refine ⟨?_, ?_, ?_, fun k => ?_⟩ <;> simp [World.cell?, World.frozen?, this]
theorem RScanW.form (h : RScanW w W s v l) : ∃ (A : Option Addr) (c : Nat), v = .slice A l.length c := by
  rcases h.own.2 with ⟨h1, h2⟩ | ⟨g, cap, cur, h1, _, h3, h4⟩
  · exact ⟨none, 0, by rw [h1, h2]⟩
  · exact ⟨some ⟨g, 0, none⟩, cap, h1⟩
end
/-- the fault written -/
theorem rfault_wrote {w W : World} {s : ByteArray} {v : Value} {l : List Tk} (h : RScanW w W s v l) (v0 v1 v2 : Value) :
    ∃ W', W' = (((W.setCell ⟨w.heap.size, 0, none⟩ v0).setCell ⟨w.heap.size, 1, none⟩ v1).setCell ⟨w.heap.size, 2, none⟩ v2) ∧
      (W'.cell? ⟨w.heap.size, 0, none⟩ = some v0 ∧ W'.cell? ⟨w.heap.size, 1, none⟩ = some v1 ∧ W'.cell? ⟨w.heap.size, 2, none⟩ = some v2) ∧ Below w.heap.size w W' ∧
      W'.ownsRow (w.heap.size + 1) 56 5 v l.length (l.flatMap (Tk.cells s)) := by
  have hb := blk_set (blk_set (blk_set h.res 0 v0) 1 v1) 2 v2
  simp only [List.setIfInBounds_toArray, List.set_cons_zero, List.set_cons_succ] at hb
  have hk : ∀ (W : World) (k : Nat) (u : Value), W.ownsRow (w.heap.size + 1) 56 5 v l.length (l.flatMap (Tk.cells s)) → (W.setCell ⟨w.heap.size, k, none⟩ u).ownsRow (w.heap.size + 1) 56 5 v l.length (l.flatMap (Tk.cells s)) := fun W k u ho =>
    ho.kept (chg_set W w.heap.size k u) (.inr (fun e => by have := (ho.lt _ e).1; omega))
  refine ⟨_, rfl, ⟨?_, ?_, ?_⟩, ((h.below.setCell (p := ⟨w.heap.size, 0, none⟩) (Nat.le_refl _) _).setCell (p := ⟨w.heap.size, 1, none⟩) (Nat.le_refl _) _).setCell (p := ⟨w.heap.size, 2, none⟩) (Nat.le_refl _) _, hk _ _ _ (hk _ _ _ (hk _ _ _ h.own))⟩ <;> (unfold World.cell?; rw [hb]; rfl)

/-- two cells of a new block, behind what was kept -/
theorem new_two {W W' : World} (a b : Value) (t : TypeId) (hb : Below (W.heap.size + 1) (W.alloc (.cells #[a, b] t)) W') :
    W'.cell? ⟨W.heap.size, 0, none⟩ = some a ∧ W'.cell? ⟨W.heap.size, 1, none⟩ = some b ∧ W.heap.size < W'.heap.size := by
  have h := (hb.block W.heap.size (by omega)).trans (World.alloc_heap_new W _)
  have hs := hb.size
  rw [World.size_alloc] at hs
  refine ⟨?_, ?_, by omega⟩ <;> simp [World.cell?, h]

theorem kept_block {W W' : World} {row : Option Nat} (hg : W.grownBy W' row) {b : Nat} {o : Obj} (h : W.heap[b]? = some o) (hne : some b ≠ row) : W'.heap[b]? = some o := (hg.block b (Array.getElem?_eq_some_iff.1 h).1 hne).trans h
theorem rover_at (s : ByteArray) (m : Nat) (x : Int) (w : World) (hx : x = m) (hi : m ≤ s.size) (hs : s.size ≤ 1000000) :
    Calls Tryz.prog 58 #[.string s, .int .i64 x] w fun r w' => r = .returned (.int .i64 (over s m : Nat)) ∧ w = w' := by
  subst hx; exact rover_any s m w hi hs
theorem text_size {s : ByteArray} {j : Nat} (h : j < s.size) : (textOf s j (tokLen s j)).size = tokLen s j := by
  have := tok_le h
  unfold textOf
  rw [size_extract' s j _ this]; omega

set_option maxRecDepth 100000 in
set_option maxHeartbeats 4000000 in
theorem rscan_any (s : ByteArray) (w : World) (hs : s.size ≤ maxLen) : Calls Tryz.prog 29 #[.string s] w (Scanned s w) := by
  unfold maxLen at hs
  obtain ⟨i0, hi0, hz0, hz1, hz2⟩ : ∃ i0, Tryz.prog.info? 56 = some i0 ∧ i0.zero = some (.agg #[.int .i64 0, .string ⟨#[]⟩, .int .i64 0, .int .i64 0, .int .i64 0]) ∧ i0.size = 5 ∧ i0.bytes = 48 := by
    have hi := Token.info
    cases h : Tryz.prog.info? 56 with
    | none => rw [h] at hi; cases hi
    | some i0 => rw [h] at hi; simp only [Option.map_some, Option.some.injEq, Prod.mk.injEq] at hi; exact ⟨i0, rfl, hi.1, hi.2.1, hi.2.2⟩
  have hW0 : RScanW w (w.alloc (.cells #[.int .i64 0, .int .i64 0, .int .i64 0] 30)) s (.slice none 0 0) [] :=
    ⟨World.alloc_heap_new w _, (Below.refl _ _).alloc (Nat.le_refl _) _, by simp, World.ownsRow_nil _ _ _ _⟩
  have HW := hid hW0
  clear hW0
  by_cases hbig : 16384 < s.size
  · have HS : Hid (scanOf s = .bad 3 0) := by show _ = _; unfold scanOf; rw [if_pos hbig]
    go_enter Tryz.func29, Tryz.ntmps29
    go_wp2_with fail
    refine bodyPost_ret (v := .tuple #[.slice none 0 0, .agg #[.int .i64 3, .int .i64 1, .int .i64 1]]) (by simp [results, Tryz.results29, go_sem]) rfl ⟨(Below.refl _ _).alloc (Nat.le_refl _) _, ?_⟩
    rw [HS.out]
    rfl
  · have HS : Hid (scanOf s = scanGo s (s.size + 1) 0 0 []) := by show _ = _; unfold scanOf; rw [if_neg hbig]
    go_enter Tryz.func29, Tryz.ntmps29
    go_wp2_with (go_at_call 58; refine (rover_any s 0 _ (Nat.zero_le _) (by omega)).mono ?_; rintro r w1 ⟨rfl, rfl⟩)
    have hW := HW.out
    clear HW
    generalize (w.alloc (.cells #[.int .i64 0, .int .i64 0, .int .i64 0] 30)) = W at *
    go_loopg [4, 5, 6, 7, 8] (s.size + 1) (fun k v x _ _ _ wr => ∃ (i : Nat) (l : List Tk), i ≤ s.size ∧ s.size + 1 ≤ i + k ∧ l.length ≤ 4096 ∧ x = .int .i64 (over s i : Nat) ∧ RScanW w wr s v l ∧ Hid (scanOf s = scanGo s k l.length i l))
    case atStart => exact ⟨0, [], by omega, by omega, by simp, rfl, hW, HS⟩
    case round =>
      obtain ⟨i, l, hi, hk, hl, rfl, hW1, HG⟩ := hrel
      obtain ⟨hov1, hov2⟩ := over_le s i hi
      obtain ⟨A, c, rfl⟩ := hW1.form
      obtain ⟨r0, r1, r2, rf⟩ := hW1.rcells
      have hz := hW1.size
      by_cases hend : over s i = s.size
      · have HR : Hid (scanOf s = .toks (l ++ [tkEnd s.size])) := by
          show _ = _
          rw [HG.out]
          match gk with
          | 0 => omega
          | k + 1 => unfold scanGo; rw [if_pos hend]
        rw [hend]
        clear hend
        have hpl := rplace_any s s.size wr (Nat.le_refl _) (by omega)
        have hb : Hid (l.length ≤ 4096) := hl
        have HT := hid (fun u hu => tk_one [tkEnd s.size] u (by simpa using hu) : ∀ u ∈ (tkEnd s.size).cells s, u.oneCell' = true)
        go_wp2_with (first
          | (go_at_call 59; refine hpl.mono ?_; rintro r w1 ⟨rfl, hb1⟩; have hW2 := hW1.then hb1; have hsz2 := hW2.size; clear hpl r0 r1 r2 rf; have hW3 := hW2.alloc (.cells (tkEnd s.size |>.cells s).toArray 56); have HN := hid (World.news_of_block (World.alloc_heap_new w1 (.cells (tkEnd s.size |>.cells s).toArray 56))); have hown := hW3.own)
          | (at_builtin; refine wpList_append_lies _ rfl _ _ _ rfl (w.heap.size + 1) 56 i0 _ 5 48 Tryz.underlying48 hi0 hz0 hz1 hz2 rfl (by omega) _ _ _ (by rfl) hown ⟨w1.heap.size, 0, none⟩ 1 1 ((tkEnd s.size).cells s) (by rfl) (by rfl) HN.out HT.out (by omega) (by unfold maxLen; omega) (by omega) (by rw [World.size_alloc]; omega) _ rfl ?_; intro g2 cap2 w2 hown2 hgrow2 hat2 hlt2; have hW4 : RScanW w w2 s (.slice (some ⟨g2, 0, none⟩) (l.length + 1) cap2) (l ++ [tkEnd s.size]) := hW3.appended (by simpa using hown2) hgrow2; obtain ⟨r0, r1, r2, rf⟩ := hW4.rcells))
        obtain ⟨Wf, hWf, ⟨q0, q1, q2⟩, hbf, hof⟩ := rfault_wrote hW4 (.int .i64 0) (.int .i64 0) (.int .i64 0)
        rw [← hWf]
        refine bodyPost_ret (v := .tuple #[.slice (some ⟨g2, 0, none⟩) (l.length + 1) cap2, .agg #[.int .i64 0, .int .i64 0, .int .i64 0]]) (by simp [results, Tryz.results29, go_sem, q0, q1, q2]) rfl ⟨hbf, ?_⟩
        rw [HR.out]
        have hln : (l ++ [tkEnd s.size]).length = l.length + 1 := by simp
        refine ⟨g2, cap2, by rw [hln], ?_⟩
        have := row_base hof (show w.heap.size ≤ w.heap.size + 1 by omega)
        rwa [hln] at this ⊢
      · have hlt : over s i < s.size := by omega
        have hi0' : (over s i : Int) < (s.size : Int) := by omega
        have hpl := rplace_any s (over s i) wr (by omega) (by omega)
        by_cases h4096 : l.length = 4096
        · have HR : Hid (scanOf s = .bad 3 (over s i)) := by
            show _ = _
            rw [HG.out]
            match gk with
            | 0 => omega
            | k + 1 => unfold scanGo; rw [if_neg hend, if_pos h4096]
          go_wp2_with (first | (go_at_call 59; refine hpl.mono ?_; rintro r w1 ⟨rfl, hb1⟩; have hW2 := hW1.then hb1; have hsz2 := hW2.size; clear hpl r0 r1 r2 rf; obtain ⟨r0, r1, r2, rf⟩ := hW2.rcells))
          have hW3 := hW2.alloc (.cells #[.int .i64 (place s (over s i)).1, .int .i64 (place s (over s i)).2] 28)
          have hnew := @new_two w1 _ (.int .i64 (place s (over s i)).1) (.int .i64 (place s (over s i)).2) 28 (Below.refl _ _)
          generalize w1.alloc (.cells #[.int .i64 (place s (over s i)).1, .int .i64 (place s (over s i)).2] 28) = w2 at *
          obtain ⟨p0, p1, _⟩ := hnew
          clear r0 r1 r2 rf
          obtain ⟨r0, r1, r2, rf⟩ := hW3.rcells
          have hne0 : w1.heap.size ≠ w.heap.size := by omega
          go_region
          go_wp2_with fail
          obtain ⟨Wf, hWf, ⟨q0, q1, q2⟩, hbf, hof⟩ := rfault_wrote hW3 (.int .i64 3) (.int .i64 (place s (over s i)).1) (.int .i64 (place s (over s i)).2)
          rw [← hWf]
          refine bodyPost_ret (v := .tuple #[.slice none 0 0, .agg #[.int .i64 3, .int .i64 (place s (over s i)).1, .int .i64 (place s (over s i)).2]]) (by simp [results, Tryz.results29, go_sem, q0, q1, q2]) rfl ⟨hbf.trans ⟨rfl, rfl, rfl, Nat.le_refl _, fun _ _ => rfl⟩, ?_⟩
          rw [HR.out]
        · have hone := one_any s (over s i)
          have htl := tok_le hlt
          have htp := hid (@tok_pos s (over s i) hlt)
          have HONE := hid hone
          clear hone
          cases hok : tokOk s (over s i) with
          | false =>
            have HOK := hid hok
            have HR : Hid (scanOf s = .bad 20 (over s i)) := by
              show _ = _
              rw [HG.out]
              match gk with
              | 0 => omega
              | k + 1 => unfold scanGo; rw [if_neg hend, if_neg h4096, if_neg (by rw [hok]; simp)]
            clear hok
            go_wp2_with (first
              | (go_at_call 59; refine hpl.mono ?_; rintro r w1 ⟨rfl, hb1⟩; have hW2 := hW1.then hb1; have hsz2 := hW2.size; clear hpl r0 r1 r2 rf; have hW3 := hW2.alloc (.cells #[.int .i64 (place s (over s i)).1, .int .i64 (place s (over s i)).2] 28))
              | (go_at_call 60; refine (HONE.out _ hlt (by omega)).mono ?_; rintro r w2 ⟨k, t, n, rfl, htk, hb2⟩; have hW4 := hW3.then hb2; rw [World.size_alloc] at hb2; obtain ⟨p0, p1, hz3⟩ := new_two _ _ _ hb2; clear hb2 htk; rw [HOK.out]))
            have hp : (w2.alloc (.cells #[.int .i64 k, .string t, .int .i64 n, .int .i64 0, .int .i64 0] 56)).cell? ⟨w1.heap.size, 0, none⟩ = some (.int .i64 (place s (over s i)).1) ∧ (w2.alloc (.cells #[.int .i64 k, .string t, .int .i64 n, .int .i64 0, .int .i64 0] 56)).cell? ⟨w1.heap.size, 1, none⟩ = some (.int .i64 (place s (over s i)).2) :=
              ⟨(World.cell?_alloc_lt w2 _ _ hz3).trans p0, (World.cell?_alloc_lt w2 _ _ hz3).trans p1⟩
            have hW5 := hW4.alloc (.cells #[.int .i64 k, .string t, .int .i64 n, .int .i64 0, .int .i64 0] 56)
            generalize w2.alloc (.cells #[.int .i64 k, .string t, .int .i64 n, .int .i64 0, .int .i64 0] 56) = w3 at *
            clear p0 p1
            obtain ⟨p0, p1⟩ := hp
            obtain ⟨r0, r1, r2, rf⟩ := hW5.rcells
            have hne0 : w1.heap.size ≠ w.heap.size := by omega
            go_region
            go_wp2_with fail
            obtain ⟨Wf, hWf, ⟨q0, q1, q2⟩, hbf, hof⟩ := rfault_wrote hW5 (.int .i64 20) (.int .i64 (place s (over s i)).1) (.int .i64 (place s (over s i)).2)
            rw [← hWf]
            refine bodyPost_ret (v := .tuple #[.slice none 0 0, .agg #[.int .i64 20, .int .i64 (place s (over s i)).1, .int .i64 (place s (over s i)).2]]) (by simp [results, Tryz.results29, go_sem, q0, q1, q2]) rfl ⟨hbf.trans ⟨rfl, rfl, rfl, Nat.le_refl _, fun _ _ => rfl⟩, ?_⟩
            rw [HR.out]
          | true =>
            have hpos := htp.out hok
            have HOK := hid hok
            have hln : (l ++ [tkAt s (over s i)]).length = l.length + 1 := by simp
            have HG2 : Hid (scanOf s = scanGo s (gk - 1) (l ++ [tkAt s (over s i)]).length (over s i + tokLen s (over s i)) (l ++ [tkAt s (over s i)])) := by
              show _ = _
              rw [HG.out, hln]
              match gk with
              | 0 => omega
              | k + 1 => conv => lhs; unfold scanGo
                         rw [if_neg hend, if_neg h4096, if_pos hok]; rfl
            clear hok HG hend
            have HT := hid (fun u hu => tk_one [tkAt s (over s i)] u (by simpa using hu) : ∀ u ∈ (tkAt s (over s i)).cells s, u.oneCell' = true)
            have hts := text_size hlt
            obtain ⟨m, hm⟩ : ∃ m, m = over s i + tokLen s (over s i) := ⟨_, rfl⟩
            rw [← hm] at HG2
            have hm1 : over s i < m := by omega
            have hm2 : m ≤ s.size := by omega
            have hsum : Hid (((over s i : Nat) : Int) + ((textOf s (over s i) (tokLen s (over s i))).size : Int) = (m : Int)) := by show _ = _; rw [hts]; omega
            have hts2 : (textOf s (over s i) (tokLen s (over s i))).size ≤ 16384 := by omega
            clear hts hm htl
            go_wp2_with (first
              | (go_at_call 59; refine hpl.mono ?_; rintro r w1 ⟨rfl, hb1⟩; have hW2 := hW1.then hb1; have hsz2 := hW2.size; clear hpl r0 r1 r2 rf; have hW3 := hW2.alloc (.cells #[.int .i64 (place s (over s i)).1, .int .i64 (place s (over s i)).2] 28))
              | (go_at_call 60; refine (HONE.out _ hlt (by omega)).mono ?_; rintro r w2 ⟨k, t, n, rfl, htk, hb2⟩; have hW4 := hW3.then hb2; rw [World.size_alloc] at hb2; obtain ⟨p0, p1, hz3⟩ := new_two _ _ _ hb2; clear hb2; rw [HOK.out]; obtain ⟨rfl, rfl, rfl⟩ := htk HOK.out; clear htk)
              | (at_builtin; have hW5 := (hW4.alloc (.cells ((tkAt s (over s i)).cells s).toArray 56)).alloc (.cells ((tkAt s (over s i)).cells s).toArray 56); have hT := World.alloc_heap_new (w2.alloc (.cells ((tkAt s (over s i)).cells s).toArray 56)) (.cells ((tkAt s (over s i)).cells s).toArray 56); rw [World.size_alloc] at hT; refine wpList_append_lies _ rfl _ _ _ rfl (w.heap.size + 1) 56 i0 _ 5 48 Tryz.underlying48 hi0 hz0 hz1 hz2 rfl (by omega) _ _ _ (by rfl) hW5.own ⟨w2.heap.size + 1, 0, none⟩ 1 1 ((tkAt s (over s i)).cells s) (by rfl) (by rfl) (World.news_of_block hT) HT.out (by omega) (by unfold maxLen; omega) (by omega) (by rw [World.size_alloc, World.size_alloc]; omega) _ rfl ?_; clear hT; intro g3 cap3 w3 hown3 hgrow3 hat3 hlt3; have hT1 := kept_block hgrow3 ((Below.heap_alloc _ _ w2.heap.size (by simp)).trans (World.alloc_heap_new w2 _)) (fun e => by have := (hW4.own.lt _ e.symm).2; omega); have t1 : w3.cell? ⟨w2.heap.size, 1, none⟩ = some (.string (textOf s (over s i) (tokLen s (over s i)))) := (by unfold World.cell?; rw [hT1]; rfl); have hW6 : RScanW w w3 s (.slice (some ⟨g3, 0, none⟩) (l.length + 1) cap3) (l ++ [tkAt s (over s i)]) := hW5.appended (by simpa using hown3) hgrow3; clear hT1 hown3 hgrow3 hat3 hlt3 hW5)
              | (go_at_call 58; with_reducible (refine (rover_at s m _ _ hsum.out hm2 (by omega)).mono ?_); rintro r w4 ⟨rfl, rfl⟩))
            go_roundg (gk - 1)
            case rel => exact ⟨m, l ++ [tkAt s (over s i)], hm2, by omega, by omega, rfl, hW6, HG2⟩
            case measure => omega
end Go.Proofs.YtnlikhjmmnaknaaGreatDoor
