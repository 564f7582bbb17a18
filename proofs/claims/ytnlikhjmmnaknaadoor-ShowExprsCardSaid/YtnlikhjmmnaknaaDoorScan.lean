/-
  The scanner: where it stands, and the walk of skip.
-/
import Derived.Deep.QuietTactic
import Derived.BigQuiet
import Derived.Maps.AppendAt
import Derived.Test.YtnlikhjmmnaknaaDoorTok4
namespace Go.Proofs.YtnlikhjmmnaknaaDoor
open Go.RowKit

/-- a byte of a text -/
def bt (s : ByteArray) (i : Nat) : Int := ((s.data.toList[i]?.getD 0).toNat : Int)
theorem bt_eq (s : ByteArray) (i : Nat) (h : i < s.size) : (s[i].toNat : Int) = bt s i := by
  unfold bt
  rw [List.getElem?_eq_getElem (by simpa using h)]; rfl
/-- the place of a byte -/
def place (s : ByteArray) : Nat → Int × Int
  | 0 => (1, 1)
  | i + 1 => if bt s i = 10 then ((place s i).1 + 1, 1) else ((place s i).1, (place s i).2 + 1)
theorem place_bd (s : ByteArray) : ∀ i : Nat, 1 ≤ (place s i).1 ∧ (place s i).1 ≤ i + 1 ∧ 1 ≤ (place s i).2 ∧ (place s i).2 ≤ i + 1 := by
  intro i
  induction i with
  | zero => simp [place]
  | succ i ih =>
    unfold place
    split <;> simp <;> omega
theorem place_nl {s : ByteArray} {i : Nat} (h : bt s i = 10) : place s (i + 1) = ((place s i).1 + 1, 1) := by rw [place, if_pos h]
theorem place_on {s : ByteArray} {i : Nat} (h : ¬ bt s i = 10) : place s (i + 1) = ((place s i).1, (place s i).2 + 1) := by rw [place, if_neg h]

/-- the scanner's object: a text, and how far it was read -/
def ScanAt (w : World) (g : Nat) (s : ByteArray) (i : Nat) : Prop :=
  w.heap[g]? = some (.cells #[.string s, .int .i64 i, .int .i64 (place s i).1, .int .i64 (place s i).2] 106 (0, 0))
theorem ScanAt.lt {w : World} {g : Nat} {s : ByteArray} {i : Nat} (h : ScanAt w g s i) : g < w.heap.size := (Array.getElem?_eq_some_iff.1 h).1
theorem ScanAt.cells {w : World} {g : Nat} {s : ByteArray} {i : Nat} (h : ScanAt w g s i) :
    w.cell? ⟨g, 0, none⟩ = some (.string s) ∧ w.cell? ⟨g, 1, none⟩ = some (.int .i64 i) ∧ w.cell? ⟨g, 2, none⟩ = some (.int .i64 (place s i).1) ∧ w.cell? ⟨g, 3, none⟩ = some (.int .i64 (place s i).2) := by
  unfold ScanAt at h
  refine ⟨?_, ?_, ?_, ?_⟩ <;> simp [World.cell?, h]
theorem ScanAt.free {w : World} {g : Nat} {s : ByteArray} {i : Nat} (h : ScanAt w g s i) (k : Nat) : w.frozen? ⟨g, k, none⟩ = false := by
  unfold ScanAt at h
  simp [World.frozen?, h]
theorem blk_set {w : World} {g : Nat} {cs : Array Value} {t : TypeId} {fr : Nat × Nat} (h : w.heap[g]? = some (.cells cs t fr)) (k : Nat) (v : Value) :
    (w.setCell ⟨g, k, none⟩ v).heap[g]? = some (.cells (cs.setIfInBounds k v) t fr) := by
  simp [World.setCell, Array.getElem?_modify, h]
theorem chg_set (w : World) (g k : Nat) (v : Value) : w.grownBy (w.setCell ⟨g, k, none⟩ v) (some g) :=
  ⟨rfl, rfl, rfl, by simp [World.setCell], fun i _ hne => Below.heap_setCell w ⟨g, k, none⟩ v i (fun e => hne (by rw [e]))⟩
theorem chg_drewN (w : World) (n : Nat) (row : Option Nat) : w.grownBy (w.drewN n) row := ⟨rfl, rfl, rfl, Nat.le_refl _, fun _ _ _ => rfl⟩

set_option maxRecDepth 100000 in
set_option maxHeartbeats 1000000 in
theorem skip_any (g : Nat) (s : ByteArray) (i n : Nat) (w : World) (hS : ScanAt w g s i) (hn : i + n ≤ s.size) (hs : s.size ≤ 1000000) :
    Calls Tryd.prog 77 #[.pointer (some ⟨g, 0, none⟩), .int .i64 n] w fun r w' => r = .returned (.tuple #[]) ∧ ScanAt w' g s (i + n) ∧ w.grownBy w' (some g) := by
  go_enter Tryd.func77, Tryd.ntmps77
  go_wp2_with fail
  go_loopw [5] (fun c wr => ∃ j q : Nat, j ≤ n ∧ i + j ≤ q ∧ q ≤ i + j ∧ c = .int .i64 j ∧ ScanAt wr g s q ∧ w.grownBy wr (some g)) (fun c _ => n - (intOf c).toNat)
  case atStart => exact ⟨0, i, by omega, by omega, by omega, rfl, hS, World.grownBy.refl _ _⟩
  case round =>
    obtain ⟨j, q, hj, hq1, hq2, rfl, hS1, hg1⟩ := hrel
    by_cases hlt : j < n
    · obtain ⟨c0, c1, c2, c3⟩ := hS1.cells
      have f0 := hS1.free
      have hij : q < s.size := by omega
      have hbd := place_bd s q
      have hi0 : (0 : Int) ≤ (q : Int) := by omega
      have hi1 : (q : Int) < (s.size : Int) := by omega
      have hbt := bt_eq s q hij
      by_cases h10 : bt s q = 10
      · have hp := hid (place_nl h10)
        have ht : ((s[q].toNat : Int) == 10) = true := by rw [hbt, h10]; rfl
        clear hbt h10
        go_wp2_with fail
        go_quiet (fail)
        go_wp2_with fail
        go_roundw
        case rel =>
          refine ⟨j + 1, q + 1, by omega, by omega, by omega, by go_num, ?_, ?_⟩
          · have h := blk_set (blk_set (blk_set (blk_set (w := wr.drewN nq) hS1 2 (.int .i64 ((place s q).1 + 1))) 3 (.int .i64 0)) 3 (.int .i64 1)) 1 (.int .i64 ((q : Int) + 1))
            unfold ScanAt
            rw [hp.out, h]
            rfl
          · exact hg1.trans (((((chg_drewN _ _ _).trans (chg_set _ _ _ _)).trans (chg_set _ _ _ _)).trans (chg_set _ _ _ _)).trans (chg_set _ _ _ _))
        case measure => simp [intOf]; omega
      · have hp := hid (place_on h10)
        have ht : ((s[q].toNat : Int) == 10) = false := by rw [hbt]; simpa using h10
        clear hbt h10
        go_wp2_with fail
        go_quiet (fail)
        go_wp2_with fail
        go_roundw
        case rel =>
          refine ⟨j + 1, q + 1, by omega, by omega, by omega, by go_num, ?_, ?_⟩
          · have h := blk_set (blk_set (w := wr.drewN nq) hS1 3 (.int .i64 ((place s q).2 + 1))) 1 (.int .i64 ((q : Int) + 1))
            unfold ScanAt
            rw [hp.out, h]
            rfl
          · exact hg1.trans (((chg_drewN _ _ _).trans (chg_set _ _ _ _)).trans (chg_set _ _ _ _))
        case measure => simp [intOf]; omega
    · have : j = n := by omega
      subst this
      obtain rfl : q = i + j := by omega
      go_wp2_with fail
      go_end0
      exact ⟨rfl, hS1, hg1⟩
end Go.Proofs.YtnlikhjmmnaknaaDoor
