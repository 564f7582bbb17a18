/-
  The walks of the reference's Place and over.
-/
import Derived.RangeFuncRecord
import Derived.Test.YtnlikhjmmnaknaaDoorScan2
namespace Go.Proofs.YtnlikhjmmnaknaaDoor
open Go.RowKit

/-- where Place stands: the result's cells, the place's -/
structure PlaceW (w W : World) (p : Int × Int) : Prop where
  res : W.heap[w.heap.size]? = some (.cells #[.int .i64 0, .int .i64 0] 24 (0, 0))
  pos : W.heap[w.heap.size + 1]? = some (.cells #[.int .i64 p.1, .int .i64 p.2] 24 (0, 0))
  below : Below w.heap.size w W
  size : w.heap.size + 1 < W.heap.size
theorem PlaceW.cells {w W : World} {p : Int × Int} (h : PlaceW w W p) :
    W.cell? ⟨w.heap.size, 0, none⟩ = some (.int .i64 0) ∧ W.cell? ⟨w.heap.size, 1, none⟩ = some (.int .i64 0) ∧ W.cell? ⟨w.heap.size + 1, 0, none⟩ = some (.int .i64 p.1) ∧ W.cell? ⟨w.heap.size + 1, 1, none⟩ = some (.int .i64 p.2) ∧
      (∀ k, W.frozen? ⟨w.heap.size, k, none⟩ = false) ∧ ∀ k, W.frozen? ⟨w.heap.size + 1, k, none⟩ = false := by
  have h1 := h.res
  have h2 := h.pos
  refine ⟨?_, ?_, ?_, ?_, fun k => ?_, fun k => ?_⟩ <;> simp [World.cell?, World.frozen?, h1, h2]
theorem PlaceW.set {w W : World} {p : Int × Int} (h : PlaceW w W p) (k : Nat) (x : Int) (p' : Int × Int) (hk : (#[.int .i64 p.1, .int .i64 p.2] : Array Value).setIfInBounds k (.int .i64 x) = #[.int .i64 p'.1, .int .i64 p'.2]) : PlaceW w (W.setCell ⟨w.heap.size + 1, k, none⟩ (.int .i64 x)) p' :=
  ⟨(Below.heap_setCell W ⟨w.heap.size + 1, k, none⟩ _ w.heap.size (by simp)).trans h.res, by rw [blk_set h.pos k (.int .i64 x), hk], h.below.setCell (p := ⟨w.heap.size + 1, k, none⟩) (by simp) _, by simpa [World.setCell] using h.size⟩

set_option maxRecDepth 100000 in
set_option maxHeartbeats 1000000 in
theorem rplace_any (s : ByteArray) (n : Nat) (w : World) (hn : n ≤ s.size) (hs : s.size ≤ 1000000) :
    Calls Tryd.prog 42 #[.string s, .int .i64 n] w fun r w' => r = .returned (.agg #[.int .i64 (place s n).1, .int .i64 (place s n).2]) ∧ Below w.heap.size w w' := by
  have hW0 : PlaceW w ((w.alloc (.cells #[.int .i64 0, .int .i64 0] 24)).alloc (.cells #[.int .i64 1, .int .i64 1] 24)) (place s 0) :=
    ⟨(Below.heap_alloc _ _ _ (by simp)).trans (World.alloc_heap_new w _), by have := World.alloc_heap_new (w.alloc (.cells #[.int .i64 0, .int .i64 0] 24)) (.cells #[.int .i64 1, .int .i64 1] 24); rwa [World.size_alloc] at this,
      ((Below.refl _ _).alloc (Nat.le_refl _) _).alloc (by simp) _, by simp⟩
  have HW := hid hW0
  clear hW0
  go_enter Tryd.func42, Tryd.ntmps42
  go_wp2_with fail
  have hW := HW.out
  clear HW
  generalize ((w.alloc (.cells #[.int .i64 0, .int .i64 0] 24)).alloc (.cells #[.int .i64 1, .int .i64 1] 24)) = W at *
  go_loopw [6] (fun c wr => ∃ j : Nat, j ≤ n ∧ c = .int .i64 j ∧ PlaceW w wr (place s j)) (fun c _ => n - (intOf c).toNat)
  case atStart => exact ⟨0, by omega, rfl, hW⟩
  case round =>
    obtain ⟨j, hj, rfl, hW1⟩ := hrel
    obtain ⟨r0, r1, c0, c1, fr, fc⟩ := hW1.cells
    by_cases hlt : j < n
    · have hjs : j < s.size := by omega
      have hbd := place_bd s j
      have hbt := bt_eq s j hjs
      by_cases h10 : bt s j = 10
      · have hp := hid (place_nl h10)
        have ht : ((s[j].toNat : Int) == 10) = true := by rw [hbt, h10]; rfl
        clear hbt h10
        go_wp2_with fail
        go_roundw
        case rel => exact ⟨j + 1, by omega, by go_num, by rw [hp.out]; exact ((hW1.set 1 _ ((place s j).1, (place s j).2 + 1) rfl).set 0 _ ((place s j).1 + 1, (place s j).2 + 1) rfl).set 1 _ _ rfl⟩
        case measure => simp [intOf]; omega
      · have hp := hid (place_on h10)
        have ht : ((s[j].toNat : Int) == 10) = false := by rw [hbt]; simpa using h10
        clear hbt h10
        go_wp2_with fail
        go_roundw
        case rel => exact ⟨j + 1, by omega, by go_num, by rw [hp.out]; exact hW1.set 1 _ _ rfl⟩
        case measure => simp [intOf]; omega
    · have : j = n := by omega
      subst this
      go_wp2_with fail
      have hb := blk_set (blk_set hW1.res 0 (.int .i64 (place s j).1)) 1 (.int .i64 (place s j).2)
      simp only [List.setIfInBounds_toArray, List.set_cons_zero, List.set_cons_succ] at hb
      have hbel := (hW1.below.setCell (p := ⟨w.heap.size, 0, none⟩) (Nat.le_refl _) (.int .i64 (place s j).1)).setCell (p := ⟨w.heap.size, 1, none⟩) (Nat.le_refl _) (.int .i64 (place s j).2)
      generalize (wr.setCell ⟨w.heap.size, 0, none⟩ (.int .i64 (place s j).1)).setCell ⟨w.heap.size, 1, none⟩ (.int .i64 (place s j).2) = W2 at *
      have q0 : W2.cell? ⟨w.heap.size, 0, none⟩ = some (.int .i64 (place s j).1) := by unfold World.cell?; rw [hb]; rfl
      have q1 : W2.cell? ⟨w.heap.size, 1, none⟩ = some (.int .i64 (place s j).2) := by unfold World.cell?; rw [hb]; rfl
      refine bodyPost_ret (v := .agg #[.int .i64 (place s j).1, .int .i64 (place s j).2]) (by simp [results, Tryd.results42, go_sem, q0, q1]) rfl ⟨rfl, hbel⟩

set_option maxHeartbeats 1000000 in
theorem rover_any (s : ByteArray) (i : Nat) (w : World) (hi : i ≤ s.size) (hs : s.size ≤ 1000000) :
    Calls Tryd.prog 41 #[.string s, .int .i64 i] w fun r w' => r = .returned (.int .i64 (over s i : Nat)) ∧ w = w' := by
  go_enter Tryd.func41, Tryd.ntmps41
  go_wp2_with fail
  go_loopg [1] s.size (fun k v wr => ∃ q : Nat, q ≤ s.size ∧ s.size ≤ q + k ∧ q + k ≤ s.size + i ∧ v = .int .i64 q ∧ Hid (over s q = over s i) ∧ w = wr)
  case atStart => exact ⟨i, hi, by omega, by omega, rfl, rfl, rfl⟩
  case round =>
    obtain ⟨q, hq, hk1, hk2, rfl, hov, rfl⟩ := hrel
    by_cases hlt : q < s.size
    · have hbt := bt_eq s q hlt
      have hd : decide ((q : Int) < (s.size : Int)) = true := by simp; omega
      by_cases hbl : bt s q = 32 ∨ bt s q = 9 ∨ bt s q = 10 ∨ bt s q = 13
      · have hov2 := hid (over_blank hlt hbl)
        generalize bt s q = b at *
        rcases hbl with rfl | rfl | rfl | rfl
        all_goals
          go_wp2_with fail
          go_roundg (gk - 1)
          case measure => omega
          case rel => exact ⟨q + 1, by omega, by omega, by omega, by go_num, hov2.out.symm.trans hov.out, rfl⟩
      · by_cases hre : bt s q = 35
        · have hov2 := hid ((over_rem hlt hre).symm.trans hov.out)
          have hne := hid (show bt s q ≠ 10 by omega)
          clear hbl
          have hbt2 : ((s[q].toNat : Int) == 35) = true := by rw [hbt, hre]; rfl
          clear hbt hre
          go_wp2_with fail
          clear hbt2 hd
          go_loopg [1] s.size (fun k2 v wr => ∃ p : Nat, q ≤ p ∧ p ≤ s.size ∧ s.size ≤ p + k2 ∧ p + k2 ≤ s.size + q ∧ v = .int .i64 p ∧ Hid (overIn s p = over s i) ∧ w = wr)
          case atStart => exact ⟨q, by omega, by omega, by omega, by omega, rfl, hov2, rfl⟩
          case round =>
            obtain ⟨p, hp, hps, hk3, hk4, rfl, hov3, rfl⟩ := hrel
            by_cases hlp : p < s.size
            · have hd : decide ((p : Int) < (s.size : Int)) = true := by simp; omega
              have hbp := bt_eq s p hlp
              by_cases h10 : bt s p = 10
              · have hov4 := hid ((overIn_nl hlp h10).symm.trans hov3.out)
                have hpq : q < p := by
                  rcases Nat.lt_or_ge q p with h | h
                  · exact h
                  · obtain rfl : q = p := by omega
                    exact absurd h10 hne.out
                have t1 : ((s[p].toNat : Int) != 10) = false := by rw [hbp, h10]; rfl
                clear hbp h10
                go_wp2_with fail
                go_roundg (s.size - p)
                case measure => omega
                case rel => exact ⟨p, by omega, by omega, by omega, rfl, hov4, rfl⟩
              · have hov4 := hid ((overIn_on hlp h10).symm.trans hov3.out)
                have t1 : ((s[p].toNat : Int) != 10) = true := by rw [hbp]; simp; omega
                clear hbp h10
                go_wp2_with fail
                go_roundg (gk - 1)
                case measure => omega
                case rel => exact ⟨p + 1, by omega, by omega, by omega, by omega, by go_num, hov4, rfl⟩
            · obtain rfl : p = s.size := by omega
              have hfl : decide ((s.size : Int) < (s.size : Int)) = false := by simp
              go_wp2_with fail
              go_roundg 0
              case measure => omega
              case rel => exact ⟨s.size, by omega, by omega, by omega, rfl, (overIn_end s).symm.trans hov3.out, rfl⟩
        · have hov2 := hid (over_stop hlt hbl hre)
          have t1 : (bt s q == 32) = false := by simp; omega
          have t2 : (bt s q == 9) = false := by simp; omega
          have t3 : (bt s q == 10) = false := by simp; omega
          have t4 : (bt s q == 13) = false := by simp; omega
          have t5 : (bt s q == 35) = false := by simp; omega
          clear hbl hre
          generalize bt s q = b at *
          go_wp2_with fail
          go_ret
          exact ⟨ret_int (by rw [← hov.out, hov2.out]), rfl⟩
    · obtain rfl : q = s.size := by omega
      have hfl : decide ((s.size : Int) < (s.size : Int)) = false := by simp
      go_wp2_with fail
      go_ret
      exact ⟨ret_int (by rw [← hov.out, over_end]), rfl⟩
end Go.Proofs.YtnlikhjmmnaknaaDoor
