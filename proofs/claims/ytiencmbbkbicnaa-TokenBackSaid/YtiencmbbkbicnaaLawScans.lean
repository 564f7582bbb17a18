/-
  The walk of the statement TokenScans.
-/
import Derived.Test.YtiencmbbkbicnaaRScan
import Derived.Test.YtiencmbbkbicnaaAwake11
namespace Go.Proofs.Ytiencmbbkbicnaa
open Go.RowKit

theorem tk_get {s : ByteArray} (l : List Tk) (j : Nat) (h : j < l.length) (i : Nat) (hi : i < 5) : (l.flatMap (Tk.cells s))[j * 5 + i]? = ((l[j]).cells s)[i]? := by
  induction l generalizing j with
  | nil => simp at h
  | cons y ys ih =>
    have hl : (y.cells s).length = 5 := rfl
    cases j with
    | zero => rw [List.flatMap_cons, List.getElem?_append_left (by omega)]; simp
    | succ j =>
      rw [List.flatMap_cons, List.getElem?_append_right (by omega), show (j + 1) * 5 + i - (y.cells s).length = j * 5 + i by omega, ih j (by simpa using h)]
      simp
theorem tk_row {s : ByteArray} {w : World} {base g n c : Nat} {l : List Tk} (h : w.ownsRow base 47 5 (.slice (some ⟨g, 0, none⟩) n c) n (l.flatMap (Tk.cells s))) (hn : n = l.length) (j : Nat) (hj : j < l.length) :
    w.cell? ⟨g, j * 5, none⟩ = some (.int .i64 (l[j]).kind) ∧ w.cell? ⟨g, j * 5 + 1, none⟩ = some (.string (l[j]).text) ∧ w.cell? ⟨g, j * 5 + 2, none⟩ = some (.int .i64 (l[j]).num) ∧
      w.cell? ⟨g, j * 5 + 3, none⟩ = some (.int .i64 (place s (l[j]).pos).1) ∧ w.cell? ⟨g, j * 5 + 4, none⟩ = some (.int .i64 (place s (l[j]).pos).2) := by
  subst hn
  have hc : ∀ i, i < 5 → w.cell? ⟨g, j * 5 + i, none⟩ = ((l[j]).cells s)[i]? := fun i hi => by
    rw [h.cellAt (j * 5 + i) (by omega), tk_get l j hj i hi]
  exact ⟨hc 0 (by omega), hc 1 (by omega), hc 2 (by omega), hc 3 (by omega), hc 4 (by omega)⟩
theorem grownNone {w w' : World} (h : Below w.heap.size w w') : w.grownBy w' none := ⟨h.os, h.tape, h.output, h.size, fun i hi _ => h.block i hi⟩
theorem go_short (s : ByteArray) : ∀ (f n i : Nat) (l m : List Tk), l.length = n → n ≤ 4096 → scanGo s f n i l = .toks m → m.length ≤ 4097 := by
  intro f
  induction f with
  | zero => intro n i l m hl hn h; unfold scanGo at h; injection h with h; subst h; omega
  | succ f ih =>
    intro n i l m hl hn h
    unfold scanGo at h
    split at h
    · injection h with h; subst h; simp; omega
    · split at h
      · cases h
      · split at h
        · exact ih (n + 1) _ _ m (by simp [hl]) (by omega) h
        · cases h
theorem scan_short {s : ByteArray} {m : List Tk} (h : scanOf s = .toks m) : m.length ≤ 4097 := by
  unfold scanOf at h
  split at h
  · cases h
  · exact go_short s _ 0 0 [] m rfl (by omega) h

set_option maxRecDepth 100000 in
set_option maxHeartbeats 2000000 in
theorem scans_any (s : ByteArray) (w : World) (hs : s.size ≤ maxLen) : Calls Try.prog 6 #[.string s] w fun r w' => r = .returned (.bool true) ∧ Below w.heap.size w w' := by
  have hs' := hs
  unfold maxLen at hs'
  by_cases hcap : 2000 < s.size ∧ s.size ≤ 16384
  · obtain ⟨hc1, hc2⟩ := hcap
    go_enter Try.func6, Try.ntmps6
    go_wp2_with (go_at_call 27; refine (awake_any w).mono ?_; rintro r w1 ⟨rfl, hb1⟩)
    go_ret
    exact ⟨rfl, hb1⟩
  · have hd : Hid ((2000 : Int) < (s.size : Int) → decide ((s.size : Int) ≤ 16384) = false) := fun h => by simp; omega
    clear hcap
    cases hsc : scanOf s with
    | bad e p =>
      have HSC := hid hsc
      clear hsc
      by_cases h2 : (2000 : Int) < (s.size : Int)
      all_goals
        (try have hd2 := hd.out h2)
        go_enter Try.func6, Try.ntmps6
        go_wp2_with (first
          | (go_at_call 27; refine (awake_any w).mono ?_; rintro r w1 ⟨rfl, hb1⟩)
          | (go_at_call 28; refine (scan_any s w1 hs).mono ?_; rintro r w2 ⟨hb2, hr2⟩; rw [HSC.out] at hr2; obtain rfl := hr2; have hb3 := (hb1.trans (hb2.mono hb1.size)).alloc (hb1.trans (hb2.mono hb1.size)).size (.cells #[.int .i64 e, .int .i64 (place s p).1, .int .i64 (place s p).2] 43))
          | (go_at_call 29; refine (rscan_any s _ hs).mono ?_; rintro r w3 ⟨hb4, hr3⟩; rw [HSC.out] at hr3; obtain rfl := hr3; have hk := hb4.block w2.heap.size (by rw [World.size_alloc]; omega); rw [World.alloc_heap_new] at hk; have c0 : w3.cell? ⟨w2.heap.size, 0, none⟩ = some (.int .i64 e) := (by unfold World.cell?; rw [hk]; rfl); have c1 : w3.cell? ⟨w2.heap.size, 1, none⟩ = some (.int .i64 (place s p).1) := (by unfold World.cell?; rw [hk]; rfl); have c2 : w3.cell? ⟨w2.heap.size, 2, none⟩ = some (.int .i64 (place s p).2) := (by unfold World.cell?; rw [hk]; rfl); have hz3 : w2.heap.size < w3.heap.size := (by have := hb4.size; rw [World.size_alloc] at this; omega); have hb5 := hb3.trans (hb4.mono hb3.size); clear hk hb4))
        have hb6 := hb5.alloc hb5.size (.cells #[.int .i64 e, .int .i64 (place s p).1, .int .i64 (place s p).2] 43)
        go_loopw [40] (fun v wr => v = .int .i64 0 ∧ Below w.heap.size w wr) (fun _ _ => 0)
        case atStart => exact ⟨rfl, hb6⟩
        case round =>
          obtain ⟨rfl, hbr⟩ := hrel
          go_wp2_with fail
          go_ret
          exact ⟨rfl, hbr⟩
    | toks l =>
      have hl := scan_short hsc
      have HSC := hid hsc
      clear hsc
      by_cases h2 : (2000 : Int) < (s.size : Int)
      all_goals
        (try have hd2 := hd.out h2)
        go_enter Try.func6, Try.ntmps6
        go_wp2_with (first
          | (go_at_call 27; refine (awake_any w).mono ?_; rintro r w1 ⟨rfl, hb1⟩)
          | (go_at_call 28; refine (scan_any s w1 hs).mono ?_; rintro r w2 ⟨hb2, hr2⟩; rw [HSC.out] at hr2; obtain ⟨g, c, rfl, hown2⟩ := hr2; have hb3 := (hb1.trans (hb2.mono hb1.size)).alloc (hb1.trans (hb2.mono hb1.size)).size (.cells #[.int .i64 0, .int .i64 0, .int .i64 0] 43); have hown2' := hown2.alloc (.cells #[.int .i64 0, .int .i64 0, .int .i64 0] 43))
          | (go_at_call 29; refine (rscan_any s _ hs).mono ?_; rintro r w3 ⟨hb4, hr3⟩; rw [HSC.out] at hr3; obtain ⟨g2, c2, rfl, hown3⟩ := hr3; have hk := hb4.block w2.heap.size (by rw [World.size_alloc]; omega); rw [World.alloc_heap_new] at hk; have c0 : w3.cell? ⟨w2.heap.size, 0, none⟩ = some (.int .i64 0) := (by unfold World.cell?; rw [hk]; rfl); have c1 : w3.cell? ⟨w2.heap.size, 1, none⟩ = some (.int .i64 0) := (by unfold World.cell?; rw [hk]; rfl); have c2 : w3.cell? ⟨w2.heap.size, 2, none⟩ = some (.int .i64 0) := (by unfold World.cell?; rw [hk]; rfl); have hz3 : w2.heap.size < w3.heap.size := (by have := hb4.size; rw [World.size_alloc] at this; omega); have hb5 := hb3.trans (hb4.mono hb3.size); have ho1 := hown2'.kept (grownNone hb4) (.inr (by simp [Value.ownBlock])); clear hk hb4 hown2 hown2'))
        have hb6 := hb5.alloc hb5.size (.cells #[.int .i64 0, .int .i64 0, .int .i64 0] 43)
        have ho2 := ho1.alloc (.cells #[.int .i64 0, .int .i64 0, .int .i64 0] 43)
        have ho3 := hown3.alloc (.cells #[.int .i64 0, .int .i64 0, .int .i64 0] 43)
        clear ho1 hown3 c0 c1 c2
        generalize w3.alloc (.cells #[.int .i64 0, .int .i64 0, .int .i64 0] 43) = W at *
        go_loopw [40] (fun v wr => ∃ j n : Nat, j ≤ l.length ∧ v = .int .i64 j ∧ wr = W.drewN n) (fun v _ => l.length - (intOf v).toNat)
        case atStart => exact ⟨0, 0, by omega, rfl, rfl⟩
        case round =>
          obtain ⟨j, n, hj, rfl, rfl⟩ := hrel
          by_cases hlt : j < l.length
          · obtain ⟨x0, x1, x2, x3, x4⟩ := tk_row ho2 rfl j hlt
            obtain ⟨y0, y1, y2, y3, y4⟩ := tk_row ho3 rfl j hlt
            have hj0 : (0 : Int) ≤ (j : Int) := by omega
            have hj1 : (j : Int) < (l.length : Int) := by omega
            clear ho2 ho3
            go_wp2_with fail
            go_quiet (fail)
            go_wp2_with fail
            go_roundw
            case rel => exact ⟨j + 1, n + nq, by omega, by go_num, rfl⟩
            case measure => simp [intOf]; omega
          · have hje : j = l.length := by omega
            subst hje
            go_wp2_with fail
            go_ret
            exact ⟨rfl, hb6.trans ⟨rfl, rfl, rfl, Nat.le_refl _, fun _ _ => rfl⟩⟩
end Go.Proofs.Ytiencmbbkbicnaa
