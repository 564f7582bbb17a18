/-
  The walk of next where a digit or a sign comes.
-/
import Derived.Test.YtnlikhjmmnaknaaDoorScan6
namespace Go.Proofs.YtnlikhjmmnaknaaDoor
open Go.RowKit

theorem rn_all (p : Int → Bool) (s : ByteArray) (i : Nat) : ∀ q, q < rn p (s.data.toList.drop i) → p (bt s (i + q)) = true := by
  intro q
  have hlen : i + rn p (s.data.toList.drop i) ≤ s.size ∨ s.data.toList.drop i = [] := by
    have := rn_le p (s.data.toList.drop i)
    rw [List.length_drop, ← size_len] at this
    rcases Nat.lt_or_ge i s.size with h | h
    · left; omega
    · right; exact List.drop_of_length_le (by rw [← size_len]; exact h)
  revert i
  induction q with
  | zero =>
    intro i hlen h
    rcases hlen with hlen | hlen
    · have hi : i < s.size := by omega
      cases hp : p (bt s (i + 0)) with
      | true => rfl
      | false => rw [rn_off hi hp] at h; omega
    · rw [hlen] at h; simp [rn] at h
  | succ q ih =>
    intro i hlen h
    rcases hlen with hlen | hlen
    · have hi : i < s.size := by omega
      cases hp : p (bt s i) with
      | true =>
        rw [rn_on hi hp] at h hlen
        have := ih (i + 1) (.inl (by omega)) (by omega)
        rwa [show i + (q + 1) = i + 1 + q by omega]
      | false => rw [rn_off hi hp] at h; omega
    · rw [hlen] at h; simp [rn] at h
theorem rn_pos {p : Int → Bool} {s : ByteArray} {i : Nat} (hi : i < s.size) (hp : p (bt s i) = true) : 0 < rn p (s.data.toList.drop i) := by rw [rn_on hi hp]; omega
theorem bt_extract (s : ByteArray) (i m q : Nat) (hq : i + q < m) : bt (s.extract i m) q = bt s (i + q) := by
  unfold bt
  rw [Lib.extract_data, List.getElem?_take_of_lt (by omega), List.getElem?_drop]
theorem size_extract' (s : ByteArray) (i m : Nat) (hm : m ≤ s.size) : (s.extract i m).size = m - i := by
  rw [ByteArray.size_extract]; omega

set_option maxRecDepth 100000 in
set_option maxHeartbeats 4000000 in
theorem next_digit (g : Nat) (s : ByteArray) (i : Nat) (w : World) (hS : ScanAt w g s i) (hi : i < s.size) (hs : s.size ≤ 1000000) (hl : isLetter (bt s i) = false) (hdg : isDigit (bt s i) = true) :
    Calls Tryd.prog 61 #[.pointer (some ⟨g, 0, none⟩)] w (NextPost g s i w) := by
  have hlen : Hid (tokLen s i = rn isDigit (s.data.toList.drop i)) := by show _ = _; unfold tokLen; rw [hl, if_neg (by simp), if_pos hdg]
  have hnum : Hid (tokNum s i = (numOf (textOf s i (tokLen s i)).data.toList).getD 0) := by show _ = _; unfold tokNum; rw [hl, if_neg (by simp), if_pos hdg]
  have hok : Hid (tokOk s i = (numOf (textOf s i (tokLen s i)).data.toList).isSome) := by show _ = _; unfold tokOk; rw [hl, if_neg (by simp), if_pos hdg]
  have hkd : Hid (tokKind s i = 2) := by show _ = _; unfold tokKind; rw [hl, if_neg (by simp), if_pos hdg]
  have hrl := rn_le isDigit (s.data.toList.drop i)
  rw [List.length_drop, ← size_len, ← hlen.out] at hrl
  have hglt := hS.lt
  have hbt := bt_eq s i hi
  have hi0 : (0 : Int) ≤ (i : Int) := by omega
  have hi1 : (i : Int) < (s.size : Int) := by omega
  have hpb := place_bd s i
  obtain ⟨c0, c1, c2, c3⟩ := hS.cells
  have f0 := hS.free
  have hrun : ∀ W : World, ScanAt W g s i → Calls Tryd.prog 79 #[.pointer (some ⟨g, 0, none⟩), .func (.func 81) #[] #[]] W fun r w' => r = .returned (.int .i64 (tokLen s i : Nat)) ∧ ∃ n, w' = W.drewN n := fun W h => by
    rw [hlen.out]
    exact run_any 81 isDigit (Go.Proofs.enters_of Tryd.func81 (by kernel_rfl) rfl) digit_any g s i W h (by omega) hs
  have HR := hid hrun
  have HL := hid hl
  have HDG := hid hdg
  have hdig : Hid (∀ q, q < tokLen s i → 48 ≤ bt s (i + q) ∧ bt s (i + q) ≤ 57) := fun q hq => by
    rw [hlen.out] at hq
    have := rn_all isDigit s i q hq
    simpa [isDigit] using this
  have hn0 : 0 < tokLen s i := by rw [hlen.out]; exact rn_pos hi hdg
  clear hrun hl hdg
  generalize hnl : tokLen s i = n at *
  have HNL := hid hnl
  clear hnl
  go_enter Tryd.func61, Tryd.ntmps61
  go_wp2_with fail
  have hN := NextAt.new hS #[.int .i64 0, .string ⟨#[]⟩, .int .i64 0, .int .i64 (place s i).1, .int .i64 (place s i).2]
  generalize ((w.alloc (.cells #[.int .i64 0, .string ⟨#[]⟩, .int .i64 0, .int .i64 0, .int .i64 0] 82)).alloc (.cells #[.int .i64 0, .string ⟨#[]⟩, .int .i64 0, .int .i64 (place s i).1, .int .i64 (place s i).2] 82)) = W at *
  clear c0 c1 c2 c3 f0 hS
  obtain ⟨c0, c1, c2, c3⟩ := hN.scan.cells
  have f0 := hN.scan.free
  go_quiet (fail)
  go_wp2_with fail
  refine (letter_any _ _).mono ?_
  rintro r w1 ⟨rfl, rfl⟩
  rw [HL.out]
  go_wp2_with fail
  refine (digit_any _ _).mono ?_
  rintro r w1 ⟨rfl, rfl⟩
  rw [HDG.out]
  go_wp2_with fail
  refine (HR.out _ (by exact hN.scan)).mono ?_
  rintro r w1 ⟨rfl, n2, hw1⟩
  have hN1 : NextAt w w1 g s i #[.int .i64 0, .string ⟨#[]⟩, .int .i64 0, .int .i64 (place s i).1, .int .i64 (place s i).2] := by rw [hw1]; exact (hN.drewN _).drewN _
  clear c0 c1 c2 c3 f0 hN hw1
  have t0 := hN1.tcell 0
  simp only [List.getElem?_toArray, List.getElem?_cons_zero] at t0
  obtain ⟨t0, tf0⟩ := t0
  go_wp2_with fail
  have hN2 := hN1.set hglt 0 (.int .i64 2)
  generalize w1.setCell ⟨w.heap.size + 1, 0, none⟩ (.int .i64 2) = w2 at *
  clear t0 tf0 hN1
  simp only [List.setIfInBounds_toArray, List.set_cons_zero] at hN2
  obtain ⟨m, hm⟩ : ∃ m, m = i + n := ⟨_, rfl⟩
  have hm1 : i + n ≤ m := by omega
  have hm2 : m ≤ i + n := by omega
  have HM := hid hm
  clear hm
  have hwr : IntKind.i64.wrap ((i : Int) + (n : Int)) = (m : Int) := by rw [show (i : Int) + (n : Int) = (m : Int) by omega]; exact IntWalk.i64_in _ (by omega)
  have him : (i : Int) ≤ (m : Int) := by omega
  have hms : (m : Int) ≤ (s.size : Int) := by omega
  obtain ⟨c0, c1, c2, c3⟩ := hN2.scan.cells
  have f0 := hN2.scan.free
  have hsz1 : (s.extract i m).size ≤ 1000000 := by rw [size_extract' s i m (by omega)]; omega
  have hsz0 : 0 < (s.extract i m).size := by rw [size_extract' s i m (by omega)]; omega
  have hnb := fun W => number_any (s.extract i m) W hsz1 hsz0 (fun q hq => by
    rw [size_extract' s i m (by omega)] at hq
    rw [bt_extract s i m q (by omega)]
    exact hdig.out q (by omega))
  have HNB := hid hnb
  have htx : Hid (textOf s i n = s.extract i m) := by show _ = _; unfold textOf; rw [HM.out]
  clear hnb hsz1 hsz0
  have t2 := hN2.tcell 2
  simp only [List.getElem?_toArray, List.getElem?_cons_zero, List.getElem?_cons_succ] at t2
  obtain ⟨t2, tf2⟩ := t2
  cases hno : numOf (s.extract i m).data.toList with
  | some v =>
    rw [hno] at HNB
    simp only [numRes] at HNB
    have hN3 := (hN2.set hglt 2 (.int .i64 v)).drewN 1
    have z0 : (w2.setCell ⟨w.heap.size + 1, 2, none⟩ (.int .i64 v)).drew.cell? ⟨g, 0, none⟩ = some (.string s) := hN3.scan.cells.1
    have z1 : (w2.setCell ⟨w.heap.size + 1, 2, none⟩ (.int .i64 v)).drew.cell? ⟨g, 1, none⟩ = some (.int .i64 i) := hN3.scan.cells.2.1
    go_region_held3 (fun w' => w'.cell? ⟨g, 0, none⟩ = some (.string s) ∧ w'.cell? ⟨g, 1, none⟩ = some (.int .i64 i)) (first | exact ⟨z0, z1⟩ | go_keep)
      (first | (go_at_call 82; refine (HNB.out _).mono ?_; rintro r w4 ⟨rfl, rfl⟩))
    have hN5 := hN3
    have hWe : ∃ w5, w5 = (w2.setCell ⟨w.heap.size + 1, 2, none⟩ (.int .i64 v)).drew := ⟨_, rfl⟩
    obtain ⟨w5, hW5⟩ := hWe
    change NextAt w (w2.setCell ⟨w.heap.size + 1, 2, none⟩ (.int .i64 v)).drew g s i _ at hN5
    rw [← hW5] at hN5 ⊢
    clear hW5 z0 z1 hN3 hN2 t2 tf2 c0 c1 c2 c3 f0
    simp only [List.setIfInBounds_toArray, List.set_cons_zero, List.set_cons_succ] at hN5
    go_wp2_with fail
    obtain ⟨c0, c1, c2, c3⟩ := hN5.scan.cells
    have f0 := hN5.scan.free
    go_still_tail 16, (by kernel_rfl)
    change wpList _ _ _ _ _ w5.drew
    have hN6 : NextAt w w5.drew g s i _ := hN5.drewN 1
    generalize w5.drew = w6 at hN6 ⊢
    clear c0 c1 c2 c3 f0 hN5
    have t1 := hN6.tcell 1
    simp only [List.getElem?_toArray, List.getElem?_cons_zero, List.getElem?_cons_succ] at t1
    obtain ⟨t1, tf1⟩ := t1
    go_wp2_with fail
    have hN7 := hN6.set hglt 1 (.string (s.extract i m))
    generalize w6.setCell ⟨w.heap.size + 1, 1, none⟩ (.string (s.extract i m)) = w7 at hN7 ⊢
    clear hN6 t1 tf1
    simp only [List.setIfInBounds_toArray, List.set_cons_zero, List.set_cons_succ] at hN7
    refine (skip_any g s i n w7 hN7.scan (by omega) hs).mono ?_
    rintro r w8 ⟨rfl, hS8, hc8⟩
    have hN8 := hN7.skipped hglt hS8 hc8
    clear hN7 hS8 hc8
    have t0 := (hN8.tcell 0).1
    have t1 := (hN8.tcell 1).1
    have t2 := (hN8.tcell 2).1
    have t3 := (hN8.tcell 3).1
    have t4 := (hN8.tcell 4).1
    have r0 := hN8.rcell.1 0
    have r1 := hN8.rcell.1 1
    have r2 := hN8.rcell.1 2
    have r3 := hN8.rcell.1 3
    have r4 := hN8.rcell.1 4
    have rf := hN8.rcell.2
    simp only [List.getElem?_toArray, List.getElem?_cons_zero, List.getElem?_cons_succ] at t0 t1 t2 t3 t4 r0 r1 r2 r3 r4
    go_wp2_with fail
    obtain ⟨w9, hw9, ⟨q0, q1, q2, q3, q4⟩, hS9, hc9⟩ := hN8.wrote hglt (.int .i64 2) (.string (s.extract i m)) (.int .i64 v) (.int .i64 (place s i).1) (.int .i64 (place s i).2)
    rw [← hw9]
    refine bodyPost_ret (v := .tuple #[.agg #[.int .i64 2, .string (s.extract i m), .int .i64 v, .int .i64 (place s i).1, .int .i64 (place s i).2], .bool true]) (by simp [results, Tryd.results61, go_sem, q0, q1, q2, q3, q4]) rfl ?_
    refine ⟨?_, by rw [HNL.out]; exact hS9, hc9⟩
    rw [HNL.out, hkd.out, hnum.out, hok.out, htx.out, hno]
    simp [tokVal]
  | none =>
    rw [hno] at HNB
    simp only [numRes] at HNB
    have hN3 := (hN2.set hglt 2 (.int .i64 0)).drewN 1
    have z0 : (w2.setCell ⟨w.heap.size + 1, 2, none⟩ (.int .i64 0)).drew.cell? ⟨g, 0, none⟩ = some (.string s) := hN3.scan.cells.1
    have z1 : (w2.setCell ⟨w.heap.size + 1, 2, none⟩ (.int .i64 0)).drew.cell? ⟨g, 1, none⟩ = some (.int .i64 i) := hN3.scan.cells.2.1
    go_region_held3 (fun w' => w'.cell? ⟨g, 0, none⟩ = some (.string s) ∧ w'.cell? ⟨g, 1, none⟩ = some (.int .i64 i)) (first | exact ⟨z0, z1⟩ | go_keep)
      (first | (go_at_call 82; refine (HNB.out _).mono ?_; rintro r w4 ⟨rfl, rfl⟩))
    have hN5 := hN3
    have hWe : ∃ w5, w5 = (w2.setCell ⟨w.heap.size + 1, 2, none⟩ (.int .i64 0)).drew := ⟨_, rfl⟩
    obtain ⟨w5, hW5⟩ := hWe
    change NextAt w (w2.setCell ⟨w.heap.size + 1, 2, none⟩ (.int .i64 0)).drew g s i _ at hN5
    rw [← hW5] at hN5 ⊢
    clear hW5 z0 z1 hN3 hN2 t2 tf2 c0 c1 c2 c3 f0
    simp only [List.setIfInBounds_toArray, List.set_cons_zero, List.set_cons_succ] at hN5
    go_wp2_with fail
    obtain ⟨c0, c1, c2, c3⟩ := hN5.scan.cells
    have f0 := hN5.scan.free
    go_still_tail 16, (by kernel_rfl)
    change wpList _ _ _ _ _ w5.drew
    have hN6 : NextAt w w5.drew g s i _ := hN5.drewN 1
    generalize w5.drew = w6 at hN6 ⊢
    clear c0 c1 c2 c3 f0 hN5
    have t1 := hN6.tcell 1
    simp only [List.getElem?_toArray, List.getElem?_cons_zero, List.getElem?_cons_succ] at t1
    obtain ⟨t1, tf1⟩ := t1
    go_wp2_with fail
    have hN7 := hN6.set hglt 1 (.string (s.extract i m))
    generalize w6.setCell ⟨w.heap.size + 1, 1, none⟩ (.string (s.extract i m)) = w7 at hN7 ⊢
    clear hN6 t1 tf1
    simp only [List.setIfInBounds_toArray, List.set_cons_zero, List.set_cons_succ] at hN7
    refine (skip_any g s i n w7 hN7.scan (by omega) hs).mono ?_
    rintro r w8 ⟨rfl, hS8, hc8⟩
    have hN8 := hN7.skipped hglt hS8 hc8
    clear hN7 hS8 hc8
    have t0 := (hN8.tcell 0).1
    have t1 := (hN8.tcell 1).1
    have t2 := (hN8.tcell 2).1
    have t3 := (hN8.tcell 3).1
    have t4 := (hN8.tcell 4).1
    have r0 := hN8.rcell.1 0
    have r1 := hN8.rcell.1 1
    have r2 := hN8.rcell.1 2
    have r3 := hN8.rcell.1 3
    have r4 := hN8.rcell.1 4
    have rf := hN8.rcell.2
    simp only [List.getElem?_toArray, List.getElem?_cons_zero, List.getElem?_cons_succ] at t0 t1 t2 t3 t4 r0 r1 r2 r3 r4
    go_wp2_with fail
    obtain ⟨w9, hw9, ⟨q0, q1, q2, q3, q4⟩, hS9, hc9⟩ := hN8.wrote hglt (.int .i64 2) (.string (s.extract i m)) (.int .i64 0) (.int .i64 (place s i).1) (.int .i64 (place s i).2)
    rw [← hw9]
    refine bodyPost_ret (v := .tuple #[.agg #[.int .i64 2, .string (s.extract i m), .int .i64 0, .int .i64 (place s i).1, .int .i64 (place s i).2], .bool false]) (by simp [results, Tryd.results61, go_sem, q0, q1, q2, q3, q4]) rfl ?_
    refine ⟨?_, by rw [HNL.out]; exact hS9, hc9⟩
    rw [HNL.out, hkd.out, hnum.out, hok.out, htx.out, hno]
    simp [tokVal]
end Go.Proofs.YtnlikhjmmnaknaaDoor
