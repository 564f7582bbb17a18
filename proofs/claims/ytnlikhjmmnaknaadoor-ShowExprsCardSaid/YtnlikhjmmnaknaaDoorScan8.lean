/-
  The walk of next where neither a letter nor a digit comes; and next at any byte.
-/
import Derived.Test.YtnlikhjmmnaknaaDoorScan7
namespace Go.Proofs.YtnlikhjmmnaknaaDoor
open Go.RowKit

theorem signOf_le (t : ByteArray) (h : 0 < t.size) : signOf t ≤ t.size := by
  unfold signOf
  split
  · rename_i h2
    simp only [sign2, Bool.and_eq_true, decide_eq_true_eq] at h2
    exact h2.1
  · split <;> omega

set_option maxRecDepth 100000 in
set_option maxHeartbeats 4000000 in
theorem next_sign (g : Nat) (s : ByteArray) (i : Nat) (w : World) (hS : ScanAt w g s i) (hi : i < s.size) (hs : s.size ≤ 1000000) (hl : isLetter (bt s i) = false) (hdg : isDigit (bt s i) = false) :
    Calls Tryd.prog 61 #[.pointer (some ⟨g, 0, none⟩)] w (NextPost g s i w) := by
  have hlen : Hid (tokLen s i = signOf (s.extract i s.size)) := by show _ = _; unfold tokLen; rw [hl, hdg, if_neg (by simp), if_neg (by simp)]
  have hnum : Hid (tokNum s i = 0) := by show _ = _; unfold tokNum; rw [hl, hdg, if_neg (by simp), if_neg (by simp)]
  have hok : Hid (tokOk s i = decide (0 < tokLen s i)) := by show _ = _; unfold tokOk; rw [hl, hdg, if_neg (by simp), if_neg (by simp)]
  have hkd : Hid (tokKind s i = 3) := by show _ = _; unfold tokKind; rw [hl, hdg, if_neg (by simp), if_neg (by simp)]
  have hsz1 : (s.extract i s.size).size = s.size - i := size_extract' s i s.size (Nat.le_refl _)
  have hrl := signOf_le (s.extract i s.size) (by omega)
  rw [hsz1, ← hlen.out] at hrl
  have hglt := hS.lt
  have hbt := bt_eq s i hi
  have hi0 : (0 : Int) ≤ (i : Int) := by omega
  have hi1 : (i : Int) < (s.size : Int) := by omega
  have hpb := place_bd s i
  obtain ⟨c0, c1, c2, c3⟩ := hS.cells
  have f0 := hS.free
  have hsg : ∀ (W : World) (k : Nat), Calls Tryd.prog 83 #[.string (s.extract i s.size)] (W.drewN k) fun e w'' => e = .returned (.int .i64 (tokLen s i : Nat)) ∧ ∃ m, w'' = W.drewN m := fun W k => by
    rw [hlen.out]
    exact (sign_any (s.extract i s.size) (W.drewN k) (by omega) (by omega)).mono fun _ _ ⟨h1, h2⟩ => ⟨h1, k, h2.symm⟩
  have HSG := hid hsg
  clear hsz1 hsg
  have HL := hid hl
  have HDG := hid hdg
  clear hl hdg
  generalize hnl : tokLen s i = n at *
  have HNL := hid hnl
  clear hnl
  go_enter Tryd.func61, Tryd.ntmps61
  go_wp2_with fail
  have hN := NextAt.new hS #[.int .i64 0, .string ⟨#[]⟩, .int .i64 0, .int .i64 (place s i).1, .int .i64 (place s i).2]
  generalize ((w.alloc (.cells #[.int .i64 0, .string ⟨#[]⟩, .int .i64 0, .int .i64 0, .int .i64 0] 82)).alloc (.cells #[.int .i64 0, .string ⟨#[]⟩, .int .i64 0, .int .i64 (place s i).1, .int .i64 (place s i).2] 82)) = W at *
  clear c0 c1 c2 c3 f0 hS
  obtain ⟨c0, c1, c2, c3⟩ := hN.scan.cells
  have f0 := hN.scan.free
  go_quiet (fail)
  go_wp2_with fail
  refine (letter_any _ _).mono ?_
  rintro r w1 ⟨rfl, rfl⟩
  rw [HL.out]
  go_wp2_with fail
  refine (digit_any _ _).mono ?_
  rintro r w1 ⟨rfl, rfl⟩
  rw [HDG.out]
  have hN0 : NextAt w (W.drewN nq) g s i #[.int .i64 0, .string ⟨#[]⟩, .int .i64 0, .int .i64 (place s i).1, .int .i64 (place s i).2] := hN.drewN _
  clear hN c0 c1 c2 c3 f0
  obtain ⟨c0, c1, c2, c3⟩ := hN0.scan.cells
  have f0 := hN0.scan.free
  generalize W.drewN nq = W1 at *
  go_wp2_with fail
  go_quiet (exact HSG.out _ _)
  have hN1 := hN0.drewN nq
  clear hN0 c0 c1 c2 c3 f0
  generalize W1.drewN nq = w1 at *
  have t0 := hN1.tcell 0
  simp only [List.getElem?_toArray, List.getElem?_cons_zero] at t0
  obtain ⟨t0, tf0⟩ := t0
  go_wp2_with fail
  have hN2 := hN1.set hglt 0 (.int .i64 3)
  generalize w1.setCell ⟨w.heap.size + 1, 0, none⟩ (.int .i64 3) = w2 at *
  clear t0 tf0 hN1
  simp only [List.setIfInBounds_toArray, List.set_cons_zero] at hN2
  obtain ⟨m, hm⟩ : ∃ m, m = i + n := ⟨_, rfl⟩
  have hm1 : i + n ≤ m := by omega
  have hm2 : m ≤ i + n := by omega
  have HM := hid hm
  clear hm
  have hwr : IntKind.i64.wrap ((i : Int) + (n : Int)) = (m : Int) := by rw [show (i : Int) + (n : Int) = (m : Int) by omega]; exact IntWalk.i64_in _ (by omega)
  have him : (i : Int) ≤ (m : Int) := by omega
  have hms : (m : Int) ≤ (s.size : Int) := by omega
  have htx : Hid (textOf s i n = s.extract i m) := by show _ = _; unfold textOf; rw [HM.out]
  have hN5 := hN2
  clear hN2
  obtain ⟨c0, c1, c2, c3⟩ := hN5.scan.cells
  have f0 := hN5.scan.free
  go_still_tail 16, (by kernel_rfl)
  change wpList _ _ _ _ _ w2.drew
  have hN6 : NextAt w w2.drew g s i _ := hN5.drewN 1
  generalize w2.drew = w6 at hN6 ⊢
  clear c0 c1 c2 c3 f0 hN5
  have t1 := hN6.tcell 1
  simp only [List.getElem?_toArray, List.getElem?_cons_zero, List.getElem?_cons_succ] at t1
  obtain ⟨t1, tf1⟩ := t1
  go_wp2_with fail
  have hN7 := hN6.set hglt 1 (.string (s.extract i m))
  generalize w6.setCell ⟨w.heap.size + 1, 1, none⟩ (.string (s.extract i m)) = w7 at hN7 ⊢
  clear hN6 t1 tf1
  simp only [List.setIfInBounds_toArray, List.set_cons_zero, List.set_cons_succ] at hN7
  refine (skip_any g s i n w7 hN7.scan (by omega) hs).mono ?_
  rintro r w8 ⟨rfl, hS8, hc8⟩
  have hN8 := hN7.skipped hglt hS8 hc8
  clear hN7 hS8 hc8
  have t0 := (hN8.tcell 0).1
  have t1 := (hN8.tcell 1).1
  have t2 := (hN8.tcell 2).1
  have t3 := (hN8.tcell 3).1
  have t4 := (hN8.tcell 4).1
  have r0 := hN8.rcell.1 0
  have r1 := hN8.rcell.1 1
  have r2 := hN8.rcell.1 2
  have r3 := hN8.rcell.1 3
  have r4 := hN8.rcell.1 4
  have rf := hN8.rcell.2
  simp only [List.getElem?_toArray, List.getElem?_cons_zero, List.getElem?_cons_succ] at t0 t1 t2 t3 t4 r0 r1 r2 r3 r4
  go_wp2_with fail
  obtain ⟨w9, hw9, ⟨q0, q1, q2, q3, q4⟩, hS9, hc9⟩ := hN8.wrote hglt (.int .i64 3) (.string (s.extract i m)) (.int .i64 0) (.int .i64 (place s i).1) (.int .i64 (place s i).2)
  rw [← hw9]
  refine bodyPost_ret (v := .tuple #[.agg #[.int .i64 3, .string (s.extract i m), .int .i64 0, .int .i64 (place s i).1, .int .i64 (place s i).2], .bool (decide ((0 : Int) < (n : Int)))]) (by simp [results, Tryd.results61, go_sem, q0, q1, q2, q3, q4]) rfl ?_
  refine ⟨?_, by rw [HNL.out]; exact hS9, hc9⟩
  rw [HNL.out, hkd.out, hnum.out, hok.out, htx.out]
  simp [tokVal]

theorem next_any (g : Nat) (s : ByteArray) (i : Nat) (w : World) (hS : ScanAt w g s i) (hi : i < s.size) (hs : s.size ≤ 1000000) :
    Calls Tryd.prog 61 #[.pointer (some ⟨g, 0, none⟩)] w (NextPost g s i w) := by
  cases hl : isLetter (bt s i) with
  | true => exact next_letter g s i w hS hi hs hl
  | false =>
    cases hd : isDigit (bt s i) with
    | true => exact next_digit g s i w hS hi hs hl hd
    | false => exact next_sign g s i w hS hi hs hl hd
end Go.Proofs.YtnlikhjmmnaknaaDoor
