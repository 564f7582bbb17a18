/-
  The walk of next: the token that comes.
-/
import Derived.StillTailTactics
import Derived.RangeFuncNested
import Derived.Shelf.Abstract
import Derived.Deep.RegionHeld3
import Derived.Test.YtnlikhjmmnaknaaDoorScan5
namespace Go.Proofs.YtnlikhjmmnaknaaDoor
open Go.RowKit

def textOf (s : ByteArray) (i n : Nat) : ByteArray := s.extract i (i + n)
def tokLen (s : ByteArray) (i : Nat) : Nat :=
  if isLetter (bt s i) = true then rn partB (s.data.toList.drop i) else if isDigit (bt s i) = true then rn isDigit (s.data.toList.drop i) else signOf (s.extract i s.size)
def tokKind (s : ByteArray) (i : Nat) : Int :=
  if isLetter (bt s i) = true then (if isWord (textOf s i (tokLen s i)).data.toList = true then 4 else 1) else if isDigit (bt s i) = true then 2 else 3
def tokNum (s : ByteArray) (i : Nat) : Int :=
  if isLetter (bt s i) = true then 0 else if isDigit (bt s i) = true then (numOf (textOf s i (tokLen s i)).data.toList).getD 0 else 0
def tokOk (s : ByteArray) (i : Nat) : Bool :=
  if isLetter (bt s i) = true then decide (tokLen s i ≤ 20) else if isDigit (bt s i) = true then (numOf (textOf s i (tokLen s i)).data.toList).isSome else decide (0 < tokLen s i)
/-- a token's value -/
def tokVal (k : Int) (t : ByteArray) (n : Int) (p : Int × Int) : Value := .agg #[.int .i64 k, .string t, .int .i64 n, .int .i64 p.1, .int .i64 p.2]

/-- what next comes to -/
def NextPost (g : Nat) (s : ByteArray) (i : Nat) (w : World) (r : Ending) (w' : World) : Prop :=
  r = .returned (.tuple #[tokVal (tokKind s i) (textOf s i (tokLen s i)) (tokNum s i) (place s i), .bool (tokOk s i)]) ∧ ScanAt w' g s (i + tokLen s i) ∧ w.grownBy w' (some g)

theorem ScanAt.alloc {w : World} {g : Nat} {s : ByteArray} {i : Nat} (h : ScanAt w g s i) (o : Obj) : ScanAt (w.alloc o) g s i := (Below.heap_alloc w o g h.lt).trans h
theorem ScanAt.far {w : World} {g : Nat} {s : ByteArray} {i : Nat} (h : ScanAt w g s i) (b k : Nat) (v : Value) (hne : g ≠ b) : ScanAt (w.setCell ⟨b, k, none⟩ v) g s i := (Below.heap_setCell w ⟨b, k, none⟩ v g hne).trans h
theorem ScanAt.below {w w' : World} {g : Nat} {s : ByteArray} {i B : Nat} (h : ScanAt w g s i) (hb : Below B w w') (hg : g < B) : ScanAt w' g s i := (hb.block g hg).trans h

/-- where next stands: the scanner, the token's variable, the result's -/
structure NextAt (w W : World) (g : Nat) (s : ByteArray) (q : Nat) (t : Array Value) : Prop where
  scan : ScanAt W g s q
  tok : W.heap[w.heap.size + 1]? = some (.cells t 82 (0, 0))
  res : W.heap[w.heap.size]? = some (.cells #[.int .i64 0, .string ⟨#[]⟩, .int .i64 0, .int .i64 0, .int .i64 0] 82 (0, 0))
  chg : w.grownBy W (some g)
  size : w.heap.size + 1 < W.heap.size
theorem NextAt.drewN {w W : World} {g : Nat} {s : ByteArray} {q : Nat} {t : Array Value} (h : NextAt w W g s q t) (n : Nat) : NextAt w (W.drewN n) g s q t :=
  ⟨h.scan, h.tok, h.res, h.chg.trans (chg_drewN _ _ _), h.size⟩
theorem NextAt.set {w W : World} {g : Nat} {s : ByteArray} {q : Nat} {t : Array Value} (h : NextAt w W g s q t) (hg : g < w.heap.size) (k : Nat) (v : Value) : NextAt w (W.setCell ⟨w.heap.size + 1, k, none⟩ v) g s q (t.setIfInBounds k v) :=
  ⟨h.scan.far _ _ _ (by omega), blk_set h.tok k v, (Below.heap_setCell W ⟨w.heap.size + 1, k, none⟩ v w.heap.size (by simp)).trans h.res,
    ⟨h.chg.os, h.chg.tape, h.chg.output, by simpa [World.setCell] using h.chg.size, fun i hi hne => (Below.heap_setCell W ⟨w.heap.size + 1, k, none⟩ v i (by simp; omega)).trans (h.chg.block i hi hne)⟩, by simpa [World.setCell] using h.size⟩
theorem NextAt.below {w W W' : World} {g : Nat} {s : ByteArray} {q : Nat} {t : Array Value} (h : NextAt w W g s q t) (hb : Below W.heap.size W W') : NextAt w W' g s q t :=
  ⟨h.scan.below hb h.scan.lt, (hb.block _ h.size).trans h.tok, (hb.block _ (by have := h.size; omega)).trans h.res,
    ⟨hb.os.trans h.chg.os, hb.tape.trans h.chg.tape, hb.output.trans h.chg.output, Nat.le_trans h.chg.size hb.size, fun i hi hne => (hb.block i (Nat.lt_of_lt_of_le hi h.chg.size)).trans (h.chg.block i hi hne)⟩, Nat.lt_of_lt_of_le h.size hb.size⟩
theorem NextAt.skipped {w W W' : World} {g : Nat} {s : ByteArray} {q q' : Nat} {t : Array Value} (h : NextAt w W g s q t) (hg : g < w.heap.size) (hS : ScanAt W' g s q') (hc : W.grownBy W' (some g)) : NextAt w W' g s q' t :=
  ⟨hS, (hc.block _ h.size (by simp; omega)).trans h.tok, (hc.block _ (by have := h.size; omega) (by simp; omega)).trans h.res, h.chg.trans hc, Nat.lt_of_lt_of_le h.size hc.size⟩
theorem NextAt.new {w : World} {g : Nat} {s : ByteArray} {q : Nat} (h : ScanAt w g s q) (t : Array Value) :
    NextAt w ((w.alloc (.cells #[.int .i64 0, .string ⟨#[]⟩, .int .i64 0, .int .i64 0, .int .i64 0] 82)).alloc (.cells t 82)) g s q t :=
  ⟨(h.alloc _).alloc _, by have := World.alloc_heap_new (w.alloc (.cells #[.int .i64 0, .string ⟨#[]⟩, .int .i64 0, .int .i64 0, .int .i64 0] 82)) (.cells t 82); rwa [World.size_alloc] at this,
    (Below.heap_alloc _ _ _ (by simp)).trans (World.alloc_heap_new w _), (World.grownBy_alloc w _ _).trans (World.grownBy_alloc _ _ _), by simp⟩
theorem NextAt.tcell {w W : World} {g : Nat} {s : ByteArray} {q : Nat} {t : Array Value} (h : NextAt w W g s q t) (k : Nat) : W.cell? ⟨w.heap.size + 1, k, none⟩ = t[k]? ∧ W.frozen? ⟨w.heap.size + 1, k, none⟩ = false := by
  have := h.tok
  constructor <;> simp [World.cell?, World.frozen?, this]
theorem NextAt.rcell {w W : World} {g : Nat} {s : ByteArray} {q : Nat} {t : Array Value} (h : NextAt w W g s q t) :
    (∀ k, W.cell? ⟨w.heap.size, k, none⟩ = (#[.int .i64 0, .string ⟨#[]⟩, .int .i64 0, .int .i64 0, .int .i64 0] : Array Value)[k]?) ∧ ∀ k, W.frozen? ⟨w.heap.size, k, none⟩ = false := by
  have := h.res
  constructor <;> intro k <;> simp [World.cell?, World.frozen?, this]

/-- the result written -/
theorem NextAt.wrote {w W : World} {g : Nat} {s : ByteArray} {q : Nat} {t : Array Value} (h : NextAt w W g s q t) (hg : g < w.heap.size) (v0 v1 v2 v3 v4 : Value) :
    ∃ W', W' = ((((W.setCell ⟨w.heap.size, 0, none⟩ v0).setCell ⟨w.heap.size, 1, none⟩ v1).setCell ⟨w.heap.size, 2, none⟩ v2).setCell ⟨w.heap.size, 3, none⟩ v3).setCell ⟨w.heap.size, 4, none⟩ v4 ∧
      (W'.cell? ⟨w.heap.size, 0, none⟩ = some v0 ∧ W'.cell? ⟨w.heap.size, 1, none⟩ = some v1 ∧ W'.cell? ⟨w.heap.size, 2, none⟩ = some v2 ∧ W'.cell? ⟨w.heap.size, 3, none⟩ = some v3 ∧ W'.cell? ⟨w.heap.size, 4, none⟩ = some v4) ∧
      ScanAt W' g s q ∧ w.grownBy W' (some g) := by
  have hb := blk_set (blk_set (blk_set (blk_set (blk_set h.res 0 v0) 1 v1) 2 v2) 3 v3) 4 v4
  simp only [List.setIfInBounds_toArray, List.set_cons_zero, List.set_cons_succ] at hb
  have hne : g ≠ w.heap.size := by omega
  have hS := ((((h.scan.far w.heap.size 0 v0 hne).far w.heap.size 1 v1 hne).far w.heap.size 2 v2 hne).far w.heap.size 3 v3 hne).far w.heap.size 4 v4 hne
  have hfar : ∀ (W : World) (k : Nat) (v : Value), w.grownBy W (some g) → w.grownBy (W.setCell ⟨w.heap.size, k, none⟩ v) (some g) := fun W k v hc =>
    ⟨hc.os, hc.tape, hc.output, by simpa [World.setCell] using hc.size, fun i hi hne => (Below.heap_setCell W ⟨w.heap.size, k, none⟩ v i (by simp; omega)).trans (hc.block i hi hne)⟩
  refine ⟨_, rfl, ?_, hS, hfar _ _ _ (hfar _ _ _ (hfar _ _ _ (hfar _ _ _ (hfar _ _ _ h.chg))))⟩
  refine ⟨?_, ?_, ?_, ?_, ?_⟩ <;> (unfold World.cell?; rw [hb]; rfl)

set_option maxRecDepth 100000 in
set_option maxHeartbeats 4000000 in
theorem next_letter (g : Nat) (s : ByteArray) (i : Nat) (w : World) (hS : ScanAt w g s i) (hi : i < s.size) (hs : s.size ≤ 1000000) (hl : isLetter (bt s i) = true) :
    Calls Tryd.prog 61 #[.pointer (some ⟨g, 0, none⟩)] w (NextPost g s i w) := by
  have hlen : Hid (tokLen s i = rn partB (s.data.toList.drop i)) := by show _ = _; unfold tokLen; rw [if_pos hl]
  have hnum : Hid (tokNum s i = 0) := by show _ = _; unfold tokNum; rw [if_pos hl]
  have hok : Hid (tokOk s i = decide (tokLen s i ≤ 20)) := by show _ = _; unfold tokOk; rw [if_pos hl]
  have hkd : Hid (tokKind s i = if isWord (textOf s i (tokLen s i)).data.toList = true then 4 else 1) := by show _ = _; unfold tokKind; rw [if_pos hl]
  have hrl := rn_le partB (s.data.toList.drop i)
  rw [List.length_drop, ← size_len, ← hlen.out] at hrl
  have hglt := hS.lt
  have hbt := bt_eq s i hi
  have hi0 : (0 : Int) ≤ (i : Int) := by omega
  have hi1 : (i : Int) < (s.size : Int) := by omega
  have hpb := place_bd s i
  obtain ⟨c0, c1, c2, c3⟩ := hS.cells
  have f0 := hS.free
  have hrun : ∀ W : World, ScanAt W g s i → Calls Tryd.prog 79 #[.pointer (some ⟨g, 0, none⟩), .func (.func 80) #[] #[]] W fun r w' => r = .returned (.int .i64 (tokLen s i : Nat)) ∧ ∃ n, w' = W.drewN n := fun W h => by
    rw [hlen.out]
    exact run_any 80 partB (Go.Proofs.enters_of Tryd.func80 (by kernel_rfl) rfl) next1_any g s i W h (by omega) hs
  have HR := hid hrun
  have HL := hid hl
  clear hrun hl
  generalize hnl : tokLen s i = n at *
  have HNL := hid hnl
  clear hnl
  go_enter Tryd.func61, Tryd.ntmps61
  go_wp2_with fail
  have hN := NextAt.new hS #[.int .i64 0, .string ⟨#[]⟩, .int .i64 0, .int .i64 (place s i).1, .int .i64 (place s i).2]
  generalize ((w.alloc (.cells #[.int .i64 0, .string ⟨#[]⟩, .int .i64 0, .int .i64 0, .int .i64 0] 82)).alloc (.cells #[.int .i64 0, .string ⟨#[]⟩, .int .i64 0, .int .i64 (place s i).1, .int .i64 (place s i).2] 82)) = W at *
  clear c0 c1 c2 c3 f0 hS
  obtain ⟨c0, c1, c2, c3⟩ := hN.scan.cells
  have f0 := hN.scan.free
  go_quiet (fail)
  go_wp2_with fail
  refine (letter_any _ _).mono ?_
  rintro r w1 ⟨rfl, rfl⟩
  rw [HL.out]
  go_wp2_with fail
  refine (HR.out _ (by exact hN.scan)).mono ?_
  rintro r w1 ⟨rfl, n2, hw1⟩
  have hN1 : NextAt w w1 g s i #[.int .i64 0, .string ⟨#[]⟩, .int .i64 0, .int .i64 (place s i).1, .int .i64 (place s i).2] := by rw [hw1]; exact (hN.drewN _).drewN _
  clear c0 c1 c2 c3 f0 hN hw1
  have t0 := hN1.tcell 0
  simp only [List.getElem?_toArray, List.getElem?_cons_zero] at t0
  obtain ⟨t0, tf0⟩ := t0
  go_wp2_with fail
  have hN2 := hN1.set hglt 0 (.int .i64 1)
  generalize w1.setCell ⟨w.heap.size + 1, 0, none⟩ (.int .i64 1) = w2 at *
  clear t0 tf0 hN1
  simp only [List.setIfInBounds_toArray, List.set_cons_zero] at hN2
  obtain ⟨m, hm⟩ : ∃ m, m = i + n := ⟨_, rfl⟩
  have hm1 : i + n ≤ m := by omega
  have hm2 : m ≤ i + n := by omega
  have HM := hid hm
  clear hm
  have hwr : IntKind.i64.wrap ((i : Int) + (n : Int)) = (m : Int) := by rw [show (i : Int) + (n : Int) = (m : Int) by omega]; exact IntWalk.i64_in _ (by omega)
  have him : (i : Int) ≤ (m : Int) := by omega
  have hms : (m : Int) ≤ (s.size : Int) := by omega
  obtain ⟨c0, c1, c2, c3⟩ := hN2.scan.cells
  have f0 := hN2.scan.free
  go_still_tail 15, (by kernel_rfl)
  change wpList _ _ _ _ _ w2.drew
  have hN3 : NextAt w w2.drew g s i _ := hN2.drewN 1
  generalize w2.drew = w3 at hN3 ⊢
  clear c0 c1 c2 c3 f0 hN2
  go_wp2_with fail
  refine (word_any _ _).mono ?_
  rintro r w4 ⟨rfl, hb4⟩
  have hN4 := hN3.below hb4
  have htx : Hid (textOf s i n = s.extract i m) := by show _ = _; unfold textOf; rw [HM.out]
  clear hN3 hb4
  cases hw : isWord (s.extract i m).data.toList with
  | true =>
    have t0 := hN4.tcell 0
    simp only [List.getElem?_toArray, List.getElem?_cons_zero] at t0
    obtain ⟨t0, tf0⟩ := t0
    go_wp2_with fail
    have hN5 := hN4.set hglt 0 (.int .i64 4)
    generalize w4.setCell ⟨w.heap.size + 1, 0, none⟩ (.int .i64 4) = w5 at hN5 ⊢
    clear t0 tf0 hN4
    simp only [List.setIfInBounds_toArray, List.set_cons_zero] at hN5
    obtain ⟨c0, c1, c2, c3⟩ := hN5.scan.cells
    have f0 := hN5.scan.free
    go_still_tail 16, (by kernel_rfl)
    change wpList _ _ _ _ _ w5.drew
    have hN6 : NextAt w w5.drew g s i _ := hN5.drewN 1
    generalize w5.drew = w6 at hN6 ⊢
    clear c0 c1 c2 c3 f0 hN5
    have t1 := hN6.tcell 1
    simp only [List.getElem?_toArray, List.getElem?_cons_zero, List.getElem?_cons_succ] at t1
    obtain ⟨t1, tf1⟩ := t1
    go_wp2_with fail
    have hN7 := hN6.set hglt 1 (.string (s.extract i m))
    generalize w6.setCell ⟨w.heap.size + 1, 1, none⟩ (.string (s.extract i m)) = w7 at hN7 ⊢
    clear hN6 t1 tf1
    simp only [List.setIfInBounds_toArray, List.set_cons_zero, List.set_cons_succ] at hN7
    refine (skip_any g s i n w7 hN7.scan (by omega) hs).mono ?_
    rintro r w8 ⟨rfl, hS8, hc8⟩
    have hN8 := hN7.skipped hglt hS8 hc8
    clear hN7 hS8 hc8
    have t0 := (hN8.tcell 0).1
    have t1 := (hN8.tcell 1).1
    have t2 := (hN8.tcell 2).1
    have t3 := (hN8.tcell 3).1
    have t4 := (hN8.tcell 4).1
    have r0 := hN8.rcell.1 0
    have r1 := hN8.rcell.1 1
    have r2 := hN8.rcell.1 2
    have r3 := hN8.rcell.1 3
    have r4 := hN8.rcell.1 4
    have rf := hN8.rcell.2
    simp only [List.getElem?_toArray, List.getElem?_cons_zero, List.getElem?_cons_succ] at t0 t1 t2 t3 t4 r0 r1 r2 r3 r4
    go_wp2_with fail
    obtain ⟨w9, hw9, ⟨q0, q1, q2, q3, q4⟩, hS9, hc9⟩ := hN8.wrote hglt (.int .i64 4) (.string (s.extract i m)) (.int .i64 0) (.int .i64 (place s i).1) (.int .i64 (place s i).2)
    rw [← hw9]
    refine bodyPost_ret (v := .tuple #[.agg #[.int .i64 4, .string (s.extract i m), .int .i64 0, .int .i64 (place s i).1, .int .i64 (place s i).2], .bool (decide ((n : Int) ≤ 20))]) (by simp [results, Tryd.results61, go_sem, q0, q1, q2, q3, q4]) rfl ?_
    refine ⟨?_, by rw [HNL.out]; exact hS9, hc9⟩
    rw [HNL.out, hkd.out, hnum.out, hok.out, htx.out, hw]
    simp [tokVal]
    omega
  | false =>
    have hN5 := hN4
    clear hN4
    have t0 := hN5.tcell 0
    simp only [List.getElem?_toArray, List.getElem?_cons_zero] at t0
    go_wp2_with fail
    obtain ⟨c0, c1, c2, c3⟩ := hN5.scan.cells
    have f0 := hN5.scan.free
    go_still_tail 16, (by kernel_rfl)
    change wpList _ _ _ _ _ w4.drew
    have hN6 : NextAt w w4.drew g s i _ := hN5.drewN 1
    generalize w4.drew = w6 at hN6 ⊢
    clear c0 c1 c2 c3 f0 hN5
    have t1 := hN6.tcell 1
    simp only [List.getElem?_toArray, List.getElem?_cons_zero, List.getElem?_cons_succ] at t1
    obtain ⟨t1, tf1⟩ := t1
    go_wp2_with fail
    have hN7 := hN6.set hglt 1 (.string (s.extract i m))
    generalize w6.setCell ⟨w.heap.size + 1, 1, none⟩ (.string (s.extract i m)) = w7 at hN7 ⊢
    clear hN6 t1 tf1
    simp only [List.setIfInBounds_toArray, List.set_cons_zero, List.set_cons_succ] at hN7
    refine (skip_any g s i n w7 hN7.scan (by omega) hs).mono ?_
    rintro r w8 ⟨rfl, hS8, hc8⟩
    have hN8 := hN7.skipped hglt hS8 hc8
    clear hN7 hS8 hc8
    have t0 := (hN8.tcell 0).1
    have t1 := (hN8.tcell 1).1
    have t2 := (hN8.tcell 2).1
    have t3 := (hN8.tcell 3).1
    have t4 := (hN8.tcell 4).1
    have r0 := hN8.rcell.1 0
    have r1 := hN8.rcell.1 1
    have r2 := hN8.rcell.1 2
    have r3 := hN8.rcell.1 3
    have r4 := hN8.rcell.1 4
    have rf := hN8.rcell.2
    simp only [List.getElem?_toArray, List.getElem?_cons_zero, List.getElem?_cons_succ] at t0 t1 t2 t3 t4 r0 r1 r2 r3 r4
    go_wp2_with fail
    obtain ⟨w9, hw9, ⟨q0, q1, q2, q3, q4⟩, hS9, hc9⟩ := hN8.wrote hglt (.int .i64 1) (.string (s.extract i m)) (.int .i64 0) (.int .i64 (place s i).1) (.int .i64 (place s i).2)
    rw [← hw9]
    refine bodyPost_ret (v := .tuple #[.agg #[.int .i64 1, .string (s.extract i m), .int .i64 0, .int .i64 (place s i).1, .int .i64 (place s i).2], .bool (decide ((n : Int) ≤ 20))]) (by simp [results, Tryd.results61, go_sem, q0, q1, q2, q3, q4]) rfl ?_
    refine ⟨?_, by rw [HNL.out]; exact hS9, hc9⟩
    rw [HNL.out, hkd.out, hnum.out, hok.out, htx.out, hw]
    simp [tokVal]
    omega
end Go.Proofs.YtnlikhjmmnaknaaDoor
