/-
  Texts of this claim, joined: ParX ParY ParG ParH ParI2 ParJ ParK.
-/
import Derived.Test.YtnlikhjmmnaknaaGreatDoorGP
import Derived.Deep.CutRange
/-
  The walk of the parser's prefix (printed by gen_p2.py).
-/
namespace Go.Proofs.YtnlikhjmmnaknaaGreatDoor
open Go.RowKit


set_option maxHeartbeats 4000000 in
set_option maxRecDepth 100000 in
theorem prefix_no {s : ByteArray} {l : List Tk} {P g : Nat} (hE : Ended l) {L : Int} {rec : Int → Nat → PR} {top : Int} (hp : GivesOk s l P g 105 #[.pointer (some ⟨P, 0, none⟩), .int .i64 L] (aloneN s l rec) top)
    {w : World} {k : Nat} (h : Sm s l P g w (.ok k)) (q0 : isN l k (⟨#[45]⟩ : ByteArray).data.toList = false) (q1 : isN l k (⟨#[110, 111, 116]⟩ : ByteArray).data.toList = false) (q2 : isN l k (⟨#[112, 114, 101]⟩ : ByteArray).data.toList = false) :
    Calls Tryz.prog 71 #[.pointer (some ⟨P, 0, none⟩), .int .i64 L] w fun r w' => ∃ e A c t m', r = .returned (.tuple #[e.val A c, .int .i64 t, .int .i64 10]) ∧ Got s l P g w (aloneN s l rec k) top w' e A c t m' := by
  go_enter Tryz.func71, Tryz.ntmps71
  have f_1 := PF.start h
  go_wp2_with fail
  have f_2 := f_1.alloc (.cells #[.int .i64 0, .string ⟨#[]⟩, .int .i64 0, .slice none 0 0, .int .i64 0, .int .i64 0] 41)
  have z_2 := alloc_size w (.cells #[.int .i64 0, .string ⟨#[]⟩, .int .i64 0, .slice none 0 0, .int .i64 0, .int .i64 0] 41)
  clear f_1
  generalize w.heap.size = R at *
  generalize w.alloc (.cells #[.int .i64 0, .string ⟨#[]⟩, .int .i64 0, .slice none 0 0, .int .i64 0, .int .i64 0] 41) = W2 at *
  clear z_2
  refine (now_m f_2.sm).mono ?_
  rintro r W3 ⟨i, hlt_i, hj_i, rfl, b_3⟩
  have f_3 := f_2.below b_3
  clear f_2 b_3
  obtain rfl : i = k := hj_i k rfl
  have hfd := field_at (.int .i64 (tkN l i).kind) (.string (tkN l i).text) (.int .i64 (tkN l i).num) (lnN s l i) (clN s l i)
  go_wp2_with fail
  clear hfd
  have f_4 := f_3.alloc (.cells #[.int .i64 0, .string ⟨#[]⟩, .int .i64 0, .slice none 0 0, .int .i64 (lnN s l i), .int .i64 (clN s l i)] 41)
  have z_4 := alloc_size W3 (.cells #[.int .i64 0, .string ⟨#[]⟩, .int .i64 0, .slice none 0 0, .int .i64 (lnN s l i), .int .i64 (clN s l i)] 41)
  clear f_3
  generalize W3.heap.size = E at *
  generalize W3.alloc (.cells #[.int .i64 0, .string ⟨#[]⟩, .int .i64 0, .slice none 0 0, .int .i64 (lnN s l i), .int .i64 (clN s l i)] 41) = W4 at *
  clear z_4
  refine (take_no (t := ⟨#[45]⟩) hE f_4.sm q0).mono ?_
  rintro r W5 ⟨rfl, t_5, q_5⟩
  have f_5 := f_4.turn t_5 q_5
  clear f_4 t_5 q_5
  go_wp2_with fail
  refine (take_no (t := ⟨#[110, 111, 116]⟩) hE f_5.sm q1).mono ?_
  rintro r W6 ⟨rfl, t_6, q_6⟩
  have f_6 := f_5.turn t_6 q_6
  clear f_5 t_6 q_6
  go_wp2_with fail
  refine (take_no (t := ⟨#[112, 114, 101]⟩) hE f_6.sm q2).mono ?_
  rintro r W7 ⟨rfl, t_7, q_7⟩
  have f_7 := f_6.turn t_7 q_7
  clear f_6 t_7 q_7
  go_wp2_with fail
  refine (hp _ W7 f_7.sm).mono ?_
  rintro r W8 ⟨ex, Ax, cx, tx, mx, rfl, Gx⟩
  obtain ⟨Dx, f_8⟩ := f_7.expr Gx
  obtain ⟨lowx, topx, okx, camex⟩ := Gx.facts
  clear f_7 Gx
  simp only [Ex.val_eq]
  obtain ⟨kR0, kR1, kR2, kR3, kR4, kR5, fR0, fR1, fR2, fR3, fR4, fR5⟩ := blk6 f_8.rot2.blk
  obtain ⟨kzR0, kzR1, kzR2, kzR3, kzR4, kzR5, fzR0, fzR1, fzR2, fzR3, fzR4, fzR5⟩ := blk6 (f_8.alloc (.cells #[.int .i64 ex.op, .string ex.name, .int .i64 ex.num, .slice Ax ex.k cx, .int .i64 ex.line, .int .i64 ex.col] 41)).rot3.blk
  go_wp2_with fail
  clear kR0 kR1 kR2 kR3 kR4 kR5 fR0 fR1 fR2 fR3 fR4 fR5 kzR0 kzR1 kzR2 kzR3 kzR4 kzR5 fzR0 fzR1 fzR2 fzR3 fzR4 fzR5
  have f_9 := f_8.alloc (.cells #[.int .i64 ex.op, .string ex.name, .int .i64 ex.num, .slice Ax ex.k cx, .int .i64 ex.line, .int .i64 ex.col] 41)
  have z_9 := alloc_size W8 (.cells #[.int .i64 ex.op, .string ex.name, .int .i64 ex.num, .slice Ax ex.k cx, .int .i64 ex.line, .int .i64 ex.col] 41)
  clear f_8
  generalize W8.heap.size = X at *
  generalize W8.alloc (.cells #[.int .i64 ex.op, .string ex.name, .int .i64 ex.num, .slice Ax ex.k cx, .int .i64 ex.line, .int .i64 ex.col] 41) = W9 at *
  have f_10 := Fr.set6 f_9.rot3 (.int .i64 ex.op) (.string ex.name) (.int .i64 ex.num) (.slice Ax ex.k cx) (.int .i64 ex.line) (.int .i64 ex.col)
  clear f_9
  generalize ((((((W9.setCell ⟨R, 0, none⟩ (.int .i64 ex.op)).setCell ⟨R, 1, none⟩ (.string ex.name)).setCell ⟨R, 2, none⟩ (.int .i64 ex.num)).setCell ⟨R, 3, none⟩ (.slice Ax ex.k cx)).setCell ⟨R, 4, none⟩ (.int .i64 ex.line)).setCell ⟨R, 5, none⟩ (.int .i64 ex.col)) = W10 at *
  have fin := f_10.rot2
  obtain ⟨r0, r1, r2, r3, r4, r5, -⟩ := blk6 f_10.blk
  try simp only [Exit.inBlock, Exit.then]
  exact bodyPost_ret (v := .tuple #[.agg #[.int .i64 ex.op, .string ex.name, .int .i64 ex.num, .slice Ax ex.k cx, .int .i64 ex.line, .int .i64 ex.col], .int .i64 tx, .int .i64 10]) (by simp [results, Tryz.results71, go_sem, r0, r1, r2, r3, r4, r5]) rfl ⟨ex, Ax, cx, tx, mx, rfl, ⟨fin.ex, f_10.sm, f_10.gr, lowx, topx, okx, camex.out⟩⟩

set_option maxHeartbeats 4000000 in
set_option maxRecDepth 100000 in
theorem prefix_minus {s : ByteArray} {l : List Tk} {P g : Nat} (hE : Ended l) (hK : TkOk s l) {L L1 : Int} (hL : IntKind.i64.wrap (L + 1) = L1) {rec : Int → Nat → PR} {top : Int} (ht : 0 ≤ top ∧ top ≤ 199) (hr : Gives s l P g 37 #[.pointer (some ⟨P, 0, none⟩), .int .i64 9, .int .i64 L1] (rec 9) top)
    {w : World} {k : Nat} (h : Sm s l P g w (.ok k)) (q0 : isN l k (⟨#[45]⟩ : ByteArray).data.toList = true) :
    Calls Tryz.prog 71 #[.pointer (some ⟨P, 0, none⟩), .int .i64 L] w fun r w' => ∃ e A c t m', r = .returned (.tuple #[e.val A c, .int .i64 t, .int .i64 9]) ∧ Got s l P g w ((rec 9 (k + 1)).then fun x i1 => madeN (mkEx 5 ⟨#[]⟩ 0 [x] (lnN s l k) (clN s l k)) i1) (top + 1) w' e A c t m' := by
  go_enter Tryz.func71, Tryz.ntmps71
  have f_1 := PF.start h
  go_wp2_with fail
  have f_2 := f_1.alloc (.cells #[.int .i64 0, .string ⟨#[]⟩, .int .i64 0, .slice none 0 0, .int .i64 0, .int .i64 0] 41)
  have z_2 := alloc_size w (.cells #[.int .i64 0, .string ⟨#[]⟩, .int .i64 0, .slice none 0 0, .int .i64 0, .int .i64 0] 41)
  clear f_1
  generalize w.heap.size = R at *
  generalize w.alloc (.cells #[.int .i64 0, .string ⟨#[]⟩, .int .i64 0, .slice none 0 0, .int .i64 0, .int .i64 0] 41) = W2 at *
  clear z_2
  refine (now_m f_2.sm).mono ?_
  rintro r W3 ⟨i, hlt_i, hj_i, rfl, b_3⟩
  have f_3 := f_2.below b_3
  clear f_2 b_3
  obtain rfl : i = k := hj_i k rfl
  have hfd := field_at (.int .i64 (tkN l i).kind) (.string (tkN l i).text) (.int .i64 (tkN l i).num) (lnN s l i) (clN s l i)
  go_wp2_with fail
  clear hfd
  have f_4 := f_3.alloc (.cells #[.int .i64 0, .string ⟨#[]⟩, .int .i64 0, .slice none 0 0, .int .i64 (lnN s l i), .int .i64 (clN s l i)] 41)
  have z_4 := alloc_size W3 (.cells #[.int .i64 0, .string ⟨#[]⟩, .int .i64 0, .slice none 0 0, .int .i64 (lnN s l i), .int .i64 (clN s l i)] 41)
  clear f_3
  generalize W3.heap.size = E at *
  generalize W3.alloc (.cells #[.int .i64 0, .string ⟨#[]⟩, .int .i64 0, .slice none 0 0, .int .i64 (lnN s l i), .int .i64 (clN s l i)] 41) = W4 at *
  clear z_4
  refine (take_yes (t := ⟨#[45]⟩) hE f_4.sm q0).mono ?_
  rintro r W5 ⟨rfl, t_5, q_5⟩
  have f_5 := f_4.turn t_5 q_5
  clear f_4 t_5 q_5
  obtain ⟨kE0, kE1, kE2, kE3, kE4, kE5, fE0, fE1, fE2, fE3, fE4, fE5⟩ := blk6 f_5.blk
  go_wp2_with fail
  clear kE0 kE1 kE2 kE3 kE4 kE5 fE0 fE1 fE2 fE3 fE4 fE5
  have f_6 := Fr.set (n := 0) f_5 (.int .i64 5)
  simp only [List.setIfInBounds_toArray, List.set_cons_zero] at f_6
  clear f_5
  generalize W5.setCell ⟨E, 0, none⟩ (.int .i64 5) = W6 at *
  refine (hr (.ok (i + 1)) W6 f_6.sm).mono ?_
  rintro r W7 ⟨ex, Ax, cx, tx, mx, rfl, Gx⟩
  obtain ⟨Dx, f_7⟩ := f_6.expr Gx
  obtain ⟨lowx, topx, okx, camex⟩ := Gx.facts
  clear f_6 Gx
  simp only [Ex.val_eq]
  obtain ⟨kE0, kE1, kE2, kE3, kE4, kE5, fE0, fE1, fE2, fE3, fE4, fE5⟩ := blk6 f_7.rot1.blk
  obtain ⟨kzE0, kzE1, kzE2, kzE3, kzE4, kzE5, fzE0, fzE1, fzE2, fzE3, fzE4, fzE5⟩ := blk6 ((f_7.alloc (.cells #[.int .i64 ex.op, .string ex.name, .int .i64 ex.num, .slice Ax ex.k cx, .int .i64 ex.line, .int .i64 ex.col] 41)).alloc (.cells #[.int .i64 ex.op, .string ex.name, .int .i64 ex.num, .slice Ax ex.k cx, .int .i64 ex.line, .int .i64 ex.col] 41)).rot3.blk
  go_wp2_with fail
  clear kE0 kE1 kE2 kE3 kE4 kE5 fE0 fE1 fE2 fE3 fE4 fE5 kzE0 kzE1 kzE2 kzE3 kzE4 kzE5 fzE0 fzE1 fzE2 fzE3 fzE4 fzE5
  have f_8 := f_7.alloc (.cells #[.int .i64 ex.op, .string ex.name, .int .i64 ex.num, .slice Ax ex.k cx, .int .i64 ex.line, .int .i64 ex.col] 41)
  have z_8 := alloc_size W7 (.cells #[.int .i64 ex.op, .string ex.name, .int .i64 ex.num, .slice Ax ex.k cx, .int .i64 ex.line, .int .i64 ex.col] 41)
  clear f_7
  generalize W7.heap.size = X at *
  generalize W7.alloc (.cells #[.int .i64 ex.op, .string ex.name, .int .i64 ex.num, .slice Ax ex.k cx, .int .i64 ex.line, .int .i64 ex.col] 41) = W8 at *
  have f_9 := f_8.alloc (.cells #[.int .i64 ex.op, .string ex.name, .int .i64 ex.num, .slice Ax ex.k cx, .int .i64 ex.line, .int .i64 ex.col] 41)
  have z_9 := alloc_size W8 (.cells #[.int .i64 ex.op, .string ex.name, .int .i64 ex.num, .slice Ax ex.k cx, .int .i64 ex.line, .int .i64 ex.col] 41)
  clear f_8
  generalize W8.heap.size = B at *
  generalize W8.alloc (.cells #[.int .i64 ex.op, .string ex.name, .int .i64 ex.num, .slice Ax ex.k cx, .int .i64 ex.line, .int .i64 ex.col] 41) = W9 at *
  rw [← z_8]
  clear z_8
  have f_10 := Fr.set (n := 3) f_9.rot3 (.slice (some ⟨B, 0, none⟩) 1 1)
  simp only [List.setIfInBounds_toArray, List.set_cons_zero, List.set_cons_succ] at f_10
  rw [← size_set W9 E 3 (.slice (some ⟨B, 0, none⟩) 1 1)] at z_9
  clear f_9
  generalize W9.setCell ⟨E, 3, none⟩ (.slice (some ⟨B, 0, none⟩) 1 1) = W10 at *
  have f_11 := f_10.alloc (.cells #[.int .i64 tx] 3)
  have z_11 := alloc_size W10 (.cells #[.int .i64 tx] 3)
  clear f_10
  generalize W10.heap.size = H at *
  generalize W10.alloc (.cells #[.int .i64 tx] 3) = W11 at *
  rw [← z_9]
  clear z_9
  have hI : IntsAt W11 (some ⟨H, 0, none⟩) [tx] := ints1 f_11.blk
  clear z_11
  refine (made_m f_11.sm 5 ⟨#[]⟩ 0 (some ⟨B, 0, none⟩) 1 1 (lnN s l i) (clN s l i) [tx] (some ⟨H, 0, none⟩) 1 hI (by simp; omega) (by simp [maxLen])).mono ?_
  rintro r W12 ⟨rfl, t_12, q_12⟩
  have f_12 := f_11.turn t_12 q_12
  clear f_11 t_12 q_12
  clear hI
  obtain ⟨kE0, kE1, kE2, kE3, kE4, kE5, fE0, fE1, fE2, fE3, fE4, fE5⟩ := blk6 f_12.rot1.blk
  obtain ⟨kzE0, kzE1, kzE2, kzE3, kzE4, kzE5, fzE0, fzE1, fzE2, fzE3, fzE4, fzE5⟩ := blk6 (Fr.set6 f_12.rot1 (.int .i64 5) (.string ⟨#[]⟩) (.int .i64 0) (.slice (some ⟨B, 0, none⟩) 1 1) (.int .i64 (lnN s l i)) (.int .i64 (clN s l i))).blk
  obtain ⟨kR0, kR1, kR2, kR3, kR4, kR5, fR0, fR1, fR2, fR3, fR4, fR5⟩ := blk6 f_12.rot5.blk
  obtain ⟨kzR0, kzR1, kzR2, kzR3, kzR4, kzR5, fzR0, fzR1, fzR2, fzR3, fzR4, fzR5⟩ := blk6 (Fr.set6 f_12.rot1 (.int .i64 5) (.string ⟨#[]⟩) (.int .i64 0) (.slice (some ⟨B, 0, none⟩) 1 1) (.int .i64 (lnN s l i)) (.int .i64 (clN s l i))).rot5.blk
  go_wp2_with fail
  clear kE0 kE1 kE2 kE3 kE4 kE5 fE0 fE1 fE2 fE3 fE4 fE5 kzE0 kzE1 kzE2 kzE3 kzE4 kzE5 fzE0 fzE1 fzE2 fzE3 fzE4 fzE5 kR0 kR1 kR2 kR3 kR4 kR5 fR0 fR1 fR2 fR3 fR4 fR5 kzR0 kzR1 kzR2 kzR3 kzR4 kzR5 fzR0 fzR1 fzR2 fzR3 fzR4 fzR5
  have f_13 := Fr.set6 f_12.rot1 (.int .i64 5) (.string ⟨#[]⟩) (.int .i64 0) (.slice (some ⟨B, 0, none⟩) 1 1) (.int .i64 (lnN s l i)) (.int .i64 (clN s l i))
  clear f_12
  generalize ((((((W12.setCell ⟨E, 0, none⟩ (.int .i64 5)).setCell ⟨E, 1, none⟩ (.string ⟨#[]⟩)).setCell ⟨E, 2, none⟩ (.int .i64 0)).setCell ⟨E, 3, none⟩ (.slice (some ⟨B, 0, none⟩) 1 1)).setCell ⟨E, 4, none⟩ (.int .i64 (lnN s l i))).setCell ⟨E, 5, none⟩ (.int .i64 (clN s l i))) = W13 at *
  have f_14 := Fr.set6 f_13.rot5 (.int .i64 5) (.string ⟨#[]⟩) (.int .i64 0) (.slice (some ⟨B, 0, none⟩) 1 1) (.int .i64 (lnN s l i)) (.int .i64 (clN s l i))
  clear f_13
  generalize ((((((W13.setCell ⟨R, 0, none⟩ (.int .i64 5)).setCell ⟨R, 1, none⟩ (.string ⟨#[]⟩)).setCell ⟨R, 2, none⟩ (.int .i64 0)).setCell ⟨R, 3, none⟩ (.slice (some ⟨B, 0, none⟩) 1 1)).setCell ⟨R, 4, none⟩ (.int .i64 (lnN s l i))).setCell ⟨R, 5, none⟩ (.int .i64 (clN s l i))) = W14 at *
  have fin := f_14.rot5.rot4
  have hin := fin.inn1 (op := 5) (name := ⟨#[]⟩) (n := 0) (by simp [I64]) nil_le (by simp [I64]) (hK i).1 (hK i).2.1
  have htt := topOf_in (hs := [tx]) (t := top) (by simp; omega) (by omega)
  obtain ⟨r0, r1, r2, r3, r4, r5, -⟩ := blk6 f_14.blk
  try simp only [Exit.inBlock, Exit.then]
  exact bodyPost_ret (v := .tuple #[.agg #[.int .i64 5, .string ⟨#[]⟩, .int .i64 0, .slice (some ⟨B, 0, none⟩) 1 1, .int .i64 (lnN s l i), .int .i64 (clN s l i)], .int .i64 (topOf [tx]), .int .i64 9]) (by simp [results, Tryz.results71, go_sem, r0, r1, r2, r3, r4, r5]) rfl ⟨mkEx 5 ⟨#[]⟩ 0 [ex] (lnN s l i) (clN s l i), _, _, _, _, rfl, ⟨hin, f_14.sm, f_14.gr, htt.1, htt.2, made_ok, came_made camex.out _ _ _ _⟩⟩

set_option maxHeartbeats 4000000 in
set_option maxRecDepth 100000 in
theorem prefix_not {s : ByteArray} {l : List Tk} {P g : Nat} (hE : Ended l) (hK : TkOk s l) {L L1 : Int} (hL : IntKind.i64.wrap (L + 1) = L1) {rec : Int → Nat → PR} {top : Int} (ht : 0 ≤ top ∧ top ≤ 199) (hr : Gives s l P g 37 #[.pointer (some ⟨P, 0, none⟩), .int .i64 9, .int .i64 L1] (rec 9) top)
    {w : World} {k : Nat} (h : Sm s l P g w (.ok k)) (q0 : isN l k (⟨#[45]⟩ : ByteArray).data.toList = false) (q1 : isN l k (⟨#[110, 111, 116]⟩ : ByteArray).data.toList = true) :
    Calls Tryz.prog 71 #[.pointer (some ⟨P, 0, none⟩), .int .i64 L] w fun r w' => ∃ e A c t m', r = .returned (.tuple #[e.val A c, .int .i64 t, .int .i64 9]) ∧ Got s l P g w ((rec 9 (k + 1)).then fun x i1 => madeN (mkEx 6 ⟨#[]⟩ 0 [x] (lnN s l k) (clN s l k)) i1) (top + 1) w' e A c t m' := by
  go_enter Tryz.func71, Tryz.ntmps71
  have f_1 := PF.start h
  go_wp2_with fail
  have f_2 := f_1.alloc (.cells #[.int .i64 0, .string ⟨#[]⟩, .int .i64 0, .slice none 0 0, .int .i64 0, .int .i64 0] 41)
  have z_2 := alloc_size w (.cells #[.int .i64 0, .string ⟨#[]⟩, .int .i64 0, .slice none 0 0, .int .i64 0, .int .i64 0] 41)
  clear f_1
  generalize w.heap.size = R at *
  generalize w.alloc (.cells #[.int .i64 0, .string ⟨#[]⟩, .int .i64 0, .slice none 0 0, .int .i64 0, .int .i64 0] 41) = W2 at *
  clear z_2
  refine (now_m f_2.sm).mono ?_
  rintro r W3 ⟨i, hlt_i, hj_i, rfl, b_3⟩
  have f_3 := f_2.below b_3
  clear f_2 b_3
  obtain rfl : i = k := hj_i k rfl
  have hfd := field_at (.int .i64 (tkN l i).kind) (.string (tkN l i).text) (.int .i64 (tkN l i).num) (lnN s l i) (clN s l i)
  go_wp2_with fail
  clear hfd
  have f_4 := f_3.alloc (.cells #[.int .i64 0, .string ⟨#[]⟩, .int .i64 0, .slice none 0 0, .int .i64 (lnN s l i), .int .i64 (clN s l i)] 41)
  have z_4 := alloc_size W3 (.cells #[.int .i64 0, .string ⟨#[]⟩, .int .i64 0, .slice none 0 0, .int .i64 (lnN s l i), .int .i64 (clN s l i)] 41)
  clear f_3
  generalize W3.heap.size = E at *
  generalize W3.alloc (.cells #[.int .i64 0, .string ⟨#[]⟩, .int .i64 0, .slice none 0 0, .int .i64 (lnN s l i), .int .i64 (clN s l i)] 41) = W4 at *
  clear z_4
  refine (take_no (t := ⟨#[45]⟩) hE f_4.sm q0).mono ?_
  rintro r W5 ⟨rfl, t_5, q_5⟩
  have f_5 := f_4.turn t_5 q_5
  clear f_4 t_5 q_5
  go_wp2_with fail
  refine (take_yes (t := ⟨#[110, 111, 116]⟩) hE f_5.sm q1).mono ?_
  rintro r W6 ⟨rfl, t_6, q_6⟩
  have f_6 := f_5.turn t_6 q_6
  clear f_5 t_6 q_6
  obtain ⟨kE0, kE1, kE2, kE3, kE4, kE5, fE0, fE1, fE2, fE3, fE4, fE5⟩ := blk6 f_6.blk
  go_wp2_with fail
  clear kE0 kE1 kE2 kE3 kE4 kE5 fE0 fE1 fE2 fE3 fE4 fE5
  have f_7 := Fr.set (n := 0) f_6 (.int .i64 6)
  simp only [List.setIfInBounds_toArray, List.set_cons_zero] at f_7
  clear f_6
  generalize W6.setCell ⟨E, 0, none⟩ (.int .i64 6) = W7 at *
  refine (hr (.ok (i + 1)) W7 f_7.sm).mono ?_
  rintro r W8 ⟨ex, Ax, cx, tx, mx, rfl, Gx⟩
  obtain ⟨Dx, f_8⟩ := f_7.expr Gx
  obtain ⟨lowx, topx, okx, camex⟩ := Gx.facts
  clear f_7 Gx
  simp only [Ex.val_eq]
  obtain ⟨kE0, kE1, kE2, kE3, kE4, kE5, fE0, fE1, fE2, fE3, fE4, fE5⟩ := blk6 f_8.rot1.blk
  obtain ⟨kzE0, kzE1, kzE2, kzE3, kzE4, kzE5, fzE0, fzE1, fzE2, fzE3, fzE4, fzE5⟩ := blk6 ((f_8.alloc (.cells #[.int .i64 ex.op, .string ex.name, .int .i64 ex.num, .slice Ax ex.k cx, .int .i64 ex.line, .int .i64 ex.col] 41)).alloc (.cells #[.int .i64 ex.op, .string ex.name, .int .i64 ex.num, .slice Ax ex.k cx, .int .i64 ex.line, .int .i64 ex.col] 41)).rot3.blk
  go_wp2_with fail
  clear kE0 kE1 kE2 kE3 kE4 kE5 fE0 fE1 fE2 fE3 fE4 fE5 kzE0 kzE1 kzE2 kzE3 kzE4 kzE5 fzE0 fzE1 fzE2 fzE3 fzE4 fzE5
  have f_9 := f_8.alloc (.cells #[.int .i64 ex.op, .string ex.name, .int .i64 ex.num, .slice Ax ex.k cx, .int .i64 ex.line, .int .i64 ex.col] 41)
  have z_9 := alloc_size W8 (.cells #[.int .i64 ex.op, .string ex.name, .int .i64 ex.num, .slice Ax ex.k cx, .int .i64 ex.line, .int .i64 ex.col] 41)
  clear f_8
  generalize W8.heap.size = X at *
  generalize W8.alloc (.cells #[.int .i64 ex.op, .string ex.name, .int .i64 ex.num, .slice Ax ex.k cx, .int .i64 ex.line, .int .i64 ex.col] 41) = W9 at *
  have f_10 := f_9.alloc (.cells #[.int .i64 ex.op, .string ex.name, .int .i64 ex.num, .slice Ax ex.k cx, .int .i64 ex.line, .int .i64 ex.col] 41)
  have z_10 := alloc_size W9 (.cells #[.int .i64 ex.op, .string ex.name, .int .i64 ex.num, .slice Ax ex.k cx, .int .i64 ex.line, .int .i64 ex.col] 41)
  clear f_9
  generalize W9.heap.size = B at *
  generalize W9.alloc (.cells #[.int .i64 ex.op, .string ex.name, .int .i64 ex.num, .slice Ax ex.k cx, .int .i64 ex.line, .int .i64 ex.col] 41) = W10 at *
  rw [← z_9]
  clear z_9
  have f_11 := Fr.set (n := 3) f_10.rot3 (.slice (some ⟨B, 0, none⟩) 1 1)
  simp only [List.setIfInBounds_toArray, List.set_cons_zero, List.set_cons_succ] at f_11
  rw [← size_set W10 E 3 (.slice (some ⟨B, 0, none⟩) 1 1)] at z_10
  clear f_10
  generalize W10.setCell ⟨E, 3, none⟩ (.slice (some ⟨B, 0, none⟩) 1 1) = W11 at *
  have f_12 := f_11.alloc (.cells #[.int .i64 tx] 3)
  have z_12 := alloc_size W11 (.cells #[.int .i64 tx] 3)
  clear f_11
  generalize W11.heap.size = H at *
  generalize W11.alloc (.cells #[.int .i64 tx] 3) = W12 at *
  rw [← z_10]
  clear z_10
  have hI : IntsAt W12 (some ⟨H, 0, none⟩) [tx] := ints1 f_12.blk
  clear z_12
  refine (made_m f_12.sm 6 ⟨#[]⟩ 0 (some ⟨B, 0, none⟩) 1 1 (lnN s l i) (clN s l i) [tx] (some ⟨H, 0, none⟩) 1 hI (by simp; omega) (by simp [maxLen])).mono ?_
  rintro r W13 ⟨rfl, t_13, q_13⟩
  have f_13 := f_12.turn t_13 q_13
  clear f_12 t_13 q_13
  clear hI
  obtain ⟨kE0, kE1, kE2, kE3, kE4, kE5, fE0, fE1, fE2, fE3, fE4, fE5⟩ := blk6 f_13.rot1.blk
  obtain ⟨kzE0, kzE1, kzE2, kzE3, kzE4, kzE5, fzE0, fzE1, fzE2, fzE3, fzE4, fzE5⟩ := blk6 (Fr.set6 f_13.rot1 (.int .i64 6) (.string ⟨#[]⟩) (.int .i64 0) (.slice (some ⟨B, 0, none⟩) 1 1) (.int .i64 (lnN s l i)) (.int .i64 (clN s l i))).blk
  obtain ⟨kR0, kR1, kR2, kR3, kR4, kR5, fR0, fR1, fR2, fR3, fR4, fR5⟩ := blk6 f_13.rot5.blk
  obtain ⟨kzR0, kzR1, kzR2, kzR3, kzR4, kzR5, fzR0, fzR1, fzR2, fzR3, fzR4, fzR5⟩ := blk6 (Fr.set6 f_13.rot1 (.int .i64 6) (.string ⟨#[]⟩) (.int .i64 0) (.slice (some ⟨B, 0, none⟩) 1 1) (.int .i64 (lnN s l i)) (.int .i64 (clN s l i))).rot5.blk
  go_wp2_with fail
  clear kE0 kE1 kE2 kE3 kE4 kE5 fE0 fE1 fE2 fE3 fE4 fE5 kzE0 kzE1 kzE2 kzE3 kzE4 kzE5 fzE0 fzE1 fzE2 fzE3 fzE4 fzE5 kR0 kR1 kR2 kR3 kR4 kR5 fR0 fR1 fR2 fR3 fR4 fR5 kzR0 kzR1 kzR2 kzR3 kzR4 kzR5 fzR0 fzR1 fzR2 fzR3 fzR4 fzR5
  have f_14 := Fr.set6 f_13.rot1 (.int .i64 6) (.string ⟨#[]⟩) (.int .i64 0) (.slice (some ⟨B, 0, none⟩) 1 1) (.int .i64 (lnN s l i)) (.int .i64 (clN s l i))
  clear f_13
  generalize ((((((W13.setCell ⟨E, 0, none⟩ (.int .i64 6)).setCell ⟨E, 1, none⟩ (.string ⟨#[]⟩)).setCell ⟨E, 2, none⟩ (.int .i64 0)).setCell ⟨E, 3, none⟩ (.slice (some ⟨B, 0, none⟩) 1 1)).setCell ⟨E, 4, none⟩ (.int .i64 (lnN s l i))).setCell ⟨E, 5, none⟩ (.int .i64 (clN s l i))) = W14 at *
  have f_15 := Fr.set6 f_14.rot5 (.int .i64 6) (.string ⟨#[]⟩) (.int .i64 0) (.slice (some ⟨B, 0, none⟩) 1 1) (.int .i64 (lnN s l i)) (.int .i64 (clN s l i))
  clear f_14
  generalize ((((((W14.setCell ⟨R, 0, none⟩ (.int .i64 6)).setCell ⟨R, 1, none⟩ (.string ⟨#[]⟩)).setCell ⟨R, 2, none⟩ (.int .i64 0)).setCell ⟨R, 3, none⟩ (.slice (some ⟨B, 0, none⟩) 1 1)).setCell ⟨R, 4, none⟩ (.int .i64 (lnN s l i))).setCell ⟨R, 5, none⟩ (.int .i64 (clN s l i))) = W15 at *
  have fin := f_15.rot5.rot4
  have hin := fin.inn1 (op := 6) (name := ⟨#[]⟩) (n := 0) (by simp [I64]) nil_le (by simp [I64]) (hK i).1 (hK i).2.1
  have htt := topOf_in (hs := [tx]) (t := top) (by simp; omega) (by omega)
  obtain ⟨r0, r1, r2, r3, r4, r5, -⟩ := blk6 f_15.blk
  try simp only [Exit.inBlock, Exit.then]
  exact bodyPost_ret (v := .tuple #[.agg #[.int .i64 6, .string ⟨#[]⟩, .int .i64 0, .slice (some ⟨B, 0, none⟩) 1 1, .int .i64 (lnN s l i), .int .i64 (clN s l i)], .int .i64 (topOf [tx]), .int .i64 9]) (by simp [results, Tryz.results71, go_sem, r0, r1, r2, r3, r4, r5]) rfl ⟨mkEx 6 ⟨#[]⟩ 0 [ex] (lnN s l i) (clN s l i), _, _, _, _, rfl, ⟨hin, f_15.sm, f_15.gr, htt.1, htt.2, made_ok, came_made camex.out _ _ _ _⟩⟩

set_option maxHeartbeats 4000000 in
set_option maxRecDepth 100000 in
theorem prefix_pre {s : ByteArray} {l : List Tk} {P g : Nat} (hE : Ended l) (hK : TkOk s l) {L L1 : Int} (hL : IntKind.i64.wrap (L + 1) = L1) {rec : Int → Nat → PR} {top : Int} (ht : 0 ≤ top ∧ top ≤ 199) (hr : Gives s l P g 37 #[.pointer (some ⟨P, 0, none⟩), .int .i64 9, .int .i64 L1] (rec 9) top)
    {w : World} {k : Nat} (h : Sm s l P g w (.ok k)) (q0 : isN l k (⟨#[45]⟩ : ByteArray).data.toList = false) (q1 : isN l k (⟨#[110, 111, 116]⟩ : ByteArray).data.toList = false) (q2 : isN l k (⟨#[112, 114, 101]⟩ : ByteArray).data.toList = true) :
    Calls Tryz.prog 71 #[.pointer (some ⟨P, 0, none⟩), .int .i64 L] w fun r w' => ∃ e A c t m', r = .returned (.tuple #[e.val A c, .int .i64 t, .int .i64 9]) ∧ Got s l P g w ((rec 9 (k + 1)).then fun x i1 => madeN (mkEx 21 ⟨#[]⟩ 0 [x] (lnN s l k) (clN s l k)) i1) (top + 1) w' e A c t m' := by
  go_enter Tryz.func71, Tryz.ntmps71
  have f_1 := PF.start h
  go_wp2_with fail
  have f_2 := f_1.alloc (.cells #[.int .i64 0, .string ⟨#[]⟩, .int .i64 0, .slice none 0 0, .int .i64 0, .int .i64 0] 41)
  have z_2 := alloc_size w (.cells #[.int .i64 0, .string ⟨#[]⟩, .int .i64 0, .slice none 0 0, .int .i64 0, .int .i64 0] 41)
  clear f_1
  generalize w.heap.size = R at *
  generalize w.alloc (.cells #[.int .i64 0, .string ⟨#[]⟩, .int .i64 0, .slice none 0 0, .int .i64 0, .int .i64 0] 41) = W2 at *
  clear z_2
  refine (now_m f_2.sm).mono ?_
  rintro r W3 ⟨i, hlt_i, hj_i, rfl, b_3⟩
  have f_3 := f_2.below b_3
  clear f_2 b_3
  obtain rfl : i = k := hj_i k rfl
  have hfd := field_at (.int .i64 (tkN l i).kind) (.string (tkN l i).text) (.int .i64 (tkN l i).num) (lnN s l i) (clN s l i)
  go_wp2_with fail
  clear hfd
  have f_4 := f_3.alloc (.cells #[.int .i64 0, .string ⟨#[]⟩, .int .i64 0, .slice none 0 0, .int .i64 (lnN s l i), .int .i64 (clN s l i)] 41)
  have z_4 := alloc_size W3 (.cells #[.int .i64 0, .string ⟨#[]⟩, .int .i64 0, .slice none 0 0, .int .i64 (lnN s l i), .int .i64 (clN s l i)] 41)
  clear f_3
  generalize W3.heap.size = E at *
  generalize W3.alloc (.cells #[.int .i64 0, .string ⟨#[]⟩, .int .i64 0, .slice none 0 0, .int .i64 (lnN s l i), .int .i64 (clN s l i)] 41) = W4 at *
  clear z_4
  refine (take_no (t := ⟨#[45]⟩) hE f_4.sm q0).mono ?_
  rintro r W5 ⟨rfl, t_5, q_5⟩
  have f_5 := f_4.turn t_5 q_5
  clear f_4 t_5 q_5
  go_wp2_with fail
  refine (take_no (t := ⟨#[110, 111, 116]⟩) hE f_5.sm q1).mono ?_
  rintro r W6 ⟨rfl, t_6, q_6⟩
  have f_6 := f_5.turn t_6 q_6
  clear f_5 t_6 q_6
  go_wp2_with fail
  refine (take_yes (t := ⟨#[112, 114, 101]⟩) hE f_6.sm q2).mono ?_
  rintro r W7 ⟨rfl, t_7, q_7⟩
  have f_7 := f_6.turn t_7 q_7
  clear f_6 t_7 q_7
  obtain ⟨kE0, kE1, kE2, kE3, kE4, kE5, fE0, fE1, fE2, fE3, fE4, fE5⟩ := blk6 f_7.blk
  go_wp2_with fail
  clear kE0 kE1 kE2 kE3 kE4 kE5 fE0 fE1 fE2 fE3 fE4 fE5
  have f_8 := Fr.set (n := 0) f_7 (.int .i64 21)
  simp only [List.setIfInBounds_toArray, List.set_cons_zero] at f_8
  clear f_7
  generalize W7.setCell ⟨E, 0, none⟩ (.int .i64 21) = W8 at *
  refine (hr (.ok (i + 1)) W8 f_8.sm).mono ?_
  rintro r W9 ⟨ex, Ax, cx, tx, mx, rfl, Gx⟩
  obtain ⟨Dx, f_9⟩ := f_8.expr Gx
  obtain ⟨lowx, topx, okx, camex⟩ := Gx.facts
  clear f_8 Gx
  simp only [Ex.val_eq]
  obtain ⟨kE0, kE1, kE2, kE3, kE4, kE5, fE0, fE1, fE2, fE3, fE4, fE5⟩ := blk6 f_9.rot1.blk
  obtain ⟨kzE0, kzE1, kzE2, kzE3, kzE4, kzE5, fzE0, fzE1, fzE2, fzE3, fzE4, fzE5⟩ := blk6 ((f_9.alloc (.cells #[.int .i64 ex.op, .string ex.name, .int .i64 ex.num, .slice Ax ex.k cx, .int .i64 ex.line, .int .i64 ex.col] 41)).alloc (.cells #[.int .i64 ex.op, .string ex.name, .int .i64 ex.num, .slice Ax ex.k cx, .int .i64 ex.line, .int .i64 ex.col] 41)).rot3.blk
  go_wp2_with fail
  clear kE0 kE1 kE2 kE3 kE4 kE5 fE0 fE1 fE2 fE3 fE4 fE5 kzE0 kzE1 kzE2 kzE3 kzE4 kzE5 fzE0 fzE1 fzE2 fzE3 fzE4 fzE5
  have f_10 := f_9.alloc (.cells #[.int .i64 ex.op, .string ex.name, .int .i64 ex.num, .slice Ax ex.k cx, .int .i64 ex.line, .int .i64 ex.col] 41)
  have z_10 := alloc_size W9 (.cells #[.int .i64 ex.op, .string ex.name, .int .i64 ex.num, .slice Ax ex.k cx, .int .i64 ex.line, .int .i64 ex.col] 41)
  clear f_9
  generalize W9.heap.size = X at *
  generalize W9.alloc (.cells #[.int .i64 ex.op, .string ex.name, .int .i64 ex.num, .slice Ax ex.k cx, .int .i64 ex.line, .int .i64 ex.col] 41) = W10 at *
  have f_11 := f_10.alloc (.cells #[.int .i64 ex.op, .string ex.name, .int .i64 ex.num, .slice Ax ex.k cx, .int .i64 ex.line, .int .i64 ex.col] 41)
  have z_11 := alloc_size W10 (.cells #[.int .i64 ex.op, .string ex.name, .int .i64 ex.num, .slice Ax ex.k cx, .int .i64 ex.line, .int .i64 ex.col] 41)
  clear f_10
  generalize W10.heap.size = B at *
  generalize W10.alloc (.cells #[.int .i64 ex.op, .string ex.name, .int .i64 ex.num, .slice Ax ex.k cx, .int .i64 ex.line, .int .i64 ex.col] 41) = W11 at *
  rw [← z_10]
  clear z_10
  have f_12 := Fr.set (n := 3) f_11.rot3 (.slice (some ⟨B, 0, none⟩) 1 1)
  simp only [List.setIfInBounds_toArray, List.set_cons_zero, List.set_cons_succ] at f_12
  rw [← size_set W11 E 3 (.slice (some ⟨B, 0, none⟩) 1 1)] at z_11
  clear f_11
  generalize W11.setCell ⟨E, 3, none⟩ (.slice (some ⟨B, 0, none⟩) 1 1) = W12 at *
  have f_13 := f_12.alloc (.cells #[.int .i64 tx] 3)
  have z_13 := alloc_size W12 (.cells #[.int .i64 tx] 3)
  clear f_12
  generalize W12.heap.size = H at *
  generalize W12.alloc (.cells #[.int .i64 tx] 3) = W13 at *
  rw [← z_11]
  clear z_11
  have hI : IntsAt W13 (some ⟨H, 0, none⟩) [tx] := ints1 f_13.blk
  clear z_13
  refine (made_m f_13.sm 21 ⟨#[]⟩ 0 (some ⟨B, 0, none⟩) 1 1 (lnN s l i) (clN s l i) [tx] (some ⟨H, 0, none⟩) 1 hI (by simp; omega) (by simp [maxLen])).mono ?_
  rintro r W14 ⟨rfl, t_14, q_14⟩
  have f_14 := f_13.turn t_14 q_14
  clear f_13 t_14 q_14
  clear hI
  obtain ⟨kE0, kE1, kE2, kE3, kE4, kE5, fE0, fE1, fE2, fE3, fE4, fE5⟩ := blk6 f_14.rot1.blk
  obtain ⟨kzE0, kzE1, kzE2, kzE3, kzE4, kzE5, fzE0, fzE1, fzE2, fzE3, fzE4, fzE5⟩ := blk6 (Fr.set6 f_14.rot1 (.int .i64 21) (.string ⟨#[]⟩) (.int .i64 0) (.slice (some ⟨B, 0, none⟩) 1 1) (.int .i64 (lnN s l i)) (.int .i64 (clN s l i))).blk
  obtain ⟨kR0, kR1, kR2, kR3, kR4, kR5, fR0, fR1, fR2, fR3, fR4, fR5⟩ := blk6 f_14.rot5.blk
  obtain ⟨kzR0, kzR1, kzR2, kzR3, kzR4, kzR5, fzR0, fzR1, fzR2, fzR3, fzR4, fzR5⟩ := blk6 (Fr.set6 f_14.rot1 (.int .i64 21) (.string ⟨#[]⟩) (.int .i64 0) (.slice (some ⟨B, 0, none⟩) 1 1) (.int .i64 (lnN s l i)) (.int .i64 (clN s l i))).rot5.blk
  go_wp2_with fail
  clear kE0 kE1 kE2 kE3 kE4 kE5 fE0 fE1 fE2 fE3 fE4 fE5 kzE0 kzE1 kzE2 kzE3 kzE4 kzE5 fzE0 fzE1 fzE2 fzE3 fzE4 fzE5 kR0 kR1 kR2 kR3 kR4 kR5 fR0 fR1 fR2 fR3 fR4 fR5 kzR0 kzR1 kzR2 kzR3 kzR4 kzR5 fzR0 fzR1 fzR2 fzR3 fzR4 fzR5
  have f_15 := Fr.set6 f_14.rot1 (.int .i64 21) (.string ⟨#[]⟩) (.int .i64 0) (.slice (some ⟨B, 0, none⟩) 1 1) (.int .i64 (lnN s l i)) (.int .i64 (clN s l i))
  clear f_14
  generalize ((((((W14.setCell ⟨E, 0, none⟩ (.int .i64 21)).setCell ⟨E, 1, none⟩ (.string ⟨#[]⟩)).setCell ⟨E, 2, none⟩ (.int .i64 0)).setCell ⟨E, 3, none⟩ (.slice (some ⟨B, 0, none⟩) 1 1)).setCell ⟨E, 4, none⟩ (.int .i64 (lnN s l i))).setCell ⟨E, 5, none⟩ (.int .i64 (clN s l i))) = W15 at *
  have f_16 := Fr.set6 f_15.rot5 (.int .i64 21) (.string ⟨#[]⟩) (.int .i64 0) (.slice (some ⟨B, 0, none⟩) 1 1) (.int .i64 (lnN s l i)) (.int .i64 (clN s l i))
  clear f_15
  generalize ((((((W15.setCell ⟨R, 0, none⟩ (.int .i64 21)).setCell ⟨R, 1, none⟩ (.string ⟨#[]⟩)).setCell ⟨R, 2, none⟩ (.int .i64 0)).setCell ⟨R, 3, none⟩ (.slice (some ⟨B, 0, none⟩) 1 1)).setCell ⟨R, 4, none⟩ (.int .i64 (lnN s l i))).setCell ⟨R, 5, none⟩ (.int .i64 (clN s l i))) = W16 at *
  have fin := f_16.rot5.rot4
  have hin := fin.inn1 (op := 21) (name := ⟨#[]⟩) (n := 0) (by simp [I64]) nil_le (by simp [I64]) (hK i).1 (hK i).2.1
  have htt := topOf_in (hs := [tx]) (t := top) (by simp; omega) (by omega)
  obtain ⟨r0, r1, r2, r3, r4, r5, -⟩ := blk6 f_16.blk
  try simp only [Exit.inBlock, Exit.then]
  exact bodyPost_ret (v := .tuple #[.agg #[.int .i64 21, .string ⟨#[]⟩, .int .i64 0, .slice (some ⟨B, 0, none⟩) 1 1, .int .i64 (lnN s l i), .int .i64 (clN s l i)], .int .i64 (topOf [tx]), .int .i64 9]) (by simp [results, Tryz.results71, go_sem, r0, r1, r2, r3, r4, r5]) rfl ⟨mkEx 21 ⟨#[]⟩ 0 [ex] (lnN s l i) (clN s l i), _, _, _, _, rfl, ⟨hin, f_16.sm, f_16.gr, htt.1, htt.2, made_ok, came_made camex.out _ _ _ _⟩⟩
end Go.Proofs.YtnlikhjmmnaknaaGreatDoor
/-
  The walk of the parser's primary (printed by gen_p2.py).
-/
namespace Go.Proofs.YtnlikhjmmnaknaaGreatDoor
open Go.RowKit


set_option maxHeartbeats 4000000 in
set_option maxRecDepth 100000 in
theorem prim_int {s : ByteArray} {l : List Tk} {P g : Nat} (hE : Ended l) (hK : TkOk s l) {L : Int} {rec : Int → Nat → PR} {top : Int} (ht : 30 ≤ top ∧ top ≤ 199)
    {w : World} {k : Nat} (h : Sm s l P g w (.ok k)) (hk : (tkN l k).kind = 2) :
    Calls Tryz.prog 105 #[.pointer (some ⟨P, 0, none⟩), .int .i64 L] w fun r w' => ∃ e A c t m', r = .returned (.tuple #[e.val A c, .int .i64 t]) ∧ Got s l P g w (aloneN s l rec k) (top + 1) w' e A c t m' := by
  go_enter Tryz.func105, Tryz.ntmps105
  have f_1 := PF.start h
  go_wp2_with fail
  have f_2 := f_1.alloc (.cells #[.int .i64 0, .string ⟨#[]⟩, .int .i64 0, .slice none 0 0, .int .i64 0, .int .i64 0] 41)
  have z_2 := alloc_size w (.cells #[.int .i64 0, .string ⟨#[]⟩, .int .i64 0, .slice none 0 0, .int .i64 0, .int .i64 0] 41)
  clear f_1
  generalize w.heap.size = R at *
  generalize w.alloc (.cells #[.int .i64 0, .string ⟨#[]⟩, .int .i64 0, .slice none 0 0, .int .i64 0, .int .i64 0] 41) = W2 at *
  clear z_2
  refine (now_m f_2.sm).mono ?_
  rintro r W3 ⟨i, hlt_i, hj_i, rfl, b_3⟩
  have f_3 := f_2.below b_3
  clear f_2 b_3
  obtain rfl : i = k := hj_i k rfl
  have hk2 : ((tkN l i).kind == 2) = true := by simp [hk]
  have hlt1 := hE i hlt_i (by omega)
  have hkH := hid hk
  clear hk
  go_upto_region 2 with fail
  have f_4 := f_3.alloc (.cells #[.int .i64 (tkN l i).kind, .string (tkN l i).text, .int .i64 (tkN l i).num, .int .i64 (lnN s l i), .int .i64 (clN s l i)] 56)
  have z_4 := alloc_size W3 (.cells #[.int .i64 (tkN l i).kind, .string (tkN l i).text, .int .i64 (tkN l i).num, .int .i64 (lnN s l i), .int .i64 (clN s l i)] 56)
  clear f_3
  generalize W3.heap.size = T at *
  generalize W3.alloc (.cells #[.int .i64 (tkN l i).kind, .string (tkN l i).text, .int .i64 (tkN l i).num, .int .i64 (lnN s l i), .int .i64 (clN s l i)] 56) = W4 at *
  obtain ⟨kT0, kT1, kT2, kT3, kT4, fT0, fT1, fT2, fT3, fT4⟩ := blk5 f_4.blk
  go_upto_region 8 with fail
  clear kT0 kT1 kT2 kT3 kT4 fT0 fT1 fT2 fT3 fT4
  have f_5 := f_4.alloc (.cells #[.int .i64 0, .string ⟨#[]⟩, .int .i64 0, .slice none 0 0, .int .i64 (lnN s l i), .int .i64 (clN s l i)] 41)
  have z_5 := alloc_size W4 (.cells #[.int .i64 0, .string ⟨#[]⟩, .int .i64 0, .slice none 0 0, .int .i64 (lnN s l i), .int .i64 (clN s l i)] 41)
  clear f_4
  generalize W4.heap.size = E at *
  generalize W4.alloc (.cells #[.int .i64 0, .string ⟨#[]⟩, .int .i64 0, .slice none 0 0, .int .i64 (lnN s l i), .int .i64 (clN s l i)] 41) = W5 at *
  rw [← z_4]
  clear z_4
  obtain ⟨p1, p1f, i1, hi1, hwr⟩ := f_5.at1
  go_upto_region 9 with fail
  clear p1 p1f hwr
  clear z_5
  have f_6 := f_5.up (j := i1) (by subst hi1; exact hlt1)
  clear f_5
  generalize W5.setCell ⟨P, 1, none⟩ (.int .i64 (i1 : Int)) = W6 at *
  obtain ⟨kT0, kT1, kT2, kT3, kT4, fT0, fT1, fT2, fT3, fT4⟩ := blk5 f_6.rot1.blk
  obtain ⟨kE0, kE1, kE2, kE3, kE4, kE5, fE0, fE1, fE2, fE3, fE4, fE5⟩ := blk6 f_6.blk
  go_region
  go_wp2_with fail
  clear kT0 kT1 kT2 kT3 kT4 fT0 fT1 fT2 fT3 fT4 kE0 kE1 kE2 kE3 kE4 kE5 fE0 fE1 fE2 fE3 fE4 fE5
  have f_7 := Fr.set (n := 0) f_6 (.int .i64 1)
  simp only [List.setIfInBounds_toArray, List.set_cons_zero] at f_7
  clear f_6
  generalize W6.setCell ⟨E, 0, none⟩ (.int .i64 1) = W7 at *
  have f_8 := Fr.set (n := 2) f_7 (.int .i64 (tkN l i).num)
  simp only [List.setIfInBounds_toArray, List.set_cons_zero, List.set_cons_succ] at f_8
  clear f_7
  generalize W7.setCell ⟨E, 2, none⟩ (.int .i64 (tkN l i).num) = W8 at *
  have f_9 := f_8.drew
  clear f_8
  generalize W8.drew = W9 at *
  refine (made_m f_9.sm 1 ⟨#[]⟩ (tkN l i).num none 0 0 (lnN s l i) (clN s l i) [] none 0 (ints0 _) (by simp) (by simp)).mono ?_
  rintro r W10 ⟨rfl, t_10, q_10⟩
  have f_10 := f_9.turn t_10 q_10
  clear f_9 t_10 q_10
  obtain ⟨kR0, kR1, kR2, kR3, kR4, kR5, fR0, fR1, fR2, fR3, fR4, fR5⟩ := blk6 f_10.rot2.blk
  go_wp2_with fail
  clear kR0 kR1 kR2 kR3 kR4 kR5 fR0 fR1 fR2 fR3 fR4 fR5
  have f_11 := Fr.set6 f_10.rot2 (.int .i64 1) (.string ⟨#[]⟩) (.int .i64 (tkN l i).num) (.slice none 0 0) (.int .i64 (lnN s l i)) (.int .i64 (clN s l i))
  clear f_10
  generalize ((((((W10.setCell ⟨R, 0, none⟩ (.int .i64 1)).setCell ⟨R, 1, none⟩ (.string ⟨#[]⟩)).setCell ⟨R, 2, none⟩ (.int .i64 (tkN l i).num)).setCell ⟨R, 3, none⟩ (.slice none 0 0)).setCell ⟨R, 4, none⟩ (.int .i64 (lnN s l i))).setCell ⟨R, 5, none⟩ (.int .i64 (clN s l i))) = W11 at *
  obtain ⟨r0, r1, r2, r3, r4, r5, -⟩ := blk6 f_11.blk
  try simp only [Exit.inBlock, Exit.then]
  refine bodyPost_ret (v := .tuple #[.agg #[.int .i64 1, .string ⟨#[]⟩, .int .i64 (tkN l i).num, .slice none 0 0, .int .i64 (lnN s l i), .int .i64 (clN s l i)], .int .i64 (topOf [])]) (by simp [results, Tryz.results105, go_sem, r0, r1, r2, r3, r4, r5]) rfl ⟨mkEx 1 ⟨#[]⟩ (tkN l i).num [] (lnN s l i) (clN s l i), none, 0, _, _, rfl, ⟨ExIn.lit (by simp [I64]) nil_le (hK i).2.2.2 (hK i).1 (hK i).2.1, f_11.sm, f_11.gr, by decide, by show (1 : Int) ≤ _; omega, made_ok, ?_⟩⟩
  rw [alone_int hkH.out, top_nil]
  exact ⟨by rw [hi1], rfl, rfl⟩

set_option maxHeartbeats 4000000 in
set_option maxRecDepth 100000 in
theorem prim_true {s : ByteArray} {l : List Tk} {P g : Nat} (hE : Ended l) (hK : TkOk s l) {L : Int} {rec : Int → Nat → PR} {top : Int} (ht : 30 ≤ top ∧ top ≤ 199)
    {w : World} {k : Nat} (h : Sm s l P g w (.ok k)) (q1 : isN l k wTrue = true) :
    Calls Tryz.prog 105 #[.pointer (some ⟨P, 0, none⟩), .int .i64 L] w fun r w' => ∃ e A c t m', r = .returned (.tuple #[e.val A c, .int .i64 t]) ∧ Got s l P g w (aloneN s l rec k) (top + 1) w' e A c t m' := by
  go_enter Tryz.func105, Tryz.ntmps105
  have f_1 := PF.start h
  go_wp2_with fail
  have f_2 := f_1.alloc (.cells #[.int .i64 0, .string ⟨#[]⟩, .int .i64 0, .slice none 0 0, .int .i64 0, .int .i64 0] 41)
  have z_2 := alloc_size w (.cells #[.int .i64 0, .string ⟨#[]⟩, .int .i64 0, .slice none 0 0, .int .i64 0, .int .i64 0] 41)
  clear f_1
  generalize w.heap.size = R at *
  generalize w.alloc (.cells #[.int .i64 0, .string ⟨#[]⟩, .int .i64 0, .slice none 0 0, .int .i64 0, .int .i64 0] 41) = W2 at *
  clear z_2
  refine (now_m f_2.sm).mono ?_
  rintro r W3 ⟨i, hlt_i, hj_i, rfl, b_3⟩
  have f_3 := f_2.below b_3
  clear f_2 b_3
  obtain rfl : i = k := hj_i k rfl
  have hk2 : ((tkN l i).kind == 2) = false := by simp only [beq_eq_false_iff_ne]; exact (isN_kind q1).1
  go_upto_region 2 with fail
  have f_4 := f_3.alloc (.cells #[.int .i64 (tkN l i).kind, .string (tkN l i).text, .int .i64 (tkN l i).num, .int .i64 (lnN s l i), .int .i64 (clN s l i)] 56)
  have z_4 := alloc_size W3 (.cells #[.int .i64 (tkN l i).kind, .string (tkN l i).text, .int .i64 (tkN l i).num, .int .i64 (lnN s l i), .int .i64 (clN s l i)] 56)
  clear f_3
  generalize W3.heap.size = T at *
  generalize W3.alloc (.cells #[.int .i64 (tkN l i).kind, .string (tkN l i).text, .int .i64 (tkN l i).num, .int .i64 (lnN s l i), .int .i64 (clN s l i)] 56) = W4 at *
  obtain ⟨kT0, kT1, kT2, kT3, kT4, fT0, fT1, fT2, fT3, fT4⟩ := blk5 f_4.blk
  go_upto_region 7 with fail
  clear kT0 kT1 kT2 kT3 kT4 fT0 fT1 fT2 fT3 fT4
  have f_5 := f_4.alloc (.cells #[.int .i64 0, .string ⟨#[]⟩, .int .i64 0, .slice none 0 0, .int .i64 (lnN s l i), .int .i64 (clN s l i)] 41)
  have z_5 := alloc_size W4 (.cells #[.int .i64 0, .string ⟨#[]⟩, .int .i64 0, .slice none 0 0, .int .i64 (lnN s l i), .int .i64 (clN s l i)] 41)
  clear f_4
  generalize W4.heap.size = E at *
  generalize W4.alloc (.cells #[.int .i64 0, .string ⟨#[]⟩, .int .i64 0, .slice none 0 0, .int .i64 (lnN s l i), .int .i64 (clN s l i)] 41) = W5 at *
  rw [← z_4]
  clear z_4
  obtain ⟨kT0, kT1, kT2, kT3, kT4, fT0, fT1, fT2, fT3, fT4⟩ := blk5 f_5.rot1.blk
  go_wp2_with fail
  clear kT0 kT1 kT2 kT3 kT4 fT0 fT1 fT2 fT3 fT4 hk2
  clear z_5
  refine (take_yes (t := ⟨#[116, 114, 117, 101]⟩) hE f_5.sm q1).mono ?_
  rintro r W6 ⟨rfl, t_6, q_6⟩
  have f_6 := f_5.turn t_6 q_6
  clear f_5 t_6 q_6
  obtain ⟨kE0, kE1, kE2, kE3, kE4, kE5, fE0, fE1, fE2, fE3, fE4, fE5⟩ := blk6 f_6.blk
  go_upto_region 23 with fail
  clear kE0 kE1 kE2 kE3 kE4 kE5 fE0 fE1 fE2 fE3 fE4 fE5
  have f_7 := Fr.set (n := 0) f_6 (.int .i64 2)
  simp only [List.setIfInBounds_toArray, List.set_cons_zero] at f_7
  clear f_6
  generalize W6.setCell ⟨E, 0, none⟩ (.int .i64 2) = W7 at *
  have f_8 := Fr.set (n := 2) f_7 (.int .i64 1)
  simp only [List.setIfInBounds_toArray, List.set_cons_zero, List.set_cons_succ] at f_8
  clear f_7
  generalize W7.setCell ⟨E, 2, none⟩ (.int .i64 1) = W8 at *
  obtain ⟨kE0, kE1, kE2, kE3, kE4, kE5, fE0, fE1, fE2, fE3, fE4, fE5⟩ := blk6 f_8.blk
  go_wp2_with fail
  clear kE0 kE1 kE2 kE3 kE4 kE5 fE0 fE1 fE2 fE3 fE4 fE5
  refine (made_m f_8.sm 2 ⟨#[]⟩ 1 none 0 0 (lnN s l i) (clN s l i) [] none 0 (ints0 _) (by simp) (by simp)).mono ?_
  rintro r W9 ⟨rfl, t_9, q_9⟩
  have f_9 := f_8.turn t_9 q_9
  clear f_8 t_9 q_9
  obtain ⟨kR0, kR1, kR2, kR3, kR4, kR5, fR0, fR1, fR2, fR3, fR4, fR5⟩ := blk6 f_9.rot2.blk
  go_wp2_with fail
  clear kR0 kR1 kR2 kR3 kR4 kR5 fR0 fR1 fR2 fR3 fR4 fR5
  have f_10 := Fr.set6 f_9.rot2 (.int .i64 2) (.string ⟨#[]⟩) (.int .i64 1) (.slice none 0 0) (.int .i64 (lnN s l i)) (.int .i64 (clN s l i))
  clear f_9
  generalize ((((((W9.setCell ⟨R, 0, none⟩ (.int .i64 2)).setCell ⟨R, 1, none⟩ (.string ⟨#[]⟩)).setCell ⟨R, 2, none⟩ (.int .i64 1)).setCell ⟨R, 3, none⟩ (.slice none 0 0)).setCell ⟨R, 4, none⟩ (.int .i64 (lnN s l i))).setCell ⟨R, 5, none⟩ (.int .i64 (clN s l i))) = W10 at *
  obtain ⟨r0, r1, r2, r3, r4, r5, -⟩ := blk6 f_10.blk
  try simp only [Exit.inBlock, Exit.then]
  refine bodyPost_ret (v := .tuple #[.agg #[.int .i64 2, .string ⟨#[]⟩, .int .i64 1, .slice none 0 0, .int .i64 (lnN s l i), .int .i64 (clN s l i)], .int .i64 (topOf [])]) (by simp [results, Tryz.results105, go_sem, r0, r1, r2, r3, r4, r5]) rfl ⟨mkEx 2 ⟨#[]⟩ 1 [] (lnN s l i) (clN s l i), none, 0, _, _, rfl, ⟨ExIn.lit (by simp [I64]) nil_le (by simp [I64]) (hK i).1 (hK i).2.1, f_10.sm, f_10.gr, by decide, by show (1 : Int) ≤ _; omega, made_ok, ?_⟩⟩
  rw [alone_true q1, top_nil]
  exact ⟨rfl, rfl, rfl⟩

set_option maxHeartbeats 4000000 in
set_option maxRecDepth 100000 in
theorem prim_false {s : ByteArray} {l : List Tk} {P g : Nat} (hE : Ended l) (hK : TkOk s l) {L : Int} {rec : Int → Nat → PR} {top : Int} (ht : 30 ≤ top ∧ top ≤ 199)
    {w : World} {k : Nat} (h : Sm s l P g w (.ok k)) (q0 : isN l k wTrue = false) (q1 : isN l k wFalse = true) :
    Calls Tryz.prog 105 #[.pointer (some ⟨P, 0, none⟩), .int .i64 L] w fun r w' => ∃ e A c t m', r = .returned (.tuple #[e.val A c, .int .i64 t]) ∧ Got s l P g w (aloneN s l rec k) (top + 1) w' e A c t m' := by
  go_enter Tryz.func105, Tryz.ntmps105
  have f_1 := PF.start h
  go_wp2_with fail
  have f_2 := f_1.alloc (.cells #[.int .i64 0, .string ⟨#[]⟩, .int .i64 0, .slice none 0 0, .int .i64 0, .int .i64 0] 41)
  have z_2 := alloc_size w (.cells #[.int .i64 0, .string ⟨#[]⟩, .int .i64 0, .slice none 0 0, .int .i64 0, .int .i64 0] 41)
  clear f_1
  generalize w.heap.size = R at *
  generalize w.alloc (.cells #[.int .i64 0, .string ⟨#[]⟩, .int .i64 0, .slice none 0 0, .int .i64 0, .int .i64 0] 41) = W2 at *
  clear z_2
  refine (now_m f_2.sm).mono ?_
  rintro r W3 ⟨i, hlt_i, hj_i, rfl, b_3⟩
  have f_3 := f_2.below b_3
  clear f_2 b_3
  obtain rfl : i = k := hj_i k rfl
  have hk2 : ((tkN l i).kind == 2) = false := by simp only [beq_eq_false_iff_ne]; exact (isN_kind q1).1
  go_upto_region 2 with fail
  have f_4 := f_3.alloc (.cells #[.int .i64 (tkN l i).kind, .string (tkN l i).text, .int .i64 (tkN l i).num, .int .i64 (lnN s l i), .int .i64 (clN s l i)] 56)
  have z_4 := alloc_size W3 (.cells #[.int .i64 (tkN l i).kind, .string (tkN l i).text, .int .i64 (tkN l i).num, .int .i64 (lnN s l i), .int .i64 (clN s l i)] 56)
  clear f_3
  generalize W3.heap.size = T at *
  generalize W3.alloc (.cells #[.int .i64 (tkN l i).kind, .string (tkN l i).text, .int .i64 (tkN l i).num, .int .i64 (lnN s l i), .int .i64 (clN s l i)] 56) = W4 at *
  obtain ⟨kT0, kT1, kT2, kT3, kT4, fT0, fT1, fT2, fT3, fT4⟩ := blk5 f_4.blk
  go_upto_region 7 with fail
  clear kT0 kT1 kT2 kT3 kT4 fT0 fT1 fT2 fT3 fT4
  have f_5 := f_4.alloc (.cells #[.int .i64 0, .string ⟨#[]⟩, .int .i64 0, .slice none 0 0, .int .i64 (lnN s l i), .int .i64 (clN s l i)] 41)
  have z_5 := alloc_size W4 (.cells #[.int .i64 0, .string ⟨#[]⟩, .int .i64 0, .slice none 0 0, .int .i64 (lnN s l i), .int .i64 (clN s l i)] 41)
  clear f_4
  generalize W4.heap.size = E at *
  generalize W4.alloc (.cells #[.int .i64 0, .string ⟨#[]⟩, .int .i64 0, .slice none 0 0, .int .i64 (lnN s l i), .int .i64 (clN s l i)] 41) = W5 at *
  rw [← z_4]
  clear z_4
  obtain ⟨kT0, kT1, kT2, kT3, kT4, fT0, fT1, fT2, fT3, fT4⟩ := blk5 f_5.rot1.blk
  go_wp2_with fail
  clear kT0 kT1 kT2 kT3 kT4 fT0 fT1 fT2 fT3 fT4 hk2
  clear z_5
  refine (take_no (t := ⟨#[116, 114, 117, 101]⟩) hE f_5.sm q0).mono ?_
  rintro r W6 ⟨rfl, t_6, q_6⟩
  have f_6 := f_5.turn t_6 q_6
  clear f_5 t_6 q_6
  go_wp2_with fail
  refine (take_yes (t := ⟨#[102, 97, 108, 115, 101]⟩) hE f_6.sm q1).mono ?_
  rintro r W7 ⟨rfl, t_7, q_7⟩
  have f_7 := f_6.turn t_7 q_7
  clear f_6 t_7 q_7
  obtain ⟨kE0, kE1, kE2, kE3, kE4, kE5, fE0, fE1, fE2, fE3, fE4, fE5⟩ := blk6 f_7.blk
  go_upto_region 23 with fail
  clear kE0 kE1 kE2 kE3 kE4 kE5 fE0 fE1 fE2 fE3 fE4 fE5
  have f_8 := Fr.set (n := 0) f_7 (.int .i64 2)
  simp only [List.setIfInBounds_toArray, List.set_cons_zero] at f_8
  clear f_7
  generalize W7.setCell ⟨E, 0, none⟩ (.int .i64 2) = W8 at *
  obtain ⟨kE0, kE1, kE2, kE3, kE4, kE5, fE0, fE1, fE2, fE3, fE4, fE5⟩ := blk6 f_8.blk
  go_wp2_with fail
  clear kE0 kE1 kE2 kE3 kE4 kE5 fE0 fE1 fE2 fE3 fE4 fE5
  refine (made_m f_8.sm 2 ⟨#[]⟩ 0 none 0 0 (lnN s l i) (clN s l i) [] none 0 (ints0 _) (by simp) (by simp)).mono ?_
  rintro r W9 ⟨rfl, t_9, q_9⟩
  have f_9 := f_8.turn t_9 q_9
  clear f_8 t_9 q_9
  obtain ⟨kR0, kR1, kR2, kR3, kR4, kR5, fR0, fR1, fR2, fR3, fR4, fR5⟩ := blk6 f_9.rot2.blk
  go_wp2_with fail
  clear kR0 kR1 kR2 kR3 kR4 kR5 fR0 fR1 fR2 fR3 fR4 fR5
  have f_10 := Fr.set6 f_9.rot2 (.int .i64 2) (.string ⟨#[]⟩) (.int .i64 0) (.slice none 0 0) (.int .i64 (lnN s l i)) (.int .i64 (clN s l i))
  clear f_9
  generalize ((((((W9.setCell ⟨R, 0, none⟩ (.int .i64 2)).setCell ⟨R, 1, none⟩ (.string ⟨#[]⟩)).setCell ⟨R, 2, none⟩ (.int .i64 0)).setCell ⟨R, 3, none⟩ (.slice none 0 0)).setCell ⟨R, 4, none⟩ (.int .i64 (lnN s l i))).setCell ⟨R, 5, none⟩ (.int .i64 (clN s l i))) = W10 at *
  obtain ⟨r0, r1, r2, r3, r4, r5, -⟩ := blk6 f_10.blk
  try simp only [Exit.inBlock, Exit.then]
  refine bodyPost_ret (v := .tuple #[.agg #[.int .i64 2, .string ⟨#[]⟩, .int .i64 0, .slice none 0 0, .int .i64 (lnN s l i), .int .i64 (clN s l i)], .int .i64 (topOf [])]) (by simp [results, Tryz.results105, go_sem, r0, r1, r2, r3, r4, r5]) rfl ⟨mkEx 2 ⟨#[]⟩ 0 [] (lnN s l i) (clN s l i), none, 0, _, _, rfl, ⟨ExIn.lit (by simp [I64]) nil_le (by simp [I64]) (hK i).1 (hK i).2.1, f_10.sm, f_10.gr, by decide, by show (1 : Int) ≤ _; omega, made_ok, ?_⟩⟩
  rw [alone_false q0 q1, top_nil]
  exact ⟨rfl, rfl, rfl⟩

set_option maxHeartbeats 4000000 in
set_option maxRecDepth 100000 in
theorem prim_var {s : ByteArray} {l : List Tk} {P g : Nat} (hE : Ended l) (hK : TkOk s l) {L : Int} {rec : Int → Nat → PR} {top : Int} (ht : 30 ≤ top ∧ top ≤ 199)
    {w : World} {k : Nat} (h : Sm s l P g w (.ok k)) (hk : (tkN l k).kind = 1) (q : isN l (k + 1) wOpen = false) :
    Calls Tryz.prog 105 #[.pointer (some ⟨P, 0, none⟩), .int .i64 L] w fun r w' => ∃ e A c t m', r = .returned (.tuple #[e.val A c, .int .i64 t]) ∧ Got s l P g w (aloneN s l rec k) (top + 1) w' e A c t m' := by
  go_enter Tryz.func105, Tryz.ntmps105
  have f_1 := PF.start h
  go_wp2_with fail
  have f_2 := f_1.alloc (.cells #[.int .i64 0, .string ⟨#[]⟩, .int .i64 0, .slice none 0 0, .int .i64 0, .int .i64 0] 41)
  have z_2 := alloc_size w (.cells #[.int .i64 0, .string ⟨#[]⟩, .int .i64 0, .slice none 0 0, .int .i64 0, .int .i64 0] 41)
  clear f_1
  generalize w.heap.size = R at *
  generalize w.alloc (.cells #[.int .i64 0, .string ⟨#[]⟩, .int .i64 0, .slice none 0 0, .int .i64 0, .int .i64 0] 41) = W2 at *
  clear z_2
  refine (now_m f_2.sm).mono ?_
  rintro r W3 ⟨i, hlt_i, hj_i, rfl, b_3⟩
  have f_3 := f_2.below b_3
  clear f_2 b_3
  obtain rfl : i = k := hj_i k rfl
  have hk2 : ((tkN l i).kind == 2) = false := by simp only [beq_eq_false_iff_ne]; exact (by omega)
  have hk1 : ((tkN l i).kind == 1) = true := by simp [hk]
  have hlt1 := hE i hlt_i (by omega)
  have hkH := hid hk
  clear hk
  go_upto_region 2 with fail
  have f_4 := f_3.alloc (.cells #[.int .i64 (tkN l i).kind, .string (tkN l i).text, .int .i64 (tkN l i).num, .int .i64 (lnN s l i), .int .i64 (clN s l i)] 56)
  have z_4 := alloc_size W3 (.cells #[.int .i64 (tkN l i).kind, .string (tkN l i).text, .int .i64 (tkN l i).num, .int .i64 (lnN s l i), .int .i64 (clN s l i)] 56)
  clear f_3
  generalize W3.heap.size = T at *
  generalize W3.alloc (.cells #[.int .i64 (tkN l i).kind, .string (tkN l i).text, .int .i64 (tkN l i).num, .int .i64 (lnN s l i), .int .i64 (clN s l i)] 56) = W4 at *
  obtain ⟨kT0, kT1, kT2, kT3, kT4, fT0, fT1, fT2, fT3, fT4⟩ := blk5 f_4.blk
  go_upto_region 7 with fail
  clear kT0 kT1 kT2 kT3 kT4 fT0 fT1 fT2 fT3 fT4
  have f_5 := f_4.alloc (.cells #[.int .i64 0, .string ⟨#[]⟩, .int .i64 0, .slice none 0 0, .int .i64 (lnN s l i), .int .i64 (clN s l i)] 41)
  have z_5 := alloc_size W4 (.cells #[.int .i64 0, .string ⟨#[]⟩, .int .i64 0, .slice none 0 0, .int .i64 (lnN s l i), .int .i64 (clN s l i)] 41)
  clear f_4
  generalize W4.heap.size = E at *
  generalize W4.alloc (.cells #[.int .i64 0, .string ⟨#[]⟩, .int .i64 0, .slice none 0 0, .int .i64 (lnN s l i), .int .i64 (clN s l i)] 41) = W5 at *
  rw [← z_4]
  clear z_4
  obtain ⟨kT0, kT1, kT2, kT3, kT4, fT0, fT1, fT2, fT3, fT4⟩ := blk5 f_5.rot1.blk
  go_wp2_with fail
  clear kT0 kT1 kT2 kT3 kT4 fT0 fT1 fT2 fT3 fT4 hk2
  clear z_5
  refine (take_no (t := ⟨#[116, 114, 117, 101]⟩) hE f_5.sm (isN_off (.inl hkH.out))).mono ?_
  rintro r W6 ⟨rfl, t_6, q_6⟩
  have f_6 := f_5.turn t_6 q_6
  clear f_5 t_6 q_6
  go_wp2_with fail
  refine (take_no (t := ⟨#[102, 97, 108, 115, 101]⟩) hE f_6.sm (isN_off (.inl hkH.out))).mono ?_
  rintro r W7 ⟨rfl, t_7, q_7⟩
  have f_7 := f_6.turn t_7 q_7
  clear f_6 t_7 q_7
  obtain ⟨kT0, kT1, kT2, kT3, kT4, fT0, fT1, fT2, fT3, fT4⟩ := blk5 f_7.rot1.blk
  go_upto_region 15 with fail
  clear kT0 kT1 kT2 kT3 kT4 fT0 fT1 fT2 fT3 fT4 hk1
  obtain ⟨p1, p1f, i1, hi1, hwr⟩ := f_7.at1
  go_upto_region 16 with fail
  clear p1 p1f hwr
  have f_8 := f_7.up (j := i1) (by subst hi1; exact hlt1)
  clear f_7
  generalize W7.setCell ⟨P, 1, none⟩ (.int .i64 (i1 : Int)) = W8 at *
  obtain ⟨kT0, kT1, kT2, kT3, kT4, fT0, fT1, fT2, fT3, fT4⟩ := blk5 f_8.rot1.blk
  obtain ⟨kE0, kE1, kE2, kE3, kE4, kE5, fE0, fE1, fE2, fE3, fE4, fE5⟩ := blk6 f_8.blk
  go_region
  go_wp2_with fail
  clear kT0 kT1 kT2 kT3 kT4 fT0 fT1 fT2 fT3 fT4 kE0 kE1 kE2 kE3 kE4 kE5 fE0 fE1 fE2 fE3 fE4 fE5
  have f_9 := Fr.set (n := 0) f_8 (.int .i64 3)
  simp only [List.setIfInBounds_toArray, List.set_cons_zero] at f_9
  clear f_8
  generalize W8.setCell ⟨E, 0, none⟩ (.int .i64 3) = W9 at *
  have f_10 := Fr.set (n := 1) f_9 (.string (tkN l i).text)
  simp only [List.setIfInBounds_toArray, List.set_cons_zero, List.set_cons_succ] at f_10
  clear f_9
  generalize W9.setCell ⟨E, 1, none⟩ (.string (tkN l i).text) = W10 at *
  have f_11 := f_10.drew
  clear f_10
  generalize W10.drew = W11 at *
  refine (is_val (t := ⟨#[40]⟩) f_11.sm (b := false) (by subst hi1; exact q)).mono ?_
  rintro r W12 ⟨rfl, b_12⟩
  have f_12 := f_11.below b_12
  clear f_11 b_12
  obtain ⟨kE0, kE1, kE2, kE3, kE4, kE5, fE0, fE1, fE2, fE3, fE4, fE5⟩ := blk6 f_12.blk
  go_wp2_with fail
  clear kE0 kE1 kE2 kE3 kE4 kE5 fE0 fE1 fE2 fE3 fE4 fE5
  refine (made_m f_12.sm 3 (tkN l i).text 0 none 0 0 (lnN s l i) (clN s l i) [] none 0 (ints0 _) (by simp) (by simp)).mono ?_
  rintro r W13 ⟨rfl, t_13, q_13⟩
  have f_13 := f_12.turn t_13 q_13
  clear f_12 t_13 q_13
  obtain ⟨kR0, kR1, kR2, kR3, kR4, kR5, fR0, fR1, fR2, fR3, fR4, fR5⟩ := blk6 f_13.rot2.blk
  go_wp2_with fail
  clear kR0 kR1 kR2 kR3 kR4 kR5 fR0 fR1 fR2 fR3 fR4 fR5
  have f_14 := Fr.set6 f_13.rot2 (.int .i64 3) (.string (tkN l i).text) (.int .i64 0) (.slice none 0 0) (.int .i64 (lnN s l i)) (.int .i64 (clN s l i))
  clear f_13
  generalize ((((((W13.setCell ⟨R, 0, none⟩ (.int .i64 3)).setCell ⟨R, 1, none⟩ (.string (tkN l i).text)).setCell ⟨R, 2, none⟩ (.int .i64 0)).setCell ⟨R, 3, none⟩ (.slice none 0 0)).setCell ⟨R, 4, none⟩ (.int .i64 (lnN s l i))).setCell ⟨R, 5, none⟩ (.int .i64 (clN s l i))) = W14 at *
  obtain ⟨r0, r1, r2, r3, r4, r5, -⟩ := blk6 f_14.blk
  try simp only [Exit.inBlock, Exit.then]
  refine bodyPost_ret (v := .tuple #[.agg #[.int .i64 3, .string (tkN l i).text, .int .i64 0, .slice none 0 0, .int .i64 (lnN s l i), .int .i64 (clN s l i)], .int .i64 (topOf [])]) (by simp [results, Tryz.results105, go_sem, r0, r1, r2, r3, r4, r5]) rfl ⟨mkEx 3 (tkN l i).text 0 [] (lnN s l i) (clN s l i), none, 0, _, _, rfl, ⟨ExIn.lit (by simp [I64]) (hK i).2.2.1 (by simp [I64]) (hK i).1 (hK i).2.1, f_14.sm, f_14.gr, by decide, by show (1 : Int) ≤ _; omega, made_ok, ?_⟩⟩
  rw [alone_var hkH.out q, top_nil]
  exact ⟨by rw [hi1], rfl, rfl⟩

set_option maxHeartbeats 4000000 in
set_option maxRecDepth 100000 in
theorem prim_call {s : ByteArray} {l : List Tk} {P g : Nat} (hE : Ended l) (hK : TkOk s l) {L : Int} {rec : Int → Nat → PR} {top : Int}
    {w : World} {k : Nat} (h : Sm s l P g w (.ok k)) (hk : (tkN l k).kind = 1) (q : isN l (k + 1) wOpen = true)
    (hc : ∀ (name : ByteArray), name.size ≤ maxLen → ∀ (at_ i1 : Nat) (w : World), Sm s l P g w (.ok i1) → isN l i1 wOpen = true → Calls Tryz.prog 116 #[.pointer (some ⟨P, 0, none⟩), .agg #[.int .i64 4, .string name, .int .i64 0, .slice none 0 0, .int .i64 (lnN s l at_), .int .i64 (clN s l at_)], .int .i64 L] w fun r w' => ∃ e A c h m', r = .returned (.tuple #[e.val A c, .int .i64 h]) ∧ Got s l P g w ((rec 0 (i1 + 1)).then fun x i2 => argsN s l rec name at_ 7 [x] i2) (top + 1) w' e A c h m') :
    Calls Tryz.prog 105 #[.pointer (some ⟨P, 0, none⟩), .int .i64 L] w fun r w' => ∃ e A c t m', r = .returned (.tuple #[e.val A c, .int .i64 t]) ∧ Got s l P g w (aloneN s l rec k) (top + 1) w' e A c t m' := by
  go_enter Tryz.func105, Tryz.ntmps105
  have f_1 := PF.start h
  go_wp2_with fail
  have f_2 := f_1.alloc (.cells #[.int .i64 0, .string ⟨#[]⟩, .int .i64 0, .slice none 0 0, .int .i64 0, .int .i64 0] 41)
  have z_2 := alloc_size w (.cells #[.int .i64 0, .string ⟨#[]⟩, .int .i64 0, .slice none 0 0, .int .i64 0, .int .i64 0] 41)
  clear f_1
  generalize w.heap.size = R at *
  generalize w.alloc (.cells #[.int .i64 0, .string ⟨#[]⟩, .int .i64 0, .slice none 0 0, .int .i64 0, .int .i64 0] 41) = W2 at *
  clear z_2
  refine (now_m f_2.sm).mono ?_
  rintro r W3 ⟨i, hlt_i, hj_i, rfl, b_3⟩
  have f_3 := f_2.below b_3
  clear f_2 b_3
  obtain rfl : i = k := hj_i k rfl
  have hk2 : ((tkN l i).kind == 2) = false := by simp only [beq_eq_false_iff_ne]; exact (by omega)
  have hk1 : ((tkN l i).kind == 1) = true := by simp [hk]
  have hlt1 := hE i hlt_i (by omega)
  have hkH := hid hk
  clear hk
  go_upto_region 2 with fail
  have f_4 := f_3.alloc (.cells #[.int .i64 (tkN l i).kind, .string (tkN l i).text, .int .i64 (tkN l i).num, .int .i64 (lnN s l i), .int .i64 (clN s l i)] 56)
  have z_4 := alloc_size W3 (.cells #[.int .i64 (tkN l i).kind, .string (tkN l i).text, .int .i64 (tkN l i).num, .int .i64 (lnN s l i), .int .i64 (clN s l i)] 56)
  clear f_3
  generalize W3.heap.size = T at *
  generalize W3.alloc (.cells #[.int .i64 (tkN l i).kind, .string (tkN l i).text, .int .i64 (tkN l i).num, .int .i64 (lnN s l i), .int .i64 (clN s l i)] 56) = W4 at *
  obtain ⟨kT0, kT1, kT2, kT3, kT4, fT0, fT1, fT2, fT3, fT4⟩ := blk5 f_4.blk
  go_upto_region 7 with fail
  clear kT0 kT1 kT2 kT3 kT4 fT0 fT1 fT2 fT3 fT4
  have f_5 := f_4.alloc (.cells #[.int .i64 0, .string ⟨#[]⟩, .int .i64 0, .slice none 0 0, .int .i64 (lnN s l i), .int .i64 (clN s l i)] 41)
  have z_5 := alloc_size W4 (.cells #[.int .i64 0, .string ⟨#[]⟩, .int .i64 0, .slice none 0 0, .int .i64 (lnN s l i), .int .i64 (clN s l i)] 41)
  clear f_4
  generalize W4.heap.size = E at *
  generalize W4.alloc (.cells #[.int .i64 0, .string ⟨#[]⟩, .int .i64 0, .slice none 0 0, .int .i64 (lnN s l i), .int .i64 (clN s l i)] 41) = W5 at *
  rw [← z_4]
  clear z_4
  obtain ⟨kT0, kT1, kT2, kT3, kT4, fT0, fT1, fT2, fT3, fT4⟩ := blk5 f_5.rot1.blk
  go_wp2_with fail
  clear kT0 kT1 kT2 kT3 kT4 fT0 fT1 fT2 fT3 fT4 hk2
  clear z_5
  refine (take_no (t := ⟨#[116, 114, 117, 101]⟩) hE f_5.sm (isN_off (.inl hkH.out))).mono ?_
  rintro r W6 ⟨rfl, t_6, q_6⟩
  have f_6 := f_5.turn t_6 q_6
  clear f_5 t_6 q_6
  go_wp2_with fail
  refine (take_no (t := ⟨#[102, 97, 108, 115, 101]⟩) hE f_6.sm (isN_off (.inl hkH.out))).mono ?_
  rintro r W7 ⟨rfl, t_7, q_7⟩
  have f_7 := f_6.turn t_7 q_7
  clear f_6 t_7 q_7
  obtain ⟨kT0, kT1, kT2, kT3, kT4, fT0, fT1, fT2, fT3, fT4⟩ := blk5 f_7.rot1.blk
  go_upto_region 15 with fail
  clear kT0 kT1 kT2 kT3 kT4 fT0 fT1 fT2 fT3 fT4 hk1
  obtain ⟨p1, p1f, i1, hi1, hwr⟩ := f_7.at1
  go_upto_region 16 with fail
  clear p1 p1f hwr
  have f_8 := f_7.up (j := i1) (by subst hi1; exact hlt1)
  clear f_7
  generalize W7.setCell ⟨P, 1, none⟩ (.int .i64 (i1 : Int)) = W8 at *
  obtain ⟨kT0, kT1, kT2, kT3, kT4, fT0, fT1, fT2, fT3, fT4⟩ := blk5 f_8.rot1.blk
  obtain ⟨kE0, kE1, kE2, kE3, kE4, kE5, fE0, fE1, fE2, fE3, fE4, fE5⟩ := blk6 f_8.blk
  go_region
  go_wp2_with fail
  clear kT0 kT1 kT2 kT3 kT4 fT0 fT1 fT2 fT3 fT4 kE0 kE1 kE2 kE3 kE4 kE5 fE0 fE1 fE2 fE3 fE4 fE5
  have f_9 := Fr.set (n := 0) f_8 (.int .i64 3)
  simp only [List.setIfInBounds_toArray, List.set_cons_zero] at f_9
  clear f_8
  generalize W8.setCell ⟨E, 0, none⟩ (.int .i64 3) = W9 at *
  have f_10 := Fr.set (n := 1) f_9 (.string (tkN l i).text)
  simp only [List.setIfInBounds_toArray, List.set_cons_zero, List.set_cons_succ] at f_10
  clear f_9
  generalize W9.setCell ⟨E, 1, none⟩ (.string (tkN l i).text) = W10 at *
  have f_11 := f_10.drew
  clear f_10
  generalize W10.drew = W11 at *
  refine (is_val (t := ⟨#[40]⟩) f_11.sm (b := true) (by subst hi1; exact q)).mono ?_
  rintro r W12 ⟨rfl, b_12⟩
  have f_12 := f_11.below b_12
  clear f_11 b_12
  obtain ⟨kE0, kE1, kE2, kE3, kE4, kE5, fE0, fE1, fE2, fE3, fE4, fE5⟩ := blk6 f_12.blk
  go_upto_region 19 with fail
  clear kE0 kE1 kE2 kE3 kE4 kE5 fE0 fE1 fE2 fE3 fE4 fE5
  have f_13 := Fr.set (n := 0) f_12 (.int .i64 4)
  simp only [List.setIfInBounds_toArray, List.set_cons_zero] at f_13
  clear f_12
  generalize W12.setCell ⟨E, 0, none⟩ (.int .i64 4) = W13 at *
  obtain ⟨kE0, kE1, kE2, kE3, kE4, kE5, fE0, fE1, fE2, fE3, fE4, fE5⟩ := blk6 f_13.blk
  go_wp2_with fail
  clear kE0 kE1 kE2 kE3 kE4 kE5 fE0 fE1 fE2 fE3 fE4 fE5
  refine (hc (tkN l i).text (hK i).2.2.1 i i1 W13 f_13.sm (by subst hi1; exact q)).mono ?_
  rintro r W14 ⟨ex, Ax, cx, tx, mx, rfl, Gx⟩
  obtain ⟨Dx, f_14⟩ := f_13.expr Gx
  obtain ⟨lowx, topx, okx, camex⟩ := Gx.facts
  clear f_13 Gx
  simp only [Ex.val_eq]
  obtain ⟨kR0, kR1, kR2, kR3, kR4, kR5, fR0, fR1, fR2, fR3, fR4, fR5⟩ := blk6 f_14.rot3.blk
  go_wp2_with fail
  clear kR0 kR1 kR2 kR3 kR4 kR5 fR0 fR1 fR2 fR3 fR4 fR5
  have f_15 := Fr.set6 f_14.rot3 (.int .i64 ex.op) (.string ex.name) (.int .i64 ex.num) (.slice Ax ex.k cx) (.int .i64 ex.line) (.int .i64 ex.col)
  clear f_14
  generalize ((((((W14.setCell ⟨R, 0, none⟩ (.int .i64 ex.op)).setCell ⟨R, 1, none⟩ (.string ex.name)).setCell ⟨R, 2, none⟩ (.int .i64 ex.num)).setCell ⟨R, 3, none⟩ (.slice Ax ex.k cx)).setCell ⟨R, 4, none⟩ (.int .i64 ex.line)).setCell ⟨R, 5, none⟩ (.int .i64 ex.col)) = W15 at *
  have fin := f_15.rot1
  obtain ⟨r0, r1, r2, r3, r4, r5, -⟩ := blk6 f_15.blk
  try simp only [Exit.inBlock, Exit.then]
  exact bodyPost_ret (v := .tuple #[.agg #[.int .i64 ex.op, .string ex.name, .int .i64 ex.num, .slice Ax ex.k cx, .int .i64 ex.line, .int .i64 ex.col], .int .i64 tx]) (by simp [results, Tryz.results105, go_sem, r0, r1, r2, r3, r4, r5]) rfl ⟨ex, Ax, cx, tx, _, rfl, ⟨fin.ex, f_15.sm, f_15.gr, lowx, topx, okx, by subst hi1; rw [alone_call hkH.out q]; exact camex.out⟩⟩

set_option maxHeartbeats 4000000 in
set_option maxRecDepth 100000 in
theorem prim_merge {s : ByteArray} {l : List Tk} {P g : Nat} (hE : Ended l) (hK : TkOk s l) {L : Int} {rec : Int → Nat → PR} {top : Int}
    {w : World} {k : Nat} (h : Sm s l P g w (.ok k)) (q0 : isN l k wTrue = false) (q1 : isN l k wFalse = false) (q2 : isN l k wMerge = true)
    (hm : ∀ (name : ByteArray), name.size ≤ maxLen → ∀ (at_ : Nat) (m : Md) (w : World), Sm s l P g w m → Calls Tryz.prog 117 #[.pointer (some ⟨P, 0, none⟩), .agg #[.int .i64 26, .string name, .int .i64 0, .slice none 0 0, .int .i64 (lnN s l at_), .int .i64 (clN s l at_)], .int .i64 L] w fun r w' => ∃ e A c h m', r = .returned (.tuple #[e.val A c, .int .i64 h]) ∧ Got s l P g w (m.seq fun i1 => withinN s l rec i1 fun a i2 => withinN s l rec i2 fun b i3 => madeN (mkEx 26 name 0 [a, b] (lnN s l at_) (clN s l at_)) i3) (top + 1) w' e A c h m') :
    Calls Tryz.prog 105 #[.pointer (some ⟨P, 0, none⟩), .int .i64 L] w fun r w' => ∃ e A c t m', r = .returned (.tuple #[e.val A c, .int .i64 t]) ∧ Got s l P g w (aloneN s l rec k) (top + 1) w' e A c t m' := by
  go_enter Tryz.func105, Tryz.ntmps105
  have f_1 := PF.start h
  go_wp2_with fail
  have f_2 := f_1.alloc (.cells #[.int .i64 0, .string ⟨#[]⟩, .int .i64 0, .slice none 0 0, .int .i64 0, .int .i64 0] 41)
  have z_2 := alloc_size w (.cells #[.int .i64 0, .string ⟨#[]⟩, .int .i64 0, .slice none 0 0, .int .i64 0, .int .i64 0] 41)
  clear f_1
  generalize w.heap.size = R at *
  generalize w.alloc (.cells #[.int .i64 0, .string ⟨#[]⟩, .int .i64 0, .slice none 0 0, .int .i64 0, .int .i64 0] 41) = W2 at *
  clear z_2
  refine (now_m f_2.sm).mono ?_
  rintro r W3 ⟨i, hlt_i, hj_i, rfl, b_3⟩
  have f_3 := f_2.below b_3
  clear f_2 b_3
  obtain rfl : i = k := hj_i k rfl
  have hk2 : ((tkN l i).kind == 2) = false := by simp only [beq_eq_false_iff_ne]; exact (isN_kind q2).1
  have hk1 : ((tkN l i).kind == 1) = false := by simp only [beq_eq_false_iff_ne]; exact (isN_kind q2).2
  go_upto_region 2 with fail
  have f_4 := f_3.alloc (.cells #[.int .i64 (tkN l i).kind, .string (tkN l i).text, .int .i64 (tkN l i).num, .int .i64 (lnN s l i), .int .i64 (clN s l i)] 56)
  have z_4 := alloc_size W3 (.cells #[.int .i64 (tkN l i).kind, .string (tkN l i).text, .int .i64 (tkN l i).num, .int .i64 (lnN s l i), .int .i64 (clN s l i)] 56)
  clear f_3
  generalize W3.heap.size = T at *
  generalize W3.alloc (.cells #[.int .i64 (tkN l i).kind, .string (tkN l i).text, .int .i64 (tkN l i).num, .int .i64 (lnN s l i), .int .i64 (clN s l i)] 56) = W4 at *
  obtain ⟨kT0, kT1, kT2, kT3, kT4, fT0, fT1, fT2, fT3, fT4⟩ := blk5 f_4.blk
  go_upto_region 7 with fail
  clear kT0 kT1 kT2 kT3 kT4 fT0 fT1 fT2 fT3 fT4
  have f_5 := f_4.alloc (.cells #[.int .i64 0, .string ⟨#[]⟩, .int .i64 0, .slice none 0 0, .int .i64 (lnN s l i), .int .i64 (clN s l i)] 41)
  have z_5 := alloc_size W4 (.cells #[.int .i64 0, .string ⟨#[]⟩, .int .i64 0, .slice none 0 0, .int .i64 (lnN s l i), .int .i64 (clN s l i)] 41)
  clear f_4
  generalize W4.heap.size = E at *
  generalize W4.alloc (.cells #[.int .i64 0, .string ⟨#[]⟩, .int .i64 0, .slice none 0 0, .int .i64 (lnN s l i), .int .i64 (clN s l i)] 41) = W5 at *
  rw [← z_4]
  clear z_4
  obtain ⟨kT0, kT1, kT2, kT3, kT4, fT0, fT1, fT2, fT3, fT4⟩ := blk5 f_5.rot1.blk
  go_wp2_with fail
  clear kT0 kT1 kT2 kT3 kT4 fT0 fT1 fT2 fT3 fT4 hk2
  clear z_5
  refine (take_no (t := ⟨#[116, 114, 117, 101]⟩) hE f_5.sm q0).mono ?_
  rintro r W6 ⟨rfl, t_6, q_6⟩
  have f_6 := f_5.turn t_6 q_6
  clear f_5 t_6 q_6
  go_wp2_with fail
  refine (take_no (t := ⟨#[102, 97, 108, 115, 101]⟩) hE f_6.sm q1).mono ?_
  rintro r W7 ⟨rfl, t_7, q_7⟩
  have f_7 := f_6.turn t_7 q_7
  clear f_6 t_7 q_7
  obtain ⟨kT0, kT1, kT2, kT3, kT4, fT0, fT1, fT2, fT3, fT4⟩ := blk5 f_7.rot1.blk
  go_wp2_with fail
  clear kT0 kT1 kT2 kT3 kT4 fT0 fT1 fT2 fT3 fT4 hk1
  refine (take_yes (t := ⟨#[109, 101, 114, 103, 101]⟩) hE f_7.sm q2).mono ?_
  rintro r W8 ⟨rfl, t_8, q_8⟩
  have f_8 := f_7.turn t_8 q_8
  clear f_7 t_8 q_8
  go_wp2_with fail
  refine (name_m hE f_8.sm 0 1).mono ?_
  rintro r W9 ⟨j, hlt_j, hj_j, rfl, t_9, q_9⟩
  have f_9 := f_8.turn t_9 q_9
  clear f_8 t_9 q_9
  obtain rfl : j = i + 1 := hj_j (i + 1) rfl
  generalize hi1 : i + 1 = i1 at *
  obtain ⟨kE0, kE1, kE2, kE3, kE4, kE5, fE0, fE1, fE2, fE3, fE4, fE5⟩ := blk6 f_9.blk
  have hfd := field_text (tkN l i1).kind (tkN l i1).text (tkN l i1).num (lnN s l i1) (clN s l i1)
  go_upto_region 22 with fail
  clear kE0 kE1 kE2 kE3 kE4 kE5 fE0 fE1 fE2 fE3 fE4 fE5 hfd
  have f_10 := Fr.set (n := 0) f_9 (.int .i64 26)
  simp only [List.setIfInBounds_toArray, List.set_cons_zero] at f_10
  clear f_9
  generalize W9.setCell ⟨E, 0, none⟩ (.int .i64 26) = W10 at *
  have f_11 := Fr.set (n := 1) f_10 (.string (tkN l i1).text)
  simp only [List.setIfInBounds_toArray, List.set_cons_zero, List.set_cons_succ] at f_11
  clear f_10
  generalize W10.setCell ⟨E, 1, none⟩ (.string (tkN l i1).text) = W11 at *
  obtain ⟨kE0, kE1, kE2, kE3, kE4, kE5, fE0, fE1, fE2, fE3, fE4, fE5⟩ := blk6 f_11.blk
  go_wp2_with fail
  clear kE0 kE1 kE2 kE3 kE4 kE5 fE0 fE1 fE2 fE3 fE4 fE5
  refine (hm (tkN l i1).text (hK i1).2.2.1 i _ W11 f_11.sm).mono ?_
  rintro r W12 ⟨ex, Ax, cx, tx, mx, rfl, Gx⟩
  obtain ⟨Dx, f_12⟩ := f_11.expr Gx
  obtain ⟨lowx, topx, okx, camex⟩ := Gx.facts
  clear f_11 Gx
  simp only [Ex.val_eq]
  obtain ⟨kR0, kR1, kR2, kR3, kR4, kR5, fR0, fR1, fR2, fR3, fR4, fR5⟩ := blk6 f_12.rot3.blk
  go_wp2_with fail
  clear kR0 kR1 kR2 kR3 kR4 kR5 fR0 fR1 fR2 fR3 fR4 fR5
  have f_13 := Fr.set6 f_12.rot3 (.int .i64 ex.op) (.string ex.name) (.int .i64 ex.num) (.slice Ax ex.k cx) (.int .i64 ex.line) (.int .i64 ex.col)
  clear f_12
  generalize ((((((W12.setCell ⟨R, 0, none⟩ (.int .i64 ex.op)).setCell ⟨R, 1, none⟩ (.string ex.name)).setCell ⟨R, 2, none⟩ (.int .i64 ex.num)).setCell ⟨R, 3, none⟩ (.slice Ax ex.k cx)).setCell ⟨R, 4, none⟩ (.int .i64 ex.line)).setCell ⟨R, 5, none⟩ (.int .i64 ex.col)) = W13 at *
  have fin := f_13.rot1
  obtain ⟨r0, r1, r2, r3, r4, r5, -⟩ := blk6 f_13.blk
  try simp only [Exit.inBlock, Exit.then]
  exact bodyPost_ret (v := .tuple #[.agg #[.int .i64 ex.op, .string ex.name, .int .i64 ex.num, .slice Ax ex.k cx, .int .i64 ex.line, .int .i64 ex.col], .int .i64 tx]) (by simp [results, Tryz.results105, go_sem, r0, r1, r2, r3, r4, r5]) rfl ⟨ex, Ax, cx, tx, _, rfl, ⟨fin.ex, f_13.sm, f_13.gr, lowx, topx, okx, by subst hi1; rw [alone_merge q2 q0 q1, name_seq]; exact camex.out⟩⟩

set_option maxHeartbeats 4000000 in
set_option maxRecDepth 100000 in
theorem prim_in {s : ByteArray} {l : List Tk} {P g : Nat} (hE : Ended l) {L L1 : Int} (hL : IntKind.i64.wrap (L + 1) = L1) {rec : Int → Nat → PR} {top : Int}
    {w : World} {k : Nat} (h : Sm s l P g w (.ok k)) (hk : (tkN l k).kind ≠ 1 ∧ (tkN l k).kind ≠ 2) (q0 : isN l k wTrue = false) (q1 : isN l k wFalse = false) (q2 : isN l k wMerge = false)
    (hr : Gives s l P g 37 #[.pointer (some ⟨P, 0, none⟩), .int .i64 0, .int .i64 L1] (rec 0) top) :
    Calls Tryz.prog 105 #[.pointer (some ⟨P, 0, none⟩), .int .i64 L] w fun r w' => ∃ e A c t m', r = .returned (.tuple #[e.val A c, .int .i64 t]) ∧ Got s l P g w (aloneN s l rec k) (top + 1) w' e A c t m' := by
  go_enter Tryz.func105, Tryz.ntmps105
  have f_1 := PF.start h
  go_wp2_with fail
  have f_2 := f_1.alloc (.cells #[.int .i64 0, .string ⟨#[]⟩, .int .i64 0, .slice none 0 0, .int .i64 0, .int .i64 0] 41)
  have z_2 := alloc_size w (.cells #[.int .i64 0, .string ⟨#[]⟩, .int .i64 0, .slice none 0 0, .int .i64 0, .int .i64 0] 41)
  clear f_1
  generalize w.heap.size = R at *
  generalize w.alloc (.cells #[.int .i64 0, .string ⟨#[]⟩, .int .i64 0, .slice none 0 0, .int .i64 0, .int .i64 0] 41) = W2 at *
  clear z_2
  refine (now_m f_2.sm).mono ?_
  rintro r W3 ⟨i, hlt_i, hj_i, rfl, b_3⟩
  have f_3 := f_2.below b_3
  clear f_2 b_3
  obtain rfl : i = k := hj_i k rfl
  have hk2 : ((tkN l i).kind == 2) = false := by simp only [beq_eq_false_iff_ne]; exact hk.2
  have hk1 : ((tkN l i).kind == 1) = false := by simp only [beq_eq_false_iff_ne]; exact hk.1
  have hkH := hid hk
  clear hk
  go_upto_region 2 with fail
  have f_4 := f_3.alloc (.cells #[.int .i64 (tkN l i).kind, .string (tkN l i).text, .int .i64 (tkN l i).num, .int .i64 (lnN s l i), .int .i64 (clN s l i)] 56)
  have z_4 := alloc_size W3 (.cells #[.int .i64 (tkN l i).kind, .string (tkN l i).text, .int .i64 (tkN l i).num, .int .i64 (lnN s l i), .int .i64 (clN s l i)] 56)
  clear f_3
  generalize W3.heap.size = T at *
  generalize W3.alloc (.cells #[.int .i64 (tkN l i).kind, .string (tkN l i).text, .int .i64 (tkN l i).num, .int .i64 (lnN s l i), .int .i64 (clN s l i)] 56) = W4 at *
  obtain ⟨kT0, kT1, kT2, kT3, kT4, fT0, fT1, fT2, fT3, fT4⟩ := blk5 f_4.blk
  go_upto_region 7 with fail
  clear kT0 kT1 kT2 kT3 kT4 fT0 fT1 fT2 fT3 fT4
  have f_5 := f_4.alloc (.cells #[.int .i64 0, .string ⟨#[]⟩, .int .i64 0, .slice none 0 0, .int .i64 (lnN s l i), .int .i64 (clN s l i)] 41)
  have z_5 := alloc_size W4 (.cells #[.int .i64 0, .string ⟨#[]⟩, .int .i64 0, .slice none 0 0, .int .i64 (lnN s l i), .int .i64 (clN s l i)] 41)
  clear f_4
  generalize W4.heap.size = E at *
  generalize W4.alloc (.cells #[.int .i64 0, .string ⟨#[]⟩, .int .i64 0, .slice none 0 0, .int .i64 (lnN s l i), .int .i64 (clN s l i)] 41) = W5 at *
  rw [← z_4]
  clear z_4
  obtain ⟨kT0, kT1, kT2, kT3, kT4, fT0, fT1, fT2, fT3, fT4⟩ := blk5 f_5.rot1.blk
  go_wp2_with fail
  clear kT0 kT1 kT2 kT3 kT4 fT0 fT1 fT2 fT3 fT4 hk2
  clear z_5
  refine (take_no (t := ⟨#[116, 114, 117, 101]⟩) hE f_5.sm q0).mono ?_
  rintro r W6 ⟨rfl, t_6, q_6⟩
  have f_6 := f_5.turn t_6 q_6
  clear f_5 t_6 q_6
  go_wp2_with fail
  refine (take_no (t := ⟨#[102, 97, 108, 115, 101]⟩) hE f_6.sm q1).mono ?_
  rintro r W7 ⟨rfl, t_7, q_7⟩
  have f_7 := f_6.turn t_7 q_7
  clear f_6 t_7 q_7
  obtain ⟨kT0, kT1, kT2, kT3, kT4, fT0, fT1, fT2, fT3, fT4⟩ := blk5 f_7.rot1.blk
  go_wp2_with fail
  clear kT0 kT1 kT2 kT3 kT4 fT0 fT1 fT2 fT3 fT4 hk1
  refine (take_no (t := ⟨#[109, 101, 114, 103, 101]⟩) hE f_7.sm q2).mono ?_
  rintro r W8 ⟨rfl, t_8, q_8⟩
  have f_8 := f_7.turn t_8 q_8
  clear f_7 t_8 q_8
  go_wp2_with fail
  refine (want_m hE f_8.sm ⟨#[40]⟩).mono ?_
  rintro r W9 ⟨rfl, t_9, q_9⟩
  have f_9 := f_8.turn t_9 q_9
  clear f_8 t_9 q_9
  go_wp2_with fail
  refine (hr _ W9 f_9.sm).mono ?_
  rintro r W10 ⟨ex, Ax, cx, tx, mx, rfl, Gx⟩
  obtain ⟨Dx, f_10⟩ := f_9.expr Gx
  obtain ⟨lowx, topx, okx, camex⟩ := Gx.facts
  clear f_9 Gx
  simp only [Ex.val_eq]
  go_upto_region 5 with fail
  have f_11 := f_10.alloc (.cells #[.int .i64 ex.op, .string ex.name, .int .i64 ex.num, .slice Ax ex.k cx, .int .i64 ex.line, .int .i64 ex.col] 41)
  have z_11 := alloc_size W10 (.cells #[.int .i64 ex.op, .string ex.name, .int .i64 ex.num, .slice Ax ex.k cx, .int .i64 ex.line, .int .i64 ex.col] 41)
  clear f_10
  generalize W10.heap.size = X at *
  generalize W10.alloc (.cells #[.int .i64 ex.op, .string ex.name, .int .i64 ex.num, .slice Ax ex.k cx, .int .i64 ex.line, .int .i64 ex.col] 41) = W11 at *
  go_wp2_with fail
  clear z_11
  refine (want_m hE f_11.sm ⟨#[41]⟩).mono ?_
  rintro r W12 ⟨rfl, t_12, q_12⟩
  have f_12 := f_11.turn t_12 q_12
  clear f_11 t_12 q_12
  obtain ⟨kX0, kX1, kX2, kX3, kX4, kX5, fX0, fX1, fX2, fX3, fX4, fX5⟩ := blk6 f_12.blk
  obtain ⟨kR0, kR1, kR2, kR3, kR4, kR5, fR0, fR1, fR2, fR3, fR4, fR5⟩ := blk6 f_12.rot4.blk
  go_wp2_with fail
  clear kX0 kX1 kX2 kX3 kX4 kX5 fX0 fX1 fX2 fX3 fX4 fX5 kR0 kR1 kR2 kR3 kR4 kR5 fR0 fR1 fR2 fR3 fR4 fR5
  have f_13 := Fr.set6 f_12.rot4 (.int .i64 ex.op) (.string ex.name) (.int .i64 ex.num) (.slice Ax ex.k cx) (.int .i64 ex.line) (.int .i64 ex.col)
  clear f_12
  generalize ((((((W12.setCell ⟨R, 0, none⟩ (.int .i64 ex.op)).setCell ⟨R, 1, none⟩ (.string ex.name)).setCell ⟨R, 2, none⟩ (.int .i64 ex.num)).setCell ⟨R, 3, none⟩ (.slice Ax ex.k cx)).setCell ⟨R, 4, none⟩ (.int .i64 ex.line)).setCell ⟨R, 5, none⟩ (.int .i64 ex.col)) = W13 at *
  have fin := f_13.rot2
  obtain ⟨r0, r1, r2, r3, r4, r5, -⟩ := blk6 f_13.blk
  try simp only [Exit.inBlock, Exit.then]
  exact bodyPost_ret (v := .tuple #[.agg #[.int .i64 ex.op, .string ex.name, .int .i64 ex.num, .slice Ax ex.k cx, .int .i64 ex.line, .int .i64 ex.col], .int .i64 tx]) (by simp [results, Tryz.results105, go_sem, r0, r1, r2, r3, r4, r5]) rfl ⟨ex, Ax, cx, tx, _, rfl, ⟨fin.ex, f_13.sm, f_13.gr, lowx, by omega, fun j hj => by obtain ⟨j2, hj2⟩ := want_ok hj; exact okx j2 hj2, by rw [alone_in hkH.out q0 q1 q2]; unfold withinN; rw [← want_seq, ← seq_then]; exact want_came camex.out _⟩⟩
end Go.Proofs.YtnlikhjmmnaknaaGreatDoor
/-
  Parts of an expression that are read one by one: what the loops of choice, call and merge keep.
-/
namespace Go.Proofs.YtnlikhjmmnaknaaGreatDoor
open Go.RowKit

/-- an expression that was read, and the blocks of its parts -/
structure LX where
  D : Nat → Prop
  x : LEx
def LX.kp (y : LX) : Kp := exK y.D y.x.e y.x.A y.x.cap
def LX.es (xs : List LX) : List Ex := xs.map fun y => y.x.e
theorem Fr.push {P : Option Nat} {S : World → Prop} {w0 w : World} {D : Nat → Prop} {e : Ex} {A : Option Addr} {c : Nat} (xs : List LX) (h : Fr P S w0 w (exK D e A c :: xs.map LX.kp)) : Fr P S w0 w ((xs ++ [LX.mk D ⟨e, A, c⟩]).map LX.kp) := by
  refine h.perm ?_
  rw [List.map_append]
  exact (List.perm_append_comm (l₁ := [exK D e A c]))
theorem Fr.push1 {P : Option Nat} {S : World → Prop} {w0 w : World} {a : Kp} {D : Nat → Prop} {e : Ex} {A : Option Addr} {c : Nat} (xs : List LX) (h : Fr P S w0 w (exK D e A c :: a :: xs.map LX.kp)) : Fr P S w0 w (a :: (xs ++ [LX.mk D ⟨e, A, c⟩]).map LX.kp) := by
  refine h.perm ((List.Perm.swap _ _ _).trans (.cons _ ?_))
  rw [List.map_append]
  exact (List.perm_append_comm (l₁ := [exK D e A c]))
theorem push_perm (xs : List LX) (pre : List Kp) (D : Nat → Prop) (e : Ex) (A : Option Addr) (c : Nat) : (exK D e A c :: (pre ++ xs.map LX.kp)).Perm (pre ++ (xs ++ [LX.mk D ⟨e, A, c⟩]).map LX.kp) := by
  rw [List.map_append, ← List.append_assoc]
  exact (List.perm_append_comm (l₁ := [exK D e A c]))

/-- the parts so far: their row, their heights' row, the expression that they go into, other blocks -/
structure Parts (s : ByteArray) (l : List Tk) (P g : Nat) (w0 : World) (op : Int) (name : ByteArray) (ln cl : Int) (E : Nat) (more : List Kp) (top : Int) (q0 : PR) (rest : List Ex → Nat → PR) (n : Nat) (H : Option Addr) (hc : Nat) (wr : World) (xs : List LX) (hs : List Int) (A : Option Addr) (c : Nat) (m : Md) : Prop where
  xn : xs.length = n
  hn : hs.length = n
  fr : PF s l P g w0 m wr (rowK w0 41 6 (.slice A n c) n ((xs.map LX.x).flatMap LEx.cells) :: rowK w0 3 1 (.slice H n hc) n (hs.map (Value.int .i64)) :: blkK E (.cells #[.int .i64 op, .string name, .int .i64 0, .slice A n c, .int .i64 ln, .int .i64 cl] 41 (0, 0)) :: (more ++ xs.map LX.kp))
  q : q0 = m.seq (rest (LX.es xs))
  hok : ∀ i, m = .ok i → hs = (LX.es xs).map fun e => (e.height : Int)
  hb : ∀ h ∈ hs, 0 ≤ h ∧ h ≤ top
theorem ints_own {w : World} {b0 : Nat} {H : Option Addr} {n hc : Nat} {hs : List Int} (h : w.ownsRow b0 3 1 (.slice H n hc) n (hs.map (Value.int .i64))) (hn : hs.length = n) : IntsAt w H hs ∧ hs.length ≤ hc ∧ hc ≤ maxLen := by
  rcases h.2 with ⟨h1, h2⟩ | ⟨g, cap, cur, h1, hb, h3, h4, h5, h6, h7⟩
  · have h0 : hs = [] := List.length_eq_zero_iff.1 (by omega)
    subst h0
    injection h1 with _ _ hc
    subst hc
    exact ⟨fun j hj => absurd hj (by simp), Nat.le_refl _, Nat.zero_le _⟩
  · injection h1 with hA _ hc
    subst hA hc
    refine ⟨fun j hj => ⟨g, 0, rfl, ?_⟩, by omega, h5⟩
    have h8 : (hs.map (Value.int .i64))[j]? = some (.int .i64 hs[j]) := by rw [List.getElem?_map, List.getElem?_eq_getElem hj]; rfl
    rw [← h7, List.getElem?_take_of_lt (by omega), Array.getElem?_toList] at h8
    simpa [World.cell?, h3] using h8
theorem Fr.exs {P : Option Nat} {S : World → Prop} {w0 w : World} {ks : List Kp} {xs : List LX} (h : Fr P S w0 w (ks ++ xs.map LX.kp)) : ∀ x ∈ xs.map LX.x, ExIn (Iv w0.heap.size w.heap.size) w x.e x.A x.cap := fun x hx => by
  obtain ⟨y, hy, rfl⟩ := List.mem_map.1 hx
  have := h.k y.kp (List.mem_append_right _ (List.mem_map.2 ⟨y, hy, rfl⟩))
  exact ExIn.wide (fun n hn => ⟨this.lo n hn, this.hi n hn⟩) _ _ _ this.q
theorem es_len (xs : List LX) : (LX.es xs).length = xs.length := List.length_map _
theorem es_x (xs : List LX) : (xs.map LX.x).map (·.e) = LX.es xs := by unfold LX.es; rw [List.map_map]; rfl
/-- the expression, made of the parts -/
theorem parts_in {b0 : Nat} {w : World} {A : Option Addr} {c n : Nat} {xs : List LX} {op : Int} {name : ByteArray} {num ln cl : Int} (h : w.ownsRow b0 41 6 (.slice A n c) n ((xs.map LX.x).flatMap LEx.cells)) (hn : xs.length = n) (hin : ∀ x ∈ xs.map LX.x, ExIn (Iv b0 w.heap.size) w x.e x.A x.cap)
    (h1 : I64 op) (h2 : name.size ≤ maxLen) (h3 : I64 num) (h4 : I64 ln) (h5 : I64 cl) : ExIn (Iv b0 w.heap.size) w (mkEx op name num (LX.es xs) ln cl) A c := by
  have hl : (xs.map LX.x).length = n := by rw [List.length_map]; exact hn
  rw [← hl] at h
  obtain ⟨h6, h7, h8⟩ := exs_own h (fun n h1 h2 => ⟨h1, h2⟩) hin
  rw [← es_x]
  exact exIn_of h6 h1 h2 h3 h4 h5 h7 h8
theorem came_mades {q : PR} {m : Md} {op num ln cl : Int} {name : ByteArray} {es : List Ex} {hs : List Int} (hq : q = m.seq fun i => madeN (mkEx op name num es ln cl) i) (hok : ∀ i, m = .ok i → hs = es.map fun e => (e.height : Int)) :
    Came q (if 30 < topOf hs then m.fail 22 ln cl else m) (mkEx op name num es ln cl) (topOf hs) := by
  subst hq
  cases m with
  | bad a b c => show (if _ then _ else _) = _; split <;> rfl
  | ok i =>
    have := hok i rfl
    subst this
    have hh := mk_height (op := op) (name := name) (n := num) (ln := ln) (cl := cl) es
    show Came (madeN _ _) _ _ _
    unfold madeN
    by_cases h : 30 < topOf (es.map fun e => (e.height : Int))
    · rw [if_pos h, if_pos (by omega)]; rfl
    · rw [if_neg h, if_neg (by omega)]; exact ⟨rfl, rfl, hh.symm⟩
theorem Expr.info : (Tryz.prog.info? 41).map (fun i => (i.zero, i.size, i.bytes)) = some (some (.agg #[.int .i64 0, .string ⟨#[]⟩, .int .i64 0, .slice none 0 0, .int .i64 0, .int .i64 0]), 6, 72) := by kernel_rfl
theorem int.info : (Tryz.prog.info? 3).map (fun i => (i.zero, i.size, i.bytes)) = some (some (.int .i64 0), 1, 8) := by kernel_rfl
theorem Expr.info' : ∃ i z, Tryz.prog.info? 41 = some i ∧ i.zero = some z ∧ i.size = 6 ∧ i.bytes = 72 ∧ z.cells.size = 6 := by
  have hi := Expr.info
  cases h : Tryz.prog.info? 41 with
  | none => rw [h] at hi; cases hi
  | some i0 => rw [h] at hi; simp only [Option.map_some, Option.some.injEq, Prod.mk.injEq] at hi; exact ⟨i0, _, rfl, hi.1, hi.2.1, hi.2.2, rfl⟩
theorem int.info' : ∃ i z, Tryz.prog.info? 3 = some i ∧ i.zero = some z ∧ i.size = 1 ∧ i.bytes = 8 ∧ z.cells.size = 1 := by
  have hi := int.info
  cases h : Tryz.prog.info? 3 with
  | none => rw [h] at hi; cases hi
  | some i0 => rw [h] at hi; simp only [Option.map_some, Option.some.injEq, Prod.mk.injEq] at hi; exact ⟨i0, _, rfl, hi.1, hi.2.1, hi.2.2, rfl⟩
/-- the parts of merge, so many that are still to come -/
def merN (s : ByteArray) (l : List Tk) (rec : Int → Nat → PR) (name : ByteArray) (ln cl : Int) : Nat → List Ex → Nat → PR
  | 0, es, i => madeN (mkEx 26 name 0 es ln cl) i
  | k + 1, es, i => withinN s l rec i fun x i1 => merN s l rec name ln cl k (es ++ [x]) i1
theorem came_ok {q : PR} {j : Nat} {e : Ex} {h : Int} (hc : Came q (.ok j) e h) : q = .ok e j ∧ h = e.height := by
  cases q with
  | ok e1 i1 => obtain ⟨h1, rfl, rfl⟩ := hc; injection h1 with h1; subst h1; exact ⟨rfl, rfl⟩
  | bad a b c => cases hc
theorem seq_ok {m : Md} {f : Nat → PR} {e : Ex} {j : Nat} (h : m.seq f = .ok e j) : ∃ i, m = .ok i := by
  cases m with
  | ok i => exact ⟨i, rfl⟩
  | bad a b c => cases h
/-- what came, and what is still to come -/
theorem came_then {q : PR} {m : Md} {e : Ex} {h : Int} {f : Ex → Nat → PR} (hc : Came q m e h) : q.then f = m.seq (f e) := by
  cases q with
  | ok e1 i1 => obtain ⟨rfl, rfl, rfl⟩ := hc; rfl
  | bad a b c => have hc : m = _ := hc; subst hc; rfl
theorem seq_want {s : ByteArray} {l : List Tk} {m : Md} {t : List UInt8} {f : Nat → PR} : (m.want s l t).seq f = m.seq fun i => wantN s l t i f := by
  cases m with
  | ok i => exact want_seq
  | bad a b c => rfl
theorem mer_step {s : ByteArray} {l : List Tk} {rec : Int → Nat → PR} {name : ByteArray} {ln cl : Int} {k : Nat} {es : List Ex} {m1 mx : Md} {ex : Ex} {tx : Int} (hc : Came ((m1.want s l wOpen).seq (rec 0)) mx ex tx) :
    m1.seq (merN s l rec name ln cl (k + 1) es) = (mx.want s l wShut).seq (merN s l rec name ln cl k (es ++ [ex])) := by
  rw [seq_want, ← came_then (f := fun e i => wantN s l wShut i (merN s l rec name ln cl k (es ++ [e]))) hc, seq_then, seq_want]
  rfl
theorem mer_two {s : ByteArray} {l : List Tk} {rec : Int → Nat → PR} {name : ByteArray} {ln cl : Int} {m : Md} : m.seq (merN s l rec name ln cl 2 []) = m.seq fun i1 => withinN s l rec i1 fun a i2 => withinN s l rec i2 fun b i3 => madeN (mkEx 26 name 0 [a, b] ln cl) i3 := rfl
theorem hok_push {q : PR} {m mx : Md} {xs : List LX} {hs : List Int} {D : Nat → Prop} {ex : Ex} {A : Option Addr} {c : Nat} {tx : Int} (hok : ∀ i, m = .ok i → hs = (LX.es xs).map fun e => (e.height : Int)) {f : Nat → PR} (hq : q = m.seq f) (hc : Came q mx ex tx) {i : Nat} (hi2 : mx = .ok i) : hs ++ [tx] = (LX.es (xs ++ [LX.mk D ⟨ex, A, c⟩])).map fun e => (e.height : Int) := by
  subst hi2
  obtain ⟨h1, h2⟩ := came_ok hc
  obtain ⟨j, hj⟩ := seq_ok (hq ▸ h1)
  unfold LX.es
  rw [List.map_append, List.map_append, hok j hj, h2]
  rfl
theorem es_push (xs : List LX) (D : Nat → Prop) (ex : Ex) (A : Option Addr) (c : Nat) : LX.es (xs ++ [LX.mk D ⟨ex, A, c⟩]) = LX.es xs ++ [ex] := by unfold LX.es; rw [List.map_append]; rfl
theorem rows_push (xs : List LX) (D : Nat → Prop) (e : Ex) (A : Option Addr) (c : Nat) : ((xs ++ [LX.mk D ⟨e, A, c⟩]).map LX.x).flatMap LEx.cells = (xs.map LX.x).flatMap LEx.cells ++ (#[.int .i64 e.op, .string e.name, .int .i64 e.num, .slice A e.k c, .int .i64 e.line, .int .i64 e.col] : Array Value).toList := by
  rw [List.map_append, List.flatMap_append]
  rfl
theorem ints_push (hs : List Int) (t : Int) : (hs ++ [t]).map (Value.int .i64) = hs.map (Value.int .i64) ++ (#[.int .i64 t] : Array Value).toList := by rw [List.map_append]; rfl
theorem ex_one {a c d e : Int} {b : ByteArray} {A : Option Addr} {k n : Nat} : ∀ u ∈ (#[.int .i64 a, .string b, .int .i64 c, .slice A k n, .int .i64 d, .int .i64 e] : Array Value).toList, u.oneCell' = true := by
  intro u hu
  simp only [List.mem_cons, List.not_mem_nil, or_false] at hu
  rcases hu with rfl | rfl | rfl | rfl | rfl | rfl <;> rfl
theorem int_one {a : Int} : ∀ u ∈ (#[.int .i64 a] : Array Value).toList, u.oneCell' = true := by
  intro u hu
  simp only [List.mem_cons, List.not_mem_nil, or_false] at hu
  subst hu
  rfl
theorem hb_push {hs : List Int} {t top : Int} (h : ∀ h ∈ hs, 0 ≤ h ∧ h ≤ top) (h0 : 0 ≤ t) (h1 : t ≤ top) : ∀ h ∈ hs ++ [t], 0 ≤ h ∧ h ≤ top := fun x hx => by
  rcases List.mem_append.1 hx with hx | hx
  · exact h x hx
  · have : x = t := by simpa using hx
    subst this
    exact ⟨h0, h1⟩
/-- the words of choice -/
def cw (j : Nat) : ByteArray := if j = 0 then ⟨#[105, 102]⟩ else if j = 1 then ⟨#[116, 104, 101, 110]⟩ else ⟨#[101, 108, 115, 101]⟩
theorem cw_cell {w : World} {T j : Nat} {t : TypeId} (h : w.heap[T]? = some (.cells #[.string ⟨#[105, 102]⟩, .string ⟨#[116, 104, 101, 110]⟩, .string ⟨#[101, 108, 115, 101]⟩] t (0, 0))) (hj : j < 3) : w.cell? ⟨T, j, none⟩ = some (.string (cw j)) := by
  rcases (by omega : j = 0 ∨ j = 1 ∨ j = 2) with rfl | rfl | rfl
  · exact Lib.cell_of_heap h 0
  · exact Lib.cell_of_heap h 1
  · exact Lib.cell_of_heap h 2
/-- the parts of choice, so many that are still to come -/
def choN (s : ByteArray) (l : List Tk) (rec : Int → Nat → PR) (ln cl : Int) : Nat → List Ex → Nat → PR
  | 0, es, i => madeN (mkEx 27 ⟨#[]⟩ 0 es ln cl) i
  | k + 1, es, i => wantN s l (cw (2 - k)).data.toList i fun i1 => (rec 0 i1).then fun x i2 => choN s l rec ln cl k (es ++ [x]) i2
theorem cho_step {s : ByteArray} {l : List Tk} {rec : Int → Nat → PR} {ln cl : Int} {j : Nat} (hj : j < 3) {es : List Ex} {m1 mx : Md} {ex : Ex} {tx : Int} (hc : Came ((m1.want s l (cw j).data.toList).seq (rec 0)) mx ex tx) :
    m1.seq (choN s l rec ln cl (3 - j) es) = mx.seq (choN s l rec ln cl (3 - (j + 1)) (es ++ [ex])) := by
  rw [show 3 - j = (3 - (j + 1)) + 1 by omega]
  rw [← came_then (f := fun e i => choN s l rec ln cl (3 - (j + 1)) (es ++ [e]) i) hc, seq_then, seq_want]
  show (m1.seq fun i => wantN s l (cw (2 - (3 - (j + 1)))).data.toList i fun i1 => (rec 0 i1).then fun x i2 => choN s l rec ln cl (3 - (j + 1)) (es ++ [x]) i2) = _
  rw [show 2 - (3 - (j + 1)) = j by omega]
theorem cho_three {s : ByteArray} {l : List Tk} {rec : Int → Nat → PR} {i : Nat} : choiceN s l rec i = choN s l rec (lnN s l i) (clN s l i) 3 [] i := rfl
/-- the parts of a call, behind so many -/
def calN (s : ByteArray) (l : List Tk) (rec : Int → Nat → PR) (name : ByteArray) (at_ n : Nat) (es : List Ex) (i : Nat) : PR := (rec 0 i).then fun x i1 => argsN s l rec name at_ (7 - n) (es ++ [x]) i1
theorem cal_came {s : ByteArray} {l : List Tk} {rec : Int → Nat → PR} {name : ByteArray} {at_ n : Nat} {es : List Ex} {m1 mx : Md} {ex : Ex} {tx : Int} (hc : Came (m1.seq (rec 0)) mx ex tx) : m1.seq (calN s l rec name at_ n es) = mx.seq (argsN s l rec name at_ (7 - n) (es ++ [ex])) := by
  rw [← came_then (f := fun e i => argsN s l rec name at_ (7 - n) (es ++ [e]) i) hc, seq_then]
  rfl
theorem args_no {s : ByteArray} {l : List Tk} {rec : Int → Nat → PR} {name : ByteArray} {at_ n : Nat} {es : List Ex} {m : Md} (h : m.is l wComma = false) : m.seq (argsN s l rec name at_ n es) = (m.want s l wShut).seq fun i => madeN (mkEx 4 name 0 es (lnN s l at_) (clN s l at_)) i := by
  rw [seq_want]
  cases m with
  | bad a b c => rfl
  | ok i =>
    have h : isN l i wComma = false := h
    show argsN s l rec name at_ n es i = _
    unfold argsN
    rw [if_neg (by simp [h])]
    rfl
theorem args_full {s : ByteArray} {l : List Tk} {rec : Int → Nat → PR} {name : ByteArray} {at_ i : Nat} {es : List Ex} (h : isN l i wComma = true) : argsN s l rec name at_ 0 es i = .bad 3 (lnN s l i) (clN s l i) := by
  unfold argsN
  rw [if_pos h]
  rfl
theorem args_more {s : ByteArray} {l : List Tk} {rec : Int → Nat → PR} {name : ByteArray} {at_ i n : Nat} {es : List Ex} (h : isN l i wComma = true) (hn : n + 1 ≤ 7) : argsN s l rec name at_ (7 - n) es i = calN s l rec name at_ (n + 1) es (i + 1) := by
  rw [show 7 - n = (7 - (n + 1)) + 1 by omega]
  show argsN s l rec name at_ ((7 - (n + 1)) + 1) es i = (rec 0 (i + 1)).then fun x i1 => argsN s l rec name at_ (7 - (n + 1)) (es ++ [x]) i1
  conv => lhs; unfold argsN
  rw [if_pos h]
theorem want_yes {s : ByteArray} {l : List Tk} {P g : Nat} {w : World} (hE : Ended l) {i : Nat} (h : Sm s l P g w (.ok i)) {t : ByteArray} (hi : isN l i t.data.toList = true) :
    Calls Tryz.prog 41 #[.pointer (some ⟨P, 0, none⟩), .string t] w fun r w' => r = .returned (.tuple #[]) ∧ Sm s l P g w' (.ok (i + 1)) ∧ w.grownBy w' (some P) := by
  refine (want_m hE h t).mono ?_
  rintro r w1 ⟨rfl, h1, h2⟩
  have hm : Md.want s l (.ok i) t.data.toList = .ok (i + 1) := if_pos hi
  exact ⟨rfl, hm ▸ h1, h2⟩
theorem is_yes {l : List Tk} {m : Md} {t : List UInt8} (h : m.is l t = true) : ∃ i, m = .ok i ∧ isN l i t = true := by
  cases m with
  | ok i => exact ⟨i, rfl, h⟩
  | bad a b c => cases h
theorem val_es {op num ln cl : Int} {name : ByteArray} {xs : List LX} {A : Option Addr} {n c : Nat} (h : xs.length = n) : (mkEx op name num (LX.es xs) ln cl).val A c = .agg #[.int .i64 op, .string name, .int .i64 num, .slice A n c, .int .i64 ln, .int .i64 cl] := by
  subst h
  rw [← es_len]
  rfl
end Go.Proofs.YtnlikhjmmnaknaaGreatDoor
/-
  The walk of the parser's merge (printed by gen_p2.py).
-/
namespace Go.Proofs.YtnlikhjmmnaknaaGreatDoor
open Go.RowKit


set_option maxHeartbeats 4000000 in
set_option maxRecDepth 100000 in
theorem merge_any {s : ByteArray} {l : List Tk} {P g : Nat} (hE : Ended l) (hK : TkOk s l) {L L1 : Int} (hL : IntKind.i64.wrap (L + 1) = L1) {rec : Int → Nat → PR} {top : Int} (ht : 30 ≤ top ∧ top ≤ 199)
    (hr : Gives s l P g 37 #[.pointer (some ⟨P, 0, none⟩), .int .i64 0, .int .i64 L1] (rec 0) top)
    (name : ByteArray) (hn : name.size ≤ maxLen) (at_ : Nat) (m : Md) (w : World) (h : Sm s l P g w m) :
    Calls Tryz.prog 117 #[.pointer (some ⟨P, 0, none⟩), .agg #[.int .i64 26, .string name, .int .i64 0, .slice none 0 0, .int .i64 (lnN s l at_), .int .i64 (clN s l at_)], .int .i64 L] w fun r w' => ∃ e A c t m', r = .returned (.tuple #[e.val A c, .int .i64 t]) ∧ Got s l P g w (m.seq fun i1 => withinN s l rec i1 fun a i2 => withinN s l rec i2 fun b i3 => madeN (mkEx 26 name 0 [a, b] (lnN s l at_) (clN s l at_)) i3) (top + 1) w' e A c t m' := by
  go_enter Tryz.func117, Tryz.ntmps117
  have f_1 := PF.start h
  obtain ⟨ie, ze, hie, hze, hse, hbe, hce⟩ := Expr.info'
  obtain ⟨ii, zi, hii, hzi, hsi, hbi, hci⟩ := int.info'
  go_wp2_with fail
  have f_2 := f_1.alloc (.cells #[.int .i64 26, .string name, .int .i64 0, .slice none 0 0, .int .i64 (lnN s l at_), .int .i64 (clN s l at_)] 41)
  have z_2 := alloc_size w (.cells #[.int .i64 26, .string name, .int .i64 0, .slice none 0 0, .int .i64 (lnN s l at_), .int .i64 (clN s l at_)] 41)
  clear f_1
  generalize w.heap.size = E at *
  generalize w.alloc (.cells #[.int .i64 26, .string name, .int .i64 0, .slice none 0 0, .int .i64 (lnN s l at_), .int .i64 (clN s l at_)] 41) = W2 at *
  have f_3 := f_2.alloc (.cells #[.int .i64 0, .string ⟨#[]⟩, .int .i64 0, .slice none 0 0, .int .i64 0, .int .i64 0] 41)
  have z_3 := alloc_size W2 (.cells #[.int .i64 0, .string ⟨#[]⟩, .int .i64 0, .slice none 0 0, .int .i64 0, .int .i64 0] 41)
  clear f_2
  generalize W2.heap.size = R at *
  generalize W2.alloc (.cells #[.int .i64 0, .string ⟨#[]⟩, .int .i64 0, .slice none 0 0, .int .i64 0, .int .i64 0] 41) = W3 at *
  rw [← z_2]
  clear z_2
  clear z_3
  have fs : PF s l P g w m W3 (rowK w 41 6 (.slice none 0 0) 0 ((([] : List LX).map LX.x).flatMap LEx.cells) :: rowK w 3 1 (.slice none 0 0) 0 (([] : List Int).map (Value.int .i64)) :: blkK E (.cells #[.int .i64 26, .string name, .int .i64 0, .slice none 0 0, .int .i64 (lnN s l at_), .int .i64 (clN s l at_)] 41 (0, 0)) :: ([blkK R (.cells #[.int .i64 0, .string ⟨#[]⟩, .int .i64 0, .slice none 0 0, .int .i64 0, .int .i64 0] 41 (0, 0))] ++ ([] : List LX).map LX.kp)) := ((f_3.rot1).nilRow 3 1).nilRow 41 6
  clear f_3
  obtain ⟨q0, hq0⟩ : ∃ q0, q0 = m.seq (merN s l rec name (lnN s l at_) (clN s l at_) 2 []) := ⟨_, rfl⟩
  go_loopw [8, 11] (fun v i wr => ∃ (j : Nat) (H : Option Addr) (hc : Nat) (xs : List LX) (hs : List Int) (A : Option Addr) (c : Nat) (m1 : Md), j ≤ 2 ∧ i = .int .i64 j ∧ v = .slice H j hc ∧ Parts s l P g w 26 name (lnN s l at_) (clN s l at_) E [blkK R (.cells #[.int .i64 0, .string ⟨#[]⟩, .int .i64 0, .slice none 0 0, .int .i64 0, .int .i64 0] 41 (0, 0))] top q0 (merN s l rec name (lnN s l at_) (clN s l at_) (2 - j)) j H hc wr xs hs A c m1) (fun _ i _ => 2 - (intOf i).toNat)
  case atStart => exact ⟨0, none, 0, [], [], none, 0, m, by omega, rfl, rfl, rfl, rfl, fs, hq0, fun _ _ => rfl, by simp⟩
  case round =>
    clear fs
    obtain ⟨j, H, hc, xs, hs, A, c, m1, hj, rfl, rfl, hxn, hhn, f_0, hq, hok, hb⟩ := hrel
    simp only [List.cons_append, List.nil_append] at f_0
    by_cases hlt : j < 2
    · have hqH := hid hq
      clear hq
      go_wp2_with fail
      refine (want_m hE f_0.sm ⟨#[40]⟩).mono ?_
      rintro r W4 ⟨rfl, t_4, q_4⟩
      have f_4 := f_0.turn t_4 q_4
      clear f_0 t_4 q_4
      go_wp2_with fail
      refine (hr _ W4 f_4.sm).mono ?_
      rintro r W5 ⟨ex, Ax, cx, tx, mx, rfl, Gx⟩
      obtain ⟨Dx, f_5⟩ := f_4.expr Gx
      obtain ⟨lowx, topx, okx, camex⟩ := Gx.facts
      clear f_4 Gx
      simp only [Ex.val_eq]
      go_upto_region 6 with fail
      have f_6 := f_5.alloc (.cells #[.int .i64 ex.op, .string ex.name, .int .i64 ex.num, .slice Ax ex.k cx, .int .i64 ex.line, .int .i64 ex.col] 41)
      have z_6 := alloc_size W5 (.cells #[.int .i64 ex.op, .string ex.name, .int .i64 ex.num, .slice Ax ex.k cx, .int .i64 ex.line, .int .i64 ex.col] 41)
      clear f_5
      generalize W5.heap.size = X at *
      generalize W5.alloc (.cells #[.int .i64 ex.op, .string ex.name, .int .i64 ex.num, .slice Ax ex.k cx, .int .i64 ex.line, .int .i64 ex.col] 41) = W6 at *
      go_wp2_with fail
      clear z_6
      refine (want_m hE f_6.sm ⟨#[41]⟩).mono ?_
      rintro r W7 ⟨rfl, t_7, q_7⟩
      have f_7 := f_6.turn t_7 q_7
      clear f_6 t_7 q_7
      go_upto_region 7 with fail
      obtain ⟨kE0, kE1, kE2, kE3, kE4, kE5, fE0, fE1, fE2, fE3, fE4, fE5⟩ := blk6 f_7.rot4.blk
      obtain ⟨kX0, kX1, kX2, kX3, kX4, kX5, fX0, fX1, fX2, fX3, fX4, fX5⟩ := blk6 f_7.blk
      go_wp2_with (at_builtin; refine Held.stop ?_)
      clear kE0 kE1 kE2 kE3 kE4 kE5 fE0 fE1 fE2 fE3 fE4 fE5 kX0 kX1 kX2 kX3 kX4 kX5 fX0 fX1 fX2 fX3 fX4 fX5
      refine Held.go ?_
      have f_8 := f_7.alloc (.cells #[.int .i64 ex.op, .string ex.name, .int .i64 ex.num, .slice Ax ex.k cx, .int .i64 ex.line, .int .i64 ex.col] 41)
      have z_8 := alloc_size W7 (.cells #[.int .i64 ex.op, .string ex.name, .int .i64 ex.num, .slice Ax ex.k cx, .int .i64 ex.line, .int .i64 ex.col] 41)
      clear f_7
      generalize W7.heap.size = B at *
      generalize W7.alloc (.cells #[.int .i64 ex.op, .string ex.name, .int .i64 ex.num, .slice Ax ex.k cx, .int .i64 ex.line, .int .i64 ex.col] 41) = W8 at *
      clear z_8
      refine Fr.wpApp (f_8.rot3.rot1) rfl _ _ _ rfl Tryz.underlying39 hie hze hse hbe hce (by decide) rfl rfl rfl ex_one (by decide) (by unfold maxLen; omega) (by omega) ?_
      intro GA capA W9 f_9
      clear f_8
      go_wp2_with (at_builtin; refine Held.stop ?_)
      refine Held.go ?_
      have f_10 := f_9.alloc (.cells #[.int .i64 tx] 3)
      have z_10 := alloc_size W9 (.cells #[.int .i64 tx] 3)
      clear f_9
      generalize W9.heap.size = Hb at *
      generalize W9.alloc (.cells #[.int .i64 tx] 3) = W10 at *
      clear z_10
      refine Fr.wpApp (f_10.rot5.rot1) rfl _ _ _ rfl Tryz.underlying144 hii hzi hsi hbi hci (by decide) rfl rfl rfl int_one (by decide) (by unfold maxLen; omega) (by omega) ?_
      intro GH capH W11 f_11
      clear f_10
      obtain ⟨kE0, kE1, kE2, kE3, kE4, kE5, fE0, fE1, fE2, fE3, fE4, fE5⟩ := blk6 f_11.rot6.blk
      go_wp2_with fail
      clear kE0 kE1 kE2 kE3 kE4 kE5 fE0 fE1 fE2 fE3 fE4 fE5
      have f_12 := Fr.set (n := 3) f_11.rot6 (.slice (some ⟨GA, 0, none⟩) (j + 1) capA)
      simp only [List.setIfInBounds_toArray, List.set_cons_zero, List.set_cons_succ] at f_12
      clear f_11
      generalize W11.setCell ⟨E, 3, none⟩ (.slice (some ⟨GA, 0, none⟩) (j + 1) capA) = W12 at *
      have fin := f_12.rot7.rot1.rot2.rot4.rot7.rot7.rot7.rot7
      have fc : PF s l P g w (mx.want s l wShut) W12 (rowK w 41 6 (.slice (some ⟨GA, 0, none⟩) (j + 1) capA) (j + 1) (((xs ++ [LX.mk Dx ⟨ex, Ax, cx⟩]).map LX.x).flatMap LEx.cells) :: rowK w 3 1 (.slice (some ⟨GH, 0, none⟩) (j + 1) capH) (j + 1) ((hs ++ [tx]).map (Value.int .i64)) :: blkK E (.cells #[.int .i64 26, .string name, .int .i64 0, .slice (some ⟨GA, 0, none⟩) (j + 1) capA, .int .i64 (lnN s l at_), .int .i64 (clN s l at_)] 41 (0, 0)) :: ([blkK R (.cells #[.int .i64 0, .string ⟨#[]⟩, .int .i64 0, .slice none 0 0, .int .i64 0, .int .i64 0] 41 (0, 0))] ++ (xs ++ [LX.mk Dx ⟨ex, Ax, cx⟩]).map LX.kp)) := by rw [rows_push, ints_push]; exact (fin.tail.tail.tail).perm (push_perm xs [_, _, _, _] _ _ _ _)
      have hyn : (xs ++ [LX.mk Dx ⟨ex, Ax, cx⟩]).length = j + 1 := by simp [hxn]
      have htn : (hs ++ [tx]).length = j + 1 := by simp [hhn]
      have hb2 := hb_push hb lowx topx
      have hq2 : Hid (q0 = (mx.want s l wShut).seq (merN s l rec name (lnN s l at_) (clN s l at_) (2 - (j + 1)) (LX.es (xs ++ [LX.mk Dx ⟨ex, Ax, cx⟩])))) := by have := hqH.out; show _ = _; rw [this, es_push, show 2 - j = (2 - (j + 1)) + 1 by omega]; exact mer_step camex.out
      have hok2 : Hid (∀ i, mx = .ok i → (hs ++ [tx]) = (LX.es (xs ++ [LX.mk Dx ⟨ex, Ax, cx⟩])).map fun e => (e.height : Int)) := fun i hi => hok_push (fun i hi => by obtain ⟨i3, hi3⟩ := want_ok hi; exact hok i3 hi3) rfl camex.out hi
      clear fin hqH hok hb hxn hhn f_12
      generalize xs ++ [LX.mk Dx ⟨ex, Ax, cx⟩] = ys at *
      generalize hs ++ [tx] = ts at *
      simp only [List.cons_append, List.nil_append] at fc
      have hP : Parts s l P g w 26 name (lnN s l at_) (clN s l at_) E [blkK R (.cells #[.int .i64 0, .string ⟨#[]⟩, .int .i64 0, .slice none 0 0, .int .i64 0, .int .i64 0] 41 (0, 0))] top q0 (merN s l rec name (lnN s l at_) (clN s l at_) (2 - (j + 1))) (j + 1) (some ⟨GH, 0, none⟩) capH W12 ys ts (some ⟨GA, 0, none⟩) capA (mx.want s l wShut) := ⟨hyn, htn, fc, hq2.out, fun i hi => by obtain ⟨i2, hi2⟩ := want_ok hi; exact hok2.out i2 hi2, hb2⟩
      go_roundw
      case rel => exact ⟨j + 1, some ⟨GH, 0, none⟩, capH, _, _, _, _, _, by omega, by go_num, rfl, hP⟩
      case measure => simp [intOf]; omega
    · have hj2 : j = 2 := by omega
      subst hj2
      have hqH := hid hq
      clear hq hlt
      obtain ⟨hI, hI1, hI2⟩ := ints_own f_0.rot1.head.q hhn
      obtain ⟨kE0, kE1, kE2, kE3, kE4, kE5, fE0, fE1, fE2, fE3, fE4, fE5⟩ := blk6 f_0.rot2.blk
      go_wp2_with fail
      clear kE0 kE1 kE2 kE3 kE4 kE5 fE0 fE1 fE2 fE3 fE4 fE5
      have hmade := made_m f_0.sm 26 name 0 A 2 c (lnN s l at_) (clN s l at_) hs H hc hI (fun x hx => by have := hb x hx; omega) ⟨hI1, hI2⟩
      rw [hhn] at hmade
      clear hI hI1 hI2
      refine (hmade).mono ?_
      rintro r W4 ⟨rfl, t_4, q_4⟩
      have f_4 := f_0.turn t_4 q_4
      clear f_0 t_4 q_4
      clear hmade
      obtain ⟨kR0, kR1, kR2, kR3, kR4, kR5, fR0, fR1, fR2, fR3, fR4, fR5⟩ := blk6 f_4.rot3.blk
      go_wp2_with fail
      clear kR0 kR1 kR2 kR3 kR4 kR5 fR0 fR1 fR2 fR3 fR4 fR5
      have f_5 := Fr.set6 f_4.rot3 (.int .i64 26) (.string name) (.int .i64 0) (.slice A 2 c) (.int .i64 (lnN s l at_)) (.int .i64 (clN s l at_))
      clear f_4
      generalize ((((((W4.setCell ⟨R, 0, none⟩ (.int .i64 26)).setCell ⟨R, 1, none⟩ (.string name)).setCell ⟨R, 2, none⟩ (.int .i64 0)).setCell ⟨R, 3, none⟩ (.slice A 2 c)).setCell ⟨R, 4, none⟩ (.int .i64 (lnN s l at_))).setCell ⟨R, 5, none⟩ (.int .i64 (clN s l at_))) = W5 at *
      have hin := parts_in (num := 0) (op := 26) (ln := lnN s l at_) (cl := clN s l at_) f_5.rot1.head.q hxn (Fr.exs (ks := [_, _, _, _]) f_5) (by simp [I64]) hn (by simp [I64]) (hK at_).1 (hK at_).2.1
      have htt := topOf_in hb (by omega)
      obtain ⟨r0, r1, r2, r3, r4, r5, -⟩ := blk6 f_5.blk
      try simp only [Exit.inBlock, Exit.then]
      refine bodyPost_ret (v := .tuple #[.agg #[.int .i64 26, .string name, .int .i64 0, .slice A 2 c, .int .i64 (lnN s l at_), .int .i64 (clN s l at_)], .int .i64 (topOf hs)]) (by simp [results, Tryz.results117, go_sem, r0, r1, r2, r3, r4, r5]) rfl ⟨mkEx 26 name 0 (LX.es xs) (lnN s l at_) (clN s l at_), A, c, _, _, by rw [val_es hxn], ⟨hin, f_5.sm, f_5.gr, htt.1, htt.2, made_ok, ?_⟩⟩
      have := came_mades (num := 0) (op := 26) (name := name) (ln := lnN s l at_) (cl := clN s l at_) hqH.out hok
      rw [hq0] at this
      exact this
end Go.Proofs.YtnlikhjmmnaknaaGreatDoor
/-
  The walk of the parser's choice (printed by gen_p2.py).
-/
namespace Go.Proofs.YtnlikhjmmnaknaaGreatDoor
open Go.RowKit


set_option maxHeartbeats 4000000 in
set_option maxRecDepth 100000 in
theorem choice_any {s : ByteArray} {l : List Tk} {P g : Nat} (hE : Ended l) (hK : TkOk s l) {L L1 : Int} (hL : IntKind.i64.wrap (L + 1) = L1) {rec : Int → Nat → PR} {top : Int} (ht : 30 ≤ top ∧ top ≤ 199)
    (hr : Gives s l P g 37 #[.pointer (some ⟨P, 0, none⟩), .int .i64 0, .int .i64 L1] (rec 0) top)
    (k : Nat) (w : World) (h : Sm s l P g w (.ok k)) :
    Calls Tryz.prog 70 #[.pointer (some ⟨P, 0, none⟩), .int .i64 L] w fun r w' => ∃ e A c t m', r = .returned (.tuple #[e.val A c, .int .i64 t]) ∧ Got s l P g w (choiceN s l rec k) (top + 1) w' e A c t m' := by
  go_enter Tryz.func70, Tryz.ntmps70
  have f_1 := PF.start h
  obtain ⟨ie, ze, hie, hze, hse, hbe, hce⟩ := Expr.info'
  obtain ⟨ii, zi, hii, hzi, hsi, hbi, hci⟩ := int.info'
  go_wp2_with fail
  have f_2 := f_1.alloc (.cells #[.int .i64 0, .string ⟨#[]⟩, .int .i64 0, .slice none 0 0, .int .i64 0, .int .i64 0] 41)
  have z_2 := alloc_size w (.cells #[.int .i64 0, .string ⟨#[]⟩, .int .i64 0, .slice none 0 0, .int .i64 0, .int .i64 0] 41)
  clear f_1
  generalize w.heap.size = R at *
  generalize w.alloc (.cells #[.int .i64 0, .string ⟨#[]⟩, .int .i64 0, .slice none 0 0, .int .i64 0, .int .i64 0] 41) = W2 at *
  clear z_2
  refine (now_m f_2.sm).mono ?_
  rintro r W3 ⟨i, hlt_i, hj_i, rfl, b_3⟩
  have f_3 := f_2.below b_3
  clear f_2 b_3
  obtain rfl : i = k := hj_i k rfl
  have hfd := field_at (.int .i64 (tkN l i).kind) (.string (tkN l i).text) (.int .i64 (tkN l i).num) (lnN s l i) (clN s l i)
  go_wp2_with fail
  clear hfd
  have f_4 := f_3.alloc (.cells #[.int .i64 27, .string ⟨#[]⟩, .int .i64 0, .slice none 0 0, .int .i64 (lnN s l i), .int .i64 (clN s l i)] 41)
  have z_4 := alloc_size W3 (.cells #[.int .i64 27, .string ⟨#[]⟩, .int .i64 0, .slice none 0 0, .int .i64 (lnN s l i), .int .i64 (clN s l i)] 41)
  clear f_3
  generalize W3.heap.size = E at *
  generalize W3.alloc (.cells #[.int .i64 27, .string ⟨#[]⟩, .int .i64 0, .slice none 0 0, .int .i64 (lnN s l i), .int .i64 (clN s l i)] 41) = W4 at *
  have f_5 := f_4.alloc (.cells #[.string ⟨#[105, 102]⟩, .string ⟨#[116, 104, 101, 110]⟩, .string ⟨#[101, 108, 115, 101]⟩] 9)
  have z_5 := alloc_size W4 (.cells #[.string ⟨#[105, 102]⟩, .string ⟨#[116, 104, 101, 110]⟩, .string ⟨#[101, 108, 115, 101]⟩] 9)
  clear f_4
  generalize W4.heap.size = V at *
  generalize W4.alloc (.cells #[.string ⟨#[105, 102]⟩, .string ⟨#[116, 104, 101, 110]⟩, .string ⟨#[101, 108, 115, 101]⟩] 9) = W5 at *
  rw [← z_4]
  clear z_4
  clear z_5
  have fin := f_5.rot2.rot2
  have fs : PF s l P g w (.ok i) W5 (rowK w 41 6 (.slice none 0 0) 0 ((([] : List LX).map LX.x).flatMap LEx.cells) :: rowK w 3 1 (.slice none 0 0) 0 (([] : List Int).map (Value.int .i64)) :: blkK E (.cells #[.int .i64 27, .string ⟨#[]⟩, .int .i64 0, .slice none 0 0, .int .i64 (lnN s l i), .int .i64 (clN s l i)] 41 (0, 0)) :: ([blkK R (.cells #[.int .i64 0, .string ⟨#[]⟩, .int .i64 0, .slice none 0 0, .int .i64 0, .int .i64 0] 41 (0, 0)), blkK V (.cells #[.string ⟨#[105, 102]⟩, .string ⟨#[116, 104, 101, 110]⟩, .string ⟨#[101, 108, 115, 101]⟩] 9 (0, 0))] ++ ([] : List LX).map LX.kp)) := (fin.nilRow 3 1).nilRow 41 6
  clear fin f_5
  obtain ⟨q0, hq0⟩ : ∃ q0, q0 = (Md.ok i).seq (choN s l rec (lnN s l i) (clN s l i) 3 []) := ⟨_, rfl⟩
  go_loopw [7, 18] (fun v i0 wr => ∃ (j : Nat) (H : Option Addr) (hc : Nat) (xs : List LX) (hs : List Int) (A : Option Addr) (c : Nat) (m1 : Md), j ≤ 3 ∧ i0 = .int .i64 j ∧ v = .slice H j hc ∧ Parts s l P g w 27 ⟨#[]⟩ (lnN s l i) (clN s l i) E [blkK R (.cells #[.int .i64 0, .string ⟨#[]⟩, .int .i64 0, .slice none 0 0, .int .i64 0, .int .i64 0] 41 (0, 0)), blkK V (.cells #[.string ⟨#[105, 102]⟩, .string ⟨#[116, 104, 101, 110]⟩, .string ⟨#[101, 108, 115, 101]⟩] 9 (0, 0))] top q0 (choN s l rec (lnN s l i) (clN s l i) (3 - j)) j H hc wr xs hs A c m1) (fun _ i _ => 3 - (intOf i).toNat)
  case atStart => exact ⟨0, none, 0, [], [], none, 0, .ok i, by omega, rfl, rfl, rfl, rfl, fs, hq0, fun _ _ => rfl, by simp⟩
  case round =>
    clear fs
    obtain ⟨j, H, hc, xs, hs, A, c, m1, hj, rfl, rfl, hxn, hhn, f_0, hq, hok, hb⟩ := hrel
    simp only [List.cons_append, List.nil_append] at f_0
    by_cases hlt : j < 3
    · have hqH := hid hq
      clear hq
      have kw := cw_cell f_0.rot4.blk hlt
      generalize hcw : cw j = word at *
      go_wp2_with fail
      clear kw
      refine (want_m hE f_0.sm word).mono ?_
      rintro r W6 ⟨rfl, t_6, q_6⟩
      have f_6 := f_0.turn t_6 q_6
      clear f_0 t_6 q_6
      go_wp2_with fail
      refine (hr _ W6 f_6.sm).mono ?_
      rintro r W7 ⟨ex, Ax, cx, tx, mx, rfl, Gx⟩
      obtain ⟨Dx, f_7⟩ := f_6.expr Gx
      obtain ⟨lowx, topx, okx, camex⟩ := Gx.facts
      clear f_6 Gx
      simp only [Ex.val_eq]
      subst hcw
      go_upto_region 8 with fail
      have f_8 := f_7.alloc (.cells #[.int .i64 ex.op, .string ex.name, .int .i64 ex.num, .slice Ax ex.k cx, .int .i64 ex.line, .int .i64 ex.col] 41)
      have z_8 := alloc_size W7 (.cells #[.int .i64 ex.op, .string ex.name, .int .i64 ex.num, .slice Ax ex.k cx, .int .i64 ex.line, .int .i64 ex.col] 41)
      clear f_7
      generalize W7.heap.size = X at *
      generalize W7.alloc (.cells #[.int .i64 ex.op, .string ex.name, .int .i64 ex.num, .slice Ax ex.k cx, .int .i64 ex.line, .int .i64 ex.col] 41) = W8 at *
      obtain ⟨kE0, kE1, kE2, kE3, kE4, kE5, fE0, fE1, fE2, fE3, fE4, fE5⟩ := blk6 f_8.rot4.blk
      obtain ⟨kX0, kX1, kX2, kX3, kX4, kX5, fX0, fX1, fX2, fX3, fX4, fX5⟩ := blk6 f_8.blk
      go_wp2_with (at_builtin; refine Held.stop ?_)
      clear kE0 kE1 kE2 kE3 kE4 kE5 fE0 fE1 fE2 fE3 fE4 fE5 kX0 kX1 kX2 kX3 kX4 kX5 fX0 fX1 fX2 fX3 fX4 fX5
      refine Held.go ?_
      have f_9 := f_8.alloc (.cells #[.int .i64 ex.op, .string ex.name, .int .i64 ex.num, .slice Ax ex.k cx, .int .i64 ex.line, .int .i64 ex.col] 41)
      have z_9 := alloc_size W8 (.cells #[.int .i64 ex.op, .string ex.name, .int .i64 ex.num, .slice Ax ex.k cx, .int .i64 ex.line, .int .i64 ex.col] 41)
      clear f_8
      generalize W8.heap.size = B at *
      generalize W8.alloc (.cells #[.int .i64 ex.op, .string ex.name, .int .i64 ex.num, .slice Ax ex.k cx, .int .i64 ex.line, .int .i64 ex.col] 41) = W9 at *
      rw [← z_8]
      clear z_8
      clear z_9
      refine Fr.wpApp (f_9.rot3.rot1) rfl _ _ _ rfl Tryz.underlying39 hie hze hse hbe hce (by decide) rfl rfl rfl ex_one (by decide) (by unfold maxLen; omega) (by omega) ?_
      intro GA capA W10 f_10
      clear f_9
      go_wp2_with (at_builtin; refine Held.stop ?_)
      refine Held.go ?_
      have f_11 := f_10.alloc (.cells #[.int .i64 tx] 3)
      have z_11 := alloc_size W10 (.cells #[.int .i64 tx] 3)
      clear f_10
      generalize W10.heap.size = Hb at *
      generalize W10.alloc (.cells #[.int .i64 tx] 3) = W11 at *
      clear z_11
      refine Fr.wpApp (f_11.rot5.rot1) rfl _ _ _ rfl Tryz.underlying144 hii hzi hsi hbi hci (by decide) rfl rfl rfl int_one (by decide) (by unfold maxLen; omega) (by omega) ?_
      intro GH capH W12 f_12
      clear f_11
      obtain ⟨kE0, kE1, kE2, kE3, kE4, kE5, fE0, fE1, fE2, fE3, fE4, fE5⟩ := blk6 f_12.rot6.blk
      go_wp2_with fail
      clear kE0 kE1 kE2 kE3 kE4 kE5 fE0 fE1 fE2 fE3 fE4 fE5
      have f_13 := Fr.set (n := 3) f_12.rot6 (.slice (some ⟨GA, 0, none⟩) (j + 1) capA)
      simp only [List.setIfInBounds_toArray, List.set_cons_zero, List.set_cons_succ] at f_13
      clear f_12
      generalize W12.setCell ⟨E, 3, none⟩ (.slice (some ⟨GA, 0, none⟩) (j + 1) capA) = W13 at *
      have fin := f_13.rot8.rot8.rot2.rot3.rot5.rot8.rot8.rot8.rot8
      have fc : PF s l P g w (mx) W13 (rowK w 41 6 (.slice (some ⟨GA, 0, none⟩) (j + 1) capA) (j + 1) (((xs ++ [LX.mk Dx ⟨ex, Ax, cx⟩]).map LX.x).flatMap LEx.cells) :: rowK w 3 1 (.slice (some ⟨GH, 0, none⟩) (j + 1) capH) (j + 1) ((hs ++ [tx]).map (Value.int .i64)) :: blkK E (.cells #[.int .i64 27, .string ⟨#[]⟩, .int .i64 0, .slice (some ⟨GA, 0, none⟩) (j + 1) capA, .int .i64 (lnN s l i), .int .i64 (clN s l i)] 41 (0, 0)) :: ([blkK R (.cells #[.int .i64 0, .string ⟨#[]⟩, .int .i64 0, .slice none 0 0, .int .i64 0, .int .i64 0] 41 (0, 0)), blkK V (.cells #[.string ⟨#[105, 102]⟩, .string ⟨#[116, 104, 101, 110]⟩, .string ⟨#[101, 108, 115, 101]⟩] 9 (0, 0))] ++ (xs ++ [LX.mk Dx ⟨ex, Ax, cx⟩]).map LX.kp)) := by rw [rows_push, ints_push]; exact (fin.tail.tail.tail).perm (push_perm xs [_, _, _, _, _] _ _ _ _)
      have hyn : (xs ++ [LX.mk Dx ⟨ex, Ax, cx⟩]).length = j + 1 := by simp [hxn]
      have htn : (hs ++ [tx]).length = j + 1 := by simp [hhn]
      have hb2 := hb_push hb lowx topx
      have hq2 : Hid (q0 = mx.seq (choN s l rec (lnN s l i) (clN s l i) (3 - (j + 1)) (LX.es (xs ++ [LX.mk Dx ⟨ex, Ax, cx⟩])))) := by have := hqH.out; show _ = _; rw [this, es_push]; exact cho_step hlt camex.out
      have hok2 : Hid (∀ i, mx = .ok i → (hs ++ [tx]) = (LX.es (xs ++ [LX.mk Dx ⟨ex, Ax, cx⟩])).map fun e => (e.height : Int)) := fun i hi => hok_push (fun i hi => by obtain ⟨i3, hi3⟩ := want_ok hi; exact hok i3 hi3) rfl camex.out hi
      clear fin hqH hok hb hxn hhn f_13
      generalize xs ++ [LX.mk Dx ⟨ex, Ax, cx⟩] = ys at *
      generalize hs ++ [tx] = ts at *
      simp only [List.cons_append, List.nil_append] at fc
      have hP : Parts s l P g w 27 ⟨#[]⟩ (lnN s l i) (clN s l i) E [blkK R (.cells #[.int .i64 0, .string ⟨#[]⟩, .int .i64 0, .slice none 0 0, .int .i64 0, .int .i64 0] 41 (0, 0)), blkK V (.cells #[.string ⟨#[105, 102]⟩, .string ⟨#[116, 104, 101, 110]⟩, .string ⟨#[101, 108, 115, 101]⟩] 9 (0, 0))] top q0 (choN s l rec (lnN s l i) (clN s l i) (3 - (j + 1))) (j + 1) (some ⟨GH, 0, none⟩) capH W13 ys ts (some ⟨GA, 0, none⟩) capA (mx) := ⟨hyn, htn, fc, hq2.out, hok2.out, hb2⟩
      go_roundw
      case rel => exact ⟨j + 1, some ⟨GH, 0, none⟩, capH, _, _, _, _, _, by omega, by go_num, rfl, hP⟩
      case measure => simp [intOf]; omega
    · have hj2 : j = 3 := by omega
      subst hj2
      have hqH := hid hq
      clear hq hlt
      obtain ⟨hI, hI1, hI2⟩ := ints_own f_0.rot1.head.q hhn
      obtain ⟨kE0, kE1, kE2, kE3, kE4, kE5, fE0, fE1, fE2, fE3, fE4, fE5⟩ := blk6 f_0.rot2.blk
      go_wp2_with fail
      clear kE0 kE1 kE2 kE3 kE4 kE5 fE0 fE1 fE2 fE3 fE4 fE5
      have hmade := made_m f_0.sm 27 ⟨#[]⟩ 0 A 3 c (lnN s l i) (clN s l i) hs H hc hI (fun x hx => by have := hb x hx; omega) ⟨hI1, hI2⟩
      rw [hhn] at hmade
      clear hI hI1 hI2
      refine (hmade).mono ?_
      rintro r W6 ⟨rfl, t_6, q_6⟩
      have f_6 := f_0.turn t_6 q_6
      clear f_0 t_6 q_6
      clear hmade
      obtain ⟨kR0, kR1, kR2, kR3, kR4, kR5, fR0, fR1, fR2, fR3, fR4, fR5⟩ := blk6 f_6.rot3.blk
      go_wp2_with fail
      clear kR0 kR1 kR2 kR3 kR4 kR5 fR0 fR1 fR2 fR3 fR4 fR5
      have f_7 := Fr.set6 f_6.rot3 (.int .i64 27) (.string ⟨#[]⟩) (.int .i64 0) (.slice A 3 c) (.int .i64 (lnN s l i)) (.int .i64 (clN s l i))
      clear f_6
      generalize ((((((W6.setCell ⟨R, 0, none⟩ (.int .i64 27)).setCell ⟨R, 1, none⟩ (.string ⟨#[]⟩)).setCell ⟨R, 2, none⟩ (.int .i64 0)).setCell ⟨R, 3, none⟩ (.slice A 3 c)).setCell ⟨R, 4, none⟩ (.int .i64 (lnN s l i))).setCell ⟨R, 5, none⟩ (.int .i64 (clN s l i))) = W7 at *
      have hin := parts_in (num := 0) (op := 27) (ln := lnN s l i) (cl := clN s l i) f_7.rot1.head.q hxn (Fr.exs (ks := [_, _, _, _, _]) f_7) (by simp [I64]) nil_le (by simp [I64]) (hK i).1 (hK i).2.1
      have htt := topOf_in hb (by omega)
      obtain ⟨r0, r1, r2, r3, r4, r5, -⟩ := blk6 f_7.blk
      try simp only [Exit.inBlock, Exit.then]
      refine bodyPost_ret (v := .tuple #[.agg #[.int .i64 27, .string ⟨#[]⟩, .int .i64 0, .slice A 3 c, .int .i64 (lnN s l i), .int .i64 (clN s l i)], .int .i64 (topOf hs)]) (by simp [results, Tryz.results70, go_sem, r0, r1, r2, r3, r4, r5]) rfl ⟨mkEx 27 ⟨#[]⟩ 0 (LX.es xs) (lnN s l i) (clN s l i), A, c, _, _, by rw [val_es hxn], ⟨hin, f_7.sm, f_7.gr, htt.1, htt.2, made_ok, ?_⟩⟩
      have := came_mades (num := 0) (op := 27) (name := ⟨#[]⟩) (ln := lnN s l i) (cl := clN s l i) hqH.out hok
      rw [hq0] at this
      exact this
end Go.Proofs.YtnlikhjmmnaknaaGreatDoor
/-
  The walk of the parser's call (printed by gen_p2.py).
-/
namespace Go.Proofs.YtnlikhjmmnaknaaGreatDoor
open Go.RowKit


set_option maxHeartbeats 4000000 in
set_option maxRecDepth 100000 in
theorem call_any {s : ByteArray} {l : List Tk} {P g : Nat} (hE : Ended l) (hK : TkOk s l) {L L1 : Int} (hL : IntKind.i64.wrap (L + 1) = L1) {rec : Int → Nat → PR} {top : Int} (ht : 30 ≤ top ∧ top ≤ 199)
    (hr : Gives s l P g 37 #[.pointer (some ⟨P, 0, none⟩), .int .i64 0, .int .i64 L1] (rec 0) top)
    (name : ByteArray) (hn : name.size ≤ maxLen) (at_ k : Nat) (w : World) (h : Sm s l P g w (.ok k)) (hk : isN l k wOpen = true) :
    Calls Tryz.prog 116 #[.pointer (some ⟨P, 0, none⟩), .agg #[.int .i64 4, .string name, .int .i64 0, .slice none 0 0, .int .i64 (lnN s l at_), .int .i64 (clN s l at_)], .int .i64 L] w fun r w' => ∃ e A c t m', r = .returned (.tuple #[e.val A c, .int .i64 t]) ∧ Got s l P g w ((rec 0 (k + 1)).then fun x i2 => argsN s l rec name at_ 7 [x] i2) (top + 1) w' e A c t m' := by
  go_enter Tryz.func116, Tryz.ntmps116
  have f_1 := PF.start h
  obtain ⟨ie, ze, hie, hze, hse, hbe, hce⟩ := Expr.info'
  obtain ⟨ii, zi, hii, hzi, hsi, hbi, hci⟩ := int.info'
  go_wp2_with fail
  have f_2 := f_1.alloc (.cells #[.int .i64 4, .string name, .int .i64 0, .slice none 0 0, .int .i64 (lnN s l at_), .int .i64 (clN s l at_)] 41)
  have z_2 := alloc_size w (.cells #[.int .i64 4, .string name, .int .i64 0, .slice none 0 0, .int .i64 (lnN s l at_), .int .i64 (clN s l at_)] 41)
  clear f_1
  generalize w.heap.size = E at *
  generalize w.alloc (.cells #[.int .i64 4, .string name, .int .i64 0, .slice none 0 0, .int .i64 (lnN s l at_), .int .i64 (clN s l at_)] 41) = W2 at *
  have f_3 := f_2.alloc (.cells #[.int .i64 0, .string ⟨#[]⟩, .int .i64 0, .slice none 0 0, .int .i64 0, .int .i64 0] 41)
  have z_3 := alloc_size W2 (.cells #[.int .i64 0, .string ⟨#[]⟩, .int .i64 0, .slice none 0 0, .int .i64 0, .int .i64 0] 41)
  clear f_2
  generalize W2.heap.size = R at *
  generalize W2.alloc (.cells #[.int .i64 0, .string ⟨#[]⟩, .int .i64 0, .slice none 0 0, .int .i64 0, .int .i64 0] 41) = W3 at *
  rw [← z_2]
  clear z_2
  clear z_3
  refine (want_yes (t := ⟨#[40]⟩) hE f_3.sm hk).mono ?_
  rintro r W4 ⟨rfl, t_4, q_4⟩
  have f_4 := f_3.turn t_4 q_4
  clear f_3 t_4 q_4
  go_upto_region 3 with fail
  have fin := f_4.rot1
  have fs : PF s l P g w (.ok (k + 1)) W4 (rowK w 41 6 (.slice none 0 0) 0 ((([] : List LX).map LX.x).flatMap LEx.cells) :: rowK w 3 1 (.slice none 0 0) 0 (([] : List Int).map (Value.int .i64)) :: blkK E (.cells #[.int .i64 4, .string name, .int .i64 0, .slice none 0 0, .int .i64 (lnN s l at_), .int .i64 (clN s l at_)] 41 (0, 0)) :: ([blkK R (.cells #[.int .i64 0, .string ⟨#[]⟩, .int .i64 0, .slice none 0 0, .int .i64 0, .int .i64 0] 41 (0, 0))] ++ ([] : List LX).map LX.kp)) := (fin.nilRow 3 1).nilRow 41 6
  clear fin f_4
  obtain ⟨q0, hq0⟩ : ∃ q0, q0 = (Md.ok (k + 1)).seq (calN s l rec name at_ 0 []) := ⟨_, rfl⟩
  go_loopg [8] 9 (fun gk v wr => ∃ (n : Nat) (H : Option Addr) (hc : Nat) (xs : List LX) (hs : List Int) (A : Option Addr) (c : Nat) (m1 : Md), n ≤ 8 ∧ n + gk = 9 ∧ v = .slice H n hc ∧ Parts s l P g w 4 name (lnN s l at_) (clN s l at_) E [blkK R (.cells #[.int .i64 0, .string ⟨#[]⟩, .int .i64 0, .slice none 0 0, .int .i64 0, .int .i64 0] 41 (0, 0))] top q0 (calN s l rec name at_ n) n H hc wr xs hs A c m1 ∧ (n = 8 → ∃ a b d, m1 = .bad a b d))
  case atStart => exact ⟨0, none, 0, [], [], none, 0, .ok (k + 1), by omega, by omega, rfl, ⟨rfl, rfl, fs, hq0, fun _ _ => rfl, by simp⟩, fun h => absurd h (by omega)⟩
  case round =>
    clear fs
    obtain ⟨n, H, hc, xs, hs, A, c, m1, hn8, hgk, rfl, ⟨hxn, hhn, f_0, hq, hok, hb⟩, hbad⟩ := hrel
    simp only [List.cons_append, List.nil_append] at f_0
    have hqH := hid hq
    clear hq
    have hbadH := hid hbad
    clear hbad
    go_wp2_with fail
    refine (hr _ wr f_0.sm).mono ?_
    rintro r W5 ⟨ex, Ax, cx, tx, mx, rfl, Gx⟩
    obtain ⟨Dx, f_5⟩ := f_0.expr Gx
    obtain ⟨lowx, topx, okx, camex⟩ := Gx.facts
    clear f_0 Gx
    simp only [Ex.val_eq]
    go_upto_region 4 with fail
    have f_6 := f_5.alloc (.cells #[.int .i64 ex.op, .string ex.name, .int .i64 ex.num, .slice Ax ex.k cx, .int .i64 ex.line, .int .i64 ex.col] 41)
    have z_6 := alloc_size W5 (.cells #[.int .i64 ex.op, .string ex.name, .int .i64 ex.num, .slice Ax ex.k cx, .int .i64 ex.line, .int .i64 ex.col] 41)
    clear f_5
    generalize W5.heap.size = X at *
    generalize W5.alloc (.cells #[.int .i64 ex.op, .string ex.name, .int .i64 ex.num, .slice Ax ex.k cx, .int .i64 ex.line, .int .i64 ex.col] 41) = W6 at *
    obtain ⟨kE0, kE1, kE2, kE3, kE4, kE5, fE0, fE1, fE2, fE3, fE4, fE5⟩ := blk6 f_6.rot4.blk
    obtain ⟨kX0, kX1, kX2, kX3, kX4, kX5, fX0, fX1, fX2, fX3, fX4, fX5⟩ := blk6 f_6.blk
    go_wp2_with (at_builtin; refine Held.stop ?_)
    clear kE0 kE1 kE2 kE3 kE4 kE5 fE0 fE1 fE2 fE3 fE4 fE5 kX0 kX1 kX2 kX3 kX4 kX5 fX0 fX1 fX2 fX3 fX4 fX5
    refine Held.go ?_
    have f_7 := f_6.alloc (.cells #[.int .i64 ex.op, .string ex.name, .int .i64 ex.num, .slice Ax ex.k cx, .int .i64 ex.line, .int .i64 ex.col] 41)
    have z_7 := alloc_size W6 (.cells #[.int .i64 ex.op, .string ex.name, .int .i64 ex.num, .slice Ax ex.k cx, .int .i64 ex.line, .int .i64 ex.col] 41)
    clear f_6
    generalize W6.heap.size = B at *
    generalize W6.alloc (.cells #[.int .i64 ex.op, .string ex.name, .int .i64 ex.num, .slice Ax ex.k cx, .int .i64 ex.line, .int .i64 ex.col] 41) = W7 at *
    rw [← z_6]
    clear z_6
    clear z_7
    refine Fr.wpApp (f_7.rot3.rot1) rfl _ _ _ rfl Tryz.underlying39 hie hze hse hbe hce (by decide) rfl rfl rfl ex_one (by decide) (by unfold maxLen; omega) (by omega) ?_
    intro GA capA W8 f_8
    clear f_7
    go_wp2_with (at_builtin; refine Held.stop ?_)
    refine Held.go ?_
    have f_9 := f_8.alloc (.cells #[.int .i64 tx] 3)
    have z_9 := alloc_size W8 (.cells #[.int .i64 tx] 3)
    clear f_8
    generalize W8.heap.size = Hb at *
    generalize W8.alloc (.cells #[.int .i64 tx] 3) = W9 at *
    clear z_9
    refine Fr.wpApp (f_9.rot5.rot1) rfl _ _ _ rfl Tryz.underlying144 hii hzi hsi hbi hci (by decide) rfl rfl rfl int_one (by decide) (by unfold maxLen; omega) (by omega) ?_
    intro GH capH W10 f_10
    clear f_9
    obtain ⟨kE0, kE1, kE2, kE3, kE4, kE5, fE0, fE1, fE2, fE3, fE4, fE5⟩ := blk6 f_10.rot6.blk
    go_wp2_with fail
    clear kE0 kE1 kE2 kE3 kE4 kE5 fE0 fE1 fE2 fE3 fE4 fE5
    have f_11 := Fr.set (n := 3) f_10.rot6 (.slice (some ⟨GA, 0, none⟩) (n + 1) capA)
    simp only [List.setIfInBounds_toArray, List.set_cons_zero, List.set_cons_succ] at f_11
    clear f_10
    generalize W10.setCell ⟨E, 3, none⟩ (.slice (some ⟨GA, 0, none⟩) (n + 1) capA) = W11 at *
    have fin := f_11.rot7.rot1.rot2.rot4.rot7.rot7.rot7.rot7
    have fc : PF s l P g w (mx) W11 (rowK w 41 6 (.slice (some ⟨GA, 0, none⟩) (n + 1) capA) (n + 1) (((xs ++ [LX.mk Dx ⟨ex, Ax, cx⟩]).map LX.x).flatMap LEx.cells) :: rowK w 3 1 (.slice (some ⟨GH, 0, none⟩) (n + 1) capH) (n + 1) ((hs ++ [tx]).map (Value.int .i64)) :: blkK E (.cells #[.int .i64 4, .string name, .int .i64 0, .slice (some ⟨GA, 0, none⟩) (n + 1) capA, .int .i64 (lnN s l at_), .int .i64 (clN s l at_)] 41 (0, 0)) :: ([blkK R (.cells #[.int .i64 0, .string ⟨#[]⟩, .int .i64 0, .slice none 0 0, .int .i64 0, .int .i64 0] 41 (0, 0))] ++ (xs ++ [LX.mk Dx ⟨ex, Ax, cx⟩]).map LX.kp)) := by rw [rows_push, ints_push]; exact (fin.tail.tail.tail).perm (push_perm xs [_, _, _, _] _ _ _ _)
    have hyn : (xs ++ [LX.mk Dx ⟨ex, Ax, cx⟩]).length = n + 1 := by simp [hxn]
    have htn : (hs ++ [tx]).length = n + 1 := by simp [hhn]
    have hb2 := hb_push hb lowx topx
    have hq2 : Hid (q0 = mx.seq (argsN s l rec name at_ (7 - n) (LX.es (xs ++ [LX.mk Dx ⟨ex, Ax, cx⟩])))) := by have := hqH.out; show _ = _; rw [this, es_push]; exact cal_came camex.out
    have hok2 : Hid (∀ i, mx = .ok i → (hs ++ [tx]) = (LX.es (xs ++ [LX.mk Dx ⟨ex, Ax, cx⟩])).map fun e => (e.height : Int)) := fun i hi => hok_push hok rfl camex.out hi
    clear fin hqH hok hb hxn hhn f_11
    generalize xs ++ [LX.mk Dx ⟨ex, Ax, cx⟩] = ys at *
    generalize hs ++ [tx] = ts at *
    simp only [List.cons_append, List.nil_append] at fc
    have hbad2 : n = 8 → ∃ a b d, mx = .bad a b d := fun h8 => by obtain ⟨a, b, d, h9⟩ := hbadH.out h8; subst h9; exact ⟨a, b, d, camex.out⟩
    have hbadH := hid hbad2
    clear hbad2
    by_cases hcm : mx.is l wComma = true
    · obtain ⟨i1, him, hi1⟩ := is_yes hcm
      subst him
      have hn7 : n ≤ 7 := by
        rcases Nat.lt_or_ge n 8 with h | h
        · omega
        · obtain ⟨a, b, d, h9⟩ := hbadH.out (by omega); cases h9
      refine (is_val (t := ⟨#[44]⟩) fc.sm (b := true) hcm).mono ?_
      rintro r W12 ⟨rfl, b_12⟩
      have f_12 := fc.below b_12
      clear fc b_12
      by_cases h8 : n + 1 = 8
      · have h8i : ((n : Int) + 1 == 8) = true := by simp only [beq_iff_eq]; omega
        have h8H := hid h8
        clear h8
        obtain ⟨kE0, kE1, kE2, kE3, kE4, kE5, fE0, fE1, fE2, fE3, fE4, fE5⟩ := blk6 f_12.rot2.blk
        go_wp2_with fail
        clear kE0 kE1 kE2 kE3 kE4 kE5 fE0 fE1 fE2 fE3 fE4 fE5 h8i
        refine (now_m f_12.sm).mono ?_
        rintro r W13 ⟨i2, hlt_i2, hj_i2, rfl, b_13⟩
        have f_13 := f_12.below b_13
        clear f_12 b_13
        obtain rfl : i2 = i1 := hj_i2 i1 rfl
        have hfd := field_at (.int .i64 (tkN l i2).kind) (.string (tkN l i2).text) (.int .i64 (tkN l i2).num) (lnN s l i2) (clN s l i2)
        go_wp2_with fail
        clear hfd
        refine (fail_m f_13.sm (e := 3) (by decide) _ _).mono ?_
        rintro r W14 ⟨rfl, t_14, q_14⟩
        have f_14 := f_13.turn t_14 q_14
        clear f_13 t_14 q_14
        go_wp2_with fail
        refine (take_no (t := ⟨#[44]⟩) hE f_14.sm rfl).mono ?_
        rintro r W15 ⟨rfl, t_15, q_15⟩
        have f_15 := f_14.turn t_15 q_15
        clear f_14 t_15 q_15
        go_wp2_with fail
        have hP : Parts s l P g w 4 name (lnN s l at_) (clN s l at_) E [blkK R (.cells #[.int .i64 0, .string ⟨#[]⟩, .int .i64 0, .slice none 0 0, .int .i64 0, .int .i64 0] 41 (0, 0))] top q0 (calN s l rec name at_ (n + 1)) (n + 1) (some ⟨GH, 0, none⟩) capH W15 ys ts (some ⟨GA, 0, none⟩) capA (Md.bad 3 (lnN s l i2) (clN s l i2)) := ⟨hyn, htn, f_15, by rw [hq2.out, show 7 - n = 0 by have := h8H.out; omega]; exact args_full (rec := rec) hi1, (fun i hi => by cases hi), hb2⟩
        go_roundg (gk - 1)
        case rel => exact ⟨n + 1, some ⟨GH, 0, none⟩, capH, _, _, _, _, .bad 3 (lnN s l i2) (clN s l i2), by have := h8H.out; omega, by omega, rfl, hP, fun _ => ⟨3, lnN s l i2, clN s l i2, rfl⟩⟩
        case measure => omega
      · have h8i : ((n : Int) + 1 == 8) = false := by simp only [beq_eq_false_iff_ne]; omega
        obtain ⟨kE0, kE1, kE2, kE3, kE4, kE5, fE0, fE1, fE2, fE3, fE4, fE5⟩ := blk6 f_12.rot2.blk
        go_wp2_with fail
        clear kE0 kE1 kE2 kE3 kE4 kE5 fE0 fE1 fE2 fE3 fE4 fE5 h8i
        refine (take_yes (t := ⟨#[44]⟩) hE f_12.sm hi1).mono ?_
        rintro r W13 ⟨rfl, t_13, q_13⟩
        have f_13 := f_12.turn t_13 q_13
        clear f_12 t_13 q_13
        go_wp2_with fail
        have hP : Parts s l P g w 4 name (lnN s l at_) (clN s l at_) E [blkK R (.cells #[.int .i64 0, .string ⟨#[]⟩, .int .i64 0, .slice none 0 0, .int .i64 0, .int .i64 0] 41 (0, 0))] top q0 (calN s l rec name at_ (n + 1)) (n + 1) (some ⟨GH, 0, none⟩) capH W13 ys ts (some ⟨GA, 0, none⟩) capA (Md.ok (i1 + 1)) := ⟨hyn, htn, f_13, by rw [hq2.out]; exact args_more hi1 (by omega), fun i _ => hok2.out i1 rfl, hb2⟩
        go_roundg (gk - 1)
        case rel => exact ⟨n + 1, some ⟨GH, 0, none⟩, capH, _, _, _, _, _, by omega, by omega, rfl, hP, fun h => by omega⟩
        case measure => omega
    · have hcm2 : mx.is l wComma = false := by simpa using hcm
      refine (is_val (t := ⟨#[44]⟩) fc.sm (b := false) hcm2).mono ?_
      rintro r W12 ⟨rfl, b_12⟩
      have f_12 := fc.below b_12
      clear fc b_12
      go_wp2_with fail
      refine (want_m hE f_12.sm ⟨#[41]⟩).mono ?_
      rintro r W13 ⟨rfl, t_13, q_13⟩
      have f_13 := f_12.turn t_13 q_13
      clear f_12 t_13 q_13
      obtain ⟨hI, hI1, hI2⟩ := ints_own f_13.rot1.head.q htn
      obtain ⟨kE0, kE1, kE2, kE3, kE4, kE5, fE0, fE1, fE2, fE3, fE4, fE5⟩ := blk6 f_13.rot2.blk
      go_wp2_with fail
      clear kE0 kE1 kE2 kE3 kE4 kE5 fE0 fE1 fE2 fE3 fE4 fE5
      have hmade := made_m f_13.sm 4 name 0 (some ⟨GA, 0, none⟩) (n + 1) capA (lnN s l at_) (clN s l at_) ts (some ⟨GH, 0, none⟩) capH hI (fun x hx => by have := hb2 x hx; omega) ⟨hI1, hI2⟩
      rw [htn] at hmade
      clear hI hI1 hI2
      refine (hmade).mono ?_
      rintro r W14 ⟨rfl, t_14, q_14⟩
      have f_14 := f_13.turn t_14 q_14
      clear f_13 t_14 q_14
      clear hmade
      obtain ⟨kR0, kR1, kR2, kR3, kR4, kR5, fR0, fR1, fR2, fR3, fR4, fR5⟩ := blk6 f_14.rot3.blk
      go_wp2_with fail
      clear kR0 kR1 kR2 kR3 kR4 kR5 fR0 fR1 fR2 fR3 fR4 fR5
      have f_15 := Fr.set6 f_14.rot3 (.int .i64 4) (.string name) (.int .i64 0) (.slice (some ⟨GA, 0, none⟩) (n + 1) capA) (.int .i64 (lnN s l at_)) (.int .i64 (clN s l at_))
      clear f_14
      generalize ((((((W14.setCell ⟨R, 0, none⟩ (.int .i64 4)).setCell ⟨R, 1, none⟩ (.string name)).setCell ⟨R, 2, none⟩ (.int .i64 0)).setCell ⟨R, 3, none⟩ (.slice (some ⟨GA, 0, none⟩) (n + 1) capA)).setCell ⟨R, 4, none⟩ (.int .i64 (lnN s l at_))).setCell ⟨R, 5, none⟩ (.int .i64 (clN s l at_))) = W15 at *
      have hin := parts_in (num := 0) (op := 4) (ln := lnN s l at_) (cl := clN s l at_) f_15.rot1.head.q hyn (Fr.exs (ks := [_, _, _, _]) f_15) (by simp [I64]) hn (by simp [I64]) (hK at_).1 (hK at_).2.1
      have htt := topOf_in hb2 (by omega)
      obtain ⟨r0, r1, r2, r3, r4, r5, -⟩ := blk6 f_15.blk
      try simp only [Exit.inBlock, Exit.then]
      refine bodyPost_ret (v := .tuple #[.agg #[.int .i64 4, .string name, .int .i64 0, .slice (some ⟨GA, 0, none⟩) (n + 1) capA, .int .i64 (lnN s l at_), .int .i64 (clN s l at_)], .int .i64 (topOf ts)]) (by simp [results, Tryz.results116, go_sem, r0, r1, r2, r3, r4, r5]) rfl ⟨mkEx 4 name 0 (LX.es ys) (lnN s l at_) (clN s l at_), (some ⟨GA, 0, none⟩), capA, _, _, by rw [val_es hyn], ⟨hin, f_15.sm, f_15.gr, htt.1, htt.2, made_ok, ?_⟩⟩
      have hq3 := hq2.out
      rw [args_no hcm2] at hq3
      have := came_mades (num := 0) (op := 4) (name := name) (ln := lnN s l at_) (cl := clN s l at_) hq3 (fun i hi => by obtain ⟨i2, hi2⟩ := want_ok hi; exact hok2.out i2 hi2)
      rw [hq0] at this
      exact this
end Go.Proofs.YtnlikhjmmnaknaaGreatDoor
/-
  The parser's primary and prefix, whatever token comes.
-/
namespace Go.Proofs.YtnlikhjmmnaknaaGreatDoor
open Go.RowKit

section
variable {s : ByteArray} {l : List Tk} {P g : Nat} {L L1 : Int} {rec : Int → Nat → PR} {top : Int}
theorem primary_any (hE : Ended l) (hK : TkOk s l) (hL : IntKind.i64.wrap (L + 1) = L1) (ht : 30 ≤ top ∧ top ≤ 199)
    (hr : Gives s l P g 37 #[.pointer (some ⟨P, 0, none⟩), .int .i64 0, .int .i64 L1] (rec 0) top) :
    GivesOk s l P g 105 #[.pointer (some ⟨P, 0, none⟩), .int .i64 L] (aloneN s l rec) (top + 1) := by
  intro i w h
  by_cases h2 : (tkN l i).kind = 2
  · exact prim_int hE hK ht h h2
  by_cases hT : isN l i wTrue = true
  · exact prim_true hE hK ht h hT
  by_cases hF : isN l i wFalse = true
  · exact prim_false hE hK ht h (by simpa using hT) hF
  by_cases h1 : (tkN l i).kind = 1
  · by_cases ho : isN l (i + 1) wOpen = true
    · exact prim_call hE hK h h1 ho (fun name hn at_ i1 w h hk => call_any hE hK hL ht hr name hn at_ i1 w h hk)
    · exact prim_var hE hK ht h h1 (by simpa using ho)
  by_cases hM : isN l i wMerge = true
  · exact prim_merge hE hK h (by simpa using hT) (by simpa using hF) hM (fun name hn at_ m w h => merge_any hE hK hL ht hr name hn at_ m w h)
  · exact prim_in hE hL h ⟨h1, h2⟩ (by simpa using hT) (by simpa using hF) (by simpa using hM) hr
theorem Got.eq {w w' : World} {q q' : PR} {e : Ex} {A : Option Addr} {c : Nat} {h : Int} {m' : Md} (G : Got s l P g w q top w' e A c h m') (hq : q = q') : Got s l P g w q' top w' e A c h m' := hq ▸ G
theorem prefix_any (hE : Ended l) (hK : TkOk s l) (hL : IntKind.i64.wrap (L + 1) = L1) (ht : 30 ≤ top ∧ top ≤ 199)
    (hr : ∀ x : Int, 0 ≤ x → x ≤ 9 → Gives s l P g 37 #[.pointer (some ⟨P, 0, none⟩), .int .i64 x, .int .i64 L1] (rec x) top) (k : Nat) (w : World) (h : Sm s l P g w (.ok k)) :
    Calls Tryz.prog 71 #[.pointer (some ⟨P, 0, none⟩), .int .i64 L] w fun r w' => ∃ e A c t m', r = .returned (.tuple #[e.val A c, .int .i64 t, .int .i64 (sigN l k)]) ∧ Got s l P g w (prefN s l rec k) (top + 1) w' e A c t m' := by
  have ht0 : 0 ≤ top ∧ top ≤ 199 := by omega
  have h9 := hr 9 (by omega) (by omega)
  by_cases q1 : isN l k wMinus = true
  · have ho : op1N l k = 5 := if_pos q1
    refine (prefix_minus hE hK hL ht0 h9 h q1).mono ?_
    rintro r w1 ⟨e, A, c, t, m', rfl, G⟩
    refine ⟨e, A, c, t, m', ?_, G.eq ?_⟩
    · unfold sigN; rw [ho]; rfl
    · unfold prefN; rw [ho]; rfl
  by_cases q2 : isN l k wNot = true
  · have ho : op1N l k = 6 := by unfold op1N; rw [if_neg q1, if_pos q2]
    refine (prefix_not hE hK hL ht0 h9 h (eq_false_of_ne_true q1) q2).mono ?_
    rintro r w1 ⟨e, A, c, t, m', rfl, G⟩
    refine ⟨e, A, c, t, m', ?_, G.eq ?_⟩
    · unfold sigN; rw [ho]; rfl
    · unfold prefN; rw [ho]; rfl
  by_cases q3 : isN l k wPre = true
  · have ho : op1N l k = 21 := by unfold op1N; rw [if_neg q1, if_neg q2, if_pos q3]
    refine (prefix_pre hE hK hL ht0 h9 h (eq_false_of_ne_true q1) (eq_false_of_ne_true q2) q3).mono ?_
    rintro r w1 ⟨e, A, c, t, m', rfl, G⟩
    refine ⟨e, A, c, t, m', ?_, G.eq ?_⟩
    · unfold sigN; rw [ho]; rfl
    · unfold prefN; rw [ho]; rfl
  · have ho : op1N l k = 0 := by unfold op1N; rw [if_neg q1, if_neg q2, if_neg q3]
    refine (prefix_no hE (primary_any hE hK hL ht (hr 0 (by omega) (by omega))) h (eq_false_of_ne_true q1) (eq_false_of_ne_true q2) (eq_false_of_ne_true q3)).mono ?_
    rintro r w1 ⟨e, A, c, t, m', rfl, G⟩
    refine ⟨e, A, c, t, m', ?_, G.eq ?_⟩
    · unfold sigN; rw [ho]; rfl
    · unfold prefN; rw [ho]; rfl
end
section
variable {s : ByteArray} {l : List Tk} {P g : Nat} {w : World}
theorem bad_ok {i : Nat} (h : Sm s l P g w (.ok i)) : Calls Tryz.prog 19 #[.pointer (some ⟨P, 0, none⟩)] w fun r w' => r = .returned (.bool false) ∧ w = w' := bad_m h
theorem bad_bad {a b c : Int} (h : Sm s l P g w (.bad a b c)) : Calls Tryz.prog 19 #[.pointer (some ⟨P, 0, none⟩)] w fun r w' => r = .returned (.bool true) ∧ w = w' := bad_m h
theorem infix_m {i : Nat} (h : Sm s l P g w (.ok i)) : Calls Tryz.prog 72 #[.pointer (some ⟨P, 0, none⟩)] w fun r w' => r = .returned (.tuple #[.int .i64 (opN l i), .int .i64 (needN (opN l i))]) ∧ Below w.heap.size w w' := infix_any h
end
theorem take_j {s : ByteArray} {l : List Tk} {P g : Nat} {w : World} (hE : Ended l) {i j : Nat} {b : Bool} (h : Sm s l P g w (.ok i)) (hb : b = isN l i wNot) (hj : j = (if b = true then i + 1 else i)) :
    Calls Tryz.prog 46 #[.pointer (some ⟨P, 0, none⟩), .string ⟨#[110, 111, 116]⟩] w fun r w' => r = .returned (.bool b) ∧ Sm s l P g w' (.ok j) ∧ w.grownBy w' (some P) := by
  refine (take_m hE h ⟨#[110, 111, 116]⟩).mono ?_
  rintro r w1 ⟨rfl, h1, h2⟩
  refine ⟨ret_bool hb.symm, ?_, h2⟩
  have hm : Md.take l (.ok i) (⟨#[110, 111, 116]⟩ : ByteArray).data.toList = .ok j := by
    rw [hj, hb]
    show (if isN l i wNot = true then Md.ok (i + 1) else Md.ok i) = _
    by_cases hn : isN l i wNot = true
    · rw [if_pos hn, if_pos hn]
    · rw [if_neg hn, if_neg hn]
  exact hm ▸ h1
theorem when_eq {s : ByteArray} {l : List Tk} {e : Ex} {i j : Nat} {b : Bool} {op : Int} {f : Ex → Nat → PR} (hb : b = isN l (i + 1) wNot) (hj : j = (if b = true then i + 1 + 1 else i + 1)) (ho : (if b = true then 25 else 24) = op) :
    whenN s l e i f = (Md.name s l (.ok j) false).seq fun i1 => (madeN (mkEx op (tkN l j).text 0 [e] (lnN s l i) (clN s l i)) i1).then f := by
  unfold whenN
  cases b with
  | true => rw [← hb, if_pos rfl, name_seq]; subst hj ho; rfl
  | false => rw [← hb, if_neg (by simp), name_seq]; subst hj ho; rfl
theorem lit0 {D : Nat → Prop} {w : World} : ExIn D w (mkEx 0 ⟨#[]⟩ 0 [] 0 0) none 0 := ExIn.lit (by simp [I64]) nil_le (by simp [I64]) (by simp [I64]) (by simp [I64])
theorem ints2 {w : World} {H : Nat} {a b : Int} (h : w.heap[H]? = some (.cells #[.int .i64 a, .int .i64 b] 3 (0, 0))) : IntsAt w (some ⟨H, 0, none⟩) [a, b] := fun j hj => by
  have hj' : j = 0 ∨ j = 1 := by have : j < 2 := hj; omega
  rcases hj' with rfl | rfl
  · exact ⟨H, 0, rfl, Lib.cell_of_heap h 0⟩
  · exact ⟨H, 0, rfl, Lib.cell_of_heap h 1⟩
/-- which ops stand between two parts -/
theorem op_range {l : List Tk} {i : Nat} (h : opN l i ≠ 0) : ((tkN l i).kind = 3 ∨ (tkN l i).kind = 4) ∧ 7 ≤ opN l i ∧ opN l i ≤ 24 ∧ opN l i ≠ 21 := by
  have h1 := opN_cases (l := l) i
  refine ⟨?_, by omega⟩
  unfold opN at h
  by_cases hk : (tkN l i).kind = 3 ∨ (tkN l i).kind = 4
  · exact hk
  · rw [if_neg hk] at h; exact absurd rfl h
theorem str_range {op : Int} (h : 7 ≤ op ∧ op ≤ 24 ∧ op ≠ 21) : 1 ≤ strOf op ∧ strOf op ≤ 8 ∧ (op = 23 ↔ strOf op = 1) ∧ (op = 22 ↔ strOf op = 2) ∧ (op = 24 → strOf op = 3) := by
  rw [strC_eq]
  unfold strC
  (repeat' split) <;> omega
theorem from_val {op : Int} (h : 7 ≤ op ∧ op ≤ 24 ∧ op ≠ 21) : fromOf op = (if op = 23 ∨ op = 22 then strOf op else strOf op + 1) ∧ 0 ≤ fromOf op ∧ fromOf op ≤ 9 := by
  obtain ⟨h1, h2, h3, h4, h5⟩ := str_range h
  have he : fromOf op = (if op = 23 ∨ op = 22 then strOf op else strOf op + 1) := by unfold fromOf; simp only [h3, h4]
  refine ⟨he, ?_⟩
  unfold fromOf
  split <;> omega
/-- what an expression that was read, and an op that comes, come to -/
theorem loop_stop {s : ByteArray} {l : List Tk} {rec : Int → Nat → PR} {least sg : Int} {f i : Nat} {e : Ex} (hf : 0 < f) (h : opN l i = 0 ∨ strOf (opN l i) < least ∨ sg < needOf (opN l i)) : loopN s l rec least f e sg i = .ok e i := by
  obtain ⟨f, rfl⟩ : ∃ g, f = g + 1 := ⟨f - 1, by omega⟩
  exact if_pos h
theorem loop_when {s : ByteArray} {l : List Tk} {rec : Int → Nat → PR} {least sg : Int} {f i : Nat} {e : Ex} (hf : 0 < f) (h : ¬ (opN l i = 0 ∨ strOf (opN l i) < least ∨ sg < needOf (opN l i))) (h24 : opN l i = 24) : loopN s l rec least f e sg i = whenN s l e i fun e1 i1 => loopN s l rec least (f - 1) e1 3 i1 := by
  obtain ⟨f, rfl⟩ : ∃ g, f = g + 1 := ⟨f - 1, by omega⟩
  show (if _ then _ else if _ then _ else _) = _
  rw [if_neg h, if_pos h24]
  rfl
theorem loop_two {s : ByteArray} {l : List Tk} {rec : Int → Nat → PR} {least sg : Int} {f i : Nat} {e : Ex} (hf : 0 < f) (h : ¬ (opN l i = 0 ∨ strOf (opN l i) < least ∨ sg < needOf (opN l i))) (h24 : opN l i ≠ 24) : loopN s l rec least f e sg i = twoN s l rec e i (opN l i) (fromOf (opN l i)) fun e1 i1 => loopN s l rec least (f - 1) e1 (strOf (opN l i)) i1 := by
  obtain ⟨f, rfl⟩ : ∃ g, f = g + 1 := ⟨f - 1, by omega⟩
  show (if _ then _ else if _ then _ else _) = _
  rw [if_neg h, if_neg h24]
  rfl
/-- made of parts, and what follows -/
theorem made_seq {m : Md} {op num ln cl : Int} {name : ByteArray} {es : List Ex} {hs : List Int} {f : Ex → Nat → PR} (hok : ∀ i, m = .ok i → hs = es.map fun e => (e.height : Int)) :
    (m.seq fun i => (madeN (mkEx op name num es ln cl) i).then f) = (if 30 < topOf hs then m.fail 22 ln cl else m).seq (f (mkEx op name num es ln cl)) := by
  cases m with
  | bad a b c => split <;> rfl
  | ok i =>
    have := hok i rfl
    subst this
    have hh := mk_height (op := op) (name := name) (n := num) (ln := ln) (cl := cl) es
    show (madeN _ _).then f = _
    unfold madeN
    by_cases h : 30 < topOf (es.map fun e => (e.height : Int))
    · rw [if_pos h, if_pos (by omega)]; rfl
    · rw [if_neg h, if_neg (by omega)]; rfl
theorem made_state {m : Md} {t a b c : Int} {j : Nat} (h : (if 30 < t then m.fail a b c else m) = .ok j) : t ≤ 30 ∧ m = .ok j := by
  by_cases h3 : 30 < t
  · rw [if_pos h3] at h; cases m <;> cases h
  · rw [if_neg h3] at h; exact ⟨by omega, h⟩
theorem name_ok {s : ByteArray} {l : List Tk} {m : Md} {b : Bool} {j : Nat} (h : m.name s l b = .ok j) : ∃ i, m = .ok i ∧ j = i + 1 := by
  cases m with
  | bad a b c => cases h
  | ok i =>
    refine ⟨i, rfl, ?_⟩
    unfold Md.name at h
    dsimp only at h
    split at h
    · split at h
      · cases h
      · injection h with h; exact h.symm
    · cases h
end Go.Proofs.YtnlikhjmmnaknaaGreatDoor
