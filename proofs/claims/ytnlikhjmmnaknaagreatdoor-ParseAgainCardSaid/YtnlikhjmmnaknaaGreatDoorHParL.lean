/-
  The walk of the parser's expr (printed by gen_p2.py).
-/
import Derived.Test.YtnlikhjmmnaknaaGreatDoorGQ
import Derived.Deep.CutRange
namespace Go.Proofs.YtnlikhjmmnaknaaGreatDoor
open Go.RowKit


set_option maxHeartbeats 4000000 in
set_option maxRecDepth 100000 in
theorem expr_deep_ok {s : ByteArray} {l : List Tk} {P g : Nat} {least L top : Int} (ht : 0 ≤ top) (hLv : 64 < L) {w : World} {k : Nat} (h : Sm s l P g w (.ok k)) :
    Calls Tryz.prog 37 #[.pointer (some ⟨P, 0, none⟩), .int .i64 least, .int .i64 L] w fun r w' => ∃ e A c t m', r = .returned (.tuple #[e.val A c, .int .i64 t]) ∧ Got s l P g w (badN s l 22 k) top w' e A c t m' := by
  go_enter Tryz.func37, Tryz.ntmps37
  have f_1 := PF.start h
  go_wp2_with fail
  have f_2 := f_1.alloc (.cells #[.int .i64 0, .string ⟨#[]⟩, .int .i64 0, .slice none 0 0, .int .i64 0, .int .i64 0] 41)
  have z_2 := alloc_size w (.cells #[.int .i64 0, .string ⟨#[]⟩, .int .i64 0, .slice none 0 0, .int .i64 0, .int .i64 0] 41)
  clear f_1
  generalize w.heap.size = R at *
  generalize w.alloc (.cells #[.int .i64 0, .string ⟨#[]⟩, .int .i64 0, .slice none 0 0, .int .i64 0, .int .i64 0] 41) = W2 at *
  clear z_2
  refine (now_m f_2.sm).mono ?_
  rintro r W3 ⟨i, hlt_i, hj_i, rfl, b_3⟩
  have f_3 := f_2.below b_3
  clear f_2 b_3
  obtain rfl : i = k := hj_i k rfl
  have hfd := field_at (.int .i64 (tkN l i).kind) (.string (tkN l i).text) (.int .i64 (tkN l i).num) (lnN s l i) (clN s l i)
  go_wp2_with fail
  clear hfd
  refine (fail_m f_3.sm (e := 22) (by decide) _ _).mono ?_
  rintro r W4 ⟨rfl, t_4, q_4⟩
  have f_4 := f_3.turn t_4 q_4
  clear f_3 t_4 q_4
  go_wp2_with fail
  refine (bad_bad f_4.sm).mono ?_
  rintro r W5 ⟨rfl, rfl⟩
  obtain ⟨kR0, kR1, kR2, kR3, kR4, kR5, fR0, fR1, fR2, fR3, fR4, fR5⟩ := blk6 f_4.blk
  go_wp2_with fail
  clear kR0 kR1 kR2 kR3 kR4 kR5 fR0 fR1 fR2 fR3 fR4 fR5
  have f_6 := Fr.set6 f_4 (.int .i64 0) (.string ⟨#[]⟩) (.int .i64 0) (.slice none 0 0) (.int .i64 0) (.int .i64 0)
  clear f_4
  generalize ((((((W4.setCell ⟨R, 0, none⟩ (.int .i64 0)).setCell ⟨R, 1, none⟩ (.string ⟨#[]⟩)).setCell ⟨R, 2, none⟩ (.int .i64 0)).setCell ⟨R, 3, none⟩ (.slice none 0 0)).setCell ⟨R, 4, none⟩ (.int .i64 0)).setCell ⟨R, 5, none⟩ (.int .i64 0)) = W6 at *
  obtain ⟨r0, r1, r2, r3, r4, r5, -⟩ := blk6 f_6.blk
  try simp only [Exit.inBlock, Exit.then]
  exact bodyPost_ret (v := .tuple #[.agg #[.int .i64 0, .string ⟨#[]⟩, .int .i64 0, .slice none 0 0, .int .i64 0, .int .i64 0], .int .i64 0]) (by simp [results, Tryz.results37, go_sem, r0, r1, r2, r3, r4, r5]) rfl ⟨mkEx 0 ⟨#[]⟩ 0 [] 0 0, none, 0, 0, _, rfl, ⟨lit0, f_6.sm, f_6.gr, by omega, by omega, fun _ _ => by omega, rfl⟩⟩

set_option maxHeartbeats 4000000 in
set_option maxRecDepth 100000 in
theorem expr_deep_bad {s : ByteArray} {l : List Tk} {P g : Nat} {least L top : Int} (ht : 0 ≤ top) (hLv : 64 < L) {w : World} {ea eb ec : Int} (h : Sm s l P g w (.bad ea eb ec)) :
    Calls Tryz.prog 37 #[.pointer (some ⟨P, 0, none⟩), .int .i64 least, .int .i64 L] w fun r w' => ∃ e A c t m', r = .returned (.tuple #[e.val A c, .int .i64 t]) ∧ Got s l P g w (.bad ea eb ec) top w' e A c t m' := by
  go_enter Tryz.func37, Tryz.ntmps37
  have f_1 := PF.start h
  go_wp2_with fail
  have f_2 := f_1.alloc (.cells #[.int .i64 0, .string ⟨#[]⟩, .int .i64 0, .slice none 0 0, .int .i64 0, .int .i64 0] 41)
  have z_2 := alloc_size w (.cells #[.int .i64 0, .string ⟨#[]⟩, .int .i64 0, .slice none 0 0, .int .i64 0, .int .i64 0] 41)
  clear f_1
  generalize w.heap.size = R at *
  generalize w.alloc (.cells #[.int .i64 0, .string ⟨#[]⟩, .int .i64 0, .slice none 0 0, .int .i64 0, .int .i64 0] 41) = W2 at *
  clear z_2
  refine (now_m f_2.sm).mono ?_
  rintro r W3 ⟨i, hlt_i, hj_i, rfl, b_3⟩
  have f_3 := f_2.below b_3
  clear f_2 b_3
  have hfd := field_at (.int .i64 (tkN l i).kind) (.string (tkN l i).text) (.int .i64 (tkN l i).num) (lnN s l i) (clN s l i)
  go_wp2_with fail
  clear hfd
  refine (fail_m f_3.sm (e := 22) (by decide) _ _).mono ?_
  rintro r W4 ⟨rfl, t_4, q_4⟩
  have f_4 := f_3.turn t_4 q_4
  clear f_3 t_4 q_4
  go_wp2_with fail
  refine (bad_bad f_4.sm).mono ?_
  rintro r W5 ⟨rfl, rfl⟩
  obtain ⟨kR0, kR1, kR2, kR3, kR4, kR5, fR0, fR1, fR2, fR3, fR4, fR5⟩ := blk6 f_4.blk
  go_wp2_with fail
  clear kR0 kR1 kR2 kR3 kR4 kR5 fR0 fR1 fR2 fR3 fR4 fR5
  have f_6 := Fr.set6 f_4 (.int .i64 0) (.string ⟨#[]⟩) (.int .i64 0) (.slice none 0 0) (.int .i64 0) (.int .i64 0)
  clear f_4
  generalize ((((((W4.setCell ⟨R, 0, none⟩ (.int .i64 0)).setCell ⟨R, 1, none⟩ (.string ⟨#[]⟩)).setCell ⟨R, 2, none⟩ (.int .i64 0)).setCell ⟨R, 3, none⟩ (.slice none 0 0)).setCell ⟨R, 4, none⟩ (.int .i64 0)).setCell ⟨R, 5, none⟩ (.int .i64 0)) = W6 at *
  obtain ⟨r0, r1, r2, r3, r4, r5, -⟩ := blk6 f_6.blk
  try simp only [Exit.inBlock, Exit.then]
  exact bodyPost_ret (v := .tuple #[.agg #[.int .i64 0, .string ⟨#[]⟩, .int .i64 0, .slice none 0 0, .int .i64 0, .int .i64 0], .int .i64 0]) (by simp [results, Tryz.results37, go_sem, r0, r1, r2, r3, r4, r5]) rfl ⟨mkEx 0 ⟨#[]⟩ 0 [] 0 0, none, 0, 0, _, rfl, ⟨lit0, f_6.sm, f_6.gr, by omega, by omega, fun _ _ => by omega, rfl⟩⟩

set_option maxHeartbeats 4000000 in
set_option maxRecDepth 100000 in
theorem expr_bad {s : ByteArray} {l : List Tk} {P g : Nat} {least L top : Int} (ht : 0 ≤ top) (hLv : L ≤ 64) {w : World} {ea eb ec : Int} (h : Sm s l P g w (.bad ea eb ec)) :
    Calls Tryz.prog 37 #[.pointer (some ⟨P, 0, none⟩), .int .i64 least, .int .i64 L] w fun r w' => ∃ e A c t m', r = .returned (.tuple #[e.val A c, .int .i64 t]) ∧ Got s l P g w (.bad ea eb ec) top w' e A c t m' := by
  go_enter Tryz.func37, Tryz.ntmps37
  have f_1 := PF.start h
  go_wp2_with fail
  have f_2 := f_1.alloc (.cells #[.int .i64 0, .string ⟨#[]⟩, .int .i64 0, .slice none 0 0, .int .i64 0, .int .i64 0] 41)
  have z_2 := alloc_size w (.cells #[.int .i64 0, .string ⟨#[]⟩, .int .i64 0, .slice none 0 0, .int .i64 0, .int .i64 0] 41)
  clear f_1
  generalize w.heap.size = R at *
  generalize w.alloc (.cells #[.int .i64 0, .string ⟨#[]⟩, .int .i64 0, .slice none 0 0, .int .i64 0, .int .i64 0] 41) = W2 at *
  clear z_2
  refine (bad_bad f_2.sm).mono ?_
  rintro r W3 ⟨rfl, rfl⟩
  obtain ⟨kR0, kR1, kR2, kR3, kR4, kR5, fR0, fR1, fR2, fR3, fR4, fR5⟩ := blk6 f_2.blk
  go_wp2_with fail
  clear kR0 kR1 kR2 kR3 kR4 kR5 fR0 fR1 fR2 fR3 fR4 fR5
  have f_4 := Fr.set6 f_2 (.int .i64 0) (.string ⟨#[]⟩) (.int .i64 0) (.slice none 0 0) (.int .i64 0) (.int .i64 0)
  clear f_2
  generalize ((((((W2.setCell ⟨R, 0, none⟩ (.int .i64 0)).setCell ⟨R, 1, none⟩ (.string ⟨#[]⟩)).setCell ⟨R, 2, none⟩ (.int .i64 0)).setCell ⟨R, 3, none⟩ (.slice none 0 0)).setCell ⟨R, 4, none⟩ (.int .i64 0)).setCell ⟨R, 5, none⟩ (.int .i64 0)) = W4 at *
  obtain ⟨r0, r1, r2, r3, r4, r5, -⟩ := blk6 f_4.blk
  try simp only [Exit.inBlock, Exit.then]
  exact bodyPost_ret (v := .tuple #[.agg #[.int .i64 0, .string ⟨#[]⟩, .int .i64 0, .slice none 0 0, .int .i64 0, .int .i64 0], .int .i64 0]) (by simp [results, Tryz.results37, go_sem, r0, r1, r2, r3, r4, r5]) rfl ⟨mkEx 0 ⟨#[]⟩ 0 [] 0 0, none, 0, 0, _, rfl, ⟨lit0, f_4.sm, f_4.gr, by omega, by omega, fun _ _ => by omega, rfl⟩⟩

set_option maxHeartbeats 4000000 in
set_option maxRecDepth 100000 in
theorem expr_if {s : ByteArray} {l : List Tk} {P g : Nat} {L top : Int} (hLv : L ≤ 64) {rec : Int → Nat → PR} (hc : ∀ (k : Nat) (w : World), Sm s l P g w (.ok k) → Calls Tryz.prog 70 #[.pointer (some ⟨P, 0, none⟩), .int .i64 L] w fun r w' => ∃ e A c t m', r = .returned (.tuple #[e.val A c, .int .i64 t]) ∧ Got s l P g w (choiceN s l rec k) (top + 1) w' e A c t m')
    {w : World} {k : Nat} (h : Sm s l P g w (.ok k)) (hi : isN l k wIf = true) :
    Calls Tryz.prog 37 #[.pointer (some ⟨P, 0, none⟩), .int .i64 0, .int .i64 L] w fun r w' => ∃ e A c t m', r = .returned (.tuple #[e.val A c, .int .i64 t]) ∧ Got s l P g w (choiceN s l rec k) (top + 1) w' e A c t m' := by
  go_enter Tryz.func37, Tryz.ntmps37
  have f_1 := PF.start h
  go_wp2_with fail
  have f_2 := f_1.alloc (.cells #[.int .i64 0, .string ⟨#[]⟩, .int .i64 0, .slice none 0 0, .int .i64 0, .int .i64 0] 41)
  have z_2 := alloc_size w (.cells #[.int .i64 0, .string ⟨#[]⟩, .int .i64 0, .slice none 0 0, .int .i64 0, .int .i64 0] 41)
  clear f_1
  generalize w.heap.size = R at *
  generalize w.alloc (.cells #[.int .i64 0, .string ⟨#[]⟩, .int .i64 0, .slice none 0 0, .int .i64 0, .int .i64 0] 41) = W2 at *
  clear z_2
  refine (bad_ok f_2.sm).mono ?_
  rintro r W3 ⟨rfl, rfl⟩
  go_wp2_with fail
  refine (is_val (t := ⟨#[105, 102]⟩) f_2.sm (b := true) hi).mono ?_
  rintro r W4 ⟨rfl, b_4⟩
  have f_4 := f_2.below b_4
  clear f_2 b_4
  go_wp2_with fail
  refine (hc _ W4 f_4.sm).mono ?_
  rintro r W5 ⟨ex, Ax, cx, tx, mx, rfl, Gx⟩
  obtain ⟨Dx, f_5⟩ := f_4.expr Gx
  obtain ⟨lowx, topx, okx, camex⟩ := Gx.facts
  clear f_4 Gx
  simp only [Ex.val_eq]
  obtain ⟨kR0, kR1, kR2, kR3, kR4, kR5, fR0, fR1, fR2, fR3, fR4, fR5⟩ := blk6 f_5.rot1.blk
  go_wp2_with fail
  clear kR0 kR1 kR2 kR3 kR4 kR5 fR0 fR1 fR2 fR3 fR4 fR5
  have f_6 := Fr.set6 f_5.rot1 (.int .i64 ex.op) (.string ex.name) (.int .i64 ex.num) (.slice Ax ex.k cx) (.int .i64 ex.line) (.int .i64 ex.col)
  clear f_5
  generalize ((((((W5.setCell ⟨R, 0, none⟩ (.int .i64 ex.op)).setCell ⟨R, 1, none⟩ (.string ex.name)).setCell ⟨R, 2, none⟩ (.int .i64 ex.num)).setCell ⟨R, 3, none⟩ (.slice Ax ex.k cx)).setCell ⟨R, 4, none⟩ (.int .i64 ex.line)).setCell ⟨R, 5, none⟩ (.int .i64 ex.col)) = W6 at *
  have fin := f_6.rot1
  obtain ⟨r0, r1, r2, r3, r4, r5, -⟩ := blk6 f_6.blk
  try simp only [Exit.inBlock, Exit.then]
  exact bodyPost_ret (v := .tuple #[.agg #[.int .i64 ex.op, .string ex.name, .int .i64 ex.num, .slice Ax ex.k cx, .int .i64 ex.line, .int .i64 ex.col], .int .i64 tx]) (by simp [results, Tryz.results37, go_sem, r0, r1, r2, r3, r4, r5]) rfl ⟨ex, Ax, cx, tx, _, rfl, ⟨fin.ex, f_6.sm, f_6.gr, lowx, topx, okx, camex.out⟩⟩

set_option maxHeartbeats 4000000 in
set_option maxRecDepth 100000 in
theorem expr_loop {s : ByteArray} {l : List Tk} {P g : Nat} (hE : Ended l) (hK : TkOk s l) {least L L1 : Int} (hLv : 0 ≤ L ∧ L ≤ 64) (hL : IntKind.i64.wrap (L + 1) = L1) {rec : Int → Nat → PR} (hA : Adv l rec) {top : Int} (ht : 30 ≤ top ∧ top ≤ 199)
    (hr : ∀ x : Int, 0 ≤ x → x ≤ 9 → Gives s l P g 37 #[.pointer (some ⟨P, 0, none⟩), .int .i64 x, .int .i64 L1] (rec x) top)
    (hp : ∀ (k : Nat) (w : World), Sm s l P g w (.ok k) → Calls Tryz.prog 71 #[.pointer (some ⟨P, 0, none⟩), .int .i64 L] w fun r w' => ∃ e A c t m', r = .returned (.tuple #[e.val A c, .int .i64 t, .int .i64 (sigN l k)]) ∧ Got s l P g w (prefN s l rec k) (top + 1) w' e A c t m')
    {w : World} {k : Nat} (h : Sm s l P g w (.ok k)) (hi : ¬ (least = 0 ∧ isN l k wIf = true)) {q0 : PR} (hq0 : q0 = (prefN s l rec k).then fun e i1 => loopN s l rec least l.length e (sigN l k) i1) :
    Calls Tryz.prog 37 #[.pointer (some ⟨P, 0, none⟩), .int .i64 least, .int .i64 L] w fun r w' => ∃ e A c t m', r = .returned (.tuple #[e.val A c, .int .i64 t]) ∧ Got s l P g w (q0) (top + 1) w' e A c t m' := by
  go_enter Tryz.func37, Tryz.ntmps37
  have f_1 := PF.start h
  go_wp2_with fail
  have f_2 := f_1.alloc (.cells #[.int .i64 0, .string ⟨#[]⟩, .int .i64 0, .slice none 0 0, .int .i64 0, .int .i64 0] 41)
  have z_2 := alloc_size w (.cells #[.int .i64 0, .string ⟨#[]⟩, .int .i64 0, .slice none 0 0, .int .i64 0, .int .i64 0] 41)
  clear f_1
  generalize w.heap.size = R at *
  generalize w.alloc (.cells #[.int .i64 0, .string ⟨#[]⟩, .int .i64 0, .slice none 0 0, .int .i64 0, .int .i64 0] 41) = W2 at *
  clear z_2
  refine (bad_ok f_2.sm).mono ?_
  rintro r W3 ⟨rfl, rfl⟩
  go_upto_region 5 with fail
  go_cut [33] from 30 to 33 (fun t wx => t = .bool false ∧ PF s l P g w (.ok k) wx [blkK R (.cells #[.int .i64 0, .string ⟨#[]⟩, .int .i64 0, .slice none 0 0, .int .i64 0, .int .i64 0] 41 (0, 0))])
  case first =>
    by_cases h0 : least = 0
    · have h0i : (least == 0) = true := by simp [h0]
      have hq : isN l k wIf = false := eq_false_of_ne_true fun h => hi ⟨h0, h⟩
      clear h0 hi
      go_wp2_with fail
      refine (is_val (t := ⟨#[105, 102]⟩) f_2.sm (b := false) hq).mono ?_
      rintro r W4 ⟨rfl, b_4⟩
      have f_4 := f_2.below b_4
      clear f_2 b_4
      go_wp2_with fail
      go_meet
      case rel => exact ⟨rfl, f_4⟩
    · have h0i : (least == 0) = false := by simp [h0]
      clear h0 hi
      go_wp2_with fail
      go_meet
      case rel => exact ⟨rfl, f_2⟩
  case rest =>
    obtain ⟨rfl, f_c⟩ := hcut
    clear f_2
    go_wp2_with fail
    refine (hp _ wc f_c.sm).mono ?_
    rintro r W4 ⟨ex, Ax, cx, tx, mx, rfl, Gx⟩
    obtain ⟨Dx, f_4⟩ := f_c.expr Gx
    obtain ⟨lowx, topx, okx, camex⟩ := Gx.facts
    clear f_c Gx
    simp only [Ex.val_eq]
    go_wp2_with fail
    have f_5 := f_4.alloc (.cells #[.int .i64 ex.op, .string ex.name, .int .i64 ex.num, .slice Ax ex.k cx, .int .i64 ex.line, .int .i64 ex.col] 41)
    have z_5 := alloc_size W4 (.cells #[.int .i64 ex.op, .string ex.name, .int .i64 ex.num, .slice Ax ex.k cx, .int .i64 ex.line, .int .i64 ex.col] 41)
    clear f_4
    generalize W4.heap.size = Lf at *
    generalize W4.alloc (.cells #[.int .i64 ex.op, .string ex.name, .int .i64 ex.num, .slice Ax ex.k cx, .int .i64 ex.line, .int .i64 ex.col] 41) = W5 at *
    clear z_5
    have fin := f_5.rot2.rot1.rot2
    go_loopg [9, 10] l.length (fun gk hv sv wr => ∃ (e : Ex) (A : Option Addr) (c : Nat) (D : Nat → Prop) (t sg : Int) (m1 : Md), hv = .int .i64 t ∧ sv = .int .i64 sg ∧ PF s l P g w m1 wr (exK D e A c :: blkK Lf (.cells #[.int .i64 e.op, .string e.name, .int .i64 e.num, .slice A e.k c, .int .i64 e.line, .int .i64 e.col] 41 (0, 0)) :: blkK R (.cells #[.int .i64 0, .string ⟨#[]⟩, .int .i64 0, .slice none 0 0, .int .i64 0, .int .i64 0] 41 (0, 0)) :: []) ∧ (0 ≤ t ∧ t ≤ top + 1) ∧ (∀ i, m1 = .ok i → t ≤ 30 ∧ t = e.height ∧ l.length ≤ gk + i) ∧ Hid (q0 = m1.seq (loopN s l rec least gk e sg)))
    case atStart =>
      refine ⟨ex, Ax, cx, Dx, tx, sigN l k, mx, rfl, rfl, fin, ⟨lowx, topx⟩, fun i hi => ⟨okx i hi, ?_, by omega⟩, ?_⟩
      · subst hi; exact (came_ok camex.out).2
      · show _ = _; rw [hq0]; exact came_then (f := fun e i1 => loopN s l rec least l.length e (sigN l k) i1) camex.out
    case round =>
      clear fin lowx topx okx camex hq0 f_5
      obtain ⟨e, A, c, D, t, sg, m1, rfl, rfl, f_0, hb, hok, hq⟩ := hrel
      cases m1 with
      | bad er ln cl =>
        clear hok
        go_wp2_with fail
        refine (bad_bad f_0.sm).mono ?_
        rintro r W6 ⟨rfl, rfl⟩
        obtain ⟨kLf0, kLf1, kLf2, kLf3, kLf4, kLf5, fLf0, fLf1, fLf2, fLf3, fLf4, fLf5⟩ := blk6 f_0.rot1.blk
        obtain ⟨kR0, kR1, kR2, kR3, kR4, kR5, fR0, fR1, fR2, fR3, fR4, fR5⟩ := blk6 f_0.rot2.blk
        go_wp2_with fail
        clear kLf0 kLf1 kLf2 kLf3 kLf4 kLf5 fLf0 fLf1 fLf2 fLf3 fLf4 fLf5 kR0 kR1 kR2 kR3 kR4 kR5 fR0 fR1 fR2 fR3 fR4 fR5
        have f_7 := Fr.set6 f_0.rot2 (.int .i64 e.op) (.string e.name) (.int .i64 e.num) (.slice A e.k c) (.int .i64 e.line) (.int .i64 e.col)
        clear f_0
        generalize ((((((wr.setCell ⟨R, 0, none⟩ (.int .i64 e.op)).setCell ⟨R, 1, none⟩ (.string e.name)).setCell ⟨R, 2, none⟩ (.int .i64 e.num)).setCell ⟨R, 3, none⟩ (.slice A e.k c)).setCell ⟨R, 4, none⟩ (.int .i64 e.line)).setCell ⟨R, 5, none⟩ (.int .i64 e.col)) = W7 at *
        have fin := f_7.rot1
        obtain ⟨r0, r1, r2, r3, r4, r5, -⟩ := blk6 f_7.blk
        try simp only [Exit.inBlock, Exit.then]
        exact bodyPost_ret (v := .tuple #[.agg #[.int .i64 e.op, .string e.name, .int .i64 e.num, .slice A e.k c, .int .i64 e.line, .int .i64 e.col], .int .i64 t]) (by simp [results, Tryz.results37, go_sem, r0, r1, r2, r3, r4, r5]) rfl ⟨e, A, c, t, _, rfl, ⟨fin.ex, f_7.sm, f_7.gr, hb.1, hb.2, (fun i hi => by cases hi), by rw [hq.out]; exact rfl⟩⟩
      | ok i =>
        obtain ⟨ht30, hte, hfu⟩ := hok i rfl
        have hteH := hid hte
        have hfuH := hid hfu
        clear hok hte hfu
        go_wp2_with fail
        refine (bad_ok f_0.sm).mono ?_
        rintro r W6 ⟨rfl, rfl⟩
        go_wp2_with fail
        refine (infix_m f_0.sm).mono ?_
        rintro r W7 ⟨rfl, b_7⟩
        have f_7 := f_0.below b_7
        clear f_0 b_7
        obtain ⟨op, hop⟩ : ∃ op, op = opN l i := ⟨_, rfl⟩
        rw [← hop]
        obtain ⟨nd, hnd⟩ : ∃ nd, nd = needN op := ⟨_, rfl⟩
        rw [← hnd]
        have hopH := hid hop
        have hndH := hid hnd
        clear hop hnd
        go_wp2_with fail
        refine (strength_any op _).mono ?_
        rintro r Wq ⟨rfl, rfl⟩
        obtain ⟨n, hn⟩ : ∃ n, n = strOf op := ⟨_, rfl⟩
        rw [← hn]
        have hnH := hid hn
        clear hn
        go_upto_region 11 with fail
        go_cut [67] from 56 to 67 (fun t wx => t = .bool (decide (op = 0 ∨ n < least ∨ sg < nd)) ∧ wx = W7)
        case first =>
          by_cases hs1 : op = 0
          · have hs1i : (op == 0) = true := by simp [hs1]
            have hd : decide (op = 0 ∨ n < least ∨ sg < nd) = true := by simp [hs1]
            clear hs1
            go_wp2_with fail
            go_meet
            case rel => exact ⟨congrArg Value.bool hd.symm, rfl⟩
          have hs1i : (op == 0) = false := by simp [hs1]
          by_cases hs2 : n < least
          · have hd : decide (op = 0 ∨ n < least ∨ sg < nd) = true := by simp [hs2]
            clear hs1
            go_wp2_with fail
            go_meet
            case rel => exact ⟨congrArg Value.bool hd.symm, rfl⟩
          by_cases hs3 : sg < nd
          · have hd : decide (op = 0 ∨ n < least ∨ sg < nd) = true := by simp [hs3]
            clear hs1
            go_wp2_with fail
            go_meet
            case rel => exact ⟨congrArg Value.bool hd.symm, rfl⟩
          have hd : decide (op = 0 ∨ n < least ∨ sg < nd) = false := by simp [hs1, hs2, hs3]
          clear hs1
          go_wp2_with fail
          go_meet
          case rel => exact ⟨congrArg Value.bool hd.symm, rfl⟩
        case rest =>
          obtain ⟨rfl, rfl⟩ := hcut
          have hstopq : (op = 0 ∨ n < least ∨ sg < nd) ↔ (opN l i = 0 ∨ strOf (opN l i) < least ∨ sg < needOf (opN l i)) := by
            rw [hnH.out, hndH.out, hopH.out]; unfold needN; by_cases h0 : opN l i = 0
            · simp only [h0, true_or]
            · rw [if_neg h0]
          have hpos : 0 < gk := by have := hfuH.out; have := PSt.lt f_7.sm; omega
          by_cases hst : (op = 0 ∨ n < least ∨ sg < nd)
          · have hst2 := hid (hstopq.1 hst)
            rw [decide_eq_true hst]
            clear hstopq hst
            obtain ⟨kLf0, kLf1, kLf2, kLf3, kLf4, kLf5, fLf0, fLf1, fLf2, fLf3, fLf4, fLf5⟩ := blk6 f_7.rot1.blk
            obtain ⟨kR0, kR1, kR2, kR3, kR4, kR5, fR0, fR1, fR2, fR3, fR4, fR5⟩ := blk6 f_7.rot2.blk
            go_wp2_with fail
            clear kLf0 kLf1 kLf2 kLf3 kLf4 kLf5 fLf0 fLf1 fLf2 fLf3 fLf4 fLf5 kR0 kR1 kR2 kR3 kR4 kR5 fR0 fR1 fR2 fR3 fR4 fR5
            have f_8 := Fr.set6 f_7.rot2 (.int .i64 e.op) (.string e.name) (.int .i64 e.num) (.slice A e.k c) (.int .i64 e.line) (.int .i64 e.col)
            clear f_7
            generalize ((((((wc.setCell ⟨R, 0, none⟩ (.int .i64 e.op)).setCell ⟨R, 1, none⟩ (.string e.name)).setCell ⟨R, 2, none⟩ (.int .i64 e.num)).setCell ⟨R, 3, none⟩ (.slice A e.k c)).setCell ⟨R, 4, none⟩ (.int .i64 e.line)).setCell ⟨R, 5, none⟩ (.int .i64 e.col)) = W8 at *
            have fin := f_8.rot1
            obtain ⟨r0, r1, r2, r3, r4, r5, -⟩ := blk6 f_8.blk
            try simp only [Exit.inBlock, Exit.then]
            exact bodyPost_ret (v := .tuple #[.agg #[.int .i64 e.op, .string e.name, .int .i64 e.num, .slice A e.k c, .int .i64 e.line, .int .i64 e.col], .int .i64 t]) (by simp [results, Tryz.results37, go_sem, r0, r1, r2, r3, r4, r5]) rfl ⟨e, A, c, t, _, rfl, ⟨fin.ex, f_8.sm, f_8.gr, hb.1, hb.2, (fun _ _ => ht30), by rw [hq.out]; show Came (loopN _ _ _ _ _ _ _ _) _ _ _; rw [loop_stop hpos hst2.out]; exact ⟨rfl, rfl, hteH.out⟩⟩⟩
          · have hst2 := hid (fun h => hst (hstopq.2 h))
            have hop0 : op ≠ 0 := fun h => hst (.inl h)
            rw [decide_eq_false hst]
            clear hstopq hst
            have hr1 := op_range (hopH.out ▸ hop0 : opN l i ≠ 0)
            rw [← hopH.out] at hr1
            obtain ⟨hkd, hrg⟩ := hr1
            have hsr := str_range hrg
            rw [← hnH.out] at hsr
            have hlt1 : i + 1 < l.length := hE i (PSt.lt f_7.sm) (by omega)
            have hkdH := hid hkd
            clear hkd
            go_wp2_with fail
            refine (now_m f_7.sm).mono ?_
            rintro r W8 ⟨i2, hlt_i2, hj_i2, rfl, b_8⟩
            have f_8 := f_7.below b_8
            clear f_7 b_8
            obtain rfl : i2 = i := hj_i2 i rfl
            have hfd := field_at (.int .i64 (tkN l i2).kind) (.string (tkN l i2).text) (.int .i64 (tkN l i2).num) (lnN s l i2) (clN s l i2)
            go_upto_region 13 with fail
            clear hfd
            have f_9 := f_8.alloc (.cells #[.int .i64 op, .string ⟨#[]⟩, .int .i64 0, .slice none 0 0, .int .i64 (lnN s l i2), .int .i64 (clN s l i2)] 41)
            have z_9 := alloc_size W8 (.cells #[.int .i64 op, .string ⟨#[]⟩, .int .i64 0, .slice none 0 0, .int .i64 (lnN s l i2), .int .i64 (clN s l i2)] 41)
            clear f_8
            generalize W8.heap.size = E at *
            generalize W8.alloc (.cells #[.int .i64 op, .string ⟨#[]⟩, .int .i64 0, .slice none 0 0, .int .i64 (lnN s l i2), .int .i64 (clN s l i2)] 41) = W9 at *
            clear z_9
            obtain ⟨p1, p1f, i1, hi1, hwr⟩ := f_9.at1
            go_upto_region 14 with fail
            clear p1 p1f hwr
            have f_10 := f_9.up (j := i1) (by subst hi1; exact hlt1)
            clear f_9
            generalize W9.setCell ⟨P, 1, none⟩ (.int .i64 (i1 : Int)) = W10 at *
            by_cases h24 : op = 24
            · have h24H := hid h24
              subst h24
              obtain ⟨bn, hbn⟩ : ∃ b, b = isN l i1 wNot := ⟨_, rfl⟩
              obtain ⟨j, hj⟩ : ∃ j, j = (if bn = true then i1 + 1 else i1) := ⟨_, rfl⟩
              have hbnH := hid hbn
              have hjH := hid hj
              clear hbn hj
              go_wp2_with fail
              refine (take_j hE f_10.sm hbnH.out hjH.out).mono ?_
              rintro r W11 ⟨rfl, t_11, q_11⟩
              have f_11 := f_10.turn t_11 q_11
              clear f_10 t_11 q_11
              go_upto_if 83 with fail
              go_cut [] from 84 to 84 (fun wx => PF s l P g w (.ok j) wx (blkK E (.cells #[.int .i64 (if bn = true then 25 else 24), .string ⟨#[]⟩, .int .i64 0, .slice none 0 0, .int .i64 (lnN s l i2), .int .i64 (clN s l i2)] 41 (0, 0)) :: exK D e A c :: blkK Lf (.cells #[.int .i64 e.op, .string e.name, .int .i64 e.num, .slice A e.k c, .int .i64 e.line, .int .i64 e.col] 41 (0, 0)) :: blkK R (.cells #[.int .i64 0, .string ⟨#[]⟩, .int .i64 0, .slice none 0 0, .int .i64 0, .int .i64 0] 41 (0, 0)) :: []))
              case first =>
                cases bn with
                | true =>
                  obtain ⟨kE0, kE1, kE2, kE3, kE4, kE5, fE0, fE1, fE2, fE3, fE4, fE5⟩ := blk6 f_11.blk
                  go_wp2_with fail
                  clear kE0 kE1 kE2 kE3 kE4 kE5 fE0 fE1 fE2 fE3 fE4 fE5
                  have f_12 := Fr.set (n := 0) f_11 (.int .i64 25)
                  simp only [List.setIfInBounds_toArray, List.set_cons_zero] at f_12
                  clear f_11
                  generalize W11.setCell ⟨E, 0, none⟩ (.int .i64 25) = W12 at *
                  go_meet
                  case rel => exact f_12
                | false =>
                  go_wp2_with fail
                  go_meet
                  case rel => exact f_11
              case rest =>
                have f_w := hcut
                clear hcut f_11
                generalize hop2 : (if bn = true then (25 : Int) else 24) = op2 at *
                have hop2H := hid hop2
                clear hop2
                go_upto_region 17 with fail
                go_cut [] from 85 to 91 (fun wx => ∃ (Bk : Nat), PF s l P g w (Md.name s l (.ok j) false) wx (blkK E (.cells #[.int .i64 op2, .string (tkN l j).text, .int .i64 0, .slice (some ⟨Bk, 0, none⟩) 1 1, .int .i64 (lnN s l i2), .int .i64 (clN s l i2)] 41 (0, 0)) :: blkK Bk (.cells #[.int .i64 e.op, .string e.name, .int .i64 e.num, .slice A e.k c, .int .i64 e.line, .int .i64 e.col] 41 (0, 0)) :: exK D e A c :: blkK Lf (.cells #[.int .i64 e.op, .string e.name, .int .i64 e.num, .slice A e.k c, .int .i64 e.line, .int .i64 e.col] 41 (0, 0)) :: blkK R (.cells #[.int .i64 0, .string ⟨#[]⟩, .int .i64 0, .slice none 0 0, .int .i64 0, .int .i64 0] 41 (0, 0)) :: []))
                case first =>
                  have hfd := field_text (tkN l j).kind (tkN l j).text (tkN l j).num (lnN s l j) (clN s l j)
                  obtain ⟨kLf0, kLf1, kLf2, kLf3, kLf4, kLf5, fLf0, fLf1, fLf2, fLf3, fLf4, fLf5⟩ := blk6 f_w.rot2.blk
                  obtain ⟨kE0, kE1, kE2, kE3, kE4, kE5, fE0, fE1, fE2, fE3, fE4, fE5⟩ := blk6 f_w.blk
                  go_region_with (go_at_call 42; first | ((with_reducible refine (name_m hE (Fr.sm f_w.drew) 0 1).mono ?_); rintro r W_r ⟨j2, hlt_j2, hj_j2, rfl, t_r, q_r⟩; obtain rfl : j = j2 := (hj_j2 j rfl).symm; have t_s : Sm s l P g W_r (Md.name s l (.ok j) false) := t_r; have f_r := Fr.turn f_w.drew t_s q_r; obtain ⟨kvLf0, kvLf1, kvLf2, kvLf3, kvLf4, kvLf5, fvLf0, fvLf1, fvLf2, fvLf3, fvLf4, fvLf5⟩ := blk6 f_r.rot2.blk; obtain ⟨kvE0, kvE1, kvE2, kvE3, kvE4, kvE5, fvE0, fvE1, fvE2, fvE3, fvE4, fvE5⟩ := blk6 f_r.blk; have f_s := Fr.set (n := 1) f_r (.string (tkN l j).text); simp only [List.setIfInBounds_toArray, List.set_cons_zero, List.set_cons_succ] at f_s; obtain ⟨kuLf0, kuLf1, kuLf2, kuLf3, kuLf4, kuLf5, fuLf0, fuLf1, fuLf2, fuLf3, fuLf4, fuLf5⟩ := blk6 f_s.rot2.blk; obtain ⟨kuE0, kuE1, kuE2, kuE3, kuE4, kuE5, fuE0, fuE1, fuE2, fuE3, fuE4, fuE5⟩ := blk6 f_s.blk; obtain ⟨kwLf0, kwLf1, kwLf2, kwLf3, kwLf4, kwLf5, fwLf0, fwLf1, fwLf2, fwLf3, fwLf4, fwLf5⟩ := blk6 (f_r.alloc (.cells #[.int .i64 e.op, .string e.name, .int .i64 e.num, .slice A e.k c, .int .i64 e.line, .int .i64 e.col] 41)).rot3.blk; obtain ⟨kwE0, kwE1, kwE2, kwE3, kwE4, kwE5, fwE0, fwE1, fwE2, fwE3, fwE4, fwE5⟩ := blk6 (f_r.alloc (.cells #[.int .i64 e.op, .string e.name, .int .i64 e.num, .slice A e.k c, .int .i64 e.line, .int .i64 e.col] 41)).rot1.blk; obtain ⟨kyLf0, kyLf1, kyLf2, kyLf3, kyLf4, kyLf5, fyLf0, fyLf1, fyLf2, fyLf3, fyLf4, fyLf5⟩ := blk6 (f_s.alloc (.cells #[.int .i64 e.op, .string e.name, .int .i64 e.num, .slice A e.k c, .int .i64 e.line, .int .i64 e.col] 41)).rot3.blk; obtain ⟨kyE0, kyE1, kyE2, kyE3, kyE4, kyE5, fyE0, fyE1, fyE2, fyE3, fyE4, fyE5⟩ := blk6 (f_s.alloc (.cells #[.int .i64 e.op, .string e.name, .int .i64 e.num, .slice A e.k c, .int .i64 e.line, .int .i64 e.col] 41)).rot1.blk; have f_t := Fr.set (n := 3) (Fr.set (n := 1) ((f_r.alloc (.cells #[.int .i64 e.op, .string e.name, .int .i64 e.num, .slice A e.k c, .int .i64 e.line, .int .i64 e.col] 41)).rot1) (.string (tkN l j).text)) (.slice (some ⟨W_r.heap.size, 0, none⟩) 1 1); simp only [List.setIfInBounds_toArray, List.set_cons_zero, List.set_cons_succ] at f_t; have f_a := f_s.alloc (.cells #[.int .i64 e.op, .string e.name, .int .i64 e.num, .slice A e.k c, .int .i64 e.line, .int .i64 e.col] 41); rw [size_set] at f_a; have f_u := Fr.set (n := 3) f_a.rot1 (.slice (some ⟨W_r.heap.size, 0, none⟩) 1 1); simp only [List.setIfInBounds_toArray, List.set_cons_zero, List.set_cons_succ] at f_u; clear f_a; have f_t := hid f_t; have f_u := hid f_u) | ((with_reducible refine (name_m hE (Fr.sm (f_w.alloc (.cells #[.int .i64 e.op, .string e.name, .int .i64 e.num, .slice A e.k c, .int .i64 e.line, .int .i64 e.col] 41)).drew) 0 1).mono ?_); rintro r W_r ⟨j2, hlt_j2, hj_j2, rfl, t_r, q_r⟩; obtain rfl : j = j2 := (hj_j2 j rfl).symm; have t_s : Sm s l P g W_r (Md.name s l (.ok j) false) := t_r; have f_r := Fr.turn (f_w.alloc (.cells #[.int .i64 e.op, .string e.name, .int .i64 e.num, .slice A e.k c, .int .i64 e.line, .int .i64 e.col] 41)).drew t_s q_r; obtain ⟨kvLf0, kvLf1, kvLf2, kvLf3, kvLf4, kvLf5, fvLf0, fvLf1, fvLf2, fvLf3, fvLf4, fvLf5⟩ := blk6 f_r.rot3.blk; obtain ⟨kvE0, kvE1, kvE2, kvE3, kvE4, kvE5, fvE0, fvE1, fvE2, fvE3, fvE4, fvE5⟩ := blk6 f_r.rot1.blk; have f_s := Fr.set (n := 1) f_r.rot1 (.string (tkN l j).text); simp only [List.setIfInBounds_toArray, List.set_cons_zero, List.set_cons_succ] at f_s; obtain ⟨kuLf0, kuLf1, kuLf2, kuLf3, kuLf4, kuLf5, fuLf0, fuLf1, fuLf2, fuLf3, fuLf4, fuLf5⟩ := blk6 f_s.rot3.blk; obtain ⟨kuE0, kuE1, kuE2, kuE3, kuE4, kuE5, fuE0, fuE1, fuE2, fuE3, fuE4, fuE5⟩ := blk6 f_s.blk; have f_v := Fr.set (n := 3) f_s (.slice (some ⟨wc.heap.size, 0, none⟩) 1 1); simp only [List.setIfInBounds_toArray, List.set_cons_zero, List.set_cons_succ] at f_v; have f_v := f_v.rot1.rot1; have f_v := hid f_v))
                  all_goals
                    go_wp2_with fail
                    go_meet
                    case rel => first | with_reducible exact ⟨_, f_v.out⟩ | with_reducible exact ⟨_, f_t.out⟩ | with_reducible exact ⟨_, f_u.out⟩
                case rest =>
                  obtain ⟨Bk, f_n⟩ := hcut
                  clear f_w
                  obtain ⟨kE0, kE1, kE2, kE3, kE4, kE5, fE0, fE1, fE2, fE3, fE4, fE5⟩ := blk6 f_n.blk
                  go_wp2_with fail
                  clear kE0 kE1 kE2 kE3 kE4 kE5 fE0 fE1 fE2 fE3 fE4 fE5
                  have f_12 := f_n.alloc (.cells #[.int .i64 t] 3)
                  have z_12 := alloc_size wc (.cells #[.int .i64 t] 3)
                  clear f_n
                  generalize wc.heap.size = Hb at *
                  generalize wc.alloc (.cells #[.int .i64 t] 3) = W12 at *
                  have hI : IntsAt W12 (some ⟨Hb, 0, none⟩) [t] := ints1 f_12.blk
                  clear z_12
                  refine (made_m f_12.sm op2 (tkN l j).text 0 (some ⟨Bk, 0, none⟩) 1 1 (lnN s l i2) (clN s l i2) [t] (some ⟨Hb, 0, none⟩) 1 hI (by simp; omega) (by simp [maxLen])).mono ?_
                  rintro r W13 ⟨rfl, t_13, q_13⟩
                  have f_13 := f_12.turn t_13 q_13
                  clear f_12 t_13 q_13
                  clear hI
                  obtain ⟨kLf0, kLf1, kLf2, kLf3, kLf4, kLf5, fLf0, fLf1, fLf2, fLf3, fLf4, fLf5⟩ := blk6 f_13.rot4.blk
                  go_wp2_with fail
                  clear kLf0 kLf1 kLf2 kLf3 kLf4 kLf5 fLf0 fLf1 fLf2 fLf3 fLf4 fLf5
                  have f_14 := Fr.set6 f_13.rot4 (.int .i64 op2) (.string (tkN l j).text) (.int .i64 0) (.slice (some ⟨Bk, 0, none⟩) 1 1) (.int .i64 (lnN s l i2)) (.int .i64 (clN s l i2))
                  clear f_13
                  generalize ((((((W13.setCell ⟨Lf, 0, none⟩ (.int .i64 op2)).setCell ⟨Lf, 1, none⟩ (.string (tkN l j).text)).setCell ⟨Lf, 2, none⟩ (.int .i64 0)).setCell ⟨Lf, 3, none⟩ (.slice (some ⟨Bk, 0, none⟩) 1 1)).setCell ⟨Lf, 4, none⟩ (.int .i64 (lnN s l i2))).setCell ⟨Lf, 5, none⟩ (.int .i64 (clN s l i2))) = W14 at *
                  have fin := f_14.rot5.rot1.rot5.rot5.rot5.rot5
                  obtain ⟨D2, f_z⟩ := fin.tail.tail.fold1 (op := op2) (name := (tkN l j).text) (n := 0) (ln := lnN s l i2) (cl := clN s l i2) (by have := hop2H.out; simp only [I64]; split at this <;> omega) (hK j).2.2.1 (by simp [I64]) (hK i2).1 (hK i2).2.1
                  have htt := topOf_in (hs := [t]) (t := top) (by simp; omega) (by omega)
                  have hq2 : q0 = (if 30 < topOf [t] then (Md.name s l (.ok j) false).fail 22 (lnN s l i2) (clN s l i2) else Md.name s l (.ok j) false).seq (loopN s l rec least (gk - 1) (mkEx op2 (tkN l j).text 0 [e] (lnN s l i2) (clN s l i2)) 3) := by
                    have h1 := hq.out
                    rw [show (Md.ok i2).seq (loopN s l rec least gk e sg) = loopN s l rec least gk e sg i2 from rfl, loop_when hpos hst2.out hopH.out.symm, when_eq (op := op2) (j := j) (b := bn) (by rw [hi1]; exact hbnH.out) (by rw [hi1]; exact hjH.out) hop2H.out] at h1
                    rw [h1]
                    exact made_seq (ln := lnN s l i2) (cl := clN s l i2) (m := Md.name s l (.ok j) false) (op := op2) (num := 0) (name := (tkN l j).text) (es := [e]) (hs := [t]) (f := fun e1 i1 => loopN s l rec least (gk - 1) e1 3 i1) (fun _ _ => by rw [hteH.out]; rfl)
                  have hok2 : ∀ i3, (if 30 < topOf [t] then (Md.name s l (.ok j) false).fail 22 (lnN s l i2) (clN s l i2) else Md.name s l (.ok j) false) = .ok i3 → topOf [t] ≤ 30 ∧ topOf [t] = ((mkEx op2 (tkN l j).text 0 [e] (lnN s l i2) (clN s l i2)).height : Int) ∧ l.length ≤ (gk - 1) + i3 := fun i3 h3 => by
                    obtain ⟨h4, h5⟩ := made_state h3
                    obtain ⟨i4, h6, h7⟩ := name_ok h5
                    injection h6 with h6
                    refine ⟨h4, ?_, ?_⟩
                    · rw [mk_height, hteH.out]; rfl
                    · have h8 := hjH.out
                      have h9 := hfuH.out
                      split at h8 <;> omega
                  go_roundg (gk - 1)
                  case rel => exact ⟨mkEx op2 (tkN l j).text 0 [e] (lnN s l i2) (clN s l i2), some ⟨Bk, 0, none⟩, 1, D2, topOf [t], 3, _, rfl, rfl, f_z, htt, hok2, hq2⟩
                  case measure => omega
            · have h24i : (op == 24) = false := by simp [h24]
              have h24H := hid h24
              have hsrH := hid hsr
              have hn18 : 1 ≤ n ∧ n ≤ 8 := ⟨hsr.1, hsr.2.1⟩
              clear h24 hsr
              obtain ⟨fr, hfr⟩ : ∃ fr, fr = fromOf op := ⟨_, rfl⟩
              obtain ⟨hf1, hf2, hf3⟩ := from_val hrg
              rw [← hfr, ← hnH.out] at hf1
              rw [← hfr] at hf2 hf3
              have hfrH := hid hfr
              have hf1H := hid hf1
              clear hfr hf1
              go_upto_region 21 with fail
              clear h24i
              go_cut [108] from 103 to 108 (fun t wx => t = .bool (decide (op = 23 ∨ op = 22)) ∧ wx = W10)
              case first =>
                by_cases hs1 : op = 23
                · have hs1i : (op == 23) = true := by simp [hs1]
                  have hd : decide (op = 23 ∨ op = 22) = true := by simp [hs1]
                  clear hs1
                  go_wp2_with fail
                  go_meet
                  case rel => exact ⟨congrArg Value.bool hd.symm, rfl⟩
                have hs1i : (op == 23) = false := by simp [hs1]
                by_cases hs2 : op = 22
                · have hs2i : (op == 22) = true := by simp [hs2]
                  have hd : decide (op = 23 ∨ op = 22) = true := by simp [hs2]
                  clear hs1 hs2
                  go_wp2_with fail
                  go_meet
                  case rel => exact ⟨congrArg Value.bool hd.symm, rfl⟩
                have hs2i : (op == 22) = false := by simp [hs2]
                have hd : decide (op = 23 ∨ op = 22) = false := by simp [hs1, hs2]
                clear hs1 hs2
                go_wp2_with fail
                go_meet
                case rel => exact ⟨congrArg Value.bool hd.symm, rfl⟩
              case rest =>
                obtain ⟨rfl, rfl⟩ := hcut
                generalize hbb : decide (op = 23 ∨ op = 22) = bb
                go_upto_if 108 with fail
                go_cut [15] from 109 to 109 (fun t wx => t = .int .i64 fr ∧ wx = wc)
                case first =>
                  cases bb with
                  | true =>
                    have hv : n = fr := by rw [hf1H.out, if_pos (of_decide_eq_true hbb)]
                    go_wp2_with fail
                    go_meet
                    case rel => exact ⟨by rw [hv], rfl⟩
                  | false =>
                    have hv : n + 1 = fr := by rw [hf1H.out, if_neg (of_decide_eq_false hbb)]
                    go_wp2_with fail
                    go_meet
                    case rel => exact ⟨by rw [hv], rfl⟩
                case rest =>
                  obtain ⟨rfl, hwx⟩ := hcut
                  subst hwx
                  clear hbb
                  have hrf := hr fr hf2 hf3
                  go_wp2_with fail
                  refine (hrf (.ok i1) wc f_10.sm).mono ?_
                  rintro r W11 ⟨ey, Ay, cy, ty, my, rfl, Gy⟩
                  obtain ⟨Dy, f_11⟩ := f_10.expr Gy
                  obtain ⟨lowy, topy, oky, camey⟩ := Gy.facts
                  clear f_10 Gy
                  simp only [Ex.val_eq]
                  clear hrf
                  go_upto_region 24 with fail
                  have f_12 := f_11.alloc (.cells #[.int .i64 ey.op, .string ey.name, .int .i64 ey.num, .slice Ay ey.k cy, .int .i64 ey.line, .int .i64 ey.col] 41)
                  have z_12 := alloc_size W11 (.cells #[.int .i64 ey.op, .string ey.name, .int .i64 ey.num, .slice Ay ey.k cy, .int .i64 ey.line, .int .i64 ey.col] 41)
                  clear f_11
                  generalize W11.heap.size = Y at *
                  generalize W11.alloc (.cells #[.int .i64 ey.op, .string ey.name, .int .i64 ey.num, .slice Ay ey.k cy, .int .i64 ey.line, .int .i64 ey.col] 41) = W12 at *
                  clear z_12
                  obtain ⟨kLf0, kLf1, kLf2, kLf3, kLf4, kLf5, fLf0, fLf1, fLf2, fLf3, fLf4, fLf5⟩ := blk6 f_12.rot4.blk
                  obtain ⟨kzLf0, kzLf1, kzLf2, kzLf3, kzLf4, kzLf5, fzLf0, fzLf1, fzLf2, fzLf3, fzLf4, fzLf5⟩ := blk6 (f_12.alloc (.cells #[.int .i64 e.op, .string e.name, .int .i64 e.num, .slice A e.k c, .int .i64 e.line, .int .i64 e.col, .int .i64 ey.op, .string ey.name, .int .i64 ey.num, .slice Ay ey.k cy, .int .i64 ey.line, .int .i64 ey.col] 41)).rot5.blk
                  obtain ⟨kY0, kY1, kY2, kY3, kY4, kY5, fY0, fY1, fY2, fY3, fY4, fY5⟩ := blk6 f_12.blk
                  obtain ⟨kzY0, kzY1, kzY2, kzY3, kzY4, kzY5, fzY0, fzY1, fzY2, fzY3, fzY4, fzY5⟩ := blk6 (f_12.alloc (.cells #[.int .i64 e.op, .string e.name, .int .i64 e.num, .slice A e.k c, .int .i64 e.line, .int .i64 e.col, .int .i64 ey.op, .string ey.name, .int .i64 ey.num, .slice Ay ey.k cy, .int .i64 ey.line, .int .i64 ey.col] 41)).rot1.blk
                  obtain ⟨kE0, kE1, kE2, kE3, kE4, kE5, fE0, fE1, fE2, fE3, fE4, fE5⟩ := blk6 f_12.rot2.blk
                  obtain ⟨kzE0, kzE1, kzE2, kzE3, kzE4, kzE5, fzE0, fzE1, fzE2, fzE3, fzE4, fzE5⟩ := blk6 (f_12.alloc (.cells #[.int .i64 e.op, .string e.name, .int .i64 e.num, .slice A e.k c, .int .i64 e.line, .int .i64 e.col, .int .i64 ey.op, .string ey.name, .int .i64 ey.num, .slice Ay ey.k cy, .int .i64 ey.line, .int .i64 ey.col] 41)).rot3.blk
                  go_upto_region 25 with fail
                  clear kLf0 kLf1 kLf2 kLf3 kLf4 kLf5 fLf0 fLf1 fLf2 fLf3 fLf4 fLf5 kzLf0 kzLf1 kzLf2 kzLf3 kzLf4 kzLf5 fzLf0 fzLf1 fzLf2 fzLf3 fzLf4 fzLf5 kY0 kY1 kY2 kY3 kY4 kY5 fY0 fY1 fY2 fY3 fY4 fY5 kzY0 kzY1 kzY2 kzY3 kzY4 kzY5 fzY0 fzY1 fzY2 fzY3 fzY4 fzY5 kE0 kE1 kE2 kE3 kE4 kE5 fE0 fE1 fE2 fE3 fE4 fE5 kzE0 kzE1 kzE2 kzE3 kzE4 kzE5 fzE0 fzE1 fzE2 fzE3 fzE4 fzE5
                  have f_13 := f_12.alloc (.cells #[.int .i64 e.op, .string e.name, .int .i64 e.num, .slice A e.k c, .int .i64 e.line, .int .i64 e.col, .int .i64 ey.op, .string ey.name, .int .i64 ey.num, .slice Ay ey.k cy, .int .i64 ey.line, .int .i64 ey.col] 41)
                  have z_13 := alloc_size W12 (.cells #[.int .i64 e.op, .string e.name, .int .i64 e.num, .slice A e.k c, .int .i64 e.line, .int .i64 e.col, .int .i64 ey.op, .string ey.name, .int .i64 ey.num, .slice Ay ey.k cy, .int .i64 ey.line, .int .i64 ey.col] 41)
                  clear f_12
                  generalize W12.heap.size = B at *
                  generalize W12.alloc (.cells #[.int .i64 e.op, .string e.name, .int .i64 e.num, .slice A e.k c, .int .i64 e.line, .int .i64 e.col, .int .i64 ey.op, .string ey.name, .int .i64 ey.num, .slice Ay ey.k cy, .int .i64 ey.line, .int .i64 ey.col] 41) = W13 at *
                  have f_14 := Fr.set (n := 3) f_13.rot3 (.slice (some ⟨B, 0, none⟩) 2 2)
                  simp only [List.setIfInBounds_toArray, List.set_cons_zero, List.set_cons_succ] at f_14
                  rw [← size_set W13 E 3 (.slice (some ⟨B, 0, none⟩) 2 2)] at z_13
                  clear f_13
                  generalize W13.setCell ⟨E, 3, none⟩ (.slice (some ⟨B, 0, none⟩) 2 2) = W14 at *
                  clear z_13
                  obtain ⟨kE0, kE1, kE2, kE3, kE4, kE5, fE0, fE1, fE2, fE3, fE4, fE5⟩ := blk6 f_14.blk
                  go_wp2_with fail
                  clear kE0 kE1 kE2 kE3 kE4 kE5 fE0 fE1 fE2 fE3 fE4 fE5
                  have f_15 := f_14.alloc (.cells #[.int .i64 t, .int .i64 ty] 3)
                  have z_15 := alloc_size W14 (.cells #[.int .i64 t, .int .i64 ty] 3)
                  clear f_14
                  generalize W14.heap.size = Hb at *
                  generalize W14.alloc (.cells #[.int .i64 t, .int .i64 ty] 3) = W15 at *
                  clear z_15
                  have hI : IntsAt W15 (some ⟨Hb, 0, none⟩) [t, ty] := ints2 f_15.blk
                  refine (made_m f_15.sm op ⟨#[]⟩ 0 (some ⟨B, 0, none⟩) 2 2 (lnN s l i2) (clN s l i2) [t, ty] (some ⟨Hb, 0, none⟩) 2 hI (by simp; omega) (by simp [maxLen])).mono ?_
                  rintro r W16 ⟨rfl, t_16, q_16⟩
                  have f_16 := f_15.turn t_16 q_16
                  clear f_15 t_16 q_16
                  clear hI
                  obtain ⟨kLf0, kLf1, kLf2, kLf3, kLf4, kLf5, fLf0, fLf1, fLf2, fLf3, fLf4, fLf5⟩ := blk6 f_16.rot6.blk
                  go_wp2_with fail
                  clear kLf0 kLf1 kLf2 kLf3 kLf4 kLf5 fLf0 fLf1 fLf2 fLf3 fLf4 fLf5
                  have f_17 := Fr.set6 f_16.rot6 (.int .i64 op) (.string ⟨#[]⟩) (.int .i64 0) (.slice (some ⟨B, 0, none⟩) 2 2) (.int .i64 (lnN s l i2)) (.int .i64 (clN s l i2))
                  clear f_16
                  generalize ((((((W16.setCell ⟨Lf, 0, none⟩ (.int .i64 op)).setCell ⟨Lf, 1, none⟩ (.string ⟨#[]⟩)).setCell ⟨Lf, 2, none⟩ (.int .i64 0)).setCell ⟨Lf, 3, none⟩ (.slice (some ⟨B, 0, none⟩) 2 2)).setCell ⟨Lf, 4, none⟩ (.int .i64 (lnN s l i2))).setCell ⟨Lf, 5, none⟩ (.int .i64 (clN s l i2))) = W17 at *
                  have fin := f_17.rot7.rot1.rot6.rot7.rot6.rot7.rot7.rot7
                  obtain ⟨D2, f_z⟩ := fin.tail.tail.tail.fold2 (op := op) (name := ⟨#[]⟩) (n := 0) (ln := lnN s l i2) (cl := clN s l i2) (by simp only [I64]; omega) nil_le (by simp [I64]) (hK i2).1 (hK i2).2.1
                  have htt := topOf_in (hs := [t, ty]) (t := top) (by simp; omega) (by omega)
                  have hhy : ∀ i3, my = .ok i3 → [t, ty] = [e, ey].map fun e => (e.height : Int) := fun i3 h3 => by
                    subst h3
                    have := (came_ok camey.out).2
                    rw [hteH.out, this]
                    rfl
                  have hq2 : q0 = (if 30 < topOf [t, ty] then my.fail 22 (lnN s l i2) (clN s l i2) else my).seq (loopN s l rec least (gk - 1) (mkEx op ⟨#[]⟩ 0 [e, ey] (lnN s l i2) (clN s l i2)) n) := by
                    have h1 := hq.out
                    have h2 := camey.out
                    rw [show (Md.ok i2).seq (loopN s l rec least gk e sg) = loopN s l rec least gk e sg i2 from rfl, loop_two hpos hst2.out (hopH.out ▸ h24H.out)] at h1
                    rw [h1]
                    unfold twoN
                    rw [← hopH.out, ← hnH.out, ← hfrH.out, hi1]
                    rw [show rec fr i1 = (Md.ok i1).seq (rec fr) from rfl, came_then (f := fun r i1 => (madeN (mkEx op ⟨#[]⟩ 0 [e, r] (lnN s l i2) (clN s l i2)) i1).then fun e1 i1 => loopN s l rec least (gk - 1) e1 n i1) h2]
                    exact made_seq (ln := lnN s l i2) (cl := clN s l i2) (m := my) (op := op) (num := 0) (name := ⟨#[]⟩) (es := [e, ey]) (hs := [t, ty]) (f := fun e1 i1 => loopN s l rec least (gk - 1) e1 n i1) hhy
                  have hok2 : ∀ i3, (if 30 < topOf [t, ty] then my.fail 22 (lnN s l i2) (clN s l i2) else my) = .ok i3 → topOf [t, ty] ≤ 30 ∧ topOf [t, ty] = ((mkEx op ⟨#[]⟩ 0 [e, ey] (lnN s l i2) (clN s l i2)).height : Int) ∧ l.length ≤ (gk - 1) + i3 := fun i3 h3 => by
                    obtain ⟨h4, h5⟩ := made_state h3
                    refine ⟨h4, ?_, ?_⟩
                    · rw [mk_height, ← hhy i3 h5]
                    · subst h5
                      have h6 := (hA fr i1 (by omega) ey i3 (came_ok camey.out).1).1
                      have h9 := hfuH.out
                      omega
                  go_roundg (gk - 1)
                  case rel => exact ⟨mkEx op ⟨#[]⟩ 0 [e, ey] (lnN s l i2) (clN s l i2), some ⟨B, 0, none⟩, 2, D2, topOf [t, ty], n, _, rfl, rfl, f_z, htt, hok2, hq2⟩
                  case measure => omega
end Go.Proofs.YtnlikhjmmnaknaaGreatDoor
