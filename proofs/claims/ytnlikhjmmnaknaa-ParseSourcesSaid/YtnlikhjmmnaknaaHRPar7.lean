/-
  The walks of the reference's Strong (printed by gen_p2.py).
-/
import Derived.Test.YtnlikhjmmnaknaaHRWhen
import Derived.Deep.CutRange
import Derived.Deep.RegionLaw
namespace Go.Proofs.Ytnlikhjmmnaknaa
open Go.RowKit


set_option maxHeartbeats 4000000 in
set_option maxRecDepth 100000 in
theorem rstrong_bad {s : ByteArray} {l : List Tk} {P g : Nat} {st L : Int} {w : World} {ea eb ec : Int} (h : Sm s l P g w (.bad ea eb ec)) :
    Calls Try.prog 17 #[.pointer (some ⟨P, 0, none⟩), .int .i64 st, .int .i64 L] w fun r w' => ∃ e A c t m', r = .returned (e.val A c) ∧ Got s l P g w (.bad ea eb ec) 30 w' e A c t m' := by
  go_enter Try.func17, Try.ntmps17
  have f_1 := PF.start h
  go_upto_region 1 with fail
  have f_2 := f_1.alloc (.cells #[.int .i64 0, .string ⟨#[]⟩, .int .i64 0, .slice none 0 0, .int .i64 0, .int .i64 0] 27)
  have z_2 := alloc_size w (.cells #[.int .i64 0, .string ⟨#[]⟩, .int .i64 0, .slice none 0 0, .int .i64 0, .int .i64 0] 27)
  clear f_1
  generalize w.heap.size = R at *
  generalize w.alloc (.cells #[.int .i64 0, .string ⟨#[]⟩, .int .i64 0, .slice none 0 0, .int .i64 0, .int .i64 0] 27) = W2 at *
  clear z_2
  obtain ⟨er, x0, x1, x2⟩ := f_2.err
  have x3 : (er != 0) = true := x1
  clear x1 x2
  obtain ⟨kR0, kR1, kR2, kR3, kR4, kR5, fR0, fR1, fR2, fR3, fR4, fR5⟩ := blk6 f_2.blk
  go_wp2_with fail
  clear kR0 kR1 kR2 kR3 kR4 kR5 fR0 fR1 fR2 fR3 fR4 fR5
  have f_3 := Fr.set6 f_2 (.int .i64 0) (.string ⟨#[]⟩) (.int .i64 0) (.slice none 0 0) (.int .i64 0) (.int .i64 0)
  clear f_2
  generalize ((((((W2.setCell ⟨R, 0, none⟩ (.int .i64 0)).setCell ⟨R, 1, none⟩ (.string ⟨#[]⟩)).setCell ⟨R, 2, none⟩ (.int .i64 0)).setCell ⟨R, 3, none⟩ (.slice none 0 0)).setCell ⟨R, 4, none⟩ (.int .i64 0)).setCell ⟨R, 5, none⟩ (.int .i64 0)) = W3 at *
  obtain ⟨r0, r1, r2, r3, r4, r5, -⟩ := blk6 f_3.blk
  try simp only [Exit.inBlock, Exit.then]
  exact bodyPost_ret (v := .agg #[.int .i64 0, .string ⟨#[]⟩, .int .i64 0, .slice none 0 0, .int .i64 0, .int .i64 0]) (by simp [results, Try.results17, go_sem, r0, r1, r2, r3, r4, r5]) rfl ⟨mkEx 0 ⟨#[]⟩ 0 [] 0 0, none, 0, 0, _, rfl, ⟨lit0, f_3.sm, f_3.gr, by omega, by omega, fun _ _ => by omega, rfl⟩⟩

set_option maxHeartbeats 4000000 in
set_option maxRecDepth 100000 in
theorem rstrong_9no {s : ByteArray} {l : List Tk} {P g : Nat} (hE : Ended l) {L : Int} {rec : Int → Nat → PR} {w : World} {k : Nat} (h : Sm s l P g w (.ok k)) (q0 : isN l k wMinus = false) (q1 : isN l k wNot = false) (q2 : isN l k wPre = false)
    (hal : ∀ (k : Nat) (w : World), Sm s l P g w (.ok k) → Calls Try.prog 45 #[.pointer (some ⟨P, 0, none⟩), .int .i64 L] w fun r w' => ∃ e A c t m', r = .returned (e.val A c) ∧ Got s l P g w (aloneN s l rec k) 30 w' e A c t m') :
    Calls Try.prog 17 #[.pointer (some ⟨P, 0, none⟩), .int .i64 9, .int .i64 L] w fun r w' => ∃ e A c t m', r = .returned (e.val A c) ∧ Got s l P g w (aloneN s l rec k) 30 w' e A c t m' := by
  go_enter Try.func17, Try.ntmps17
  have f_1 := PF.start h
  go_upto_region 1 with fail
  have f_2 := f_1.alloc (.cells #[.int .i64 0, .string ⟨#[]⟩, .int .i64 0, .slice none 0 0, .int .i64 0, .int .i64 0] 27)
  have z_2 := alloc_size w (.cells #[.int .i64 0, .string ⟨#[]⟩, .int .i64 0, .slice none 0 0, .int .i64 0, .int .i64 0] 27)
  clear f_1
  generalize w.heap.size = R at *
  generalize w.alloc (.cells #[.int .i64 0, .string ⟨#[]⟩, .int .i64 0, .slice none 0 0, .int .i64 0, .int .i64 0] 27) = W2 at *
  clear z_2
  obtain ⟨er, x0, x1, x2⟩ := f_2.err
  have x3 : (er != 0) = false := x1
  clear x1 x2
  go_upto_region 3 with fail
  clear x0 x3
  obtain ⟨i, crd, ⟨hlt_i, hj_i, hx1, hx2⟩, ⟨c0, c1, k0, k1, k2, k3, k4⟩, ⟨d0, d1, e0, e1, e2, e3, e4⟩⟩ := f_2.reads (.cells #[.int .i64 0, .int .i64 0] 25)
  obtain rfl : i = k := hj_i k rfl
  go_cut [7] from 22 to 32 (fun p wx => ∃ T1, p = .pointer (some ⟨T1, 0, none⟩) ∧ PF s l P g w (.ok i) wx (blkK T1 (.cells #[.int .i64 (lnN s l i), .int .i64 (clN s l i)] 25 (0, 0)) :: blkK R (.cells #[.int .i64 0, .string ⟨#[]⟩, .int .i64 0, .slice none 0 0, .int .i64 0, .int .i64 0] 27 (0, 0)) :: []))
  case first =>
    go_region
    all_goals
      go_wp2_with fail
      go_meet
      case rel => exact ⟨_, rfl, (Fr.alloc f_2 (.cells #[.int .i64 (lnN s l i), .int .i64 (clN s l i)] 25)).drew⟩
  case rest =>
    obtain ⟨At, rfl, f_3⟩ := hcut
    clear c0 c1 k0 k1 k2 k3 k4 d0 d1 e0 e1 e2 e3 e4 f_2
    go_wp2_with fail
    refine ((rtake_no (t := ⟨#[45]⟩) hE f_3.sm q0)).mono ?_
    rintro r W4 ⟨rfl, t_4, q_4⟩
    have f_4 := f_3.turn t_4 q_4
    clear f_3 t_4 q_4
    go_wp2_with fail
    refine ((rtake_no (t := ⟨#[110, 111, 116]⟩) hE f_4.sm q1)).mono ?_
    rintro r W5 ⟨rfl, t_5, q_5⟩
    have f_5 := f_4.turn t_5 q_5
    clear f_4 t_5 q_5
    go_wp2_with fail
    refine ((rtake_no (t := ⟨#[112, 114, 101]⟩) hE f_5.sm q2)).mono ?_
    rintro r W6 ⟨rfl, t_6, q_6⟩
    have f_6 := f_5.turn t_6 q_6
    clear f_5 t_6 q_6
    go_wp2_with fail
    refine (hal i _ f_6.sm).mono ?_
    rintro r W7 ⟨ex, Ax, cx, tx, mx, rfl, Gx⟩
    obtain ⟨Dx, f_7⟩ := f_6.expr Gx
    obtain ⟨lowx, topx, okx, camex⟩ := Gx.facts
    clear f_6 Gx
    simp only [Ex.val_eq]
    obtain ⟨kR0, kR1, kR2, kR3, kR4, kR5, fR0, fR1, fR2, fR3, fR4, fR5⟩ := blk6 f_7.rot2.blk
    go_wp2_with fail
    clear kR0 kR1 kR2 kR3 kR4 kR5 fR0 fR1 fR2 fR3 fR4 fR5
    have f_8 := Fr.set6 f_7.rot2 (.int .i64 ex.op) (.string ex.name) (.int .i64 ex.num) (.slice Ax ex.k cx) (.int .i64 ex.line) (.int .i64 ex.col)
    clear f_7
    generalize ((((((W7.setCell ⟨R, 0, none⟩ (.int .i64 ex.op)).setCell ⟨R, 1, none⟩ (.string ex.name)).setCell ⟨R, 2, none⟩ (.int .i64 ex.num)).setCell ⟨R, 3, none⟩ (.slice Ax ex.k cx)).setCell ⟨R, 4, none⟩ (.int .i64 ex.line)).setCell ⟨R, 5, none⟩ (.int .i64 ex.col)) = W8 at *
    have fin := f_8.rot1
    obtain ⟨r0, r1, r2, r3, r4, r5, -⟩ := blk6 f_8.blk
    try simp only [Exit.inBlock, Exit.then]
    exact bodyPost_ret (v := .agg #[.int .i64 ex.op, .string ex.name, .int .i64 ex.num, .slice Ax ex.k cx, .int .i64 ex.line, .int .i64 ex.col]) (by simp [results, Try.results17, go_sem, r0, r1, r2, r3, r4, r5]) rfl ⟨ex, Ax, cx, tx, _, rfl, ⟨fin.ex, f_8.sm, f_8.gr, lowx, topx, okx, camex.out⟩⟩

set_option maxHeartbeats 4000000 in
set_option maxRecDepth 100000 in
theorem rstrong_9minus {s : ByteArray} {l : List Tk} {P g : Nat} (hE : Ended l) (hK : TkOk s l) {L : Int} {rec : Int → Nat → PR} {w : World} {k : Nat} (h : Sm s l P g w (.ok k)) {L1 : Int} (hL : IntKind.i64.wrap (L + 1) = L1) (hN : RNext s l P g L1 rec)  (q0 : isN l k wMinus = true) :
    Calls Try.prog 17 #[.pointer (some ⟨P, 0, none⟩), .int .i64 9, .int .i64 L] w fun r w' => ∃ e A c t m', r = .returned (e.val A c) ∧ Got s l P g w ((rec 9 (k + 1)).then fun x i1 => madeN (mkEx 5 ⟨#[]⟩ 0 [x] (lnN s l k) (clN s l k)) i1) 30 w' e A c t m' := by
  go_enter Try.func17, Try.ntmps17
  have f_1 := PF.start h
  go_upto_region 1 with fail
  have f_2 := f_1.alloc (.cells #[.int .i64 0, .string ⟨#[]⟩, .int .i64 0, .slice none 0 0, .int .i64 0, .int .i64 0] 27)
  have z_2 := alloc_size w (.cells #[.int .i64 0, .string ⟨#[]⟩, .int .i64 0, .slice none 0 0, .int .i64 0, .int .i64 0] 27)
  clear f_1
  generalize w.heap.size = R at *
  generalize w.alloc (.cells #[.int .i64 0, .string ⟨#[]⟩, .int .i64 0, .slice none 0 0, .int .i64 0, .int .i64 0] 27) = W2 at *
  clear z_2
  obtain ⟨er, x0, x1, x2⟩ := f_2.err
  have x3 : (er != 0) = false := x1
  clear x1 x2
  go_upto_region 3 with fail
  clear x0 x3
  obtain ⟨i, crd, ⟨hlt_i, hj_i, hx1, hx2⟩, ⟨c0, c1, k0, k1, k2, k3, k4⟩, ⟨d0, d1, e0, e1, e2, e3, e4⟩⟩ := f_2.reads (.cells #[.int .i64 0, .int .i64 0] 25)
  obtain rfl : i = k := hj_i k rfl
  go_cut [7] from 22 to 32 (fun p wx => ∃ T1, p = .pointer (some ⟨T1, 0, none⟩) ∧ PF s l P g w (.ok i) wx (blkK T1 (.cells #[.int .i64 (lnN s l i), .int .i64 (clN s l i)] 25 (0, 0)) :: blkK R (.cells #[.int .i64 0, .string ⟨#[]⟩, .int .i64 0, .slice none 0 0, .int .i64 0, .int .i64 0] 27 (0, 0)) :: []))
  case first =>
    go_region
    all_goals
      go_wp2_with fail
      go_meet
      case rel => exact ⟨_, rfl, (Fr.alloc f_2 (.cells #[.int .i64 (lnN s l i), .int .i64 (clN s l i)] 25)).drew⟩
  case rest =>
    obtain ⟨At, rfl, f_3⟩ := hcut
    clear c0 c1 k0 k1 k2 k3 k4 d0 d1 e0 e1 e2 e3 e4 f_2
    go_wp2_with fail
    refine ((rtake_yes (t := ⟨#[45]⟩) hE f_3.sm q0)).mono ?_
    rintro r W4 ⟨rfl, t_4, q_4⟩
    have f_4 := f_3.turn t_4 q_4
    clear f_3 t_4 q_4
    go_wp2_with fail
    refine (hN _ _ f_4.sm).mono ?_
    rintro r W5 ⟨rfl, m_5, t_5, q_5, hS⟩
    have f_5 := f_4.turn t_5 q_5
    clear f_4 t_5 q_5
    go_upto_region 27 with fail
    have hsH := hid f_5
    obtain ⟨a0, a1, -⟩ := blk2 f_5.blk
    go_region_with (first | (go_at_call 17; (with_reducible refine (hS 9 _ (by omega) (by omega) (Fr.sm (Fr.drew hsH.out))).mono ?_); rintro r W_r ⟨ex, Ax, cx, tx, mx, rfl, Gx⟩; obtain ⟨Dx, f_r⟩ := (Fr.drew hsH.out).expr Gx; obtain ⟨lowx, topx, okx, camex⟩ := Gx.facts; simp only [Ex.val_eq]; obtain ⟨b0, b1, -⟩ := blk2 f_r.rot1.blk; have f_b := Fr.alloc f_r (.cells #[.int .i64 ex.op, .string ex.name, .int .i64 ex.num, .slice Ax ex.k cx, .int .i64 ex.line, .int .i64 ex.col] 27); obtain ⟨c0, c1, -⟩ := blk2 f_b.rot2.blk) | (go_at_call 43; have hdp := rdeep_m f_b.sm (Fr.inn1 f_b (op := 5) (name := ⟨#[]⟩) (n := 0) (by simp [I64]) nil_le (by simp [I64]) (hK i).1 (hK i).2.1) (fun n hn => hn.2) (fun hn => by have := f_b.lt P rfl; have := hn.1; omega) (fun j hj => high1 (came_high camex.out okx hj)); rw [show (mkEx 5 ⟨#[]⟩ 0 [ex] (lnN s l i) (clN s l i)).val (some ⟨W_r.heap.size, 0, none⟩) 1 = .agg #[.int .i64 5, .string ⟨#[]⟩, .int .i64 0, .slice (some ⟨W_r.heap.size, 0, none⟩) 1 1, .int .i64 (lnN s l i), .int .i64 (clN s l i)] from rfl] at hdp; refine hdp.mono ?_; rintro r W_d ⟨rfl, t_d, q_d⟩; have f_d := f_b.turn t_d q_d; obtain ⟨kR0, kR1, kR2, kR3, kR4, kR5, fR0, fR1, fR2, fR3, fR4, fR5⟩ := blk6 f_d.rot3.blk))
    all_goals
      go_wp2_with fail
      clear kR0 kR1 kR2 kR3 kR4 kR5 fR0 fR1 fR2 fR3 fR4 fR5
      have f_d := hid f_d
      clear hsH
      have f_e := f_d.out
      clear f_d
      have f_6 := Fr.set6 f_e.rot3 (.int .i64 5) (.string ⟨#[]⟩) (.int .i64 0) (.slice (some ⟨W_r.heap.size, 0, none⟩) 1 1) (.int .i64 (lnN s l i)) (.int .i64 (clN s l i))
      clear f_e
      generalize ((((((W_d.setCell ⟨R, 0, none⟩ (.int .i64 5)).setCell ⟨R, 1, none⟩ (.string ⟨#[]⟩)).setCell ⟨R, 2, none⟩ (.int .i64 0)).setCell ⟨R, 3, none⟩ (.slice (some ⟨W_r.heap.size, 0, none⟩) 1 1)).setCell ⟨R, 4, none⟩ (.int .i64 (lnN s l i))).setCell ⟨R, 5, none⟩ (.int .i64 (clN s l i))) = W6 at *
      have fin := f_6.rot2.rot2
      have hin := Fr.inn1 fin (op := 5) (name := ⟨#[]⟩) (n := 0) (by simp [I64]) nil_le (by simp [I64]) (hK i).1 (hK i).2.1
      obtain ⟨hh, hG⟩ := Got.mk0 hin f_6.sm f_6.gr (by omega) (fun j hj => by have := (deep_ok hj).1; omega) (deep_came (m := mx) (es := [ex]) (came_then (f := fun x i1 => madeN (mkEx 5 ⟨#[]⟩ 0 [x] (lnN s l i) (clN s l i)) i1) camex.out))
      obtain ⟨r0, r1, r2, r3, r4, r5, -⟩ := blk6 f_6.blk
      try simp only [Exit.inBlock, Exit.then]
      exact bodyPost_ret (v := .agg #[.int .i64 5, .string ⟨#[]⟩, .int .i64 0, .slice (some ⟨W_r.heap.size, 0, none⟩) 1 1, .int .i64 (lnN s l i), .int .i64 (clN s l i)]) (by simp [results, Try.results17, go_sem, r0, r1, r2, r3, r4, r5]) rfl ⟨(mkEx 5 ⟨#[]⟩ 0 [ex] (lnN s l i) (clN s l i)), some ⟨W_r.heap.size, 0, none⟩, 1, hh, _, rfl, hG⟩

set_option maxHeartbeats 4000000 in
set_option maxRecDepth 100000 in
theorem rstrong_9not {s : ByteArray} {l : List Tk} {P g : Nat} (hE : Ended l) (hK : TkOk s l) {L : Int} {rec : Int → Nat → PR} {w : World} {k : Nat} (h : Sm s l P g w (.ok k)) {L1 : Int} (hL : IntKind.i64.wrap (L + 1) = L1) (hN : RNext s l P g L1 rec)  (q0 : isN l k wMinus = false) (q1 : isN l k wNot = true) :
    Calls Try.prog 17 #[.pointer (some ⟨P, 0, none⟩), .int .i64 9, .int .i64 L] w fun r w' => ∃ e A c t m', r = .returned (e.val A c) ∧ Got s l P g w ((rec 9 (k + 1)).then fun x i1 => madeN (mkEx 6 ⟨#[]⟩ 0 [x] (lnN s l k) (clN s l k)) i1) 30 w' e A c t m' := by
  go_enter Try.func17, Try.ntmps17
  have f_1 := PF.start h
  go_upto_region 1 with fail
  have f_2 := f_1.alloc (.cells #[.int .i64 0, .string ⟨#[]⟩, .int .i64 0, .slice none 0 0, .int .i64 0, .int .i64 0] 27)
  have z_2 := alloc_size w (.cells #[.int .i64 0, .string ⟨#[]⟩, .int .i64 0, .slice none 0 0, .int .i64 0, .int .i64 0] 27)
  clear f_1
  generalize w.heap.size = R at *
  generalize w.alloc (.cells #[.int .i64 0, .string ⟨#[]⟩, .int .i64 0, .slice none 0 0, .int .i64 0, .int .i64 0] 27) = W2 at *
  clear z_2
  obtain ⟨er, x0, x1, x2⟩ := f_2.err
  have x3 : (er != 0) = false := x1
  clear x1 x2
  go_upto_region 3 with fail
  clear x0 x3
  obtain ⟨i, crd, ⟨hlt_i, hj_i, hx1, hx2⟩, ⟨c0, c1, k0, k1, k2, k3, k4⟩, ⟨d0, d1, e0, e1, e2, e3, e4⟩⟩ := f_2.reads (.cells #[.int .i64 0, .int .i64 0] 25)
  obtain rfl : i = k := hj_i k rfl
  go_cut [7] from 22 to 32 (fun p wx => ∃ T1, p = .pointer (some ⟨T1, 0, none⟩) ∧ PF s l P g w (.ok i) wx (blkK T1 (.cells #[.int .i64 (lnN s l i), .int .i64 (clN s l i)] 25 (0, 0)) :: blkK R (.cells #[.int .i64 0, .string ⟨#[]⟩, .int .i64 0, .slice none 0 0, .int .i64 0, .int .i64 0] 27 (0, 0)) :: []))
  case first =>
    go_region
    all_goals
      go_wp2_with fail
      go_meet
      case rel => exact ⟨_, rfl, (Fr.alloc f_2 (.cells #[.int .i64 (lnN s l i), .int .i64 (clN s l i)] 25)).drew⟩
  case rest =>
    obtain ⟨At, rfl, f_3⟩ := hcut
    clear c0 c1 k0 k1 k2 k3 k4 d0 d1 e0 e1 e2 e3 e4 f_2
    go_wp2_with fail
    refine ((rtake_no (t := ⟨#[45]⟩) hE f_3.sm q0)).mono ?_
    rintro r W4 ⟨rfl, t_4, q_4⟩
    have f_4 := f_3.turn t_4 q_4
    clear f_3 t_4 q_4
    go_wp2_with fail
    refine ((rtake_yes (t := ⟨#[110, 111, 116]⟩) hE f_4.sm q1)).mono ?_
    rintro r W5 ⟨rfl, t_5, q_5⟩
    have f_5 := f_4.turn t_5 q_5
    clear f_4 t_5 q_5
    go_wp2_with fail
    refine (hN _ _ f_5.sm).mono ?_
    rintro r W6 ⟨rfl, m_6, t_6, q_6, hS⟩
    have f_6 := f_5.turn t_6 q_6
    clear f_5 t_6 q_6
    go_upto_region 27 with fail
    have hsH := hid f_6
    obtain ⟨a0, a1, -⟩ := blk2 f_6.blk
    go_region_with (first | (go_at_call 17; (with_reducible refine (hS 9 _ (by omega) (by omega) (Fr.sm (Fr.drew hsH.out))).mono ?_); rintro r W_r ⟨ex, Ax, cx, tx, mx, rfl, Gx⟩; obtain ⟨Dx, f_r⟩ := (Fr.drew hsH.out).expr Gx; obtain ⟨lowx, topx, okx, camex⟩ := Gx.facts; simp only [Ex.val_eq]; obtain ⟨b0, b1, -⟩ := blk2 f_r.rot1.blk; have f_b := Fr.alloc f_r (.cells #[.int .i64 ex.op, .string ex.name, .int .i64 ex.num, .slice Ax ex.k cx, .int .i64 ex.line, .int .i64 ex.col] 27); obtain ⟨c0, c1, -⟩ := blk2 f_b.rot2.blk) | (go_at_call 43; have hdp := rdeep_m f_b.sm (Fr.inn1 f_b (op := 6) (name := ⟨#[]⟩) (n := 0) (by simp [I64]) nil_le (by simp [I64]) (hK i).1 (hK i).2.1) (fun n hn => hn.2) (fun hn => by have := f_b.lt P rfl; have := hn.1; omega) (fun j hj => high1 (came_high camex.out okx hj)); rw [show (mkEx 6 ⟨#[]⟩ 0 [ex] (lnN s l i) (clN s l i)).val (some ⟨W_r.heap.size, 0, none⟩) 1 = .agg #[.int .i64 6, .string ⟨#[]⟩, .int .i64 0, .slice (some ⟨W_r.heap.size, 0, none⟩) 1 1, .int .i64 (lnN s l i), .int .i64 (clN s l i)] from rfl] at hdp; refine hdp.mono ?_; rintro r W_d ⟨rfl, t_d, q_d⟩; have f_d := f_b.turn t_d q_d; obtain ⟨kR0, kR1, kR2, kR3, kR4, kR5, fR0, fR1, fR2, fR3, fR4, fR5⟩ := blk6 f_d.rot3.blk))
    all_goals
      go_wp2_with fail
      clear kR0 kR1 kR2 kR3 kR4 kR5 fR0 fR1 fR2 fR3 fR4 fR5
      have f_d := hid f_d
      clear hsH
      have f_e := f_d.out
      clear f_d
      have f_7 := Fr.set6 f_e.rot3 (.int .i64 6) (.string ⟨#[]⟩) (.int .i64 0) (.slice (some ⟨W_r.heap.size, 0, none⟩) 1 1) (.int .i64 (lnN s l i)) (.int .i64 (clN s l i))
      clear f_e
      generalize ((((((W_d.setCell ⟨R, 0, none⟩ (.int .i64 6)).setCell ⟨R, 1, none⟩ (.string ⟨#[]⟩)).setCell ⟨R, 2, none⟩ (.int .i64 0)).setCell ⟨R, 3, none⟩ (.slice (some ⟨W_r.heap.size, 0, none⟩) 1 1)).setCell ⟨R, 4, none⟩ (.int .i64 (lnN s l i))).setCell ⟨R, 5, none⟩ (.int .i64 (clN s l i))) = W7 at *
      have fin := f_7.rot2.rot2
      have hin := Fr.inn1 fin (op := 6) (name := ⟨#[]⟩) (n := 0) (by simp [I64]) nil_le (by simp [I64]) (hK i).1 (hK i).2.1
      obtain ⟨hh, hG⟩ := Got.mk0 hin f_7.sm f_7.gr (by omega) (fun j hj => by have := (deep_ok hj).1; omega) (deep_came (m := mx) (es := [ex]) (came_then (f := fun x i1 => madeN (mkEx 6 ⟨#[]⟩ 0 [x] (lnN s l i) (clN s l i)) i1) camex.out))
      obtain ⟨r0, r1, r2, r3, r4, r5, -⟩ := blk6 f_7.blk
      try simp only [Exit.inBlock, Exit.then]
      exact bodyPost_ret (v := .agg #[.int .i64 6, .string ⟨#[]⟩, .int .i64 0, .slice (some ⟨W_r.heap.size, 0, none⟩) 1 1, .int .i64 (lnN s l i), .int .i64 (clN s l i)]) (by simp [results, Try.results17, go_sem, r0, r1, r2, r3, r4, r5]) rfl ⟨(mkEx 6 ⟨#[]⟩ 0 [ex] (lnN s l i) (clN s l i)), some ⟨W_r.heap.size, 0, none⟩, 1, hh, _, rfl, hG⟩

set_option maxHeartbeats 4000000 in
set_option maxRecDepth 100000 in
theorem rstrong_9pre {s : ByteArray} {l : List Tk} {P g : Nat} (hE : Ended l) (hK : TkOk s l) {L : Int} {rec : Int → Nat → PR} {w : World} {k : Nat} (h : Sm s l P g w (.ok k)) {L1 : Int} (hL : IntKind.i64.wrap (L + 1) = L1) (hN : RNext s l P g L1 rec)  (q0 : isN l k wMinus = false) (q1 : isN l k wNot = false) (q2 : isN l k wPre = true) :
    Calls Try.prog 17 #[.pointer (some ⟨P, 0, none⟩), .int .i64 9, .int .i64 L] w fun r w' => ∃ e A c t m', r = .returned (e.val A c) ∧ Got s l P g w ((rec 9 (k + 1)).then fun x i1 => madeN (mkEx 21 ⟨#[]⟩ 0 [x] (lnN s l k) (clN s l k)) i1) 30 w' e A c t m' := by
  go_enter Try.func17, Try.ntmps17
  have f_1 := PF.start h
  go_upto_region 1 with fail
  have f_2 := f_1.alloc (.cells #[.int .i64 0, .string ⟨#[]⟩, .int .i64 0, .slice none 0 0, .int .i64 0, .int .i64 0] 27)
  have z_2 := alloc_size w (.cells #[.int .i64 0, .string ⟨#[]⟩, .int .i64 0, .slice none 0 0, .int .i64 0, .int .i64 0] 27)
  clear f_1
  generalize w.heap.size = R at *
  generalize w.alloc (.cells #[.int .i64 0, .string ⟨#[]⟩, .int .i64 0, .slice none 0 0, .int .i64 0, .int .i64 0] 27) = W2 at *
  clear z_2
  obtain ⟨er, x0, x1, x2⟩ := f_2.err
  have x3 : (er != 0) = false := x1
  clear x1 x2
  go_upto_region 3 with fail
  clear x0 x3
  obtain ⟨i, crd, ⟨hlt_i, hj_i, hx1, hx2⟩, ⟨c0, c1, k0, k1, k2, k3, k4⟩, ⟨d0, d1, e0, e1, e2, e3, e4⟩⟩ := f_2.reads (.cells #[.int .i64 0, .int .i64 0] 25)
  obtain rfl : i = k := hj_i k rfl
  go_cut [7] from 22 to 32 (fun p wx => ∃ T1, p = .pointer (some ⟨T1, 0, none⟩) ∧ PF s l P g w (.ok i) wx (blkK T1 (.cells #[.int .i64 (lnN s l i), .int .i64 (clN s l i)] 25 (0, 0)) :: blkK R (.cells #[.int .i64 0, .string ⟨#[]⟩, .int .i64 0, .slice none 0 0, .int .i64 0, .int .i64 0] 27 (0, 0)) :: []))
  case first =>
    go_region
    all_goals
      go_wp2_with fail
      go_meet
      case rel => exact ⟨_, rfl, (Fr.alloc f_2 (.cells #[.int .i64 (lnN s l i), .int .i64 (clN s l i)] 25)).drew⟩
  case rest =>
    obtain ⟨At, rfl, f_3⟩ := hcut
    clear c0 c1 k0 k1 k2 k3 k4 d0 d1 e0 e1 e2 e3 e4 f_2
    go_wp2_with fail
    refine ((rtake_no (t := ⟨#[45]⟩) hE f_3.sm q0)).mono ?_
    rintro r W4 ⟨rfl, t_4, q_4⟩
    have f_4 := f_3.turn t_4 q_4
    clear f_3 t_4 q_4
    go_wp2_with fail
    refine ((rtake_no (t := ⟨#[110, 111, 116]⟩) hE f_4.sm q1)).mono ?_
    rintro r W5 ⟨rfl, t_5, q_5⟩
    have f_5 := f_4.turn t_5 q_5
    clear f_4 t_5 q_5
    go_wp2_with fail
    refine ((rtake_yes (t := ⟨#[112, 114, 101]⟩) hE f_5.sm q2)).mono ?_
    rintro r W6 ⟨rfl, t_6, q_6⟩
    have f_6 := f_5.turn t_6 q_6
    clear f_5 t_6 q_6
    go_wp2_with fail
    refine (hN _ _ f_6.sm).mono ?_
    rintro r W7 ⟨rfl, m_7, t_7, q_7, hS⟩
    have f_7 := f_6.turn t_7 q_7
    clear f_6 t_7 q_7
    go_upto_region 27 with fail
    have hsH := hid f_7
    obtain ⟨a0, a1, -⟩ := blk2 f_7.blk
    go_region_with (first | (go_at_call 17; (with_reducible refine (hS 9 _ (by omega) (by omega) (Fr.sm (Fr.drew hsH.out))).mono ?_); rintro r W_r ⟨ex, Ax, cx, tx, mx, rfl, Gx⟩; obtain ⟨Dx, f_r⟩ := (Fr.drew hsH.out).expr Gx; obtain ⟨lowx, topx, okx, camex⟩ := Gx.facts; simp only [Ex.val_eq]; obtain ⟨b0, b1, -⟩ := blk2 f_r.rot1.blk; have f_b := Fr.alloc f_r (.cells #[.int .i64 ex.op, .string ex.name, .int .i64 ex.num, .slice Ax ex.k cx, .int .i64 ex.line, .int .i64 ex.col] 27); obtain ⟨c0, c1, -⟩ := blk2 f_b.rot2.blk) | (go_at_call 43; have hdp := rdeep_m f_b.sm (Fr.inn1 f_b (op := 21) (name := ⟨#[]⟩) (n := 0) (by simp [I64]) nil_le (by simp [I64]) (hK i).1 (hK i).2.1) (fun n hn => hn.2) (fun hn => by have := f_b.lt P rfl; have := hn.1; omega) (fun j hj => high1 (came_high camex.out okx hj)); rw [show (mkEx 21 ⟨#[]⟩ 0 [ex] (lnN s l i) (clN s l i)).val (some ⟨W_r.heap.size, 0, none⟩) 1 = .agg #[.int .i64 21, .string ⟨#[]⟩, .int .i64 0, .slice (some ⟨W_r.heap.size, 0, none⟩) 1 1, .int .i64 (lnN s l i), .int .i64 (clN s l i)] from rfl] at hdp; refine hdp.mono ?_; rintro r W_d ⟨rfl, t_d, q_d⟩; have f_d := f_b.turn t_d q_d; obtain ⟨kR0, kR1, kR2, kR3, kR4, kR5, fR0, fR1, fR2, fR3, fR4, fR5⟩ := blk6 f_d.rot3.blk))
    all_goals
      go_wp2_with fail
      clear kR0 kR1 kR2 kR3 kR4 kR5 fR0 fR1 fR2 fR3 fR4 fR5
      have f_d := hid f_d
      clear hsH
      have f_e := f_d.out
      clear f_d
      have f_8 := Fr.set6 f_e.rot3 (.int .i64 21) (.string ⟨#[]⟩) (.int .i64 0) (.slice (some ⟨W_r.heap.size, 0, none⟩) 1 1) (.int .i64 (lnN s l i)) (.int .i64 (clN s l i))
      clear f_e
      generalize ((((((W_d.setCell ⟨R, 0, none⟩ (.int .i64 21)).setCell ⟨R, 1, none⟩ (.string ⟨#[]⟩)).setCell ⟨R, 2, none⟩ (.int .i64 0)).setCell ⟨R, 3, none⟩ (.slice (some ⟨W_r.heap.size, 0, none⟩) 1 1)).setCell ⟨R, 4, none⟩ (.int .i64 (lnN s l i))).setCell ⟨R, 5, none⟩ (.int .i64 (clN s l i))) = W8 at *
      have fin := f_8.rot2.rot2
      have hin := Fr.inn1 fin (op := 21) (name := ⟨#[]⟩) (n := 0) (by simp [I64]) nil_le (by simp [I64]) (hK i).1 (hK i).2.1
      obtain ⟨hh, hG⟩ := Got.mk0 hin f_8.sm f_8.gr (by omega) (fun j hj => by have := (deep_ok hj).1; omega) (deep_came (m := mx) (es := [ex]) (came_then (f := fun x i1 => madeN (mkEx 21 ⟨#[]⟩ 0 [x] (lnN s l i) (clN s l i)) i1) camex.out))
      obtain ⟨r0, r1, r2, r3, r4, r5, -⟩ := blk6 f_8.blk
      try simp only [Exit.inBlock, Exit.then]
      exact bodyPost_ret (v := .agg #[.int .i64 21, .string ⟨#[]⟩, .int .i64 0, .slice (some ⟨W_r.heap.size, 0, none⟩) 1 1, .int .i64 (lnN s l i), .int .i64 (clN s l i)]) (by simp [results, Try.results17, go_sem, r0, r1, r2, r3, r4, r5]) rfl ⟨(mkEx 21 ⟨#[]⟩ 0 [ex] (lnN s l i) (clN s l i)), some ⟨W_r.heap.size, 0, none⟩, 1, hh, _, rfl, hG⟩

set_option maxHeartbeats 4000000 in
set_option maxRecDepth 100000 in
theorem rstrong_0no {s : ByteArray} {l : List Tk} {P g : Nat} {L : Int} {rec : Int → Nat → PR} {w : World} {k : Nat} (h : Sm s l P g w (.ok k)) (q : isN l k wIf = false)
    (hS1 : ∀ (k : Nat) (w : World), Sm s l P g w (.ok k) → Calls Try.prog 17 #[.pointer (some ⟨P, 0, none⟩), .int .i64 1, .int .i64 L] w fun r w' => ∃ e A c t m', r = .returned (e.val A c) ∧ Got s l P g w (ladN s l rec 8 k) 30 w' e A c t m') :
    Calls Try.prog 17 #[.pointer (some ⟨P, 0, none⟩), .int .i64 0, .int .i64 L] w fun r w' => ∃ e A c t m', r = .returned (e.val A c) ∧ Got s l P g w (ladN s l rec 8 k) 30 w' e A c t m' := by
  go_enter Try.func17, Try.ntmps17
  have f_1 := PF.start h
  go_upto_region 1 with fail
  have f_2 := f_1.alloc (.cells #[.int .i64 0, .string ⟨#[]⟩, .int .i64 0, .slice none 0 0, .int .i64 0, .int .i64 0] 27)
  have z_2 := alloc_size w (.cells #[.int .i64 0, .string ⟨#[]⟩, .int .i64 0, .slice none 0 0, .int .i64 0, .int .i64 0] 27)
  clear f_1
  generalize w.heap.size = R at *
  generalize w.alloc (.cells #[.int .i64 0, .string ⟨#[]⟩, .int .i64 0, .slice none 0 0, .int .i64 0, .int .i64 0] 27) = W2 at *
  clear z_2
  obtain ⟨er, x0, x1, x2⟩ := f_2.err
  have x3 : (er != 0) = false := x1
  clear x1 x2
  go_upto_region 3 with fail
  clear x0 x3
  obtain ⟨i, crd, ⟨hlt_i, hj_i, hx1, hx2⟩, ⟨c0, c1, k0, k1, k2, k3, k4⟩, ⟨d0, d1, e0, e1, e2, e3, e4⟩⟩ := f_2.reads (.cells #[.int .i64 0, .int .i64 0] 25)
  obtain rfl : i = k := hj_i k rfl
  go_cut [7] from 22 to 32 (fun p wx => ∃ T1, p = .pointer (some ⟨T1, 0, none⟩) ∧ PF s l P g w (.ok i) wx (blkK T1 (.cells #[.int .i64 (lnN s l i), .int .i64 (clN s l i)] 25 (0, 0)) :: blkK R (.cells #[.int .i64 0, .string ⟨#[]⟩, .int .i64 0, .slice none 0 0, .int .i64 0, .int .i64 0] 27 (0, 0)) :: []))
  case first =>
    go_region
    all_goals
      go_wp2_with fail
      go_meet
      case rel => exact ⟨_, rfl, (Fr.alloc f_2 (.cells #[.int .i64 (lnN s l i), .int .i64 (clN s l i)] 25)).drew⟩
  case rest =>
    obtain ⟨At, rfl, f_3⟩ := hcut
    clear c0 c1 k0 k1 k2 k3 k4 d0 d1 e0 e1 e2 e3 e4 f_2
    go_wp2_with fail
    refine ((ris_val (t := ⟨#[105, 102]⟩) f_3.sm (b := false) q)).mono ?_
    rintro r W4 ⟨rfl, t_4, q_4⟩
    have f_4 := f_3.turn t_4 q_4
    clear f_3 t_4 q_4
    go_wp2_with fail
    refine (hS1 i _ f_4.sm).mono ?_
    rintro r W5 ⟨ex, Ax, cx, tx, mx, rfl, Gx⟩
    obtain ⟨Dx, f_5⟩ := f_4.expr Gx
    obtain ⟨lowx, topx, okx, camex⟩ := Gx.facts
    clear f_4 Gx
    simp only [Ex.val_eq]
    obtain ⟨kR0, kR1, kR2, kR3, kR4, kR5, fR0, fR1, fR2, fR3, fR4, fR5⟩ := blk6 f_5.rot2.blk
    go_wp2_with fail
    clear kR0 kR1 kR2 kR3 kR4 kR5 fR0 fR1 fR2 fR3 fR4 fR5
    have f_6 := Fr.set6 f_5.rot2 (.int .i64 ex.op) (.string ex.name) (.int .i64 ex.num) (.slice Ax ex.k cx) (.int .i64 ex.line) (.int .i64 ex.col)
    clear f_5
    generalize ((((((W5.setCell ⟨R, 0, none⟩ (.int .i64 ex.op)).setCell ⟨R, 1, none⟩ (.string ex.name)).setCell ⟨R, 2, none⟩ (.int .i64 ex.num)).setCell ⟨R, 3, none⟩ (.slice Ax ex.k cx)).setCell ⟨R, 4, none⟩ (.int .i64 ex.line)).setCell ⟨R, 5, none⟩ (.int .i64 ex.col)) = W6 at *
    have fin := f_6.rot1
    obtain ⟨r0, r1, r2, r3, r4, r5, -⟩ := blk6 f_6.blk
    try simp only [Exit.inBlock, Exit.then]
    exact bodyPost_ret (v := .agg #[.int .i64 ex.op, .string ex.name, .int .i64 ex.num, .slice Ax ex.k cx, .int .i64 ex.line, .int .i64 ex.col]) (by simp [results, Try.results17, go_sem, r0, r1, r2, r3, r4, r5]) rfl ⟨ex, Ax, cx, tx, _, rfl, ⟨fin.ex, f_6.sm, f_6.gr, lowx, topx, okx, camex.out⟩⟩

set_option maxHeartbeats 4000000 in
set_option maxRecDepth 100000 in
theorem rstrong_0if {s : ByteArray} {l : List Tk} {P g : Nat} (hE : Ended l) (hK : TkOk s l) {L : Int} {rec : Int → Nat → PR} {w : World} {k : Nat} (h : Sm s l P g w (.ok k)) {L1 : Int} (hL : IntKind.i64.wrap (L + 1) = L1) (hN : RNext s l P g L1 rec) (q : isN l k wIf = true) :
    Calls Try.prog 17 #[.pointer (some ⟨P, 0, none⟩), .int .i64 0, .int .i64 L] w fun r w' => ∃ e A c t m', r = .returned (e.val A c) ∧ Got s l P g w (choiceN s l rec k) 30 w' e A c t m' := by
  go_enter Try.func17, Try.ntmps17
  have f_1 := PF.start h
  go_upto_region 1 with fail
  have f_2 := f_1.alloc (.cells #[.int .i64 0, .string ⟨#[]⟩, .int .i64 0, .slice none 0 0, .int .i64 0, .int .i64 0] 27)
  have z_2 := alloc_size w (.cells #[.int .i64 0, .string ⟨#[]⟩, .int .i64 0, .slice none 0 0, .int .i64 0, .int .i64 0] 27)
  clear f_1
  generalize w.heap.size = R at *
  generalize w.alloc (.cells #[.int .i64 0, .string ⟨#[]⟩, .int .i64 0, .slice none 0 0, .int .i64 0, .int .i64 0] 27) = W2 at *
  clear z_2
  obtain ⟨er, x0, x1, x2⟩ := f_2.err
  have x3 : (er != 0) = false := x1
  clear x1 x2
  go_upto_region 3 with fail
  clear x0 x3
  obtain ⟨i, crd, ⟨hlt_i, hj_i, hx1, hx2⟩, ⟨c0, c1, k0, k1, k2, k3, k4⟩, ⟨d0, d1, e0, e1, e2, e3, e4⟩⟩ := f_2.reads (.cells #[.int .i64 0, .int .i64 0] 25)
  obtain rfl : i = k := hj_i k rfl
  go_cut [7] from 22 to 32 (fun p wx => ∃ T1, p = .pointer (some ⟨T1, 0, none⟩) ∧ PF s l P g w (.ok i) wx (blkK T1 (.cells #[.int .i64 (lnN s l i), .int .i64 (clN s l i)] 25 (0, 0)) :: blkK R (.cells #[.int .i64 0, .string ⟨#[]⟩, .int .i64 0, .slice none 0 0, .int .i64 0, .int .i64 0] 27 (0, 0)) :: []))
  case first =>
    go_region
    all_goals
      go_wp2_with fail
      go_meet
      case rel => exact ⟨_, rfl, (Fr.alloc f_2 (.cells #[.int .i64 (lnN s l i), .int .i64 (clN s l i)] 25)).drew⟩
  case rest =>
    obtain ⟨At, rfl, f_3⟩ := hcut
    clear c0 c1 k0 k1 k2 k3 k4 d0 d1 e0 e1 e2 e3 e4 f_2
    go_wp2_with fail
    refine ((ris_val (t := ⟨#[105, 102]⟩) f_3.sm (b := true) q)).mono ?_
    rintro r W4 ⟨rfl, t_4, q_4⟩
    have f_4 := f_3.turn t_4 q_4
    clear f_3 t_4 q_4
    obtain ⟨a0, a1, -⟩ := blk2 f_4.blk
    go_upto_region 8 with fail
    clear a0 a1
    have f_5 := f_4.alloc (.cells #[.int .i64 27, .string ⟨#[]⟩, .int .i64 0, .slice none 0 0, .int .i64 (lnN s l i), .int .i64 (clN s l i)] 27)
    have z_5 := alloc_size W4 (.cells #[.int .i64 27, .string ⟨#[]⟩, .int .i64 0, .slice none 0 0, .int .i64 (lnN s l i), .int .i64 (clN s l i)] 27)
    clear f_4
    generalize W4.heap.size = E at *
    generalize W4.alloc (.cells #[.int .i64 27, .string ⟨#[]⟩, .int .i64 0, .slice none 0 0, .int .i64 (lnN s l i), .int .i64 (clN s l i)] 27) = W5 at *
    clear z_5
    obtain ⟨ie, ze, hie, hze, hse, hbe, hce⟩ := Expr.info'
    go_upto_region 9 with fail
    have f_6 := f_5.alloc (.cells #[.string ⟨#[105, 102]⟩, .string ⟨#[116, 104, 101, 110]⟩, .string ⟨#[101, 108, 115, 101]⟩] 9)
    have z_6 := alloc_size W5 (.cells #[.string ⟨#[105, 102]⟩, .string ⟨#[116, 104, 101, 110]⟩, .string ⟨#[101, 108, 115, 101]⟩] 9)
    clear f_5
    generalize W5.heap.size = V at *
    generalize W5.alloc (.cells #[.string ⟨#[105, 102]⟩, .string ⟨#[116, 104, 101, 110]⟩, .string ⟨#[101, 108, 115, 101]⟩] 9) = W6 at *
    clear z_6
    go_wp2_with fail
    have f_e := f_6.rot2.rot3.rot3
    have f_f : PF s l P g w (.ok i) W6 (rowK w 27 6 (.slice none 0 0) 0 ((([] : List LX).map LX.x).flatMap LEx.cells) :: blkK E (.cells #[.int .i64 27, .string ⟨#[]⟩, .int .i64 0, .slice none 0 0, .int .i64 (lnN s l i), .int .i64 (clN s l i)] 27 (0, 0)) :: blkK R (.cells #[.int .i64 0, .string ⟨#[]⟩, .int .i64 0, .slice none 0 0, .int .i64 0, .int .i64 0] 27 (0, 0)) :: blkK At (.cells #[.int .i64 (lnN s l i), .int .i64 (clN s l i)] 25 (0, 0)) :: blkK V (.cells #[.string ⟨#[105, 102]⟩, .string ⟨#[116, 104, 101, 110]⟩, .string ⟨#[101, 108, 115, 101]⟩] 9 (0, 0)) :: ([] : List LX).map LX.kp) := f_e.nilRow 27 6
    clear f_e f_6
    go_loopw [10] (fun v wr => ∃ (n : Nat) (A : Option Addr) (cc : Nat) (xs : List LX) (m1 : Md), n ≤ 3 ∧ v = .int .i64 n ∧ xs.length = n ∧ PF s l P g w m1 wr (rowK w 27 6 (.slice A n cc) n ((xs.map LX.x).flatMap LEx.cells) :: blkK E (.cells #[.int .i64 27, .string ⟨#[]⟩, .int .i64 0, .slice A n cc, .int .i64 (lnN s l i), .int .i64 (clN s l i)] 27 (0, 0)) :: blkK R (.cells #[.int .i64 0, .string ⟨#[]⟩, .int .i64 0, .slice none 0 0, .int .i64 0, .int .i64 0] 27 (0, 0)) :: blkK At (.cells #[.int .i64 (lnN s l i), .int .i64 (clN s l i)] 25 (0, 0)) :: blkK V (.cells #[.string ⟨#[105, 102]⟩, .string ⟨#[116, 104, 101, 110]⟩, .string ⟨#[101, 108, 115, 101]⟩] 9 (0, 0)) :: xs.map LX.kp) ∧ (∀ j, m1 = .ok j → ∀ y ∈ LX.es xs, y.height ≤ 30) ∧ Hid (choiceN s l rec i = m1.seq (choN s l rec (lnN s l i) (clN s l i) (3 - n) (LX.es xs)))) (fun v _ => 3 - (intOf v).toNat)
    case atStart => exact ⟨0, none, 0, [], .ok i, by omega, rfl, rfl, f_f, (fun _ _ y hy => by cases hy), rfl⟩
    case round =>
      clear f_f
      obtain ⟨n, A, cc, xs, m1, hn3, rfl, hyn, f_0, hok, hq⟩ := hrel
      have hokH := hid hok
      clear hok
      by_cases hlt : n < 3
      · have kw := cw_cell f_0.rot4.blk hlt
        generalize hcw : cw n = word at *
        go_wp2_with fail
        clear kw
        refine (rwant_m hE f_0.sm word).mono ?_
        rintro r W7 ⟨rfl, t_7, q_7⟩
        have f_7 := f_0.turn t_7 q_7
        clear f_0 t_7 q_7
        go_wp2_with fail
        refine (hN _ _ f_7.sm).mono ?_
        rintro r W8 ⟨rfl, m_8, t_8, q_8, hS⟩
        have f_8 := f_7.turn t_8 q_8
        clear f_7 t_8 q_8
        subst hcw
        go_upto_region 14 with fail
        have f_s := f_8.rot4.rot4.rot4.rot4.rot4
        have hsH := hid f_s
        obtain ⟨kvE0, kvE1, kvE2, kvE3, kvE4, kvE5, fvE0, fvE1, fvE2, fvE3, fvE4, fvE5⟩ := blk6 f_s.rot1.blk
        go_region_law (first | (refine Fr.stepApp ((f_r.alloc (.cells #[.int .i64 ex.op, .string ex.name, .int .i64 ex.num, .slice Ax ex.k cx, .int .i64 ex.line, .int .i64 ex.col] 27)).rot2.rot1) rfl _ _ _ rfl Try.underlying23 hie hze hse hbe hce (by decide) rfl rfl rfl ex_one (by decide) (by unfold maxLen; omega) (by omega) ?_; intro Gx capx W_a f_a; obtain ⟨kyE0, kyE1, kyE2, kyE3, kyE4, kyE5, fyE0, fyE1, fyE2, fyE3, fyE4, fyE5⟩ := blk6 f_a.rot3.blk; have f_z := Fr.set (n := 3) f_a.rot3 (.slice (some ⟨Gx, 0, none⟩) (n + 1) capx); simp only [List.setIfInBounds_toArray, List.set_cons_zero, List.set_cons_succ] at f_z; have f_z := hid f_z) | (go_simp; go_at_call 17; (with_reducible refine (hS 0 _ (by omega) (by omega) (Fr.sm (Fr.drew hsH.out))).mono ?_); rintro r W_r ⟨ex, Ax, cx, tx, mx, rfl, Gx⟩; obtain ⟨Dx, f_r⟩ := (Fr.drew hsH.out).expr Gx; obtain ⟨lowx, topx, okx, camex⟩ := Gx.facts; simp only [Ex.val_eq]; obtain ⟨kuE0, kuE1, kuE2, kuE3, kuE4, kuE5, fuE0, fuE1, fuE2, fuE3, fuE4, fuE5⟩ := blk6 f_r.rot2.blk; obtain ⟨kwE0, kwE1, kwE2, kwE3, kwE4, kwE5, fwE0, fwE1, fwE2, fwE3, fwE4, fwE5⟩ := blk6 (f_r.alloc (.cells #[.int .i64 ex.op, .string ex.name, .int .i64 ex.num, .slice Ax ex.k cx, .int .i64 ex.line, .int .i64 ex.col] 27)).rot3.blk))
        all_goals
          go_wp2_with fail
          have f_q := f_z.out.rot2.tail
          have f_k : PF s l P g w mx (W_a.setCell ⟨E, 3, none⟩ (.slice (some ⟨Gx, 0, none⟩) (n + 1) capx)) (rowK w 27 6 (.slice (some ⟨Gx, 0, none⟩) (n + 1) capx) (n + 1) (((xs ++ [LX.mk Dx ⟨ex, Ax, cx⟩]).map LX.x).flatMap LEx.cells) :: blkK E (.cells #[.int .i64 27, .string ⟨#[]⟩, .int .i64 0, .slice (some ⟨Gx, 0, none⟩) (n + 1) capx, .int .i64 (lnN s l i), .int .i64 (clN s l i)] 27 (0, 0)) :: blkK R (.cells #[.int .i64 0, .string ⟨#[]⟩, .int .i64 0, .slice none 0 0, .int .i64 0, .int .i64 0] 27 (0, 0)) :: blkK At (.cells #[.int .i64 (lnN s l i), .int .i64 (clN s l i)] 25 (0, 0)) :: blkK V (.cells #[.string ⟨#[105, 102]⟩, .string ⟨#[116, 104, 101, 110]⟩, .string ⟨#[101, 108, 115, 101]⟩] 9 (0, 0)) :: (xs ++ [LX.mk Dx ⟨ex, Ax, cx⟩]).map LX.kp) := by rw [rows_push]; exact (f_q.rot1.rot2).perm (push_perm _ [_, _, _, _, _] _ _ _ _)
          go_roundw
          case rel =>
            refine ⟨n + 1, _, _, _, mx, by omega, by go_num, by simp [hyn], f_k, fun j hj z hz => ?_, ?_⟩
            · rw [es_push] at hz
              rcases List.mem_append.1 hz with hz | hz
              · obtain ⟨j3, hj3⟩ := seq_ok (came_ok (hj ▸ camex.out)).1
                obtain ⟨j4, hj4⟩ := want_ok hj3
                exact hokH.out j4 hj4 z hz
              · have : z = ex := by simpa using hz
                subst this
                exact came_high camex.out okx hj
            · show _ = _
              rw [hq.out, es_push]
              exact cho_step hlt camex.out
          case measure => simp [intOf]; omega
      · have hn2 : n = 3 := by omega
        subst hn2
        obtain ⟨kE0, kE1, kE2, kE3, kE4, kE5, fE0, fE1, fE2, fE3, fE4, fE5⟩ := blk6 f_0.rot1.blk
        go_wp2_with fail
        clear kE0 kE1 kE2 kE3 kE4 kE5 fE0 fE1 fE2 fE3 fE4 fE5
        have hdp := rdeep_m f_0.sm (parts_in (num := 0) (op := 27) (name := ⟨#[]⟩) (ln := lnN s l i) (cl := clN s l i) f_0.head.q hyn (Fr.exs (ks := [_, _, _, _, _]) f_0) (by simp [I64]) (nil_le) (by simp [I64]) (hK i).1 (hK i).2.1) (fun n hn => hn.2) (fun hn => by have := f_0.lt P rfl; have := hn.1; omega) (fun j hj => highs (hokH.out j hj))
        rw [show (mkEx 27 ⟨#[]⟩ 0 (LX.es xs) (lnN s l i) (clN s l i)).val A cc = .agg #[.int .i64 27, .string ⟨#[]⟩, .int .i64 0, .slice A 3 cc, .int .i64 (lnN s l i), .int .i64 (clN s l i)] from val_es hyn] at hdp
        refine (hdp).mono ?_
        rintro r W7 ⟨rfl, t_7, q_7⟩
        have f_7 := f_0.turn t_7 q_7
        clear f_0 t_7 q_7
        clear hdp
        obtain ⟨kR0, kR1, kR2, kR3, kR4, kR5, fR0, fR1, fR2, fR3, fR4, fR5⟩ := blk6 f_7.rot2.blk
        go_wp2_with fail
        clear kR0 kR1 kR2 kR3 kR4 kR5 fR0 fR1 fR2 fR3 fR4 fR5
        have f_8 := Fr.set6 f_7.rot2 (.int .i64 27) (.string ⟨#[]⟩) (.int .i64 0) (.slice A 3 cc) (.int .i64 (lnN s l i)) (.int .i64 (clN s l i))
        clear f_7
        generalize ((((((W7.setCell ⟨R, 0, none⟩ (.int .i64 27)).setCell ⟨R, 1, none⟩ (.string ⟨#[]⟩)).setCell ⟨R, 2, none⟩ (.int .i64 0)).setCell ⟨R, 3, none⟩ (.slice A 3 cc)).setCell ⟨R, 4, none⟩ (.int .i64 (lnN s l i))).setCell ⟨R, 5, none⟩ (.int .i64 (clN s l i))) = W8 at *
        have hin := parts_in (num := 0) (op := 27) (name := ⟨#[]⟩) (ln := lnN s l i) (cl := clN s l i) f_8.rot1.head.q hyn (Fr.exs (ks := [_, _, _, _, _]) f_8) (by simp [I64]) (nil_le) (by simp [I64]) (hK i).1 (hK i).2.1
        have hqq : choiceN s l rec i = m1.seq fun j0 => madeN (mkEx 27 ⟨#[]⟩ 0 (LX.es xs) (lnN s l i) (clN s l i)) j0 := by
          exact hq.out
        obtain ⟨hh, hG⟩ := Got.mk0 hin f_8.sm f_8.gr (by omega) (fun j hj => by have := (deep_ok hj).1; omega) (deep_came (m := m1) hqq)
        obtain ⟨r0, r1, r2, r3, r4, r5, -⟩ := blk6 f_8.blk
        try simp only [Exit.inBlock, Exit.then]
        exact bodyPost_ret (v := .agg #[.int .i64 27, .string ⟨#[]⟩, .int .i64 0, .slice A 3 cc, .int .i64 (lnN s l i), .int .i64 (clN s l i)]) (by simp [results, Try.results17, go_sem, r0, r1, r2, r3, r4, r5]) rfl ⟨mkEx 27 ⟨#[]⟩ 0 (LX.es xs) (lnN s l i) (clN s l i), A, cc, hh, _, by rw [val_es hyn], hG⟩

set_option maxHeartbeats 4000000 in
set_option maxRecDepth 100000 in
theorem rstrong_3 {s : ByteArray} {l : List Tk} {P g : Nat} (hE : Ended l) (hK : TkOk s l) {L : Int} {rec : Int → Nat → PR} {w : World} {k : Nat} (h : Sm s l P g w (.ok k)) 
    {qf : Nat → PR} (hSn : ∀ (k : Nat) (w : World), Sm s l P g w (.ok k) → Calls Try.prog 17 #[.pointer (some ⟨P, 0, none⟩), .int .i64 4, .int .i64 L] w fun r w' => ∃ e A c t m', r = .returned (e.val A c) ∧ Got s l P g w (qf k) 30 w' e A c t m') {q0 : PR} (hq0 : q0 = (qf k).then fun e i1 => manyN s l rec 3 l.length e i1) :
    Calls Try.prog 17 #[.pointer (some ⟨P, 0, none⟩), .int .i64 3, .int .i64 L] w fun r w' => ∃ e A c t m', r = .returned (e.val A c) ∧ Got s l P g w (q0) 30 w' e A c t m' := by
  go_enter Try.func17, Try.ntmps17
  have f_1 := PF.start h
  go_upto_region 1 with fail
  have f_2 := f_1.alloc (.cells #[.int .i64 0, .string ⟨#[]⟩, .int .i64 0, .slice none 0 0, .int .i64 0, .int .i64 0] 27)
  have z_2 := alloc_size w (.cells #[.int .i64 0, .string ⟨#[]⟩, .int .i64 0, .slice none 0 0, .int .i64 0, .int .i64 0] 27)
  clear f_1
  generalize w.heap.size = R at *
  generalize w.alloc (.cells #[.int .i64 0, .string ⟨#[]⟩, .int .i64 0, .slice none 0 0, .int .i64 0, .int .i64 0] 27) = W2 at *
  clear z_2
  obtain ⟨er, x0, x1, x2⟩ := f_2.err
  have x3 : (er != 0) = false := x1
  clear x1 x2
  go_upto_region 3 with fail
  clear x0 x3
  obtain ⟨i, crd, ⟨hlt_i, hj_i, hx1, hx2⟩, ⟨c0, c1, k0, k1, k2, k3, k4⟩, ⟨d0, d1, e0, e1, e2, e3, e4⟩⟩ := f_2.reads (.cells #[.int .i64 0, .int .i64 0] 25)
  obtain rfl : i = k := hj_i k rfl
  go_cut [7] from 22 to 32 (fun p wx => ∃ T1, p = .pointer (some ⟨T1, 0, none⟩) ∧ PF s l P g w (.ok i) wx (blkK T1 (.cells #[.int .i64 (lnN s l i), .int .i64 (clN s l i)] 25 (0, 0)) :: blkK R (.cells #[.int .i64 0, .string ⟨#[]⟩, .int .i64 0, .slice none 0 0, .int .i64 0, .int .i64 0] 27 (0, 0)) :: []))
  case first =>
    go_region
    all_goals
      go_wp2_with fail
      go_meet
      case rel => exact ⟨_, rfl, (Fr.alloc f_2 (.cells #[.int .i64 (lnN s l i), .int .i64 (clN s l i)] 25)).drew⟩
  case rest =>
    obtain ⟨At, rfl, f_3⟩ := hcut
    clear c0 c1 k0 k1 k2 k3 k4 d0 d1 e0 e1 e2 e3 e4 f_2
    go_wp2_with fail
    refine (hSn i _ f_3.sm).mono ?_
    rintro r W4 ⟨ex, Ax, cx, tx, mx, rfl, Gx⟩
    obtain ⟨Dx, f_4⟩ := f_3.expr Gx
    obtain ⟨lowx, topx, okx, camex⟩ := Gx.facts
    clear f_3 Gx
    simp only [Ex.val_eq]
    go_upto_region 29 with fail
    have f_5 := f_4.alloc (.cells #[.int .i64 ex.op, .string ex.name, .int .i64 ex.num, .slice Ax ex.k cx, .int .i64 ex.line, .int .i64 ex.col] 27)
    have z_5 := alloc_size W4 (.cells #[.int .i64 ex.op, .string ex.name, .int .i64 ex.num, .slice Ax ex.k cx, .int .i64 ex.line, .int .i64 ex.col] 27)
    clear f_4
    generalize W4.heap.size = X at *
    generalize W4.alloc (.cells #[.int .i64 ex.op, .string ex.name, .int .i64 ex.num, .slice Ax ex.k cx, .int .i64 ex.line, .int .i64 ex.col] 27) = W5 at *
    clear z_5
    go_wp2_with fail
    have f_e := f_5.rot2.rot3.rot2.rot3
    go_loopg [] l.length (fun gk wr => ∃ (e : Ex) (A : Option Addr) (c : Nat) (D : Nat → Prop) (m1 : Md), PF s l P g w m1 wr (exK D e A c :: blkK X (.cells #[.int .i64 e.op, .string e.name, .int .i64 e.num, .slice A e.k c, .int .i64 e.line, .int .i64 e.col] 27 (0, 0)) :: blkK R (.cells #[.int .i64 0, .string ⟨#[]⟩, .int .i64 0, .slice none 0 0, .int .i64 0, .int .i64 0] 27 (0, 0)) :: blkK At (.cells #[.int .i64 (lnN s l i), .int .i64 (clN s l i)] 25 (0, 0)) :: []) ∧ (∀ j, m1 = .ok j → e.height ≤ 30 ∧ l.length ≤ gk + j) ∧ Hid (q0 = m1.seq (manyN s l rec 3 gk e)))
    case atStart => exact ⟨ex, Ax, cx, Dx, mx, f_e, fun j hj => ⟨came_high camex.out okx hj, by omega⟩, by show _ = _; rw [hq0]; exact came_then (f := fun e i1 => manyN s l rec 3 l.length e i1) camex.out⟩
    case round =>
      clear f_e camex okx lowx topx hq0 f_5
      obtain ⟨e, A, c, D, m1, f_0, hok, hq⟩ := hrel
      have hokH := hid hok
      clear hok
      by_cases hwh : m1.is l wWhen = true
      · obtain ⟨j, hjm, hj1⟩ := is_yes hwh
        subst hjm
        obtain ⟨he30, hfu⟩ := hokH.out j rfl
        have hfuH := hid hfu
        have heH := hid he30
        clear hokH hfu he30 hwh
        have hlt1 := isN_lt hE hj1 (PSt.lt f_0.sm)
        go_wp2_with fail
        refine ((ris_val (t := ⟨#[119, 104, 101, 110]⟩) f_0.sm (b := true) hj1)).mono ?_
        rintro r W6 ⟨rfl, t_6, q_6⟩
        have f_6 := f_0.turn t_6 q_6
        clear f_0 t_6 q_6
        go_upto_region 31 with fail
        obtain ⟨j2, cr, ⟨hlt_j2, hj_j2, hx1, hx2⟩, hrd⟩ := f_6.rd
        obtain rfl : j = j2 := (hj_j2 j rfl).symm
        go_cut [13] from 106 to 119 (fun p wx => ∃ E1 B1, p = .pointer (some ⟨E1, 0, none⟩) ∧ PF s l P g w (.ok j) wx (blkK E1 (.cells #[.int .i64 24, .string ⟨#[]⟩, .int .i64 0, .slice (some ⟨B1, 0, none⟩) 1 1, .int .i64 (lnN s l j), .int .i64 (clN s l j)] 27 (0, 0)) :: blkK B1 (.cells #[.int .i64 e.op, .string e.name, .int .i64 e.num, .slice A e.k c, .int .i64 e.line, .int .i64 e.col] 27 (0, 0)) :: exK D e A c :: blkK X (.cells #[.int .i64 e.op, .string e.name, .int .i64 e.num, .slice A e.k c, .int .i64 e.line, .int .i64 e.col] 27 (0, 0)) :: blkK R (.cells #[.int .i64 0, .string ⟨#[]⟩, .int .i64 0, .slice none 0 0, .int .i64 0, .int .i64 0] 27 (0, 0)) :: blkK At (.cells #[.int .i64 (lnN s l i), .int .i64 (clN s l i)] 25 (0, 0)) :: []))
        case first =>
          obtain ⟨kX0, kX1, kX2, kX3, kX4, kX5, fX0, fX1, fX2, fX3, fX4, fX5⟩ := blk6 f_6.rot1.blk
          have hsH := hid f_6
          obtain ⟨b0, b1, b3, b4⟩ := (hrd.alloc (.cells #[.int .i64 e.op, .string e.name, .int .i64 e.num, .slice A e.k c, .int .i64 e.line, .int .i64 e.col] 27))
          obtain ⟨c0, c1, c3, c4⟩ := (hrd.alloc (.cells #[.int .i64 0, .string ⟨#[]⟩, .int .i64 0, .slice none 0 0, .int .i64 0, .int .i64 0] 27))
          obtain ⟨d0, d1, d3, d4⟩ := ((hrd.alloc (.cells #[.int .i64 0, .string ⟨#[]⟩, .int .i64 0, .slice none 0 0, .int .i64 0, .int .i64 0] 27)).alloc (.cells #[.int .i64 e.op, .string e.name, .int .i64 e.num, .slice A e.k c, .int .i64 e.line, .int .i64 e.col] 27))
          obtain ⟨e0, e1, e3, e4⟩ := ((hrd.alloc (.cells #[.int .i64 e.op, .string e.name, .int .i64 e.num, .slice A e.k c, .int .i64 e.line, .int .i64 e.col] 27)).alloc (.cells #[.int .i64 0, .string ⟨#[]⟩, .int .i64 0, .slice none 0 0, .int .i64 0, .int .i64 0] 27))
          obtain ⟨a0, a1, a3, a4⟩ := hrd
          obtain ⟨kzX0, kzX1, kzX2, kzX3, kzX4, kzX5, fzX0, fzX1, fzX2, fzX3, fzX4, fzX5⟩ := blk6 (Fr.alloc f_6 (.cells #[.int .i64 0, .string ⟨#[]⟩, .int .i64 0, .slice none 0 0, .int .i64 0, .int .i64 0] 27)).rot2.blk
          have f_u := Fr.alloc (Fr.alloc f_6 (.cells #[.int .i64 e.op, .string e.name, .int .i64 e.num, .slice A e.k c, .int .i64 e.line, .int .i64 e.col] 27)) (.cells #[.int .i64 24, .string ⟨#[]⟩, .int .i64 0, .slice (some ⟨W6.heap.size, 0, none⟩) 1 1, .int .i64 (lnN s l j), .int .i64 (clN s l j)] 27)
          rw [alloc_size] at f_u
          have f_u := hid f_u.drew
          have f_v := Fr.alloc (Fr.alloc f_6 (.cells #[.int .i64 24, .string ⟨#[]⟩, .int .i64 0, .slice (some ⟨W6.heap.size + 1, 0, none⟩) 1 1, .int .i64 (lnN s l j), .int .i64 (clN s l j)] 27)) (.cells #[.int .i64 e.op, .string e.name, .int .i64 e.num, .slice A e.k c, .int .i64 e.line, .int .i64 e.col] 27)
          rw [alloc_size] at f_v
          have f_v := hid f_v.rot1.drew
          clear f_6
          go_region
          all_goals
            go_wp2_with fail
            go_meet
            case rel => first | with_reducible exact ⟨_, _, rfl, f_u.out⟩ | with_reducible exact ⟨_, _, rfl, f_v.out⟩
        case rest =>
          obtain ⟨E, B1, rfl, f_x⟩ := hcut
          clear hrd f_6
          go_wp2_with fail
          refine ((rwant_yes (t := ⟨#[119, 104, 101, 110]⟩) hE f_x.sm hj1)).mono ?_
          rintro r W7 ⟨rfl, t_7, q_7⟩
          have f_7 := f_x.turn t_7 q_7
          clear f_x t_7 q_7
          obtain ⟨i1, hi1⟩ : ∃ i1, i1 = j + 1 := ⟨_, rfl⟩
          rw [← hi1] at f_7 hlt1
          have hi1H := hid hi1
          clear hi1
          obtain ⟨bn, hbn⟩ : ∃ b, b = isN l i1 wNot := ⟨_, rfl⟩
          obtain ⟨jn, hjn⟩ : ∃ x, x = (if bn = true then i1 + 1 else i1) := ⟨_, rfl⟩
          have hbnH := hid hbn
          have hjnH := hid hjn
          clear hbn hjn
          go_wp2_with fail
          refine (rtake_j hE f_7.sm hbnH.out hjnH.out).mono ?_
          rintro r W8 ⟨rfl, t_8, q_8⟩
          have f_8 := f_7.turn t_8 q_8
          clear f_7 t_8 q_8
          go_upto_if 123 with fail
          go_cut [] from 124 to 124 (fun wx => PF s l P g w (.ok jn) wx (blkK E (.cells #[.int .i64 (if bn = true then 25 else 24), .string ⟨#[]⟩, .int .i64 0, .slice (some ⟨B1, 0, none⟩) 1 1, .int .i64 (lnN s l j), .int .i64 (clN s l j)] 27 (0, 0)) :: blkK B1 (.cells #[.int .i64 e.op, .string e.name, .int .i64 e.num, .slice A e.k c, .int .i64 e.line, .int .i64 e.col] 27 (0, 0)) :: exK D e A c :: blkK X (.cells #[.int .i64 e.op, .string e.name, .int .i64 e.num, .slice A e.k c, .int .i64 e.line, .int .i64 e.col] 27 (0, 0)) :: blkK R (.cells #[.int .i64 0, .string ⟨#[]⟩, .int .i64 0, .slice none 0 0, .int .i64 0, .int .i64 0] 27 (0, 0)) :: blkK At (.cells #[.int .i64 (lnN s l i), .int .i64 (clN s l i)] 25 (0, 0)) :: []))
          case first =>
            cases bn with
            | true =>
              obtain ⟨kE0, kE1, kE2, kE3, kE4, kE5, fE0, fE1, fE2, fE3, fE4, fE5⟩ := blk6 f_8.blk
              go_wp2_with fail
              clear kE0 kE1 kE2 kE3 kE4 kE5 fE0 fE1 fE2 fE3 fE4 fE5
              have f_9 := Fr.set (n := 0) f_8 (.int .i64 25)
              simp only [List.setIfInBounds_toArray, List.set_cons_zero] at f_9
              clear f_8
              generalize W8.setCell ⟨E, 0, none⟩ (.int .i64 25) = W9 at *
              go_meet
              case rel => exact f_9
            | false =>
              go_wp2_with fail
              go_meet
              case rel => exact f_8
          case rest =>
            have f_w := hcut
            clear hcut f_8
            generalize hop2 : (if bn = true then (25 : Int) else 24) = op2 at *
            have hop2H := hid hop2
            clear hop2
            go_wp2_with fail
            refine (rname_m hE f_w.sm true).mono ?_
            rintro r W9 ⟨jx, hlt_jx, hj_jx, rfl, t_9, q_9⟩
            have f_9 := f_w.turn t_9 q_9
            clear f_w t_9 q_9
            obtain rfl : jn = jx := (hj_jx jn rfl).symm
            obtain ⟨kE0, kE1, kE2, kE3, kE4, kE5, fE0, fE1, fE2, fE3, fE4, fE5⟩ := blk6 f_9.blk
            go_upto_region 36 with fail
            clear kE0 kE1 kE2 kE3 kE4 kE5 fE0 fE1 fE2 fE3 fE4 fE5
            have f_10 := Fr.set (n := 1) f_9 (.string (tkN l jn).text)
            simp only [List.setIfInBounds_toArray, List.set_cons_zero, List.set_cons_succ] at f_10
            clear f_9
            generalize W9.setCell ⟨E, 1, none⟩ (.string (tkN l jn).text) = W10 at *
            obtain ⟨kE0, kE1, kE2, kE3, kE4, kE5, fE0, fE1, fE2, fE3, fE4, fE5⟩ := blk6 f_10.blk
            go_wp2_with fail
            clear kE0 kE1 kE2 kE3 kE4 kE5 fE0 fE1 fE2 fE3 fE4 fE5
            have f_y := f_10.rot2.rot2.rot2
            obtain ⟨D2, f_z⟩ := f_y.tail.fold1 (op := op2) (name := (tkN l jn).text) (n := 0) (ln := lnN s l j) (cl := clN s l j) (by have := hop2H.out; simp only [I64]; split at this <;> omega) (hK jn).2.2.1 (by simp [I64]) (hK j).1 (hK j).2.1
            clear f_y f_10
            have hdp := rdeep_m f_z.sm f_z.ex (fun n hn => hn.2) (fun hn => by have := f_z.lt P rfl; have := hn.1; omega) (fun _ _ => high1 heH.out)
            rw [show (mkEx op2 (tkN l jn).text 0 [e] (lnN s l j) (clN s l j)).val (some ⟨B1, 0, none⟩) 1 = .agg #[.int .i64 op2, .string (tkN l jn).text, .int .i64 0, .slice (some ⟨B1, 0, none⟩) 1 1, .int .i64 (lnN s l j), .int .i64 (clN s l j)] from rfl] at hdp
            refine (hdp).mono ?_
            rintro r W11 ⟨rfl, t_11, q_11⟩
            have f_11 := f_z.turn t_11 q_11
            clear f_z t_11 q_11
            clear hdp
            obtain ⟨kX0, kX1, kX2, kX3, kX4, kX5, fX0, fX1, fX2, fX3, fX4, fX5⟩ := blk6 f_11.rot1.blk
            go_wp2_with fail
            clear kX0 kX1 kX2 kX3 kX4 kX5 fX0 fX1 fX2 fX3 fX4 fX5
            have f_12 := Fr.set6 f_11.rot1 (.int .i64 op2) (.string (tkN l jn).text) (.int .i64 0) (.slice (some ⟨B1, 0, none⟩) 1 1) (.int .i64 (lnN s l j)) (.int .i64 (clN s l j))
            clear f_11
            generalize ((((((W11.setCell ⟨X, 0, none⟩ (.int .i64 op2)).setCell ⟨X, 1, none⟩ (.string (tkN l jn).text)).setCell ⟨X, 2, none⟩ (.int .i64 0)).setCell ⟨X, 3, none⟩ (.slice (some ⟨B1, 0, none⟩) 1 1)).setCell ⟨X, 4, none⟩ (.int .i64 (lnN s l j))).setCell ⟨X, 5, none⟩ (.int .i64 (clN s l j))) = W12 at *
            have f_t := f_12.rot3.rot3.rot2.rot3
            clear f_12
            have hq2 : q0 = (Md.deep (Md.name s l (.ok jn) false) (mkEx op2 (tkN l jn).text 0 [e] (lnN s l j) (clN s l j))).seq (manyN s l rec 3 (gk - 1) (mkEx op2 (tkN l jn).text 0 [e] (lnN s l j) (clN s l j))) := by
              have hpos : 0 < gk := by have := hfuH.out; have := hi1H.out; omega
              have h1 := hq.out
              rw [show (Md.ok j).seq (manyN s l rec 3 gk e) = manyN s l rec 3 gk e j from rfl, many_when hpos hj1, when_eq (op := op2) (j := jn) (b := bn) (by rw [← hi1H.out]; exact hbnH.out) (by rw [← hi1H.out]; exact hjnH.out) hop2H.out] at h1
              rw [h1]
              exact deep_seq
            go_roundg (gk - 1)
            case rel => exact ⟨(mkEx op2 (tkN l jn).text 0 [e] (lnN s l j) (clN s l j)), some ⟨B1, 0, none⟩, 1, D2, _, f_t, fun i3 h3 => by
              obtain ⟨h4, h5⟩ := deep_ok h3
              obtain ⟨i4, h6, h7⟩ := name_ok h5
              injection h6 with h6
              refine ⟨h4, ?_⟩
              have h8 := hjnH.out
              have h9 := hfuH.out
              have h10 := hi1H.out
              split at h8 <;> omega, hq2⟩
            case measure => have := hfuH.out; have := hi1H.out; omega
      · have hw2 : m1.is l wWhen = false := eq_false_of_ne_true hwh
        clear hwh
        go_wp2_with fail
        refine ((ris_val (t := ⟨#[119, 104, 101, 110]⟩) f_0.sm (b := false) hw2)).mono ?_
        rintro r W6 ⟨rfl, t_6, q_6⟩
        have f_6 := f_0.turn t_6 q_6
        clear f_0 t_6 q_6
        obtain ⟨kX0, kX1, kX2, kX3, kX4, kX5, fX0, fX1, fX2, fX3, fX4, fX5⟩ := blk6 f_6.rot1.blk
        obtain ⟨kR0, kR1, kR2, kR3, kR4, kR5, fR0, fR1, fR2, fR3, fR4, fR5⟩ := blk6 f_6.rot2.blk
        go_wp2_with fail
        clear kX0 kX1 kX2 kX3 kX4 kX5 fX0 fX1 fX2 fX3 fX4 fX5 kR0 kR1 kR2 kR3 kR4 kR5 fR0 fR1 fR2 fR3 fR4 fR5
        have f_7 := Fr.set6 f_6.rot2 (.int .i64 e.op) (.string e.name) (.int .i64 e.num) (.slice A e.k c) (.int .i64 e.line) (.int .i64 e.col)
        clear f_6
        generalize ((((((W6.setCell ⟨R, 0, none⟩ (.int .i64 e.op)).setCell ⟨R, 1, none⟩ (.string e.name)).setCell ⟨R, 2, none⟩ (.int .i64 e.num)).setCell ⟨R, 3, none⟩ (.slice A e.k c)).setCell ⟨R, 4, none⟩ (.int .i64 e.line)).setCell ⟨R, 5, none⟩ (.int .i64 e.col)) = W7 at *
        have fin := f_7.rot1
        obtain ⟨hh, hG⟩ := Got.mk0 (q := q0) (t := (e.height : Int)) fin.ex f_7.sm f_7.gr (by omega) (fun j hj => by have := (hokH.out j hj).1; omega) (by rw [hq.out]; cases m1 with | ok j => exact (show Came (manyN _ _ _ _ _ _ _) _ _ _ by rw [many_stop hw2]; exact ⟨rfl, rfl, rfl⟩) | bad a1 b1 c1 => exact rfl)
        obtain ⟨r0, r1, r2, r3, r4, r5, -⟩ := blk6 f_7.blk
        try simp only [Exit.inBlock, Exit.then]
        exact bodyPost_ret (v := .agg #[.int .i64 e.op, .string e.name, .int .i64 e.num, .slice A e.k c, .int .i64 e.line, .int .i64 e.col]) (by simp [results, Try.results17, go_sem, r0, r1, r2, r3, r4, r5]) rfl ⟨e, A, c, hh, _, rfl, hG⟩

set_option maxHeartbeats 4000000 in
set_option maxRecDepth 100000 in
theorem rstrong_lo {s : ByteArray} {l : List Tk} {P g : Nat} (hE : Ended l) (hK : TkOk s l) {L : Int} {rec : Int → Nat → PR} {w : World} {k : Nat} (h : Sm s l P g w (.ok k)) {L1 : Int} (hL : IntKind.i64.wrap (L + 1) = L1) (hN : RNext s l P g L1 rec) {st : Int} (hst : st = 1 ∨ st = 2)
    {qf : Nat → PR} (hSn : ∀ (k : Nat) (w : World), Sm s l P g w (.ok k) → Calls Try.prog 17 #[.pointer (some ⟨P, 0, none⟩), .int .i64 (st + 1), .int .i64 L] w fun r w' => ∃ e A c t m', r = .returned (e.val A c) ∧ Got s l P g w (qf k) 30 w' e A c t m') {q0 : PR} (hq0 : q0 = (qf k).then fun e i1 => onceN s l rec st st e i1) :
    Calls Try.prog 17 #[.pointer (some ⟨P, 0, none⟩), .int .i64 st, .int .i64 L] w fun r w' => ∃ e A c t m', r = .returned (e.val A c) ∧ Got s l P g w (q0) 30 w' e A c t m' := by
  go_enter Try.func17, Try.ntmps17
  have f_1 := PF.start h
  go_upto_region 1 with fail
  have f_2 := f_1.alloc (.cells #[.int .i64 0, .string ⟨#[]⟩, .int .i64 0, .slice none 0 0, .int .i64 0, .int .i64 0] 27)
  have z_2 := alloc_size w (.cells #[.int .i64 0, .string ⟨#[]⟩, .int .i64 0, .slice none 0 0, .int .i64 0, .int .i64 0] 27)
  clear f_1
  generalize w.heap.size = R at *
  generalize w.alloc (.cells #[.int .i64 0, .string ⟨#[]⟩, .int .i64 0, .slice none 0 0, .int .i64 0, .int .i64 0] 27) = W2 at *
  clear z_2
  obtain ⟨er, x0, x1, x2⟩ := f_2.err
  have x3 : (er != 0) = false := x1
  clear x1 x2
  go_upto_region 3 with fail
  clear x0 x3
  obtain ⟨i, crd, ⟨hlt_i, hj_i, hx1, hx2⟩, ⟨c0, c1, k0, k1, k2, k3, k4⟩, ⟨d0, d1, e0, e1, e2, e3, e4⟩⟩ := f_2.reads (.cells #[.int .i64 0, .int .i64 0] 25)
  obtain rfl : i = k := hj_i k rfl
  have hs0 : (st == 0) = false := by simp only [beq_eq_false_iff_ne]; omega
  have hs9 : (st == 9) = false := by simp only [beq_eq_false_iff_ne]; omega
  have hs3 : (st == 3) = false := by simp only [beq_eq_false_iff_ne]; omega
  have hs6 : (st == 6) = false := by simp only [beq_eq_false_iff_ne]; omega
  have hstb : 1 ≤ st ∧ st ≤ 8 := by omega
  have hst3 := hid (show st ≠ 3 by omega)
  have hst2 : st ≤ 2 := by omega
  have hstH := hid hst
  clear hst
  go_cut [7] from 22 to 32 (fun p wx => ∃ T1, p = .pointer (some ⟨T1, 0, none⟩) ∧ PF s l P g w (.ok i) wx (blkK T1 (.cells #[.int .i64 (lnN s l i), .int .i64 (clN s l i)] 25 (0, 0)) :: blkK R (.cells #[.int .i64 0, .string ⟨#[]⟩, .int .i64 0, .slice none 0 0, .int .i64 0, .int .i64 0] 27 (0, 0)) :: []))
  case first =>
    go_region
    all_goals
      go_wp2_with fail
      go_meet
      case rel => exact ⟨_, rfl, (Fr.alloc f_2 (.cells #[.int .i64 (lnN s l i), .int .i64 (clN s l i)] 25)).drew⟩
  case rest =>
    obtain ⟨At, rfl, f_3⟩ := hcut
    clear c0 c1 k0 k1 k2 k3 k4 d0 d1 e0 e1 e2 e3 e4 f_2
    go_wp2_with fail
    refine (hSn i _ f_3.sm).mono ?_
    rintro r W4 ⟨ex, Ax, cx, tx, mx, rfl, Gx⟩
    obtain ⟨Dx, f_4⟩ := f_3.expr Gx
    obtain ⟨lowx, topx, okx, camex⟩ := Gx.facts
    clear f_3 Gx
    simp only [Ex.val_eq]
    go_upto_region 29 with fail
    have f_5 := f_4.alloc (.cells #[.int .i64 ex.op, .string ex.name, .int .i64 ex.num, .slice Ax ex.k cx, .int .i64 ex.line, .int .i64 ex.col] 27)
    have z_5 := alloc_size W4 (.cells #[.int .i64 ex.op, .string ex.name, .int .i64 ex.num, .slice Ax ex.k cx, .int .i64 ex.line, .int .i64 ex.col] 27)
    clear f_4
    generalize W4.heap.size = X at *
    generalize W4.alloc (.cells #[.int .i64 ex.op, .string ex.name, .int .i64 ex.num, .slice Ax ex.k cx, .int .i64 ex.line, .int .i64 ex.col] 27) = W5 at *
    clear z_5
    go_upto_region 38 with fail
    go_wp2_with fail
    refine (rsign_m f_5.sm (st := st) hst3.out).mono ?_
    rintro r W6 ⟨rfl, t_6, q_6⟩
    have f_6 := f_5.turn t_6 q_6
    clear f_5 t_6 q_6
    go_wp2_with fail
    have f_e := f_6.rot2.rot3.rot2.rot3
    go_loopg [14] l.length (fun gk vv wr => ∃ (e : Ex) (A : Option Addr) (c : Nat) (D : Nat → Prop) (m1 : Md) (v1 : Int), vv = .int .i64 v1 ∧ (v1 = m1.sgn l st) ∧ PF s l P g w m1 wr (exK D e A c :: blkK X (.cells #[.int .i64 e.op, .string e.name, .int .i64 e.num, .slice A e.k c, .int .i64 e.line, .int .i64 e.col] 27 (0, 0)) :: blkK R (.cells #[.int .i64 0, .string ⟨#[]⟩, .int .i64 0, .slice none 0 0, .int .i64 0, .int .i64 0] 27 (0, 0)) :: blkK At (.cells #[.int .i64 (lnN s l i), .int .i64 (clN s l i)] 25 (0, 0)) :: []) ∧ (∀ j, m1 = .ok j → e.height ≤ 30 ∧ l.length ≤ gk + j) ∧ Hid (q0 = m1.seq (onceN s l rec st st e)))
    case atStart =>
      have h0 : q0 = mx.seq (onceN s l rec st st ex) := by rw [hq0]; exact came_then (f := fun e i1 => onceN s l rec st st e i1) camex.out
      exact ⟨ex, Ax, cx, Dx, mx, _, rfl, rfl, f_e, fun j hj => ⟨came_high camex.out okx hj, by omega⟩, h0⟩
    case round =>
      clear f_e camex okx lowx topx hq0 f_6
      obtain ⟨e, A, c, D, m1, v1, rfl, hv, f_0, hok, hq⟩ := hrel
      have hokH := hid hok
      have hvH := hid hv
      clear hok hv
      by_cases hv0 : v1 = 0
      · have hvi : (v1 != 0) = false := by simp [hv0]
        have hv0H := hid hv0
        clear hv0
        have hq3 : q0 = m1.seq (PR.ok e) := by
          rw [hq.out]
          exact seq_congr fun i hi => by subst hi; exact once_no (hvH.out.symm.trans hv0H.out)
        have hq3H := hid hq3
        clear hq3
        obtain ⟨kX0, kX1, kX2, kX3, kX4, kX5, fX0, fX1, fX2, fX3, fX4, fX5⟩ := blk6 f_0.rot1.blk
        obtain ⟨kR0, kR1, kR2, kR3, kR4, kR5, fR0, fR1, fR2, fR3, fR4, fR5⟩ := blk6 f_0.rot2.blk
        go_wp2_with fail
        clear kX0 kX1 kX2 kX3 kX4 kX5 fX0 fX1 fX2 fX3 fX4 fX5 kR0 kR1 kR2 kR3 kR4 kR5 fR0 fR1 fR2 fR3 fR4 fR5 hvi
        have f_7 := Fr.set6 f_0.rot2 (.int .i64 e.op) (.string e.name) (.int .i64 e.num) (.slice A e.k c) (.int .i64 e.line) (.int .i64 e.col)
        clear f_0
        generalize ((((((wr.setCell ⟨R, 0, none⟩ (.int .i64 e.op)).setCell ⟨R, 1, none⟩ (.string e.name)).setCell ⟨R, 2, none⟩ (.int .i64 e.num)).setCell ⟨R, 3, none⟩ (.slice A e.k c)).setCell ⟨R, 4, none⟩ (.int .i64 e.line)).setCell ⟨R, 5, none⟩ (.int .i64 e.col)) = W7 at *
        have fin := f_7.rot1
        obtain ⟨hh, hG⟩ := Got.mk0 (q := q0) (t := (e.height : Int)) fin.ex f_7.sm f_7.gr (by omega) (fun j hj => by have := (hokH.out j hj).1; omega) (by rw [hq3H.out]; exact ok_came)
        obtain ⟨r0, r1, r2, r3, r4, r5, -⟩ := blk6 f_7.blk
        try simp only [Exit.inBlock, Exit.then]
        exact bodyPost_ret (v := .agg #[.int .i64 e.op, .string e.name, .int .i64 e.num, .slice A e.k c, .int .i64 e.line, .int .i64 e.col]) (by simp [results, Try.results17, go_sem, r0, r1, r2, r3, r4, r5]) rfl ⟨e, A, c, hh, _, rfl, hG⟩
      · have hvi : (v1 != 0) = true := by simp [hv0]
        obtain ⟨j, hjm, hvj⟩ := sgn_ok (hvH.out) hv0
        subst hjm
        obtain ⟨hop1, hop2, hop3⟩ := sg_op (l := l) (st := st) (i := j) (by rw [← hvj]; exact hv0)
        have hlt1 : j + 1 < l.length := hE j (PSt.lt f_0.sm) (by have := (op_range hop2).1; omega)
        have hvb : 7 ≤ v1 ∧ v1 ≤ 24 := by have := (op_range hop2).2; rw [hop1, ← hvj] at this; omega
        obtain ⟨he30, hfu⟩ := hokH.out j rfl
        have hfuH := hid hfu
        have heH := hid he30
        have hvjH := hid hvj
        have hv0H := hid hv0
        clear hokH hfu he30 hvj hv0 hop1 hop2 hop3 hvH
        go_upto_region 40 with fail
        clear hvi
        obtain ⟨j2, crd, ⟨hlt_j2, hj_j2, hx1, hx2⟩, ⟨c0, c1, k0, k1, k2, k3, k4⟩, ⟨d0, d1, e0, e1, e2, e3, e4⟩⟩ := f_0.reads (.cells #[.int .i64 0, .int .i64 0] 25)
        obtain rfl : j2 = j := hj_j2 j rfl
        go_cut [15] from 137 to 147 (fun p wx => ∃ T1, p = .pointer (some ⟨T1, 0, none⟩) ∧ PF s l P g w (.ok j2) wx (blkK T1 (.cells #[.int .i64 (lnN s l j2), .int .i64 (clN s l j2)] 25 (0, 0)) :: exK D e A c :: blkK X (.cells #[.int .i64 e.op, .string e.name, .int .i64 e.num, .slice A e.k c, .int .i64 e.line, .int .i64 e.col] 27 (0, 0)) :: blkK R (.cells #[.int .i64 0, .string ⟨#[]⟩, .int .i64 0, .slice none 0 0, .int .i64 0, .int .i64 0] 27 (0, 0)) :: blkK At (.cells #[.int .i64 (lnN s l i), .int .i64 (clN s l i)] 25 (0, 0)) :: []))
        case first =>
          go_region
          all_goals
            go_wp2_with fail
            go_meet
            case rel => exact ⟨_, rfl, (Fr.alloc f_0 (.cells #[.int .i64 (lnN s l j2), .int .i64 (clN s l j2)] 25)).drew⟩
        case rest =>
          obtain ⟨A2, rfl, f_7⟩ := hcut
          clear c0 c1 k0 k1 k2 k3 k4 d0 d1 e0 e1 e2 e3 e4 f_0
          obtain ⟨p1, p1f, i1, hi1, hwr⟩ := f_7.at1
          go_upto_region 42 with fail
          clear p1 p1f hwr
          have f_8 := f_7.up (j := i1) (by subst hi1; exact hlt1)
          clear f_7
          generalize wc.setCell ⟨P, 1, none⟩ (.int .i64 (i1 : Int)) = W8 at *
          have f_x := f_8.rot1
          have htw := rtwo_m hN f_x.sm f_x.head.q (fun n hn => f_x.head.hi n hn) f_x.offP (fun _ _ => heH.out) (op := v1) (st := st) (by simp only [I64]; omega) ⟨(hK j2).1, (hK j2).2.1⟩ (by omega)
          simp only [Ex.val_eq e] at htw
          obtain ⟨a0, a1, -⟩ := blk2 f_8.blk
          obtain ⟨kX0, kX1, kX2, kX3, kX4, kX5, fX0, fX1, fX2, fX3, fX4, fX5⟩ := blk6 f_8.rot2.blk
          go_wp2_with fail
          clear kX0 kX1 kX2 kX3 kX4 kX5 fX0 fX1 fX2 fX3 fX4 fX5 a0 a1
          refine htw.mono ?_
          rintro r Wt ⟨x2, A3, m2, rfl, hin2, hs2, hg2, hle2, hcm2⟩
          have f_t := f_x.two hs2 hg2 hin2
          clear htw f_x hin2 hs2 hg2 f_8
          rw [show (mkEx v1 ⟨#[]⟩ 0 [e, x2] (lnN s l j2) (clN s l j2)).val (some A3) 2 = .agg #[.int .i64 v1, .string ⟨#[]⟩, .int .i64 0, .slice (some A3) 2 2, .int .i64 (lnN s l j2), .int .i64 (clN s l j2)] from rfl]
          have hcmH := hid hcm2
          clear hcm2
          obtain ⟨kR0, kR1, kR2, kR3, kR4, kR5, fR0, fR1, fR2, fR3, fR4, fR5⟩ := blk6 f_t.rot3.blk
          go_wp2_with fail
          clear kR0 kR1 kR2 kR3 kR4 kR5 fR0 fR1 fR2 fR3 fR4 fR5
          have f_9 := Fr.set6 f_t.rot3 (.int .i64 v1) (.string ⟨#[]⟩) (.int .i64 0) (.slice (some A3) 2 2) (.int .i64 (lnN s l j2)) (.int .i64 (clN s l j2))
          clear f_t
          generalize ((((((Wt.setCell ⟨R, 0, none⟩ (.int .i64 v1)).setCell ⟨R, 1, none⟩ (.string ⟨#[]⟩)).setCell ⟨R, 2, none⟩ (.int .i64 0)).setCell ⟨R, 3, none⟩ (.slice (some A3) 2 2)).setCell ⟨R, 4, none⟩ (.int .i64 (lnN s l j2))).setCell ⟨R, 5, none⟩ (.int .i64 (clN s l j2))) = W9 at *
          have fin := f_9.rot1
          have hq3 : q0 = m2.seq (PR.ok (mkEx v1 ⟨#[]⟩ 0 [e, x2] (lnN s l j2) (clN s l j2))) := by
            rw [hq.out]
            show onceN s l rec st st e j2 = _
            rw [once_two (by rw [← hvjH.out]; exact hv0H.out), ← hvjH.out]
            exact two_came hi1 hcmH.out
          obtain ⟨hh, hG⟩ := Got.mk0 (q := q0) (t := ((mkEx v1 ⟨#[]⟩ 0 [e, x2] (lnN s l j2) (clN s l j2)).height : Int)) fin.ex f_9.sm f_9.gr (by omega) (fun j hj => by have := hle2 j hj; omega) (by rw [hq3]; exact ok_came)
          obtain ⟨r0, r1, r2, r3, r4, r5, -⟩ := blk6 f_9.blk
          try simp only [Exit.inBlock, Exit.then]
          exact bodyPost_ret (v := .agg #[.int .i64 v1, .string ⟨#[]⟩, .int .i64 0, .slice (some A3) 2 2, .int .i64 (lnN s l j2), .int .i64 (clN s l j2)]) (by simp [results, Try.results17, go_sem, r0, r1, r2, r3, r4, r5]) rfl ⟨(mkEx v1 ⟨#[]⟩ 0 [e, x2] (lnN s l j2) (clN s l j2)), some A3, 2, hh, _, rfl, hG⟩

set_option maxHeartbeats 4000000 in
set_option maxRecDepth 100000 in
theorem rstrong_six {s : ByteArray} {l : List Tk} {P g : Nat} (hE : Ended l) (hK : TkOk s l) {L : Int} {rec : Int → Nat → PR} {w : World} {k : Nat} (h : Sm s l P g w (.ok k)) {L1 : Int} (hL : IntKind.i64.wrap (L + 1) = L1) (hN : RNext s l P g L1 rec) (hA : Adv l rec) 
    {qf : Nat → PR} (hSn : ∀ (k : Nat) (w : World), Sm s l P g w (.ok k) → Calls Try.prog 17 #[.pointer (some ⟨P, 0, none⟩), .int .i64 7, .int .i64 L] w fun r w' => ∃ e A c t m', r = .returned (e.val A c) ∧ Got s l P g w (qf k) 30 w' e A c t m') {q0 : PR} (hq0 : q0 = (qf k).then fun e i1 => onceN s l rec 6 7 e i1) :
    Calls Try.prog 17 #[.pointer (some ⟨P, 0, none⟩), .int .i64 6, .int .i64 L] w fun r w' => ∃ e A c t m', r = .returned (e.val A c) ∧ Got s l P g w (q0) 30 w' e A c t m' := by
  go_enter Try.func17, Try.ntmps17
  have f_1 := PF.start h
  go_upto_region 1 with fail
  have f_2 := f_1.alloc (.cells #[.int .i64 0, .string ⟨#[]⟩, .int .i64 0, .slice none 0 0, .int .i64 0, .int .i64 0] 27)
  have z_2 := alloc_size w (.cells #[.int .i64 0, .string ⟨#[]⟩, .int .i64 0, .slice none 0 0, .int .i64 0, .int .i64 0] 27)
  clear f_1
  generalize w.heap.size = R at *
  generalize w.alloc (.cells #[.int .i64 0, .string ⟨#[]⟩, .int .i64 0, .slice none 0 0, .int .i64 0, .int .i64 0] 27) = W2 at *
  clear z_2
  obtain ⟨er, x0, x1, x2⟩ := f_2.err
  have x3 : (er != 0) = false := x1
  clear x1 x2
  go_upto_region 3 with fail
  clear x0 x3
  obtain ⟨i, crd, ⟨hlt_i, hj_i, hx1, hx2⟩, ⟨c0, c1, k0, k1, k2, k3, k4⟩, ⟨d0, d1, e0, e1, e2, e3, e4⟩⟩ := f_2.reads (.cells #[.int .i64 0, .int .i64 0] 25)
  obtain rfl : i = k := hj_i k rfl
  go_cut [7] from 22 to 32 (fun p wx => ∃ T1, p = .pointer (some ⟨T1, 0, none⟩) ∧ PF s l P g w (.ok i) wx (blkK T1 (.cells #[.int .i64 (lnN s l i), .int .i64 (clN s l i)] 25 (0, 0)) :: blkK R (.cells #[.int .i64 0, .string ⟨#[]⟩, .int .i64 0, .slice none 0 0, .int .i64 0, .int .i64 0] 27 (0, 0)) :: []))
  case first =>
    go_region
    all_goals
      go_wp2_with fail
      go_meet
      case rel => exact ⟨_, rfl, (Fr.alloc f_2 (.cells #[.int .i64 (lnN s l i), .int .i64 (clN s l i)] 25)).drew⟩
  case rest =>
    obtain ⟨At, rfl, f_3⟩ := hcut
    clear c0 c1 k0 k1 k2 k3 k4 d0 d1 e0 e1 e2 e3 e4 f_2
    go_wp2_with fail
    refine (hSn i _ f_3.sm).mono ?_
    rintro r W4 ⟨ex, Ax, cx, tx, mx, rfl, Gx⟩
    obtain ⟨Dx, f_4⟩ := f_3.expr Gx
    obtain ⟨lowx, topx, okx, camex⟩ := Gx.facts
    clear f_3 Gx
    simp only [Ex.val_eq]
    go_upto_region 29 with fail
    have f_5 := f_4.alloc (.cells #[.int .i64 ex.op, .string ex.name, .int .i64 ex.num, .slice Ax ex.k cx, .int .i64 ex.line, .int .i64 ex.col] 27)
    have z_5 := alloc_size W4 (.cells #[.int .i64 ex.op, .string ex.name, .int .i64 ex.num, .slice Ax ex.k cx, .int .i64 ex.line, .int .i64 ex.col] 27)
    clear f_4
    generalize W4.heap.size = X at *
    generalize W4.alloc (.cells #[.int .i64 ex.op, .string ex.name, .int .i64 ex.num, .slice Ax ex.k cx, .int .i64 ex.line, .int .i64 ex.col] 27) = W5 at *
    clear z_5
    go_upto_region 38 with fail
    go_wp2_with fail
    refine (rsign_m f_5.sm (st := 6) (by decide)).mono ?_
    rintro r W6 ⟨rfl, t_6, q_6⟩
    have f_6 := f_5.turn t_6 q_6
    clear f_5 t_6 q_6
    go_wp2_with fail
    have f_e := f_6.rot2.rot3.rot2.rot3
    go_loopg [14] l.length (fun gk vv wr => ∃ (e : Ex) (A : Option Addr) (c : Nat) (D : Nat → Prop) (m1 : Md) (v1 : Int), vv = .int .i64 v1 ∧ (v1 = m1.sgn l 6 ∨ v1 = 0) ∧ PF s l P g w m1 wr (exK D e A c :: blkK X (.cells #[.int .i64 e.op, .string e.name, .int .i64 e.num, .slice A e.k c, .int .i64 e.line, .int .i64 e.col] 27 (0, 0)) :: blkK R (.cells #[.int .i64 0, .string ⟨#[]⟩, .int .i64 0, .slice none 0 0, .int .i64 0, .int .i64 0] 27 (0, 0)) :: blkK At (.cells #[.int .i64 (lnN s l i), .int .i64 (clN s l i)] 25 (0, 0)) :: []) ∧ (∀ j, m1 = .ok j → e.height ≤ 30 ∧ l.length ≤ gk + j) ∧ Hid (q0 = if v1 = 0 then m1.seq (PR.ok e) else m1.seq (onceN s l rec 6 7 e)))
    case atStart =>
      have h0 : q0 = mx.seq (onceN s l rec 6 7 ex) := by rw [hq0]; exact came_then (f := fun e i1 => onceN s l rec 6 7 e i1) camex.out
      refine ⟨ex, Ax, cx, Dx, mx, _, rfl, .inl rfl, f_e, fun j hj => ⟨came_high camex.out okx hj, by omega⟩, ?_⟩
      show _ = _
      rw [h0]
      split
      · rename_i hz
        exact seq_congr fun i hi => by subst hi; exact once_no hz
      · rfl
    case round =>
      clear f_e camex okx lowx topx hq0 f_6
      obtain ⟨e, A, c, D, m1, v1, rfl, hv, f_0, hok, hq⟩ := hrel
      have hokH := hid hok
      have hvH := hid hv
      clear hok hv
      by_cases hv0 : v1 = 0
      · have hvi : (v1 != 0) = false := by simp [hv0]
        have hv0H := hid hv0
        clear hv0
        have hq3 : q0 = m1.seq (PR.ok e) := by
          rw [hq.out]
          rw [if_pos hv0H.out]
        have hq3H := hid hq3
        clear hq3
        obtain ⟨kX0, kX1, kX2, kX3, kX4, kX5, fX0, fX1, fX2, fX3, fX4, fX5⟩ := blk6 f_0.rot1.blk
        obtain ⟨kR0, kR1, kR2, kR3, kR4, kR5, fR0, fR1, fR2, fR3, fR4, fR5⟩ := blk6 f_0.rot2.blk
        go_wp2_with fail
        clear kX0 kX1 kX2 kX3 kX4 kX5 fX0 fX1 fX2 fX3 fX4 fX5 kR0 kR1 kR2 kR3 kR4 kR5 fR0 fR1 fR2 fR3 fR4 fR5 hvi
        have f_7 := Fr.set6 f_0.rot2 (.int .i64 e.op) (.string e.name) (.int .i64 e.num) (.slice A e.k c) (.int .i64 e.line) (.int .i64 e.col)
        clear f_0
        generalize ((((((wr.setCell ⟨R, 0, none⟩ (.int .i64 e.op)).setCell ⟨R, 1, none⟩ (.string e.name)).setCell ⟨R, 2, none⟩ (.int .i64 e.num)).setCell ⟨R, 3, none⟩ (.slice A e.k c)).setCell ⟨R, 4, none⟩ (.int .i64 e.line)).setCell ⟨R, 5, none⟩ (.int .i64 e.col)) = W7 at *
        have fin := f_7.rot1
        obtain ⟨hh, hG⟩ := Got.mk0 (q := q0) (t := (e.height : Int)) fin.ex f_7.sm f_7.gr (by omega) (fun j hj => by have := (hokH.out j hj).1; omega) (by rw [hq3H.out]; exact ok_came)
        obtain ⟨r0, r1, r2, r3, r4, r5, -⟩ := blk6 f_7.blk
        try simp only [Exit.inBlock, Exit.then]
        exact bodyPost_ret (v := .agg #[.int .i64 e.op, .string e.name, .int .i64 e.num, .slice A e.k c, .int .i64 e.line, .int .i64 e.col]) (by simp [results, Try.results17, go_sem, r0, r1, r2, r3, r4, r5]) rfl ⟨e, A, c, hh, _, rfl, hG⟩
      · have hvi : (v1 != 0) = true := by simp [hv0]
        obtain ⟨j, hjm, hvj⟩ := sgn_ok (hvH.out.resolve_right hv0) hv0
        subst hjm
        obtain ⟨hop1, hop2, hop3⟩ := sg_op (l := l) (st := 6) (i := j) (by rw [← hvj]; exact hv0)
        have hlt1 : j + 1 < l.length := hE j (PSt.lt f_0.sm) (by have := (op_range hop2).1; omega)
        have hvb : 7 ≤ v1 ∧ v1 ≤ 24 := by have := (op_range hop2).2; rw [hop1, ← hvj] at this; omega
        obtain ⟨he30, hfu⟩ := hokH.out j rfl
        have hfuH := hid hfu
        have heH := hid he30
        have hvjH := hid hvj
        have hv0H := hid hv0
        clear hokH hfu he30 hvj hv0 hop1 hop2 hop3 hvH
        go_upto_region 40 with fail
        clear hvi
        obtain ⟨j2, crd, ⟨hlt_j2, hj_j2, hx1, hx2⟩, ⟨c0, c1, k0, k1, k2, k3, k4⟩, ⟨d0, d1, e0, e1, e2, e3, e4⟩⟩ := f_0.reads (.cells #[.int .i64 0, .int .i64 0] 25)
        obtain rfl : j2 = j := hj_j2 j rfl
        go_cut [15] from 137 to 147 (fun p wx => ∃ T1, p = .pointer (some ⟨T1, 0, none⟩) ∧ PF s l P g w (.ok j2) wx (blkK T1 (.cells #[.int .i64 (lnN s l j2), .int .i64 (clN s l j2)] 25 (0, 0)) :: exK D e A c :: blkK X (.cells #[.int .i64 e.op, .string e.name, .int .i64 e.num, .slice A e.k c, .int .i64 e.line, .int .i64 e.col] 27 (0, 0)) :: blkK R (.cells #[.int .i64 0, .string ⟨#[]⟩, .int .i64 0, .slice none 0 0, .int .i64 0, .int .i64 0] 27 (0, 0)) :: blkK At (.cells #[.int .i64 (lnN s l i), .int .i64 (clN s l i)] 25 (0, 0)) :: []))
        case first =>
          go_region
          all_goals
            go_wp2_with fail
            go_meet
            case rel => exact ⟨_, rfl, (Fr.alloc f_0 (.cells #[.int .i64 (lnN s l j2), .int .i64 (clN s l j2)] 25)).drew⟩
        case rest =>
          obtain ⟨A2, rfl, f_7⟩ := hcut
          clear c0 c1 k0 k1 k2 k3 k4 d0 d1 e0 e1 e2 e3 e4 f_0
          obtain ⟨p1, p1f, i1, hi1, hwr⟩ := f_7.at1
          go_upto_region 42 with fail
          clear p1 p1f hwr
          have f_8 := f_7.up (j := i1) (by subst hi1; exact hlt1)
          clear f_7
          generalize wc.setCell ⟨P, 1, none⟩ (.int .i64 (i1 : Int)) = W8 at *
          have f_x := f_8.rot1
          have htw := rtwo_m hN f_x.sm f_x.head.q (fun n hn => f_x.head.hi n hn) f_x.offP (fun _ _ => heH.out) (op := v1) (st := 7) (by simp only [I64]; omega) ⟨(hK j2).1, (hK j2).2.1⟩ (by omega)
          simp only [Ex.val_eq e] at htw
          obtain ⟨a0, a1, -⟩ := blk2 f_8.blk
          obtain ⟨kX0, kX1, kX2, kX3, kX4, kX5, fX0, fX1, fX2, fX3, fX4, fX5⟩ := blk6 f_8.rot2.blk
          go_wp2_with fail
          clear kX0 kX1 kX2 kX3 kX4 kX5 fX0 fX1 fX2 fX3 fX4 fX5 a0 a1
          refine htw.mono ?_
          rintro r Wt ⟨x2, A3, m2, rfl, hin2, hs2, hg2, hle2, hcm2⟩
          have f_t := f_x.two hs2 hg2 hin2
          clear htw f_x hin2 hs2 hg2 f_8
          rw [show (mkEx v1 ⟨#[]⟩ 0 [e, x2] (lnN s l j2) (clN s l j2)).val (some A3) 2 = .agg #[.int .i64 v1, .string ⟨#[]⟩, .int .i64 0, .slice (some A3) 2 2, .int .i64 (lnN s l j2), .int .i64 (clN s l j2)] from rfl]
          have hcmH := hid hcm2
          clear hcm2
          obtain ⟨kX0, kX1, kX2, kX3, kX4, kX5, fX0, fX1, fX2, fX3, fX4, fX5⟩ := blk6 f_t.rot2.blk
          go_upto_region 45 with fail
          clear kX0 kX1 kX2 kX3 kX4 kX5 fX0 fX1 fX2 fX3 fX4 fX5
          have f_9 := Fr.set6 f_t.rot2 (.int .i64 v1) (.string ⟨#[]⟩) (.int .i64 0) (.slice (some A3) 2 2) (.int .i64 (lnN s l j2)) (.int .i64 (clN s l j2))
          clear f_t
          generalize ((((((Wt.setCell ⟨X, 0, none⟩ (.int .i64 v1)).setCell ⟨X, 1, none⟩ (.string ⟨#[]⟩)).setCell ⟨X, 2, none⟩ (.int .i64 0)).setCell ⟨X, 3, none⟩ (.slice (some A3) 2 2)).setCell ⟨X, 4, none⟩ (.int .i64 (lnN s l j2))).setCell ⟨X, 5, none⟩ (.int .i64 (clN s l j2))) = W9 at *
          go_wp2_with fail
          refine (rsign_m f_9.sm (st := 6) (by decide)).mono ?_
          rintro r W10 ⟨rfl, t_10, q_10⟩
          have f_10 := f_9.turn t_10 q_10
          clear f_9 t_10 q_10
          have hq3 : q0 = m2.seq (PR.ok (mkEx v1 ⟨#[]⟩ 0 [e, x2] (lnN s l j2) (clN s l j2))) := by
            rw [hq.out, if_neg hv0H.out]
            show onceN s l rec 6 7 e j2 = _
            rw [once_two (by rw [← hvjH.out]; exact hv0H.out), ← hvjH.out]
            exact two_came hi1 hcmH.out
          have hq3H := hid hq3
          clear hq3
          go_wp2_with fail
          have f_t0 := f_10.rot4.rot4.rot2.rot3
          go_roundg (gk - 1)
          case rel =>
            refine ⟨(mkEx v1 ⟨#[]⟩ 0 [e, x2] (lnN s l j2) (clN s l j2)), some A3, 2, _, m2, _, rfl, .inr rfl, f_t0.sub (List.sublist_append_left [_, _, _, _] _), fun j3 hj3 => ⟨hle2 j3 hj3, ?_⟩, ?_⟩
            · have := two_on hA (by omega) hcmH.out hj3
              have := hfuH.out
              omega
            · show _ = _; rw [if_pos rfl]; exact hq3H.out
          case measure => have := hfuH.out; omega

set_option maxHeartbeats 4000000 in
set_option maxRecDepth 100000 in
theorem rstrong_many {s : ByteArray} {l : List Tk} {P g : Nat} (hE : Ended l) (hK : TkOk s l) {L : Int} {rec : Int → Nat → PR} {w : World} {k : Nat} (h : Sm s l P g w (.ok k)) {L1 : Int} (hL : IntKind.i64.wrap (L + 1) = L1) (hN : RNext s l P g L1 rec) (hA : Adv l rec) {st : Int} (hst : st = 4 ∨ st = 5 ∨ st = 7 ∨ st = 8)
    {qf : Nat → PR} (hSn : ∀ (k : Nat) (w : World), Sm s l P g w (.ok k) → Calls Try.prog 17 #[.pointer (some ⟨P, 0, none⟩), .int .i64 (st + 1), .int .i64 L] w fun r w' => ∃ e A c t m', r = .returned (e.val A c) ∧ Got s l P g w (qf k) 30 w' e A c t m') {q0 : PR} (hq0 : q0 = (qf k).then fun e i1 => manyN s l rec st l.length e i1) :
    Calls Try.prog 17 #[.pointer (some ⟨P, 0, none⟩), .int .i64 st, .int .i64 L] w fun r w' => ∃ e A c t m', r = .returned (e.val A c) ∧ Got s l P g w (q0) 30 w' e A c t m' := by
  go_enter Try.func17, Try.ntmps17
  have f_1 := PF.start h
  go_upto_region 1 with fail
  have f_2 := f_1.alloc (.cells #[.int .i64 0, .string ⟨#[]⟩, .int .i64 0, .slice none 0 0, .int .i64 0, .int .i64 0] 27)
  have z_2 := alloc_size w (.cells #[.int .i64 0, .string ⟨#[]⟩, .int .i64 0, .slice none 0 0, .int .i64 0, .int .i64 0] 27)
  clear f_1
  generalize w.heap.size = R at *
  generalize w.alloc (.cells #[.int .i64 0, .string ⟨#[]⟩, .int .i64 0, .slice none 0 0, .int .i64 0, .int .i64 0] 27) = W2 at *
  clear z_2
  obtain ⟨er, x0, x1, x2⟩ := f_2.err
  have x3 : (er != 0) = false := x1
  clear x1 x2
  go_upto_region 3 with fail
  clear x0 x3
  obtain ⟨i, crd, ⟨hlt_i, hj_i, hx1, hx2⟩, ⟨c0, c1, k0, k1, k2, k3, k4⟩, ⟨d0, d1, e0, e1, e2, e3, e4⟩⟩ := f_2.reads (.cells #[.int .i64 0, .int .i64 0] 25)
  obtain rfl : i = k := hj_i k rfl
  have hs0 : (st == 0) = false := by simp only [beq_eq_false_iff_ne]; omega
  have hs9 : (st == 9) = false := by simp only [beq_eq_false_iff_ne]; omega
  have hs3 : (st == 3) = false := by simp only [beq_eq_false_iff_ne]; omega
  have hs6 : (st == 6) = false := by simp only [beq_eq_false_iff_ne]; omega
  have hstb : 1 ≤ st ∧ st ≤ 8 := by omega
  have hst3 := hid (show st ≠ 3 by omega)
  have hst2 : ¬ st ≤ 2 := by omega
  have hstH := hid hst
  clear hst
  go_cut [7] from 22 to 32 (fun p wx => ∃ T1, p = .pointer (some ⟨T1, 0, none⟩) ∧ PF s l P g w (.ok i) wx (blkK T1 (.cells #[.int .i64 (lnN s l i), .int .i64 (clN s l i)] 25 (0, 0)) :: blkK R (.cells #[.int .i64 0, .string ⟨#[]⟩, .int .i64 0, .slice none 0 0, .int .i64 0, .int .i64 0] 27 (0, 0)) :: []))
  case first =>
    go_region
    all_goals
      go_wp2_with fail
      go_meet
      case rel => exact ⟨_, rfl, (Fr.alloc f_2 (.cells #[.int .i64 (lnN s l i), .int .i64 (clN s l i)] 25)).drew⟩
  case rest =>
    obtain ⟨At, rfl, f_3⟩ := hcut
    clear c0 c1 k0 k1 k2 k3 k4 d0 d1 e0 e1 e2 e3 e4 f_2
    go_wp2_with fail
    refine (hSn i _ f_3.sm).mono ?_
    rintro r W4 ⟨ex, Ax, cx, tx, mx, rfl, Gx⟩
    obtain ⟨Dx, f_4⟩ := f_3.expr Gx
    obtain ⟨lowx, topx, okx, camex⟩ := Gx.facts
    clear f_3 Gx
    simp only [Ex.val_eq]
    go_upto_region 29 with fail
    have f_5 := f_4.alloc (.cells #[.int .i64 ex.op, .string ex.name, .int .i64 ex.num, .slice Ax ex.k cx, .int .i64 ex.line, .int .i64 ex.col] 27)
    have z_5 := alloc_size W4 (.cells #[.int .i64 ex.op, .string ex.name, .int .i64 ex.num, .slice Ax ex.k cx, .int .i64 ex.line, .int .i64 ex.col] 27)
    clear f_4
    generalize W4.heap.size = X at *
    generalize W4.alloc (.cells #[.int .i64 ex.op, .string ex.name, .int .i64 ex.num, .slice Ax ex.k cx, .int .i64 ex.line, .int .i64 ex.col] 27) = W5 at *
    clear z_5
    go_upto_region 38 with fail
    go_wp2_with fail
    refine (rsign_m f_5.sm (st := st) hst3.out).mono ?_
    rintro r W6 ⟨rfl, t_6, q_6⟩
    have f_6 := f_5.turn t_6 q_6
    clear f_5 t_6 q_6
    go_wp2_with fail
    have f_e := f_6.rot2.rot3.rot2.rot3
    go_loopg [14] l.length (fun gk vv wr => ∃ (e : Ex) (A : Option Addr) (c : Nat) (D : Nat → Prop) (m1 : Md) (v1 : Int), vv = .int .i64 v1 ∧ (v1 = m1.sgn l st) ∧ PF s l P g w m1 wr (exK D e A c :: blkK X (.cells #[.int .i64 e.op, .string e.name, .int .i64 e.num, .slice A e.k c, .int .i64 e.line, .int .i64 e.col] 27 (0, 0)) :: blkK R (.cells #[.int .i64 0, .string ⟨#[]⟩, .int .i64 0, .slice none 0 0, .int .i64 0, .int .i64 0] 27 (0, 0)) :: blkK At (.cells #[.int .i64 (lnN s l i), .int .i64 (clN s l i)] 25 (0, 0)) :: []) ∧ (∀ j, m1 = .ok j → e.height ≤ 30 ∧ l.length ≤ gk + j) ∧ Hid (q0 = m1.seq (manyN s l rec st gk e)))
    case atStart =>
      have h0 : q0 = mx.seq (manyN s l rec st l.length ex) := by rw [hq0]; exact came_then (f := fun e i1 => manyN s l rec st l.length e i1) camex.out
      exact ⟨ex, Ax, cx, Dx, mx, _, rfl, rfl, f_e, fun j hj => ⟨came_high camex.out okx hj, by omega⟩, h0⟩
    case round =>
      clear f_e camex okx lowx topx hq0 f_6
      obtain ⟨e, A, c, D, m1, v1, rfl, hv, f_0, hok, hq⟩ := hrel
      have hokH := hid hok
      have hvH := hid hv
      clear hok hv
      by_cases hv0 : v1 = 0
      · have hvi : (v1 != 0) = false := by simp [hv0]
        have hv0H := hid hv0
        clear hv0
        have hq3 : q0 = m1.seq (PR.ok e) := by
          rw [hq.out]
          exact seq_congr fun i hi => by subst hi; exact many_no (hvH.out.symm.trans hv0H.out)
        have hq3H := hid hq3
        clear hq3
        obtain ⟨kX0, kX1, kX2, kX3, kX4, kX5, fX0, fX1, fX2, fX3, fX4, fX5⟩ := blk6 f_0.rot1.blk
        obtain ⟨kR0, kR1, kR2, kR3, kR4, kR5, fR0, fR1, fR2, fR3, fR4, fR5⟩ := blk6 f_0.rot2.blk
        go_wp2_with fail
        clear kX0 kX1 kX2 kX3 kX4 kX5 fX0 fX1 fX2 fX3 fX4 fX5 kR0 kR1 kR2 kR3 kR4 kR5 fR0 fR1 fR2 fR3 fR4 fR5 hvi
        have f_7 := Fr.set6 f_0.rot2 (.int .i64 e.op) (.string e.name) (.int .i64 e.num) (.slice A e.k c) (.int .i64 e.line) (.int .i64 e.col)
        clear f_0
        generalize ((((((wr.setCell ⟨R, 0, none⟩ (.int .i64 e.op)).setCell ⟨R, 1, none⟩ (.string e.name)).setCell ⟨R, 2, none⟩ (.int .i64 e.num)).setCell ⟨R, 3, none⟩ (.slice A e.k c)).setCell ⟨R, 4, none⟩ (.int .i64 e.line)).setCell ⟨R, 5, none⟩ (.int .i64 e.col)) = W7 at *
        have fin := f_7.rot1
        obtain ⟨hh, hG⟩ := Got.mk0 (q := q0) (t := (e.height : Int)) fin.ex f_7.sm f_7.gr (by omega) (fun j hj => by have := (hokH.out j hj).1; omega) (by rw [hq3H.out]; exact ok_came)
        obtain ⟨r0, r1, r2, r3, r4, r5, -⟩ := blk6 f_7.blk
        try simp only [Exit.inBlock, Exit.then]
        exact bodyPost_ret (v := .agg #[.int .i64 e.op, .string e.name, .int .i64 e.num, .slice A e.k c, .int .i64 e.line, .int .i64 e.col]) (by simp [results, Try.results17, go_sem, r0, r1, r2, r3, r4, r5]) rfl ⟨e, A, c, hh, _, rfl, hG⟩
      · have hvi : (v1 != 0) = true := by simp [hv0]
        obtain ⟨j, hjm, hvj⟩ := sgn_ok (hvH.out) hv0
        subst hjm
        obtain ⟨hop1, hop2, hop3⟩ := sg_op (l := l) (st := st) (i := j) (by rw [← hvj]; exact hv0)
        have hlt1 : j + 1 < l.length := hE j (PSt.lt f_0.sm) (by have := (op_range hop2).1; omega)
        have hvb : 7 ≤ v1 ∧ v1 ≤ 24 := by have := (op_range hop2).2; rw [hop1, ← hvj] at this; omega
        obtain ⟨he30, hfu⟩ := hokH.out j rfl
        have hfuH := hid hfu
        have heH := hid he30
        have hvjH := hid hvj
        have hv0H := hid hv0
        clear hokH hfu he30 hvj hv0 hop1 hop2 hop3 hvH
        go_upto_region 40 with fail
        clear hvi
        obtain ⟨j2, crd, ⟨hlt_j2, hj_j2, hx1, hx2⟩, ⟨c0, c1, k0, k1, k2, k3, k4⟩, ⟨d0, d1, e0, e1, e2, e3, e4⟩⟩ := f_0.reads (.cells #[.int .i64 0, .int .i64 0] 25)
        obtain rfl : j2 = j := hj_j2 j rfl
        go_cut [15] from 137 to 147 (fun p wx => ∃ T1, p = .pointer (some ⟨T1, 0, none⟩) ∧ PF s l P g w (.ok j2) wx (blkK T1 (.cells #[.int .i64 (lnN s l j2), .int .i64 (clN s l j2)] 25 (0, 0)) :: exK D e A c :: blkK X (.cells #[.int .i64 e.op, .string e.name, .int .i64 e.num, .slice A e.k c, .int .i64 e.line, .int .i64 e.col] 27 (0, 0)) :: blkK R (.cells #[.int .i64 0, .string ⟨#[]⟩, .int .i64 0, .slice none 0 0, .int .i64 0, .int .i64 0] 27 (0, 0)) :: blkK At (.cells #[.int .i64 (lnN s l i), .int .i64 (clN s l i)] 25 (0, 0)) :: []))
        case first =>
          go_region
          all_goals
            go_wp2_with fail
            go_meet
            case rel => exact ⟨_, rfl, (Fr.alloc f_0 (.cells #[.int .i64 (lnN s l j2), .int .i64 (clN s l j2)] 25)).drew⟩
        case rest =>
          obtain ⟨A2, rfl, f_7⟩ := hcut
          clear c0 c1 k0 k1 k2 k3 k4 d0 d1 e0 e1 e2 e3 e4 f_0
          obtain ⟨p1, p1f, i1, hi1, hwr⟩ := f_7.at1
          go_upto_region 42 with fail
          clear p1 p1f hwr
          have f_8 := f_7.up (j := i1) (by subst hi1; exact hlt1)
          clear f_7
          generalize wc.setCell ⟨P, 1, none⟩ (.int .i64 (i1 : Int)) = W8 at *
          have f_x := f_8.rot1
          have htw := rtwo_m hN f_x.sm f_x.head.q (fun n hn => f_x.head.hi n hn) f_x.offP (fun _ _ => heH.out) (op := v1) (st := (st + 1)) (by simp only [I64]; omega) ⟨(hK j2).1, (hK j2).2.1⟩ (by omega)
          simp only [Ex.val_eq e] at htw
          obtain ⟨a0, a1, -⟩ := blk2 f_8.blk
          obtain ⟨kX0, kX1, kX2, kX3, kX4, kX5, fX0, fX1, fX2, fX3, fX4, fX5⟩ := blk6 f_8.rot2.blk
          go_wp2_with fail
          clear kX0 kX1 kX2 kX3 kX4 kX5 fX0 fX1 fX2 fX3 fX4 fX5 a0 a1
          refine htw.mono ?_
          rintro r Wt ⟨x2, A3, m2, rfl, hin2, hs2, hg2, hle2, hcm2⟩
          have f_t := f_x.two hs2 hg2 hin2
          clear htw f_x hin2 hs2 hg2 f_8
          rw [show (mkEx v1 ⟨#[]⟩ 0 [e, x2] (lnN s l j2) (clN s l j2)).val (some A3) 2 = .agg #[.int .i64 v1, .string ⟨#[]⟩, .int .i64 0, .slice (some A3) 2 2, .int .i64 (lnN s l j2), .int .i64 (clN s l j2)] from rfl]
          have hcmH := hid hcm2
          clear hcm2
          obtain ⟨kX0, kX1, kX2, kX3, kX4, kX5, fX0, fX1, fX2, fX3, fX4, fX5⟩ := blk6 f_t.rot2.blk
          go_upto_region 45 with fail
          clear kX0 kX1 kX2 kX3 kX4 kX5 fX0 fX1 fX2 fX3 fX4 fX5
          have f_9 := Fr.set6 f_t.rot2 (.int .i64 v1) (.string ⟨#[]⟩) (.int .i64 0) (.slice (some A3) 2 2) (.int .i64 (lnN s l j2)) (.int .i64 (clN s l j2))
          clear f_t
          generalize ((((((Wt.setCell ⟨X, 0, none⟩ (.int .i64 v1)).setCell ⟨X, 1, none⟩ (.string ⟨#[]⟩)).setCell ⟨X, 2, none⟩ (.int .i64 0)).setCell ⟨X, 3, none⟩ (.slice (some A3) 2 2)).setCell ⟨X, 4, none⟩ (.int .i64 (lnN s l j2))).setCell ⟨X, 5, none⟩ (.int .i64 (clN s l j2))) = W9 at *
          go_wp2_with fail
          refine (rsign_m f_9.sm (st := st) hst3.out).mono ?_
          rintro r W10 ⟨rfl, t_10, q_10⟩
          have f_10 := f_9.turn t_10 q_10
          clear f_9 t_10 q_10
          have hq3 : q0 = m2.seq (manyN s l rec st (gk - 1) (mkEx v1 ⟨#[]⟩ 0 [e, x2] (lnN s l j2) (clN s l j2))) := by
            rw [hq.out]
            show manyN s l rec st gk e j2 = _
            rw [many_two (by have := hfuH.out; omega) hst3.out (by rw [← hvjH.out]; exact hv0H.out), ← hvjH.out]
            exact two_came hi1 hcmH.out
          have hq3H := hid hq3
          clear hq3
          go_wp2_with fail
          have f_t0 := f_10.rot4.rot4.rot2.rot3
          go_roundg (gk - 1)
          case rel =>
            refine ⟨(mkEx v1 ⟨#[]⟩ 0 [e, x2] (lnN s l j2) (clN s l j2)), some A3, 2, _, m2, _, rfl, rfl, f_t0.sub (List.sublist_append_left [_, _, _, _] _), fun j3 hj3 => ⟨hle2 j3 hj3, ?_⟩, ?_⟩
            · have := two_on hA (by omega) hcmH.out hj3
              have := hfuH.out
              omega
            · exact hq3H.out
          case measure => have := hfuH.out; omega
end Go.Proofs.Ytnlikhjmmnaknaa
