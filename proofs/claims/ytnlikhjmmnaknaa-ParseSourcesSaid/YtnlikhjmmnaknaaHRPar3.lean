/-
  The walk of the reference's Deep (printed by gen_p2.py).
-/
import Derived.Test.YtnlikhjmmnaknaaHRPar2
import Derived.Deep.CutRange
import Derived.Test.YtnlikhjmmnaknaaGC
namespace Go.Proofs.Ytnlikhjmmnaknaa
open Go.RowKit

/-- an expression that is too high -/
def Md.deep (m : Md) (e : Ex) : Md := if 30 < e.height then m.fail 22 e.line e.col else m
theorem deep_bad {e : Ex} {a b c : Int} : Md.deep (.bad a b c) e = .bad a b c := by unfold Md.deep; split <;> rfl
theorem deep_eq {m : Md} {op num ln cl : Int} {name : ByteArray} {es : List Ex} {hs : List Int} (hok : ∀ i, m = .ok i → hs = es.map fun e => (e.height : Int)) : Md.deep m (mkEx op name num es ln cl) = (if 30 < topOf hs then m.fail 22 ln cl else m) := by
  cases m with
  | bad a b c => rw [deep_bad]; split <;> rfl
  | ok i =>
    have hh := mk_height (op := op) (name := name) (n := num) (ln := ln) (cl := cl) es
    rw [← hok i rfl] at hh
    unfold Md.deep
    by_cases h : 30 < topOf hs
    · rw [if_pos h, if_pos (by omega)]; rfl
    · rw [if_neg h, if_neg (by omega)]
/-- what a reading came to, whose height is told where nothing is wrong alone -/
theorem Got.mk0 {s : ByteArray} {l : List Tk} {P g : Nat} {w w' : World} {q : PR} {e : Ex} {A : Option Addr} {c : Nat} {t : Int} {m' : Md} (inn : ExIn (Iv w.heap.size w'.heap.size) w' e A c) (st : Sm s l P g w' m') (gr : w.grownBy w' (some P)) (h0 : 0 ≤ t) (hok : ∀ i, m' = .ok i → t ≤ 30) (hc : Came q m' e t) : ∃ h, Got s l P g w q 30 w' e A c h m' := by
  cases m' with
  | ok i => exact ⟨t, inn, st, gr, h0, hok i rfl, hok, hc⟩
  | bad a b d =>
    refine ⟨0, inn, st, gr, Int.le_refl _, by omega, fun i hi => by omega, ?_⟩
    cases q with
    | ok e1 i1 => obtain ⟨h1, -⟩ := hc; cases h1
    | bad a1 b1 d1 => exact hc

set_option maxHeartbeats 4000000 in
set_option maxRecDepth 100000 in
theorem rdeep_m {s : ByteArray} {l : List Tk} {P g : Nat} {w : World} {m : Md} (h : Sm s l P g w m) {D : Nat → Prop} {e : Ex} {A : Option Addr} {c : Nat} (hx : ExIn D w e A c) (hD : ∀ n, D n → n < w.heap.size) (hP : ¬ D P) (hh : ∀ i, m = .ok i → e.height ≤ 1000000) :
    Calls Try.prog 43 #[.pointer (some ⟨P, 0, none⟩), e.val A c] w fun r w' => r = .returned (e.val A c) ∧ Sm s l P g w' (m.deep e) ∧ w.grownBy w' (some P) := by
  simp only [Ex.val_eq]
  have f_1 := PF.start h
  go_enter Try.func43, Try.ntmps43
  go_upto_region 1 with fail
  have f_2 := f_1.alloc (.cells #[.int .i64 e.op, .string e.name, .int .i64 e.num, .slice A e.k c, .int .i64 e.line, .int .i64 e.col] 27)
  have z_2 := alloc_size w (.cells #[.int .i64 e.op, .string e.name, .int .i64 e.num, .slice A e.k c, .int .i64 e.line, .int .i64 e.col] 27)
  clear f_1
  generalize w.heap.size = E at *
  generalize w.alloc (.cells #[.int .i64 e.op, .string e.name, .int .i64 e.num, .slice A e.k c, .int .i64 e.line, .int .i64 e.col] 27) = W2 at *
  have f_3 := f_2.alloc (.cells #[.int .i64 0, .string ⟨#[]⟩, .int .i64 0, .slice none 0 0, .int .i64 0, .int .i64 0] 27)
  have z_3 := alloc_size W2 (.cells #[.int .i64 0, .string ⟨#[]⟩, .int .i64 0, .slice none 0 0, .int .i64 0, .int .i64 0] 27)
  clear f_2
  generalize W2.heap.size = R at *
  generalize W2.alloc (.cells #[.int .i64 0, .string ⟨#[]⟩, .int .i64 0, .slice none 0 0, .int .i64 0, .int .i64 0] 27) = W3 at *
  rw [← z_2]
  clear z_2
  clear z_3
  have hxW := hid (ExIn.keep f_3.gr (fun T hT => by injection hT with hT; subst hT; exact hP) _ _ _ hx)
  have hsz := blk_lt f_3.rot1.blk
  obtain ⟨er, x0, x1, x2⟩ := f_3.err
  cases m with
  | bad ea eb ec =>
    have x3 : (er == 0) = false := x2
    clear x1 x2
    obtain ⟨kE0, kE1, kE2, kE3, kE4, kE5, fE0, fE1, fE2, fE3, fE4, fE5⟩ := blk6 f_3.rot1.blk
    obtain ⟨kR0, kR1, kR2, kR3, kR4, kR5, fR0, fR1, fR2, fR3, fR4, fR5⟩ := blk6 f_3.blk
    go_wp2_with fail
    clear kE0 kE1 kE2 kE3 kE4 kE5 fE0 fE1 fE2 fE3 fE4 fE5 kR0 kR1 kR2 kR3 kR4 kR5 fR0 fR1 fR2 fR3 fR4 fR5
    have f_4 := Fr.set6 f_3 (.int .i64 e.op) (.string e.name) (.int .i64 e.num) (.slice A e.k c) (.int .i64 e.line) (.int .i64 e.col)
    clear f_3
    generalize ((((((W3.setCell ⟨R, 0, none⟩ (.int .i64 e.op)).setCell ⟨R, 1, none⟩ (.string e.name)).setCell ⟨R, 2, none⟩ (.int .i64 e.num)).setCell ⟨R, 3, none⟩ (.slice A e.k c)).setCell ⟨R, 4, none⟩ (.int .i64 e.line)).setCell ⟨R, 5, none⟩ (.int .i64 e.col)) = W4 at *
    obtain ⟨r0, r1, r2, r3, r4, r5, -⟩ := blk6 f_4.blk
    try simp only [Exit.inBlock, Exit.then]
    refine bodyPost_ret (v := .agg #[.int .i64 e.op, .string e.name, .int .i64 e.num, .slice A e.k c, .int .i64 e.line, .int .i64 e.col]) (by simp [results, Try.results43, go_sem, r0, r1, r2, r3, r4, r5]) rfl ⟨rfl, ?_, f_4.gr⟩
    have := f_4.sm
    rw [deep_bad]
    exact this
  | ok k =>
    have x3 : (er == 0) = true := x2
    clear x1 x2
    have hh2 := hh k rfl
    have hcall := rheight_any e W3.heap.size A c W3 (ExIn.is (fun n hn => Nat.lt_trans (hD n hn) hsz) _ _ _ hxW.out) (Nat.le_refl _) hh2
    simp only [Ex.val_eq] at hcall
    have hgtH : Hid (Md.deep (.ok k) e = if 30 < e.height then .bad 22 e.line e.col else .ok k) := rfl
    generalize e.height = ht at *
    obtain ⟨kE0, kE1, kE2, kE3, kE4, kE5, fE0, fE1, fE2, fE3, fE4, fE5⟩ := blk6 f_3.rot1.blk
    go_wp2_with fail
    clear kE0 kE1 kE2 kE3 kE4 kE5 fE0 fE1 fE2 fE3 fE4 fE5
    refine (hcall).mono ?_
    rintro r W4 ⟨rfl, b_4⟩
    have f_4 := f_3.below b_4
    clear f_3 b_4
    clear hcall
    by_cases hg : 30 < ht
    · have hgi : (ht : Int) > 30 := by omega
      obtain ⟨kE0, kE1, kE2, kE3, kE4, kE5, fE0, fE1, fE2, fE3, fE4, fE5⟩ := blk6 f_4.rot1.blk
      go_wp2_with fail
      clear kE0 kE1 kE2 kE3 kE4 kE5 fE0 fE1 fE2 fE3 fE4 fE5
      refine (rfail_m f_4.sm (e := 22) (by decide) _ _).mono ?_
      rintro r W5 ⟨rfl, t_5, q_5⟩
      have f_5 := f_4.turn t_5 q_5
      clear f_4 t_5 q_5
      clear hgi
      obtain ⟨kE0, kE1, kE2, kE3, kE4, kE5, fE0, fE1, fE2, fE3, fE4, fE5⟩ := blk6 f_5.rot1.blk
      obtain ⟨kR0, kR1, kR2, kR3, kR4, kR5, fR0, fR1, fR2, fR3, fR4, fR5⟩ := blk6 f_5.blk
      go_wp2_with fail
      clear kE0 kE1 kE2 kE3 kE4 kE5 fE0 fE1 fE2 fE3 fE4 fE5 kR0 kR1 kR2 kR3 kR4 kR5 fR0 fR1 fR2 fR3 fR4 fR5
      have f_6 := Fr.set6 f_5 (.int .i64 e.op) (.string e.name) (.int .i64 e.num) (.slice A e.k c) (.int .i64 e.line) (.int .i64 e.col)
      clear f_5
      generalize ((((((W5.setCell ⟨R, 0, none⟩ (.int .i64 e.op)).setCell ⟨R, 1, none⟩ (.string e.name)).setCell ⟨R, 2, none⟩ (.int .i64 e.num)).setCell ⟨R, 3, none⟩ (.slice A e.k c)).setCell ⟨R, 4, none⟩ (.int .i64 e.line)).setCell ⟨R, 5, none⟩ (.int .i64 e.col)) = W6 at *
      obtain ⟨r0, r1, r2, r3, r4, r5, -⟩ := blk6 f_6.blk
      try simp only [Exit.inBlock, Exit.then]
      refine bodyPost_ret (v := .agg #[.int .i64 e.op, .string e.name, .int .i64 e.num, .slice A e.k c, .int .i64 e.line, .int .i64 e.col]) (by simp [results, Try.results43, go_sem, r0, r1, r2, r3, r4, r5]) rfl ⟨rfl, ?_, f_6.gr⟩
      have := f_6.sm
      rw [hgtH.out, if_pos hg]
      exact this
    · have hgi : ¬ (ht : Int) > 30 := by omega
      have hgH := hid hg
      clear hg
      obtain ⟨kE0, kE1, kE2, kE3, kE4, kE5, fE0, fE1, fE2, fE3, fE4, fE5⟩ := blk6 f_4.rot1.blk
      obtain ⟨kR0, kR1, kR2, kR3, kR4, kR5, fR0, fR1, fR2, fR3, fR4, fR5⟩ := blk6 f_4.blk
      go_wp2_with fail
      clear kE0 kE1 kE2 kE3 kE4 kE5 fE0 fE1 fE2 fE3 fE4 fE5 kR0 kR1 kR2 kR3 kR4 kR5 fR0 fR1 fR2 fR3 fR4 fR5
      have f_5 := Fr.set6 f_4 (.int .i64 e.op) (.string e.name) (.int .i64 e.num) (.slice A e.k c) (.int .i64 e.line) (.int .i64 e.col)
      clear f_4
      generalize ((((((W4.setCell ⟨R, 0, none⟩ (.int .i64 e.op)).setCell ⟨R, 1, none⟩ (.string e.name)).setCell ⟨R, 2, none⟩ (.int .i64 e.num)).setCell ⟨R, 3, none⟩ (.slice A e.k c)).setCell ⟨R, 4, none⟩ (.int .i64 e.line)).setCell ⟨R, 5, none⟩ (.int .i64 e.col)) = W5 at *
      obtain ⟨r0, r1, r2, r3, r4, r5, -⟩ := blk6 f_5.blk
      try simp only [Exit.inBlock, Exit.then]
      refine bodyPost_ret (v := .agg #[.int .i64 e.op, .string e.name, .int .i64 e.num, .slice A e.k c, .int .i64 e.line, .int .i64 e.col]) (by simp [results, Try.results43, go_sem, r0, r1, r2, r3, r4, r5]) rfl ⟨rfl, ?_, f_5.gr⟩
      have := f_5.sm
      rw [hgtH.out, if_neg hgH.out]
      exact this
end Go.Proofs.Ytnlikhjmmnaknaa
