/-
  The walks of the reference's two and Within (printed by gen_p2.py).
-/
import Derived.Test.YtnlikhjmmnaknaaHRPar4
import Derived.Deep.CutRange
namespace Go.Proofs.Ytnlikhjmmnaknaa
open Go.RowKit

theorem rtake_yes {s : ByteArray} {l : List Tk} {P g : Nat} {w : World} (hE : Ended l) {i : Nat} (h : Sm s l P g w (.ok i)) {t : ByteArray} (hi : isN l i t.data.toList = true) :
    Calls Try.prog 44 #[.pointer (some ⟨P, 0, none⟩), .string t] w fun r w' => r = .returned (.bool true) ∧ Sm s l P g w' (.ok (i + 1)) ∧ w.grownBy w' (some P) := by
  refine (rtake_m hE h t).mono ?_
  rintro r w1 ⟨rfl, h1, h2⟩
  have hm : Md.take l (.ok i) t.data.toList = .ok (i + 1) := if_pos hi
  exact ⟨ret_bool hi, hm ▸ h1, h2⟩
theorem rtake_no {s : ByteArray} {l : List Tk} {P g : Nat} {w : World} (hE : Ended l) {i : Nat} (h : Sm s l P g w (.ok i)) {t : ByteArray} (hi : isN l i t.data.toList = false) :
    Calls Try.prog 44 #[.pointer (some ⟨P, 0, none⟩), .string t] w fun r w' => r = .returned (.bool false) ∧ Sm s l P g w' (.ok i) ∧ w.grownBy w' (some P) := by
  refine (rtake_m hE h t).mono ?_
  rintro r w1 ⟨rfl, h1, h2⟩
  have hm : Md.take l (.ok i) t.data.toList = .ok i := if_neg (by simp [hi])
  exact ⟨ret_bool hi, hm ▸ h1, h2⟩
theorem ris_val {s : ByteArray} {l : List Tk} {P g : Nat} {w : World} {m : Md} (h : Sm s l P g w m) {t : ByteArray} {b : Bool} (hi : m.is l t.data.toList = b) :
    Calls Try.prog 26 #[.pointer (some ⟨P, 0, none⟩), .string t] w fun r w' => r = .returned (.bool b) ∧ Sm s l P g w' m ∧ w.grownBy w' (some P) := by
  refine (ris_m h t).mono ?_
  rintro r w1 ⟨rfl, h1, h2⟩
  exact ⟨ret_bool hi, h1, h2⟩
/-- a reading on the next level: Level, and Strong behind it -/
def RNext (s : ByteArray) (l : List Tk) (P g : Nat) (L1 : Int) (rec : Int → Nat → PR) : Prop := ∀ (m : Md) (w : World), Sm s l P g w m → Calls Try.prog 42 #[.pointer (some ⟨P, 0, none⟩), .int .i64 L1] w fun r w' => r = .returned (.tuple #[]) ∧ ∃ m', Sm s l P g w' m' ∧ w.grownBy w' (some P) ∧
  ∀ (st : Int) (w2 : World), 0 ≤ st → st ≤ 9 → Sm s l P g w2 m' → Calls Try.prog 17 #[.pointer (some ⟨P, 0, none⟩), .int .i64 st, .int .i64 L1] w2 fun r w3 => ∃ e A c h mx, r = .returned (e.val A c) ∧ Got s l P g w2 (m.seq (rec st)) 30 w3 e A c h mx
theorem deep_came {q : PR} {m : Md} {op num ln cl : Int} {name : ByteArray} {es : List Ex} (hq : q = m.seq fun i => madeN (mkEx op name num es ln cl) i) : Came q (Md.deep m (mkEx op name num es ln cl)) (mkEx op name num es ln cl) (((mkEx op name num es ln cl).height : Nat) : Int) := by
  subst hq
  cases m with
  | bad a b c => rw [deep_bad]; exact rfl
  | ok i =>
    show Came (madeN _ _) _ _ _
    unfold madeN Md.deep
    by_cases h : 30 < (mkEx op name num es ln cl).height
    · rw [if_pos h, if_pos h]; rfl
    · rw [if_neg h, if_neg h]; exact ⟨rfl, rfl, rfl⟩
theorem deep_ok {m : Md} {e : Ex} {i : Nat} (h : m.deep e = .ok i) : e.height ≤ 30 ∧ m = .ok i := by
  unfold Md.deep at h
  by_cases h3 : 30 < e.height
  · rw [if_pos h3] at h; cases m <;> cases h
  · rw [if_neg h3] at h; exact ⟨by omega, h⟩
/-- all of these lie in a world -/
def Low (w : World) (D : Nat → Prop) : Prop := ∀ n, D n → n < w.heap.size
/-- these, and what was made since -/
def Both (w w' : World) (D : Nat → Prop) : Nat → Prop := fun n => D n ∨ Iv w.heap.size w'.heap.size n
theorem Both.low {w w' : World} {D : Nat → Prop} (h : Low w D) (hs : w.heap.size ≤ w'.heap.size) : ∀ n, Both w w' D n → n < w'.heap.size := fun n hn => hn.elim (fun hn => Nat.lt_of_lt_of_le (h n hn) hs) (fun hn => hn.2)
theorem Both.off {w w' : World} {D : Nat → Prop} {P : Nat} (hP : ¬ D P) (h : P < w.heap.size) : ¬ Both w w' D P := fun hn => hn.elim hP (fun hn => by have := hn.1; omega)
theorem Fr.two_in {s : ByteArray} {l : List Tk} {P g B : Nat} {w0 w : World} {m : Md} {ks : List Kp} {D Dx : Nat → Prop} {e x : Ex} {A A' : Option Addr} {c c' : Nat} (f : PF s l P g w0 m w (blkK B (.cells #[.int .i64 e.op, .string e.name, .int .i64 e.num, .slice A e.k c, .int .i64 e.line, .int .i64 e.col, .int .i64 x.op, .string x.name, .int .i64 x.num, .slice A' x.k c', .int .i64 x.line, .int .i64 x.col] 27 (0, 0)) :: exK Dx x A' c' :: ks)) (hx : ExIn D w0 e A c) (hP : ¬ D P)
    {op : Int} {name : ByteArray} {n ln cl : Int} (h1 : I64 op) (h2 : name.size ≤ maxLen) (h3 : I64 n) (h4 : I64 ln) (h5 : I64 cl) : ExIn (Both w0 w D) w (mkEx op name n [e, x] ln cl) (some ⟨B, 0, none⟩) 2 :=
  inn2 f.blk (.inr ⟨f.head.lo _ rfl, f.head.hi _ rfl⟩) (ExIn.wide (fun _ hn => .inl hn) _ _ _ (ExIn.keep f.gr (fun T hT => by injection hT with hT; subst hT; exact hP) _ _ _ hx)) (ExIn.wide (fun _ hn => .inr hn) _ _ _ (Fr.ex f.tail)) h1 h2 h3 h4 h5
theorem blk2 {w : World} {T : Nat} {v0 v1 : Value} {t : TypeId} (h : w.heap[T]? = some (.cells #[v0, v1] t (0, 0))) : w.cell? ⟨T, 0, none⟩ = some v0 ∧ w.cell? ⟨T, 1, none⟩ = some v1 ∧ w.frozen? ⟨T, 0, none⟩ = false ∧ w.frozen? ⟨T, 1, none⟩ = false :=
  ⟨Lib.cell_of_heap h 0, Lib.cell_of_heap h 1, frozen_none h, frozen_none h⟩
theorem within_then {s : ByteArray} {l : List Tk} {rec : Int → Nat → PR} {i : Nat} {f : Ex → Nat → PR} : withinN s l rec i f = (withinN s l rec i .ok).then f := by
  unfold withinN wantN
  by_cases h : isN l i wOpen = true
  · rw [if_pos h, if_pos h]
    dsimp only
    cases rec 0 (i + 1) with
    | ok e j =>
      simp only [PR.then]
      by_cases h2 : isN l j wShut = true
      · rw [if_pos h2, if_pos h2]
      · rw [if_neg h2, if_neg h2]; rfl
    | bad a b c => rfl
  · rw [if_neg h, if_neg h]; rfl
theorem high2 {op num ln cl : Int} {name : ByteArray} {x y : Ex} (hx : x.height ≤ 30) (hy : y.height ≤ 30) : (mkEx op name num [x, y] ln cl).height ≤ 1000000 := by
  have h := mk_height (op := op) (name := name) (n := num) (ln := ln) (cl := cl) [x, y]
  have := (topOf_in (hs := [(x.height : Int), (y.height : Int)]) (t := 30) (by simp; omega) (by omega)).2
  simp only [List.map_cons, List.map_nil] at h
  omega
theorem high1 {op num ln cl : Int} {name : ByteArray} {x : Ex} (hx : x.height ≤ 30) : (mkEx op name num [x] ln cl).height ≤ 1000000 := by
  have h := mk_height (op := op) (name := name) (n := num) (ln := ln) (cl := cl) [x]
  have := (topOf_in (hs := [(x.height : Int)]) (t := 30) (by simp; omega) (by omega)).2
  simp only [List.map_cons, List.map_nil] at h
  omega
theorem highs {op num ln cl : Int} {name : ByteArray} {es : List Ex} (h : ∀ y ∈ es, y.height ≤ 30) : (mkEx op name num es ln cl).height ≤ 1000000 := by
  have h1 := mk_height (op := op) (name := name) (n := num) (ln := ln) (cl := cl) es
  have := (topOf_in (hs := es.map fun e => (e.height : Int)) (t := 30) (fun x hx => by obtain ⟨y, hy, rfl⟩ := List.mem_map.1 hx; have := h y hy; omega) (by omega)).2
  omega
theorem rwant_yes {s : ByteArray} {l : List Tk} {P g : Nat} {w : World} (hE : Ended l) {i : Nat} (h : Sm s l P g w (.ok i)) {t : ByteArray} (hi : isN l i t.data.toList = true) :
    Calls Try.prog 41 #[.pointer (some ⟨P, 0, none⟩), .string t] w fun r w' => r = .returned (.tuple #[]) ∧ Sm s l P g w' (.ok (i + 1)) ∧ w.grownBy w' (some P) := by
  refine (rwant_m hE h t).mono ?_
  rintro r w1 ⟨rfl, h1, h2⟩
  have hm : Md.want s l (.ok i) t.data.toList = .ok (i + 1) := if_pos hi
  exact ⟨rfl, hm ▸ h1, h2⟩
theorem args_on {s : ByteArray} {l : List Tk} {rec : Int → Nat → PR} {name : ByteArray} {at_ i n : Nat} {es : List Ex} (h : isN l i wComma = true) (hn : n + 1 ≤ 8) : argsN s l rec name at_ (8 - n) es i = (rec 0 (i + 1)).then fun x i1 => argsN s l rec name at_ (8 - (n + 1)) (es ++ [x]) i1 := by
  rw [show 8 - n = (8 - (n + 1)) + 1 by omega]
  conv => lhs; unfold argsN
  rw [if_pos h]
theorem came_high {q : PR} {m : Md} {e : Ex} {t : Int} {i : Nat} (hc : Came q m e t) (ht : ∀ i, m = .ok i → t ≤ 30) (hi : m = .ok i) : e.height ≤ 30 := by
  have h1 := ht i hi
  subst hi
  have := (came_ok hc).2
  omega

set_option maxHeartbeats 4000000 in
set_option maxRecDepth 100000 in
theorem rtwo_m {s : ByteArray} {l : List Tk} {P g : Nat} {L1 : Int} {rec : Int → Nat → PR} (hN : RNext s l P g L1 rec) {w : World} {m : Md} (h : Sm s l P g w m) {D : Nat → Prop} {e : Ex} {A : Option Addr} {c : Nat} (hx : ExIn D w e A c) (hD : Low w D) (hP : ¬ D P) (hle : ∀ i, m = .ok i → e.height ≤ 30) {op l2 c2 st : Int} (hop : I64 op) (h2 : I64 l2 ∧ I64 c2) (hst : 0 ≤ st ∧ st ≤ 9) :
    Calls Try.prog 48 #[.pointer (some ⟨P, 0, none⟩), .int .i64 op, .agg #[.int .i64 l2, .int .i64 c2], e.val A c, .int .i64 st, .int .i64 L1] w fun r w' => ∃ x A1 m', r = .returned ((mkEx op ⟨#[]⟩ 0 [e, x] l2 c2).val (some A1) 2) ∧ ExIn (Both w w' D) w' (mkEx op ⟨#[]⟩ 0 [e, x] l2 c2) (some A1) 2 ∧ Sm s l P g w' m' ∧ w.grownBy w' (some P) ∧ (∀ i, m' = .ok i → (mkEx op ⟨#[]⟩ 0 [e, x] l2 c2).height ≤ 30) ∧ Came (m.seq fun i => (rec st i).then fun r i1 => madeN (mkEx op ⟨#[]⟩ 0 [e, r] l2 c2) i1) m' (mkEx op ⟨#[]⟩ 0 [e, x] l2 c2) (((mkEx op ⟨#[]⟩ 0 [e, x] l2 c2).height : Nat) : Int) := by
  simp only [Ex.val_eq]
  have f_1 := PF.start h
  go_enter Try.func48, Try.ntmps48
  go_upto_region 1 with fail
  have f_2 := f_1.alloc (.cells #[.int .i64 l2, .int .i64 c2] 25)
  have z_2 := alloc_size w (.cells #[.int .i64 l2, .int .i64 c2] 25)
  clear f_1
  generalize w.heap.size = At at *
  generalize w.alloc (.cells #[.int .i64 l2, .int .i64 c2] 25) = W2 at *
  have f_3 := f_2.alloc (.cells #[.int .i64 e.op, .string e.name, .int .i64 e.num, .slice A e.k c, .int .i64 e.line, .int .i64 e.col] 27)
  have z_3 := alloc_size W2 (.cells #[.int .i64 e.op, .string e.name, .int .i64 e.num, .slice A e.k c, .int .i64 e.line, .int .i64 e.col] 27)
  clear f_2
  generalize W2.heap.size = E at *
  generalize W2.alloc (.cells #[.int .i64 e.op, .string e.name, .int .i64 e.num, .slice A e.k c, .int .i64 e.line, .int .i64 e.col] 27) = W3 at *
  rw [← z_2]
  clear z_2
  have f_4 := f_3.alloc (.cells #[.int .i64 0, .string ⟨#[]⟩, .int .i64 0, .slice none 0 0, .int .i64 0, .int .i64 0] 27)
  have z_4 := alloc_size W3 (.cells #[.int .i64 0, .string ⟨#[]⟩, .int .i64 0, .slice none 0 0, .int .i64 0, .int .i64 0] 27)
  clear f_3
  generalize W3.heap.size = R at *
  generalize W3.alloc (.cells #[.int .i64 0, .string ⟨#[]⟩, .int .i64 0, .slice none 0 0, .int .i64 0, .int .i64 0] 27) = W4 at *
  rw [← z_3]
  clear z_3
  clear z_4
  go_wp2_with fail
  refine (hN _ _ f_4.sm).mono ?_
  rintro r W5 ⟨rfl, m_5, t_5, q_5, hS⟩
  have f_5 := f_4.turn t_5 q_5
  clear f_4 t_5 q_5
  go_wp2_with fail
  refine (hS st _ hst.1 hst.2 f_5.sm).mono ?_
  rintro r W6 ⟨ex, Ax, cx, tx, mx, rfl, Gx⟩
  obtain ⟨Dx, f_6⟩ := f_5.expr Gx
  obtain ⟨lowx, topx, okx, camex⟩ := Gx.facts
  clear f_5 Gx
  simp only [Ex.val_eq]
  go_upto_region 3 with fail
  have f_7 := f_6.alloc (.cells #[.int .i64 ex.op, .string ex.name, .int .i64 ex.num, .slice Ax ex.k cx, .int .i64 ex.line, .int .i64 ex.col] 27)
  have z_7 := alloc_size W6 (.cells #[.int .i64 ex.op, .string ex.name, .int .i64 ex.num, .slice Ax ex.k cx, .int .i64 ex.line, .int .i64 ex.col] 27)
  clear f_6
  generalize W6.heap.size = X at *
  generalize W6.alloc (.cells #[.int .i64 ex.op, .string ex.name, .int .i64 ex.num, .slice Ax ex.k cx, .int .i64 ex.line, .int .i64 ex.col] 27) = W7 at *
  clear z_7
  obtain ⟨a0, a1, a2, a3⟩ := blk2 f_7.rot4.blk
  obtain ⟨kE0, kE1, kE2, kE3, kE4, kE5, fE0, fE1, fE2, fE3, fE4, fE5⟩ := blk6 f_7.rot3.blk
  obtain ⟨kX0, kX1, kX2, kX3, kX4, kX5, fX0, fX1, fX2, fX3, fX4, fX5⟩ := blk6 f_7.blk
  go_wp2_with fail
  clear kE0 kE1 kE2 kE3 kE4 kE5 fE0 fE1 fE2 fE3 fE4 fE5 kX0 kX1 kX2 kX3 kX4 kX5 fX0 fX1 fX2 fX3 fX4 fX5 a0 a1 a2 a3
  have f_8 := f_7.alloc (.cells #[.int .i64 e.op, .string e.name, .int .i64 e.num, .slice A e.k c, .int .i64 e.line, .int .i64 e.col, .int .i64 ex.op, .string ex.name, .int .i64 ex.num, .slice Ax ex.k cx, .int .i64 ex.line, .int .i64 ex.col] 27)
  have z_8 := alloc_size W7 (.cells #[.int .i64 e.op, .string e.name, .int .i64 e.num, .slice A e.k c, .int .i64 e.line, .int .i64 e.col, .int .i64 ex.op, .string ex.name, .int .i64 ex.num, .slice Ax ex.k cx, .int .i64 ex.line, .int .i64 ex.col] 27)
  clear f_7
  generalize W7.heap.size = B at *
  generalize W7.alloc (.cells #[.int .i64 e.op, .string e.name, .int .i64 e.num, .slice A e.k c, .int .i64 e.line, .int .i64 e.col, .int .i64 ex.op, .string ex.name, .int .i64 ex.num, .slice Ax ex.k cx, .int .i64 ex.line, .int .i64 ex.col] 27) = W8 at *
  clear z_8
  have fB := f_8.rot2.rot1
  have hdp := rdeep_m f_8.sm (fB.two_in (op := op) (name := ⟨#[]⟩) (n := 0) hx hP hop nil_le (by simp [I64]) h2.1 h2.2) (Both.low hD f_8.gr.size) (Both.off hP (f_8.lt P rfl)) (fun i hi => high2 (hle _ (seq_ok (came_ok (hi ▸ camex.out)).1).choose_spec) (came_high camex.out okx hi))
  clear fB
  rw [show (mkEx op ⟨#[]⟩ 0 [e, ex] l2 c2).val (some ⟨B, 0, none⟩) 2 = .agg #[.int .i64 op, .string ⟨#[]⟩, .int .i64 0, .slice (some ⟨B, 0, none⟩) 2 2, .int .i64 l2, .int .i64 c2] from rfl] at hdp
  refine (hdp).mono ?_
  rintro r W9 ⟨rfl, t_9, q_9⟩
  have f_9 := f_8.turn t_9 q_9
  clear f_8 t_9 q_9
  clear hdp
  obtain ⟨kR0, kR1, kR2, kR3, kR4, kR5, fR0, fR1, fR2, fR3, fR4, fR5⟩ := blk6 f_9.rot3.blk
  go_wp2_with fail
  clear kR0 kR1 kR2 kR3 kR4 kR5 fR0 fR1 fR2 fR3 fR4 fR5
  have f_10 := Fr.set6 f_9.rot3 (.int .i64 op) (.string ⟨#[]⟩) (.int .i64 0) (.slice (some ⟨B, 0, none⟩) 2 2) (.int .i64 l2) (.int .i64 c2)
  clear f_9
  generalize ((((((W9.setCell ⟨R, 0, none⟩ (.int .i64 op)).setCell ⟨R, 1, none⟩ (.string ⟨#[]⟩)).setCell ⟨R, 2, none⟩ (.int .i64 0)).setCell ⟨R, 3, none⟩ (.slice (some ⟨B, 0, none⟩) 2 2)).setCell ⟨R, 4, none⟩ (.int .i64 l2)).setCell ⟨R, 5, none⟩ (.int .i64 c2)) = W10 at *
  have fin := f_10.rot3.rot2
  have hin := fin.two_in (op := op) (name := ⟨#[]⟩) (n := 0) hx hP hop nil_le (by simp [I64]) h2.1 h2.2
  obtain ⟨r0, r1, r2, r3, r4, r5, -⟩ := blk6 f_10.blk
  try simp only [Exit.inBlock, Exit.then]
  refine bodyPost_ret (v := .agg #[.int .i64 op, .string ⟨#[]⟩, .int .i64 0, .slice (some ⟨B, 0, none⟩) 2 2, .int .i64 l2, .int .i64 c2]) (by simp [results, Try.results48, go_sem, r0, r1, r2, r3, r4, r5]) rfl ⟨ex, _, _, rfl, hin, f_10.sm, f_10.gr, fun i hi => (deep_ok hi).1, ?_⟩
  refine deep_came ?_
  rw [← came_then (f := fun r i1 => madeN (mkEx op ⟨#[]⟩ 0 [e, r] l2 c2) i1) camex.out, seq_then]

set_option maxHeartbeats 4000000 in
set_option maxRecDepth 100000 in
theorem rwithin_m {s : ByteArray} {l : List Tk} {P g : Nat} (hE : Ended l) {L L1 : Int} (hL : IntKind.i64.wrap (L + 1) = L1) {rec : Int → Nat → PR} (hN : RNext s l P g L1 rec) {w : World} {m : Md} (h : Sm s l P g w m) :
    Calls Try.prog 72 #[.pointer (some ⟨P, 0, none⟩), .int .i64 L] w fun r w' => ∃ e A c t m', r = .returned (e.val A c) ∧ Got s l P g w (m.seq fun i => withinN s l rec i .ok) 30 w' e A c t m' := by
  go_enter Try.func72, Try.ntmps72
  have f_1 := PF.start h
  go_wp2_with fail
  have f_2 := f_1.alloc (.cells #[.int .i64 0, .string ⟨#[]⟩, .int .i64 0, .slice none 0 0, .int .i64 0, .int .i64 0] 27)
  have z_2 := alloc_size w (.cells #[.int .i64 0, .string ⟨#[]⟩, .int .i64 0, .slice none 0 0, .int .i64 0, .int .i64 0] 27)
  clear f_1
  generalize w.heap.size = R at *
  generalize w.alloc (.cells #[.int .i64 0, .string ⟨#[]⟩, .int .i64 0, .slice none 0 0, .int .i64 0, .int .i64 0] 27) = W2 at *
  clear z_2
  refine (rwant_m hE f_2.sm ⟨#[40]⟩).mono ?_
  rintro r W3 ⟨rfl, t_3, q_3⟩
  have f_3 := f_2.turn t_3 q_3
  clear f_2 t_3 q_3
  go_wp2_with fail
  refine (hN _ _ f_3.sm).mono ?_
  rintro r W4 ⟨rfl, m_4, t_4, q_4, hS⟩
  have f_4 := f_3.turn t_4 q_4
  clear f_3 t_4 q_4
  go_wp2_with fail
  refine (hS 0 _ (by omega) (by omega) f_4.sm).mono ?_
  rintro r W5 ⟨ex, Ax, cx, tx, mx, rfl, Gx⟩
  obtain ⟨Dx, f_5⟩ := f_4.expr Gx
  obtain ⟨lowx, topx, okx, camex⟩ := Gx.facts
  clear f_4 Gx
  simp only [Ex.val_eq]
  go_upto_region 4 with fail
  have f_6 := f_5.alloc (.cells #[.int .i64 ex.op, .string ex.name, .int .i64 ex.num, .slice Ax ex.k cx, .int .i64 ex.line, .int .i64 ex.col] 27)
  have z_6 := alloc_size W5 (.cells #[.int .i64 ex.op, .string ex.name, .int .i64 ex.num, .slice Ax ex.k cx, .int .i64 ex.line, .int .i64 ex.col] 27)
  clear f_5
  generalize W5.heap.size = X at *
  generalize W5.alloc (.cells #[.int .i64 ex.op, .string ex.name, .int .i64 ex.num, .slice Ax ex.k cx, .int .i64 ex.line, .int .i64 ex.col] 27) = W6 at *
  clear z_6
  go_wp2_with fail
  refine (rwant_m hE f_6.sm ⟨#[41]⟩).mono ?_
  rintro r W7 ⟨rfl, t_7, q_7⟩
  have f_7 := f_6.turn t_7 q_7
  clear f_6 t_7 q_7
  obtain ⟨kX0, kX1, kX2, kX3, kX4, kX5, fX0, fX1, fX2, fX3, fX4, fX5⟩ := blk6 f_7.blk
  obtain ⟨kR0, kR1, kR2, kR3, kR4, kR5, fR0, fR1, fR2, fR3, fR4, fR5⟩ := blk6 f_7.rot2.blk
  go_wp2_with fail
  clear kX0 kX1 kX2 kX3 kX4 kX5 fX0 fX1 fX2 fX3 fX4 fX5 kR0 kR1 kR2 kR3 kR4 kR5 fR0 fR1 fR2 fR3 fR4 fR5
  have f_8 := Fr.set6 f_7.rot2 (.int .i64 ex.op) (.string ex.name) (.int .i64 ex.num) (.slice Ax ex.k cx) (.int .i64 ex.line) (.int .i64 ex.col)
  clear f_7
  generalize ((((((W7.setCell ⟨R, 0, none⟩ (.int .i64 ex.op)).setCell ⟨R, 1, none⟩ (.string ex.name)).setCell ⟨R, 2, none⟩ (.int .i64 ex.num)).setCell ⟨R, 3, none⟩ (.slice Ax ex.k cx)).setCell ⟨R, 4, none⟩ (.int .i64 ex.line)).setCell ⟨R, 5, none⟩ (.int .i64 ex.col)) = W8 at *
  have fin := f_8.rot2
  have hcm := want_came (s := s) (l := l) camex.out (⟨#[41]⟩ : ByteArray).data.toList
  rw [seq_then, seq_want] at hcm
  obtain ⟨hh, hG⟩ := Got.mk0 fin.ex f_8.sm f_8.gr lowx (fun i hi => by obtain ⟨j, hj⟩ := want_ok hi; exact okx j hj) hcm
  obtain ⟨r0, r1, r2, r3, r4, r5, -⟩ := blk6 f_8.blk
  try simp only [Exit.inBlock, Exit.then]
  exact bodyPost_ret (v := .agg #[.int .i64 ex.op, .string ex.name, .int .i64 ex.num, .slice Ax ex.k cx, .int .i64 ex.line, .int .i64 ex.col]) (by simp [results, Try.results72, go_sem, r0, r1, r2, r3, r4, r5]) rfl ⟨ex, Ax, cx, hh, _, rfl, hG⟩
end Go.Proofs.Ytnlikhjmmnaknaa
