/-
  The walk of the statement ParseExprs.
-/
import Derived.Test.YtnlikhjmmnaknaaHAwake14
import Derived.Test.YtnlikhjmmnaknaaHPlaces
import Derived.Test.YtnlikhjmmnaknaaGP
import Derived.Test.YtnlikhjmmnaknaaHRPar9
namespace Go.Proofs.Ytnlikhjmmnaknaa
open Go.RowKit

theorem rparse_any (s : ByteArray) (w : World) (hs : s.size ≤ maxLen) : Calls Try.prog 7 #[.string s] w (ExprPost s w) := by
  cases hsc : scanOf s with
  | bad e p => exact rparse_none s w hs hsc
  | toks l => exact rparse_some s w hs hsc

/-- the first part of a result of two, an expression, is no greater than the text's tokens -/
theorem parse_size {s : ByteArray} {e : Ex} {i : Nat} (h : parseOf s = .ok e i) : e.size ≤ 1000000 := by
  unfold parseOf at h
  cases hsc : scanOf s with
  | bad a b => rw [hsc] at h; cases h
  | toks l =>
    rw [hsc] at h
    obtain ⟨hE, hK, hl0, hl1⟩ := scan_facts hsc
    dsimp only at h
    cases hx : exprN s l 64 0 0 with
    | bad a b c => rw [hx] at h; cases h
    | ok e1 i1 =>
      rw [hx] at h
      have h1 := sz_expr (s := s) (l := l) 64 0 0 e1 i1 hx
      have h2 := expr_adv (s := s) hE 64 0 0 hl0 e1 i1 hx
      have h3 : e1 = e := by
        have h : (if (tkN l i1).kind = 5 then PR.ok e1 i1 else badN s l 21 i1) = PR.ok e i := h
        split at h
        · injection h
        · cases h
      subst h3
      have := h2.2
      omega

/-- the expression that a reading gives, and the fault -/
def outOf (s : ByteArray) : Ex × Int × Int × Int := match parseOf s with
  | .ok e _ => (e, 0, 0, 0)
  | .bad er ln cl => (mkEx 0 ⟨#[]⟩ 0 [] 0 0, er, ln, cl)
theorem out_size (s : ByteArray) : (outOf s).1.size ≤ 1000000 := by
  unfold outOf
  cases h : parseOf s with
  | ok e i => exact parse_size h
  | bad a b c => show (mkEx 0 ⟨#[]⟩ 0 [] 0 0).size ≤ _; rw [mk_size]; decide
theorem out_post {s : ByteArray} {w w' : World} {r : Ending} (h : ExprPost s w r w') : Below w.heap.size w w' ∧ ∃ A c, r = .returned (.tuple #[(outOf s).1.val A c, .agg #[.int .i64 (outOf s).2.1, .int .i64 (outOf s).2.2.1, .int .i64 (outOf s).2.2.2]]) ∧ ExAt w'.heap.size w' (outOf s).1 A c := by
  obtain ⟨hb, hp⟩ := h
  refine ⟨hb, ?_⟩
  unfold outOf
  cases hq : parseOf s with
  | ok e i =>
    rw [hq] at hp
    obtain ⟨A, c, rfl, hin⟩ := hp
    exact ⟨A, c, rfl, ExIn.is (fun n h => h.2) _ _ _ hin⟩
  | bad er ln cl =>
    rw [hq] at hp
    obtain ⟨_, rfl⟩ := hp
    exact ⟨none, 0, rfl, ExIn.is (D := fun n => n < w'.heap.size) (fun n h => h) _ _ _ (ExIn.lit (by unfold I64; omega) (by decide) (by unfold I64; omega) (by unfold I64; omega) (by unfold I64; omega))⟩

set_option maxRecDepth 100000 in
set_option maxHeartbeats 4000000 in
theorem parseExprs_any (s : ByteArray) (w : World) (hs : s.size ≤ maxLen) :
    Calls Try.prog 3 #[.string s] w fun r w' => r = .returned (.bool true) ∧ Below w.heap.size w w' := by
  have hx := fun W => parse_any s W hs
  have hy := fun W => rparse_any s W hs
  have hz := out_size s
  have HX := hid hx
  have HY := hid hy
  clear hx hy
  go_enter Try.func3, Try.ntmps3
  have f_0 := Fr.start0 w
  go_wp2_with fail
  refine (awake14_any _).mono ?_
  rintro r w1 ⟨rfl, hb⟩
  have f_1 := f_0.below hb
  clear hb f_0
  have hsl : (s.size : Int) ≤ 9223372036854775807 := by unfold maxLen at hs; omega
  by_cases hl : s.size ≤ 1000
  · go_wp2_with fail
    refine (HX.out w1).mono ?_
    intro r w2 hp
    obtain ⟨hb, A, c, rfl, hin⟩ := out_post hp
    clear hp
    have f_2 := f_1.below hb
    clear f_1 hb
    generalize hout : outOf s = q at *
    obtain ⟨e, er, ln, cl⟩ := q
    simp only [Ex.val]
    go_upto_region 6 with fail
    have f_3 := f_2.alloc (.cells #[.int .i64 e.op, .string e.name, .int .i64 e.num, .slice A e.k c, .int .i64 e.line, .int .i64 e.col] 27)
    have z_3 := alloc_size w2 (.cells #[.int .i64 e.op, .string e.name, .int .i64 e.num, .slice A e.k c, .int .i64 e.line, .int .i64 e.col] 27)
    have hin3 := hin.below (Nat.le_refl _) ((Below.refl w2.heap.size w2).alloc (Nat.le_refl _) (.cells #[.int .i64 e.op, .string e.name, .int .i64 e.num, .slice A e.k c, .int .i64 e.line, .int .i64 e.col] 27))
    clear f_2 hin
    generalize hX : w2.heap.size = X at *
    generalize w2.alloc (.cells #[.int .i64 e.op, .string e.name, .int .i64 e.num, .slice A e.k c, .int .i64 e.line, .int .i64 e.col] 27) = W3 at *
    have f_4 := f_3.alloc (.cells #[.int .i64 er, .int .i64 ln, .int .i64 cl] 30)
    have hin4 := hin3.below (by omega) ((Below.refl W3.heap.size W3).alloc (Nat.le_refl _) (.cells #[.int .i64 er, .int .i64 ln, .int .i64 cl] 30))
    have z_4 := alloc_size W3 (.cells #[.int .i64 er, .int .i64 ln, .int .i64 cl] 30)
    clear f_3 hin3
    rw [← z_3]
    replace z_3 := Nat.le_of_eq z_3.symm
    replace z_4 := Nat.le_of_eq z_4.symm
    generalize hF : W3.heap.size = F at *
    generalize W3.alloc (.cells #[.int .i64 er, .int .i64 ln, .int .i64 cl] 30) = W4 at *
    go_wp2_with fail
    refine (HY.out W4).mono ?_
    intro r w5 hp
    obtain ⟨hb, A', c', rfl, hin'⟩ := out_post hp
    rw [hout] at hin' ⊢
    clear hp
    have f_5 := f_4.below hb
    have hin5 := hin4.below (by omega) hb
    have z_5 := hb.size
    clear f_4 hb hin4
    simp only [Ex.val]
    go_upto_region 7 with fail
    have f_6 := f_5.alloc (.cells #[.int .i64 e.op, .string e.name, .int .i64 e.num, .slice A' e.k c', .int .i64 e.line, .int .i64 e.col] 27)
    have z_6 := alloc_size w5 (.cells #[.int .i64 e.op, .string e.name, .int .i64 e.num, .slice A' e.k c', .int .i64 e.line, .int .i64 e.col] 27)
    have hin6 := hin5.below (by omega) ((Below.refl w5.heap.size w5).alloc (Nat.le_refl _) (.cells #[.int .i64 e.op, .string e.name, .int .i64 e.num, .slice A' e.k c', .int .i64 e.line, .int .i64 e.col] 27))
    have hin6' := hin'.below (Nat.le_refl _) ((Below.refl w5.heap.size w5).alloc (Nat.le_refl _) (.cells #[.int .i64 e.op, .string e.name, .int .i64 e.num, .slice A' e.k c', .int .i64 e.line, .int .i64 e.col] 27))
    clear f_5 hin5 hin'
    generalize hY : w5.heap.size = Y at *
    generalize w5.alloc (.cells #[.int .i64 e.op, .string e.name, .int .i64 e.num, .slice A' e.k c', .int .i64 e.line, .int .i64 e.col] 27) = W6 at *
    have f_7 := f_6.alloc (.cells #[.int .i64 er, .int .i64 ln, .int .i64 cl] 30)
    have hin7 := hin6.below (by omega) ((Below.refl W6.heap.size W6).alloc (Nat.le_refl _) (.cells #[.int .i64 er, .int .i64 ln, .int .i64 cl] 30))
    have hin7' := hin6'.below (by omega) ((Below.refl W6.heap.size W6).alloc (Nat.le_refl _) (.cells #[.int .i64 er, .int .i64 ln, .int .i64 cl] 30))
    have z_7 := alloc_size W6 (.cells #[.int .i64 er, .int .i64 ln, .int .i64 cl] 30)
    clear f_6 hin6 hin6'
    rw [← z_6]
    replace z_6 := Nat.le_of_eq z_6.symm
    replace z_7 := Nat.le_of_eq z_7.symm
    generalize hG : W6.heap.size = G at *
    generalize W6.alloc (.cells #[.int .i64 er, .int .i64 ln, .int .i64 cl] 30) = W7 at *
    have hpl := rplaces_same e Y A A' c c' W7 (hin7.more (by omega) _ _ _) hin7' (by omega) hz
    have HPL := hid hpl
    clear hpl hin7 hin7'
    unfold Ex.val at HPL
    obtain ⟨x0, x1, x2, x3, x4, x5, -⟩ := blk6 f_7.rot3.blk
    obtain ⟨y0, y1, y2, y3, y4, y5, -⟩ := blk6 f_7.rot1.blk
    obtain ⟨u0, u1, u2, -⟩ := blk3 f_7.rot2.blk
    obtain ⟨v0, v1, v2, -⟩ := blk3 f_7.blk
    clear hX hF hY hG z_3 z_4 z_5 z_6 z_7 hout hz
    go_wp2_with fail
    refine HPL.out.mono ?_
    rintro r w8 ⟨rfl, hb⟩
    have f_8 := f_7.below hb
    go_wp2_with fail
    go_ret
    exact ⟨rfl, f_8.low⟩
  · go_wp2_with fail
    go_ret
    exact ⟨rfl, f_1.low⟩
end Go.Proofs.Ytnlikhjmmnaknaa
