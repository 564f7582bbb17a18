/-
  What parse.Expr ends in, as a value.
-/
import Derived.Test.YtnlikhjmmnaknaaGreatDoorHAwake14
import Derived.Test.YtnlikhjmmnaknaaGreatDoorGP
namespace Go.Proofs.YtnlikhjmmnaknaaGreatDoor
open Go.RowKit

/-- the first part of a result of two, an expression, is no greater than the text's tokens -/
theorem parse_size {s : ByteArray} {e : Ex} {i : Nat} (h : parseOf s = .ok e i) : e.size ≤ 1000000 := by
  unfold parseOf at h
  cases hsc : scanOf s with
  | bad a b => rw [hsc] at h; cases h
  | toks l =>
    rw [hsc] at h
    obtain ⟨hE, hK, hl0, hl1⟩ := scan_facts hsc
    dsimp only at h
    cases hx : exprN s l 64 0 0 with
    | bad a b c => rw [hx] at h; cases h
    | ok e1 i1 =>
      rw [hx] at h
      have h1 := sz_expr (s := s) (l := l) 64 0 0 e1 i1 hx
      have h2 := expr_adv (s := s) hE 64 0 0 hl0 e1 i1 hx
      have h3 : e1 = e := by
        have h : (if (tkN l i1).kind = 5 then PR.ok e1 i1 else badN s l 21 i1) = PR.ok e i := h
        split at h
        · injection h
        · cases h
      subst h3
      have := h2.2
      omega

/-- the expression that a reading gives, and the fault -/
def outOf (s : ByteArray) : Ex × Int × Int × Int := match parseOf s with
  | .ok e _ => (e, 0, 0, 0)
  | .bad er ln cl => (mkEx 0 ⟨#[]⟩ 0 [] 0 0, er, ln, cl)
theorem out_size (s : ByteArray) : (outOf s).1.size ≤ 1000000 := by
  unfold outOf
  cases h : parseOf s with
  | ok e i => exact parse_size h
  | bad a b c => show (mkEx 0 ⟨#[]⟩ 0 [] 0 0).size ≤ _; rw [mk_size]; decide
theorem out_post {s : ByteArray} {w w' : World} {r : Ending} (h : ExprPost s w r w') : Below w.heap.size w w' ∧ ∃ A c, r = .returned (.tuple #[(outOf s).1.val A c, .agg #[.int .i64 (outOf s).2.1, .int .i64 (outOf s).2.2.1, .int .i64 (outOf s).2.2.2]]) ∧ ExAt w'.heap.size w' (outOf s).1 A c := by
  obtain ⟨hb, hp⟩ := h
  refine ⟨hb, ?_⟩
  unfold outOf
  cases hq : parseOf s with
  | ok e i =>
    rw [hq] at hp
    obtain ⟨A, c, rfl, hin⟩ := hp
    exact ⟨A, c, rfl, ExIn.is (fun n h => h.2) _ _ _ hin⟩
  | bad er ln cl =>
    rw [hq] at hp
    obtain ⟨_, rfl⟩ := hp
    exact ⟨none, 0, rfl, ExIn.is (D := fun n => n < w'.heap.size) (fun n h => h) _ _ _ (ExIn.lit (by unfold I64; omega) (by decide) (by unfold I64; omega) (by unfold I64; omega) (by unfold I64; omega))⟩

end Go.Proofs.YtnlikhjmmnaknaaGreatDoor
