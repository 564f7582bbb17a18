/-
  How great the expressions of a source are that was read; the source of a text, and the fault.
-/
import Derived.Test.YtnlikhjmmnaknaaGreatDoorGS
import Derived.Test.YtnlikhjmmnaknaaGreatDoorGP
import Derived.Test.YtnlikhjmmnaknaaGreatDoorHParO
namespace Go.Proofs.YtnlikhjmmnaknaaGreatDoor
open Go.RowKit

section
variable {s : ByteArray} {l : List Tk}
theorem ex_size (hE : Ended l) (m : Md) : (exP s l m).1.size ≤ l.length := by
  unfold exP
  cases m with
  | bad a b c => exact Nat.zero_le _
  | ok i =>
    show (match exprN s l 64 0 i with | .ok e i => (e, Md.ok i) | .bad a b c => (.junk, .bad a b c)).1.size ≤ _
    by_cases hi : i < l.length
    · cases hx : exprN s l 64 0 i with
      | bad a b c => exact Nat.zero_le _
      | ok e j =>
        have h1 := sz_expr (s := s) (l := l) 64 0 i e j hx
        have h2 := (expr_adv (s := s) hE 64 0 i hi e j hx).2
        show e.size ≤ _
        omega
    · rw [show exprN s l 64 0 i = .bad 0 0 0 from if_neg (fun h => hi h.1)]
      exact Nat.zero_le _
theorem eqs_size (hE : Ended l) : ∀ (k : Nat) (xs : List EqE) (m : Md), (∀ q ∈ xs, q.right.size ≤ l.length) → ∀ q ∈ (eqsGo s l k xs m).1, q.right.size ≤ l.length := by
  intro k
  induction k with
  | zero => intro xs m h; exact h
  | succ k ih =>
    intro xs m h
    have h2 : ∀ q ∈ xs ++ [(eqP s l xs.length m).1], q.right.size ≤ l.length := fun q hq => by
      rcases List.mem_append.1 hq with hq | hq
      · exact h q hq
      · obtain rfl : q = _ := List.mem_singleton.1 hq
        exact ex_size hE _
    unfold eqsGo
    split
    · exact h2
    · exact ih _ _ h2
theorem src_size (hE : Ended l) : ∀ (k : Nat) (xs : List NodeE) (m : Md), (∀ n ∈ xs, ∀ q ∈ n.eqs, q.right.size ≤ l.length) → ∀ n ∈ (srcGo s l k xs m).1, ∀ q ∈ n.eqs, q.right.size ≤ l.length := by
  intro k
  induction k with
  | zero => intro xs m h; exact h
  | succ k ih =>
    intro xs m h
    have h2 : ∀ m0, ∀ n ∈ xs ++ [(nodeP s l m0).1], ∀ q ∈ n.eqs, q.right.size ≤ l.length := fun m0 n hn => by
      rcases List.mem_append.1 hn with hn | hn
      · exact h n hn
      · obtain rfl : n = _ := List.mem_singleton.1 hn
        exact eqs_size hE 49 [] _ (by simp)
    unfold srcGo
    dsimp only
    generalize (if xs.length = 16 ∧ m.is l wNode = true then m.err s l 3 else m) = m0
    split
    · exact h2 m0
    · exact ih _ _ (h2 m0)
end
/-- the source that a reading gives, and the fault -/
def outS (s : ByteArray) : List NodeE × Int × Int × Int := match sourceOf s with
  | (xs, .ok _) => (xs, 0, 0, 0)
  | (_, .bad er ln cl) => ([], er, ln, cl)
theorem outS_size (s : ByteArray) : ∀ n ∈ (outS s).1, ∀ q ∈ n.eqs, q.right.size ≤ 1000000 := by
  unfold outS sourceOf
  cases hsc : scanOf s with
  | bad e p => intro n hn; exact absurd hn (by simp)
  | toks l =>
    obtain ⟨hE, hK, hl0, hl1⟩ := scan_facts hsc
    have h := src_size (s := s) hE 17 [] (.ok 0) (by simp)
    dsimp only
    generalize srcGo s l 17 [] (.ok 0) = q at *
    obtain ⟨xs, m⟩ := q
    cases m with
    | ok i => exact fun n hn q hq => Nat.le_trans (h n hn q hq) (by omega)
    | bad a b c => intro n hn; exact absurd hn (by simp)
end Go.Proofs.YtnlikhjmmnaknaaGreatDoor
