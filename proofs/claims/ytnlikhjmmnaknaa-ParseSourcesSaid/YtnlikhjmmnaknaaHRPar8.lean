/-
  The reference's Strong, at every level and strength.
-/
import Derived.Test.YtnlikhjmmnaknaaHRPar6
import Derived.Test.YtnlikhjmmnaknaaHRPar7
namespace Go.Proofs.Ytnlikhjmmnaknaa
open Go.RowKit

section
variable {s : ByteArray} {l : List Tk} {P g : Nat} {L L1 : Int} {rec : Int → Nat → PR}
theorem ralone_any (hE : Ended l) (hK : TkOk s l) (hL : IntKind.i64.wrap (L + 1) = L1) (hN : RNext s l P g L1 rec) (k : Nat) (w : World) (h : Sm s l P g w (.ok k)) :
    Calls Try.prog 45 #[.pointer (some ⟨P, 0, none⟩), .int .i64 L] w fun r w' => ∃ e A c t m', r = .returned (e.val A c) ∧ Got s l P g w (aloneN s l rec k) 30 w' e A c t m' := by
  have hW := fun (m : Md) (w : World) (h : Sm s l P g w m) => rwithin_m hE hL hN h
  by_cases h2 : (tkN l k).kind = 2
  · exact ralone_int hE hK h h2
  by_cases hT : isN l k wTrue = true
  · exact ralone_true hE hK h hT
  by_cases hF : isN l k wFalse = true
  · exact ralone_false hE hK h (eq_false_of_ne_true hT) hF
  by_cases h1 : (tkN l k).kind = 1
  · by_cases ho : isN l (k + 1) wOpen = true
    · exact ralone_call hE hK hL h h1 ho hN
    · exact ralone_var hE hK h h1 (eq_false_of_ne_true ho)
  by_cases hM : isN l k wMerge = true
  · exact ralone_merge hE hK h (eq_false_of_ne_true hT) (eq_false_of_ne_true hF) hM hW
  · exact ralone_in hE h ⟨h1, h2⟩ (eq_false_of_ne_true hT) (eq_false_of_ne_true hF) (eq_false_of_ne_true hM) hW
/-- what Strong gives, where nothing is wrong yet -/
def SGives (s : ByteArray) (l : List Tk) (P g : Nat) (st L : Int) (f : Nat → PR) : Prop :=
  ∀ (k : Nat) (w : World), Sm s l P g w (.ok k) → Calls Try.prog 17 #[.pointer (some ⟨P, 0, none⟩), .int .i64 st, .int .i64 L] w fun r w' => ∃ e A c t m', r = .returned (e.val A c) ∧ Got s l P g w (f k) 30 w' e A c t m'
theorem strong_nine (hE : Ended l) (hK : TkOk s l) (hL : IntKind.i64.wrap (L + 1) = L1) (hN : RNext s l P g L1 rec) : SGives s l P g 9 L (prefN s l rec) := by
  intro k w h
  by_cases q1 : isN l k wMinus = true
  · have ho : op1N l k = 5 := if_pos q1
    refine (rstrong_9minus hE hK h hL hN q1).mono ?_
    rintro r w1 ⟨e, A, c, t, m', rfl, G⟩
    exact ⟨e, A, c, t, m', rfl, G.eq (by unfold prefN; rw [ho]; rfl)⟩
  by_cases q2 : isN l k wNot = true
  · have ho : op1N l k = 6 := by unfold op1N; rw [if_neg q1, if_pos q2]
    refine (rstrong_9not hE hK h hL hN (eq_false_of_ne_true q1) q2).mono ?_
    rintro r w1 ⟨e, A, c, t, m', rfl, G⟩
    exact ⟨e, A, c, t, m', rfl, G.eq (by unfold prefN; rw [ho]; rfl)⟩
  by_cases q3 : isN l k wPre = true
  · have ho : op1N l k = 21 := by unfold op1N; rw [if_neg q1, if_neg q2, if_pos q3]
    refine (rstrong_9pre hE hK h hL hN (eq_false_of_ne_true q1) (eq_false_of_ne_true q2) q3).mono ?_
    rintro r w1 ⟨e, A, c, t, m', rfl, G⟩
    exact ⟨e, A, c, t, m', rfl, G.eq (by unfold prefN; rw [ho]; rfl)⟩
  · have ho : op1N l k = 0 := by unfold op1N; rw [if_neg q1, if_neg q2, if_neg q3]
    refine (rstrong_9no hE h (eq_false_of_ne_true q1) (eq_false_of_ne_true q2) (eq_false_of_ne_true q3) (ralone_any hE hK hL hN)).mono ?_
    rintro r w1 ⟨e, A, c, t, m', rfl, G⟩
    exact ⟨e, A, c, t, m', rfl, G.eq (by unfold prefN; rw [ho]; rfl)⟩
theorem strong_lad (hE : Ended l) (hK : TkOk s l) (hL : IntKind.i64.wrap (L + 1) = L1) (hN : RNext s l P g L1 rec) (hA : Adv l rec) : ∀ n : Nat, n ≤ 8 → SGives s l P g (9 - (n : Int)) L (ladN s l rec n) := by
  intro n
  induction n with
  | zero => intro _; exact strong_nine hE hK hL hN
  | succ n ih =>
    intro hn k w h
    have hS := ih (by omega)
    rcases (by omega : n = 0 ∨ n = 1 ∨ n = 2 ∨ n = 3 ∨ n = 4 ∨ n = 5 ∨ n = 6 ∨ n = 7) with rfl | rfl | rfl | rfl | rfl | rfl | rfl | rfl
    · exact rstrong_many hE hK h hL hN hA (st := 8) (by omega) (fun k w h => hS k w h) rfl
    · exact rstrong_many hE hK h hL hN hA (st := 7) (by omega) (fun k w h => hS k w h) rfl
    · exact rstrong_six hE hK h hL hN hA (fun k w h => hS k w h) rfl
    · exact rstrong_many hE hK h hL hN hA (st := 5) (by omega) (fun k w h => hS k w h) rfl
    · exact rstrong_many hE hK h hL hN hA (st := 4) (by omega) (fun k w h => hS k w h) rfl
    · exact rstrong_3 hE hK h (fun k w h => hS k w h) rfl
    · exact rstrong_lo hE hK h hL hN (st := 2) (by omega) (fun k w h => hS k w h) rfl
    · exact rstrong_lo hE hK h hL hN (st := 1) (by omega) (fun k w h => hS k w h) rfl
/-- at a level: whatever strength, and state -/
theorem strong_level (hE : Ended l) (hK : TkOk s l) (hL : IntKind.i64.wrap (L + 1) = L1) (hN : RNext s l P g L1 rec) (hA : Adv l rec) (st : Int) (h0 : 0 ≤ st) (h9 : st ≤ 9) : SGives s l P g st L (strongN s l rec st.toNat) := by
  by_cases hz : st = 0
  · subst hz
    intro k w h
    by_cases hi : isN l k wIf = true
    · refine (rstrong_0if hE hK h hL hN hi).mono ?_
      rintro r w1 ⟨e, A, c, t, m', rfl, G⟩
      exact ⟨e, A, c, t, m', rfl, G.eq (by show _ = (if _ then _ else _); rw [if_pos (show Int.toNat 0 = 0 from rfl), if_pos hi])⟩
    · refine (rstrong_0no h (eq_false_of_ne_true hi) (fun k w h => strong_lad hE hK hL hN hA 8 (by omega) k w h)).mono ?_
      rintro r w1 ⟨e, A, c, t, m', rfl, G⟩
      exact ⟨e, A, c, t, m', rfl, G.eq (by show _ = (if _ then _ else _); rw [if_pos (show Int.toNat 0 = 0 from rfl), if_neg hi])⟩
  · have hn : st = 9 - ((9 - st.toNat : Nat) : Int) := by omega
    have h1 := strong_lad hE hK hL hN hA (9 - st.toNat) (by omega)
    rw [← hn] at h1
    intro k w h
    refine (h1 k w h).mono ?_
    rintro r w1 ⟨e, A, c, t, m', rfl, G⟩
    exact ⟨e, A, c, t, m', rfl, G.eq (by show _ = (if _ then _ else _); rw [if_neg (by omega)])⟩
end
/-- the next level, of so many that are left -/
theorem rnext_any {s : ByteArray} {l : List Tk} {P g : Nat} (hE : Ended l) (hK : TkOk s l) : ∀ d : Nat, d ≤ 65 → RNext s l P g (65 - (d : Int)) (refN s l d) := by
  intro d
  induction d with
  | zero =>
    intro _ m w h
    refine (rlevel_hi (L := 65 - ((0 : Nat) : Int)) (by omega) h).mono ?_
    rintro r w1 ⟨i, hj, rfl, hs, hg⟩
    refine ⟨rfl, _, hs, hg, fun st w2 _ _ h2 => ?_⟩
    cases m with
    | ok k =>
      obtain rfl : i = k := hj k rfl
      exact rstrong_bad h2
    | bad a b c => exact rstrong_bad h2
  | succ d ih =>
    intro hd m w h
    have hL : IntKind.i64.wrap ((65 - ((d + 1 : Nat) : Int)) + 1) = 65 - (d : Int) := by
      rw [show (65 - ((d + 1 : Nat) : Int)) + 1 = 65 - (d : Int) by omega]
      exact IntWalk.i64_in _ (by omega)
    refine (rlevel_lo (L := 65 - ((d + 1 : Nat) : Int)) (by omega) h).mono ?_
    rintro r w1 ⟨rfl, hs, hg⟩
    refine ⟨rfl, m, hs, hg, fun st w2 h0 h9 h2 => ?_⟩
    cases m with
    | bad a b c => exact rstrong_bad h2
    | ok k =>
      refine (strong_level hE hK hL (ih (by omega)) (expr_ref s hE d ▸ expr_adv hE d) st h0 h9 k w2 h2).mono ?_
      rintro r w3 ⟨e, A, c, t, m', rfl, G⟩
      exact ⟨e, A, c, t, m', rfl, G.eq (if_pos ⟨PSt.lt h2, h0, h9⟩).symm⟩
end Go.Proofs.Ytnlikhjmmnaknaa
