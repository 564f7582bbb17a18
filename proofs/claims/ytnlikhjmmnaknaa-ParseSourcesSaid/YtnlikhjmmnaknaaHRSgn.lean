/-
  The signs of a strength, in plain Lean.
-/
import Derived.Test.YtnlikhjmmnaknaaHRPar3
namespace Go.Proofs.Ytnlikhjmmnaknaa
open Go.RowKit

def sgL : List ByteArray := [⟨#[45, 62]⟩, ⟨#[102, 98, 121]⟩, ⟨#[111, 114]⟩, ⟨#[120, 111, 114]⟩, ⟨#[97, 110, 100]⟩, ⟨#[61]⟩, ⟨#[60, 62]⟩, ⟨#[60]⟩, ⟨#[60, 61]⟩, ⟨#[62]⟩, ⟨#[62, 61]⟩, ⟨#[43]⟩, ⟨#[45]⟩, ⟨#[42]⟩, ⟨#[47]⟩, ⟨#[37]⟩]
def opL : List Int := [23, 22, 19, 20, 18, 12, 13, 14, 15, 16, 17, 7, 8, 9, 10, 11]
def stL : List Int := [1, 2, 4, 4, 5, 6, 6, 6, 6, 6, 6, 7, 7, 8, 8, 8]
def sgn (j : Nat) : ByteArray := sgL[j]?.getD ⟨#[]⟩
def opv (j : Nat) : Int := opL[j]?.getD 0
def stv (j : Nat) : Int := stL[j]?.getD 0
theorem arr_cell {w : World} {T j : Nat} {cs : List Value} {t : TypeId} {fr : Nat × Nat} {v : Value} (h : w.heap[T]? = some (.cells cs.toArray t fr)) (hj : cs[j]? = some v) : w.cell? ⟨T, j, none⟩ = some v := by
  simp [World.cell?, h, hj]
theorem sg_get {j : Nat} (h : j < 16) : (sgL.map Value.string)[j]? = some (.string (sgn j)) := by
  rw [List.getElem?_map]; unfold sgn
  rw [List.getElem?_eq_getElem (show j < sgL.length from h)]; rfl
theorem op_get {j : Nat} (h : j < 16) : (opL.map (Value.int .i64))[j]? = some (.int .i64 (opv j)) := by
  rw [List.getElem?_map]; unfold opv
  rw [List.getElem?_eq_getElem (show j < opL.length from h)]; rfl
theorem st_get {j : Nat} (h : j < 16) : (stL.map (Value.int .i64))[j]? = some (.int .i64 (stv j)) := by
  rw [List.getElem?_map]; unfold stv
  rw [List.getElem?_eq_getElem (show j < stL.length from h)]; rfl
theorem tab_op : ∀ j : Nat, j < 16 → opText (sgn j).data.toList = opv j ∧ strOf (opv j) = stv j ∧ opv j ≠ 0 := by decide
theorem tab_bd : ∀ j : Nat, j < 16 → 0 ≤ stv j ∧ stv j ≤ 9 ∧ 0 ≤ opv j ∧ opv j ≤ 27 := by decide
/-- the op of a strength that comes; 0: there is none -/
def sgN (l : List Tk) (st : Int) (i : Nat) : Int := if opN l i ≠ 0 ∧ strOf (opN l i) = st then opN l i else 0
theorem sgn_yes {l : List Tk} {st : Int} {i j : Nat} (hj : j < 16) (hs : stv j = st) (hi : isN l i (sgn j).data.toList = true) : sgN l st i = opv j := by
  obtain ⟨h1, h2, h3⟩ := tab_op j hj
  unfold isN at hi
  simp only [Bool.and_eq_true, Bool.or_eq_true, beq_iff_eq] at hi
  have ho : opN l i = opv j := by unfold opN; rw [if_pos hi.1, hi.2, h1]
  unfold sgN
  rw [ho, if_pos ⟨h3, h2.trans hs⟩]
theorem text_of {t : List UInt8} (h : opText t ≠ 0) (h24 : opText t ≠ 24) : ∃ j, j < 16 ∧ t = (sgn j).data.toList := by
  by_cases c0 : t = [45, 62]
  · exact ⟨0, by decide, c0⟩
  by_cases c1 : t = [102, 98, 121]
  · exact ⟨1, by decide, c1⟩
  by_cases c2 : t = wWhen
  · subst c2; exact absurd rfl h24
  by_cases c3 : t = [111, 114]
  · exact ⟨2, by decide, c3⟩
  by_cases c4 : t = [120, 111, 114]
  · exact ⟨3, by decide, c4⟩
  by_cases c5 : t = [97, 110, 100]
  · exact ⟨4, by decide, c5⟩
  by_cases c6 : t = [43]
  · exact ⟨11, by decide, c6⟩
  by_cases c7 : t = [45]
  · exact ⟨12, by decide, c7⟩
  by_cases c8 : t = [42]
  · exact ⟨13, by decide, c8⟩
  by_cases c9 : t = [47]
  · exact ⟨14, by decide, c9⟩
  by_cases c10 : t = [37]
  · exact ⟨15, by decide, c10⟩
  by_cases c11 : t = [61]
  · exact ⟨5, by decide, c11⟩
  by_cases c12 : t = [60, 62]
  · exact ⟨6, by decide, c12⟩
  by_cases c13 : t = [60]
  · exact ⟨7, by decide, c13⟩
  by_cases c14 : t = [60, 61]
  · exact ⟨8, by decide, c14⟩
  by_cases c15 : t = [62]
  · exact ⟨9, by decide, c15⟩
  by_cases c16 : t = [62, 61]
  · exact ⟨10, by decide, c16⟩
  exfalso
  apply h
  unfold opText
  rw [if_neg c0, if_neg c1, if_neg c2, if_neg c3, if_neg c4, if_neg c5, if_neg c6, if_neg c7, if_neg c8, if_neg c9, if_neg c10, if_neg c11, if_neg c12, if_neg c13, if_neg c14, if_neg c15, if_neg c16]
theorem sgn_no {l : List Tk} {st : Int} {i : Nat} (h3 : st ≠ 3) (h : ∀ j, j < 16 → stv j = st → isN l i (sgn j).data.toList = false) : sgN l st i = 0 := by
  unfold sgN
  by_cases hc : opN l i ≠ 0 ∧ strOf (opN l i) = st
  · exfalso
    obtain ⟨h0, h1⟩ := hc
    have hk := (op_range h0).1
    have ht : opN l i = opText (tkN l i).text.data.toList := by unfold opN; rw [if_pos hk]
    rw [ht] at h0 h1
    have h24 : opText (tkN l i).text.data.toList ≠ 24 := fun e => by rw [e] at h1; exact h3 h1.symm
    obtain ⟨j, hj, hjt⟩ := text_of h0 h24
    obtain ⟨h5, h6, h7⟩ := tab_op j hj
    have h8 := h j hj (by rw [← h6, ← h5, ← hjt]; exact h1)
    unfold isN at h8
    rw [hjt] at h8
    rcases hk with hk | hk <;> simp [hk] at h8
  · rw [if_neg hc]
def Md.sgn (l : List Tk) (st : Int) (m : Md) : Int := match m with
  | .ok i => sgN l st i
  | .bad _ _ _ => 0
theorem msgn_yes {l : List Tk} {st : Int} {m : Md} {j : Nat} (hj : j < 16) (hs : stv j = st) (hi : m.is l (sgn j).data.toList = true) : m.sgn l st = opv j := by
  cases m with
  | ok i => exact sgn_yes hj hs hi
  | bad a b c => cases hi
theorem msgn_no {l : List Tk} {st : Int} {m : Md} (h3 : st ≠ 3) (h : ∀ j, j < 16 → stv j = st → m.is l (sgn j).data.toList = false) : m.sgn l st = 0 := by
  cases m with
  | ok i => exact sgn_no h3 h
  | bad a b c => rfl
end Go.Proofs.Ytnlikhjmmnaknaa
