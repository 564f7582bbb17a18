/-
  A trace's text, plain; rows of rows in memory.
-/
import Derived.Test.YtmdnmodjdgcmjaaDoorHTrV
namespace Go.Proofs.YtmdnmodjdgcmjaaDoor
open Go.RowKit

structure Ro where
  l : List Int
  S : Sl
/-- rows of numbers that lie somewhere -/
def RowsAt (w : World) (A : Option Addr) (rs : List Ro) : Prop := ∀ j (h : j < rs.length), ∃ b o, A = some ⟨b, o, none⟩ ∧ w.cell? ⟨b, o + j, none⟩ = some (.slice rs[j].S.A rs[j].l.length rs[j].S.cap) ∧
  IntsAt w rs[j].S.A rs[j].l ∧ rs[j].l.length ≤ maxLen ∧ ∀ v ∈ rs[j].l, I64 v
theorem RowsAt.keep {w W : World} {A : Option Addr} {rs : List Ro} (h : RowsAt w A rs) (hb : Below w.heap.size w W) : RowsAt W A rs := fun j hj => by
  obtain ⟨b, o, hA, hc, hi, h1, h2⟩ := h j hj
  exact ⟨b, o, hA, (hb.cell (p := ⟨b, o + j, none⟩) (cell_lt hc)).trans hc, hi.keep hb, h1, h2⟩
def rosL (rs : List Ro) : List (List Int) := rs.map (·.l)
/-- one line -/
def lineT (ts us : List Int) (k : Nat) (a : List Int) (b : Option (List Int)) : List UInt8 :=
  Lib.itoa (k : Int) ++ [58, 32] ++ rowT ts a ++ [32, 45, 62] ++ (match b with
    | none => []
    | some b => 32 :: rowT us b) ++ [10]
def lineAt (ts us : List Int) (la lb : List (List Int)) (j : Nat) : List UInt8 := lineT ts us j (la.getD j []) lb[j]?
def uptoT (ts us : List Int) (la lb : List (List Int)) : Nat → List UInt8
  | 0 => []
  | n + 1 => uptoT ts us la lb n ++ lineAt ts us la lb n
def okAt (ts us : List Int) (la lb : List (List Int)) (j : Nat) : Bool := fitsT ts (la.getD j []) && (match lb[j]? with
  | none => true
  | some b => fitsT us b)
/-- what Text gives -/
def textW (ts us : List Int) (la lb : List (List Int)) : List UInt8 × Int :=
  if (rightT ts && rightT us) = false then ([], 2) else if la.length < lb.length then ([], 25)
  else if (List.range la.length).all (okAt ts us la lb) = true then (uptoT ts us la lb la.length, 0) else ([], 41)
section
variable {ts us : List Int} {la lb : List (List Int)}
theorem textW_bad (hr : (rightT ts && rightT us) = true) (hl : ¬ la.length < lb.length) {j : Nat} (hj : j < la.length) (h : okAt ts us la lb j = false) : textW ts us la lb = ([], 41) := by
  unfold textW
  rw [if_neg (by rw [hr]; decide), if_neg hl, if_neg]
  intro ha
  have := List.all_eq_true.1 ha j (List.mem_range.2 hj)
  rw [h] at this; cases this
theorem textW_end (hr : (rightT ts && rightT us) = true) (hl : ¬ la.length < lb.length) (h : (List.range la.length).all (okAt ts us la lb) = true) : textW ts us la lb = (uptoT ts us la lb la.length, 0) := by
  unfold textW
  rw [if_neg (by rw [hr]; decide), if_neg hl, if_pos h]
theorem range_more {f : Nat → Bool} {j : Nat} (h : (List.range j).all f = true) (hj : f j = true) : (List.range (j + 1)).all f = true := by
  rw [List.range_succ, List.all_append, h]; simp [hj]
theorem itoa_nat {k : Nat} (h : k ≤ 9223372036854775807) : (Lib.itoa (k : Int)).length ≤ 30 := itoa_30 (by unfold I64; omega)
theorem lineT_len {k : Nat} {a : List Int} {b : Option (List Int)} (hk : k ≤ 9223372036854775807) (ha : (rowT ts a).length ≤ 248) (hb : ∀ x, b = some x → (rowT us x).length ≤ 248) : (lineT ts us k a b).length ≤ 540 := by
  have h1 := itoa_nat hk
  unfold lineT
  cases b with
  | none => simp; omega
  | some x =>
    have := hb x rfl
    simp; omega
theorem upto_le {n : Nat} (h : ∀ j, j < n → (lineAt ts us la lb j).length ≤ 540) : (uptoT ts us la lb n).length ≤ 540 * n := by
  induction n with
  | zero => exact Nat.le_refl _
  | succ n ih =>
    have h1 := ih fun j hj => h j (by omega)
    have h2 := h n (by omega)
    rw [uptoT, List.length_append]
    omega
end
theorem rosL_get {rs : List Ro} {j : Nat} (h : j < rs.length) : (rosL rs).getD j [] = rs[j].l := by
  unfold rosL
  rw [List.getD_eq_getElem?_getD, List.getElem?_map, List.getElem?_eq_getElem h]; rfl
theorem rosL_at {rs : List Ro} {j : Nat} (h : j < rs.length) : (rosL rs)[j]? = some rs[j].l := by
  unfold rosL
  rw [List.getElem?_map, List.getElem?_eq_getElem h]; rfl
theorem rosL_none {rs : List Ro} {j : Nat} (h : ¬ j < rs.length) : (rosL rs)[j]? = none := by
  unfold rosL
  rw [List.getElem?_map, List.getElem?_eq_none (by omega)]; rfl
theorem rosL_len (rs : List Ro) : (rosL rs).length = rs.length := List.length_map ..
/-- a line is short where its rows fit -/
theorem lineAt_len {ts us : List Int} {rs qs : List Ro} {j : Nat} (hj : j < rs.length) (hn : rs.length ≤ 9000000000) (ha : ∀ v ∈ rs[j].l, I64 v) (hb : ∀ h : j < qs.length, ∀ v ∈ qs[j].l, I64 v) (h : okAt ts us (rosL rs) (rosL qs) j = true) : (lineAt ts us (rosL rs) (rosL qs) j).length ≤ 540 := by
  unfold okAt at h
  rw [Bool.and_eq_true, rosL_get hj] at h
  unfold lineAt
  rw [rosL_get hj]
  refine lineT_len (by omega) (rowT_len ha h.1) fun x hx => ?_
  by_cases hq : j < qs.length
  · rw [rosL_at hq] at hx h
    injection hx with hx
    subst hx
    exact rowT_len (hb hq) h.2
  · rw [rosL_none hq] at hx; cases hx
end Go.Proofs.YtmdnmodjdgcmjaaDoor
