/-
  A source whose places are other ones: plain facts.
-/
import Derived.Test.YtnlikhjmmnaknaaDoorGG
namespace Go.Proofs.YtnlikhjmmnaknaaDoor
open Go.RowKit

def Ex.setAt (e : Ex) (l c : Int) : Ex := match e with | .junk => .junk | .mk op name n k arg _ _ => .mk op name n k arg l c
def mvQ (l c : Int) (q : EqE) : EqE := ⟨q.left, q.right.setAt l c, l, c⟩
def mvN (l c : Int) (n : NodeE) : NodeE := ⟨n.name, n.ins, n.outs, n.vars, n.eqs.map (mvQ l c), l, c⟩

theorem setAt_txt (e : Ex) (l c : Int) (least : Int) : (e.setAt l c).txt least = e.txt least := by cases e <;> rfl
theorem setAt_height (e : Ex) (l c : Int) : (e.setAt l c).height = e.height := by cases e <;> rfl
theorem setAt_right (e : Ex) (l c : Int) : (e.setAt l c).right = e.right := by cases e <;> rfl
theorem setAt_op (e : Ex) (l c : Int) : (e.setAt l c).op = e.op := by cases e <;> rfl
theorem setAt_name (e : Ex) (l c : Int) : (e.setAt l c).name = e.name := by cases e <;> rfl
theorem setAt_num (e : Ex) (l c : Int) : (e.setAt l c).num = e.num := by cases e <;> rfl
theorem setAt_k (e : Ex) (l c : Int) : (e.setAt l c).k = e.k := by cases e <;> rfl
theorem setAt_at {B : Nat} {w : World} {e : Ex} {A : Option Addr} {cap : Nat} (h : ExAt B w e A cap) {l c : Int} (hl : I64 l) (hc : I64 c) : ExAt B w (e.setAt l c) A cap := by
  obtain _ | ⟨op, name, n, k, arg, l0, c0⟩ := e
  · exact h.elim
  · obtain ⟨⟨h1, h2, h3, _, _, h6, h7⟩, h8⟩ := h
    exact ⟨⟨h1, h2, h3, hl, hc, h6, h7⟩, h8⟩
theorem setAt_line {B : Nat} {w : World} {e : Ex} {A : Option Addr} {cap : Nat} (h : ExAt B w e A cap) (l c : Int) : (e.setAt l c).line = l ∧ (e.setAt l c).col = c := by
  obtain _ | ⟨op, name, n, k, arg, l0, c0⟩ := e
  · exact h.elim
  · exact ⟨rfl, rfl⟩

theorem atL_map {α β : Type} (f : β → List UInt8) (g : α → β) (xs : List α) : atL f (xs.map g) = atL (fun x => f (g x)) xs := by
  funext i
  unfold atL
  rw [List.getElem?_map]
  cases xs[i]? <;> rfl
theorem all_map' {α β : Type} (p : β → Bool) (g : α → β) (xs : List α) : (xs.map g).all p = xs.all fun x => p (g x) := by rw [List.all_map]; rfl

theorem eqTxt_mv (l c : Int) (q : EqE) : eqTxt (mvQ l c q) = eqTxt q := by unfold eqTxt mvQ; simp only [setAt_txt]
theorem eqB_mv (l c : Int) (q : EqE) : eqB (mvQ l c q) = eqB q := by unfold eqB mvQ; simp only [setAt_right]
theorem nodeTxt_mv (l c : Int) (n : NodeE) : nodeTxt (mvN l c n) = nodeTxt n := by
  unfold nodeTxt nodeHead nodeVars mvN
  simp only [atL_map, List.length_map]
  simp only [eqTxt_mv]
theorem nodeB_mv (l c : Int) (n : NodeE) : nodeB (mvN l c n) = nodeB n := by
  unfold nodeB mvN
  simp only [all_map', List.length_map]
  simp only [eqB_mv]
theorem srcTxt_mv (l c : Int) (s : List NodeE) : srcTxt (s.map (mvN l c)) = srcTxt s := by
  unfold srcTxt
  simp only [atL_map, List.length_map]
  simp only [nodeTxt_mv]
theorem srcB_mv (l c : Int) (s : List NodeE) : srcB (s.map (mvN l c)) = srcB s := by
  unfold srcB
  simp only [all_map', List.length_map]
  simp only [nodeB_mv]
theorem shown_mv (l c : Int) (s : List NodeE) : shownS (s.map (mvN l c)) = shownS s := by
  unfold shownS
  rw [srcTxt_mv, srcB_mv]

/-- rows of cells, so many each -/
theorem flat_at {α : Type} (cells : α → List Value) (sz : Nat) (hsz : ∀ y, (cells y).length = sz) (ys : List α) (j : Nat) (h : j < ys.length) (i : Nat) (hi : i < sz) : (ys.flatMap cells)[j * sz + i]? = (cells ys[j])[i]? := by
  induction ys generalizing j with
  | nil => simp at h
  | cons y ys ih =>
    have hl := hsz y
    cases j with
    | zero => rw [List.flatMap_cons, List.getElem?_append_left (by omega)]; simp
    | succ j =>
      rw [List.flatMap_cons, List.getElem?_append_right (by rw [hl, Nat.succ_mul]; omega), show (j + 1) * sz + i - (cells y).length = j * sz + i by rw [hl, Nat.succ_mul]; omega, ih j (by simpa using h)]
      simp
theorem flat_size {α : Type} (cells : α → List Value) (sz : Nat) (hsz : ∀ y, (cells y).length = sz) (ys : List α) : (ys.flatMap cells).length = ys.length * sz := by
  induction ys with
  | nil => simp
  | cons y ys ih => rw [List.flatMap_cons, List.length_append, ih, hsz, List.length_cons, Nat.succ_mul]; omega
end Go.Proofs.YtnlikhjmmnaknaaDoor
