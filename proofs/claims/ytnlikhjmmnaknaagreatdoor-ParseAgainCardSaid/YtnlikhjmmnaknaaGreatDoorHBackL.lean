/-
  What is shown of a right expression, of a right source, is read as the same.
-/
import Derived.Test.YtnlikhjmmnaknaaGreatDoorHBackS
import Derived.Test.YtnlikhjmmnaknaaGreatDoorHParO
import Derived.Test.YtnlikhjmmnaknaaGreatDoorGW
import Derived.Test.YtnlikhjmmnaknaaGreatDoorGF
namespace Go.Proofs.YtnlikhjmmnaknaaGreatDoor
open Go.RowKit

theorem like_same : ∀ e e' : Ex, e.like e' → e.same e' = true := by
  intro e
  induction e with
  | junk => intro e' h; exact h.elim
  | mk op name n k arg l c ih =>
    intro e' h
    obtain ⟨h1, h2, h3, h4, h5⟩ := h
    have h6 := allTo_true (f := fun i => (arg i).same (e'.arg i)) k fun i hi => ih i _ (h5 i hi)
    show (op == e'.op && name.data.toList == e'.name.data.toList && n == e'.num && k == e'.k && allTo (fun i => (arg i).same (e'.arg i)) k) = true
    rw [h1, h2, h3, h4, h6]
    simp
theorem AllLike.zip {α : Type} {p : α → α → Prop} {q : α → α → Bool} {xs ys : List α} (h : AllLike p xs ys) (hq : ∀ a b, p a b → q a b = true) : zipB q xs ys = true := zip_all h.1 fun j h1 h2 => hq _ _ (h.2 j h1 h2)
theorem strS_selfB (x : ByteArray) : strS x x = true := by rw [strS_eq]; simp
theorem litS_selfB (c : LitE) : litS c c = true := by unfold litS; rw [strS_selfB]; simp
theorem var_same {a b : VarE} (h : a.like b) : varS a b = true := by
  obtain ⟨h1, h2, h3⟩ := h
  unfold varS
  rw [h1, h2, h3, strS_selfB, zip_self fun c _ => litS_selfB c]
  simp
theorem eqn_same {a b : EqE} (h : a.like b) : eqnS a b = true := by
  obtain ⟨h1, h2⟩ := h
  unfold eqnS
  rw [h1, zip_self fun c _ => strS_selfB c, like_same _ _ h2]
  rfl
theorem node_same {a b : NodeE} (h : a.like b) : nodeS a b = true := by
  obtain ⟨h1, h2, h3, h4, h5⟩ := h
  unfold nodeS
  rw [h1, strS_selfB, h2.zip fun _ _ => var_same, h3.zip fun _ _ => var_same, h4.zip fun _ _ => var_same, h5.zip fun _ _ => eqn_same]
  rfl

/-! right ones whose numbers are ints of Go -/
theorem fine_of : ∀ {B : Nat} {w : World} (e : Ex) (A : Option Addr) (cap : Nat), ExAt B w e A cap → e.ok → e.fine := by
  intro B w e
  induction e with
  | junk => intro A cap h; exact h.elim
  | mk op name n k arg l c ih =>
    intro A cap h hk
    refine ⟨hk.1, by have := h.1.2.2.1; unfold I64 at this; omega, fun i hi => ?_⟩
    obtain ⟨b, o, A', cap', _, _, _, hr⟩ := h.2 i hi
    exact ih i A' cap' hr (hk.2 i hi)
theorem right_height {e : Ex} (h : e.right = true) : e.height ≤ 30 := by
  unfold Ex.right at h
  rw [Bool.and_eq_true] at h
  exact of_decide_eq_true h.2
theorem var_fine {v : VarE} (h : varB v = true) : v.fine := by
  unfold varB at h
  simp only [Bool.and_eq_true, Bool.or_eq_true, beq_iff_eq, decide_eq_true_eq, List.all_eq_true] at h
  exact ⟨h.1.1.2, h.1.2, fun c hc => h.1.1.1 c hc, h.2⟩
theorem eq_fine {B : Nat} {w : World} {q : EqE} {S : Sl} {A : Option Addr} {cap : Nat} (hq : EqIs B w q S A cap) (h : eqB q = true) : q.fine := by
  unfold eqB at h
  simp only [Bool.and_eq_true, decide_eq_true_eq, List.all_eq_true] at h
  exact ⟨fun x hx => h.1.1.1 x hx, h.1.1.2, h.1.2, fine_of _ _ _ hq.right (ok_of_right hq.right h.2), right_height h.2⟩

theorem many_fine {l : List VarE} {least most : Nat} (h : manyB l least most = true) : (∀ v ∈ l, v.fine) ∧ least ≤ l.length ∧ l.length ≤ most := by
  unfold manyB at h
  simp only [Bool.and_eq_true, decide_eq_true_eq, List.all_eq_true] at h
  exact ⟨fun v hv => var_fine (h.1.1 v hv), h.1.2, h.2⟩
theorem node_fine {B : Nat} {w : World} {n : NodeE} {S : NSl} (hn : NodeIs B w n S) (h : nodeB n = true) : n.fine := by
  unfold nodeB at h
  simp only [Bool.and_eq_true, decide_eq_true_eq, List.all_eq_true] at h
  obtain ⟨⟨⟨⟨⟨⟨he, hnm⟩, h1⟩, h2⟩, hi⟩, ho⟩, hv⟩ := h
  obtain ⟨i1, i2⟩ := many_fine hi
  obtain ⟨o1, o2⟩ := many_fine ho
  obtain ⟨v1, v2⟩ := many_fine hv
  refine ⟨hnm, i1, o1, v1, fun q hq => ?_, i2, o2, v2.2, h1, h2⟩
  obtain ⟨j, hj, rfl⟩ := List.getElem_of_mem hq
  obtain ⟨b, o, _, _, S', A, cap, _, hE⟩ := hn.eqs j hj
  exact eq_fine hE (he _ (List.getElem_mem hj))
theorem src_fine {B : Nat} {w : World} {xs : List NodeE} {S : Sl} (hx : SrcIs B w xs S) (h : srcB xs = true) : ∀ n ∈ xs, n.fine := by
  intro n hn
  unfold srcB at h
  simp only [Bool.and_eq_true, decide_eq_true_eq, List.all_eq_true] at h
  obtain ⟨j, hj, rfl⟩ := List.getElem_of_mem hn
  obtain ⟨b, o, _, _, S', _, hN⟩ := hx.nodes j hj
  exact node_fine hN (h.1.1 _ (List.getElem_mem hj))

/-- THE LAW: a right expression's text is read as the same -/
theorem parse_shown {B : Nat} {w : World} {e : Ex} {A : Option Addr} {cap : Nat} (hE : ExAt B w e A cap) (hr : e.right = true) {l : List Tk} (hsc : scanOf ⟨(e.txt 0).toArray⟩ = .toks l) : ∃ e' i, parseOf ⟨(e.txt 0).toArray⟩ = .ok e' i ∧ e'.same e = true := by
  obtain ⟨e', hlk, he, hk⟩ := expr_back (s := ⟨(e.txt 0).toArray⟩) (fine_of _ _ _ hE (ok_of_right hE hr)) (right_height hr) (by simp) hsc
  refine ⟨e', (e.its 0).length, ?_, like_same _ _ hlk⟩
  unfold parseOf
  rw [hsc]
  dsimp only
  rw [he]
  show (if _ then _ else _) = _
  rw [if_pos hk]
/-- THE LAW: a right source's text is read as the same -/
theorem source_shown {xs : List NodeE} (hf : ∀ n ∈ xs, n.fine) (hs : srcB xs = true) {l : List Tk} (hsc : scanOf ⟨(srcTxt xs).toArray⟩ = .toks l) : ∃ zs j, sourceOf ⟨(srcTxt xs).toArray⟩ = (zs, .ok j) ∧ zipB nodeS zs xs = true := by
  unfold srcB at hs
  simp only [Bool.and_eq_true, decide_eq_true_eq] at hs
  obtain ⟨zs, j, hz, he⟩ := source_back (s := ⟨(srcTxt xs).toArray⟩) hf hs.1.2 hs.2 (by simp) hsc
  exact ⟨zs, j, he, hz.zip fun _ _ => node_same⟩
end Go.Proofs.YtnlikhjmmnaknaaGreatDoor
