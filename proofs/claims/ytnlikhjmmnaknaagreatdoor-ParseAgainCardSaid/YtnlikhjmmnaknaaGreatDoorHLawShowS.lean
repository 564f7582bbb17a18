/-
  The walk of the statement ShowSources.
-/
import Derived.Test.YtnlikhjmmnaknaaGreatDoorGH
import Derived.Test.YtnlikhjmmnaknaaGreatDoorGE
import Derived.Test.YtnlikhjmmnaknaaGreatDoorGF
namespace Go.Proofs.YtnlikhjmmnaknaaGreatDoor
open Go.RowKit

theorem sep_bound {α : Type} (sep : List UInt8) (f : α → List UInt8) (xs : List α) (c : Nat) (h : ∀ x ∈ xs, (f x).length + sep.length ≤ c) : (sepTo sep (atL f xs) xs.length).length ≤ c * xs.length := by
  have : ∀ j, j ≤ xs.length → (sepTo sep (atL f xs) j).length ≤ c * j := by
    intro j
    induction j with
    | zero => intro _; simp [sepTo_zero]
    | succ j ih =>
      intro hj
      have h1 := ih (by omega)
      have h2 := h xs[j] (List.getElem_mem _)
      rw [sepTo_succ, List.length_append, List.length_append, atL_lt f (by omega), Nat.mul_succ]
      have h3 : (if j = 0 then ([] : List UInt8) else sep).length ≤ sep.length := by split <;> simp
      omega
  exact this _ (Nat.le_refl _)
theorem mul_le {c n m : Nat} (h : n ≤ m) : c * n ≤ c * m := Nat.mul_le_mul_left c h

theorem isName_le {x : ByteArray} (h : isName x.data.toList = true) : x.data.toList.length ≤ 20 := (name_len h).2
theorem var_len {v : VarE} (h : varB v = true) : (varTxt v).length ≤ 146 := by
  unfold varB at h
  simp only [Bool.and_eq_true, decide_eq_true_eq] at h
  obtain ⟨⟨⟨hc, hn⟩, _⟩, h4⟩ := h
  have h1 := isName_le hn
  have h2 := sep_bound [] litTxt v.clock 30 fun c hcm => by
    have := isName_le (List.all_eq_true.1 hc c hcm)
    unfold litTxt
    simp only [List.length_append, List.length_cons, List.length_nil]
    split <;> (simp only [List.length_cons, List.length_nil]; omega)
  have h3 := mul_le (c := 30) h4
  unfold varTxt
  simp only [List.length_append, List.length_cons, List.length_nil]
  split <;> (simp only [List.length_cons, List.length_nil]; omega)
theorem vars_len {l : List VarE} {a b : Nat} (h : manyB l a b = true) : (varsTxt l).length ≤ 148 * b := by
  unfold manyB at h
  simp only [Bool.and_eq_true, decide_eq_true_eq] at h
  have h2 := sep_bound [59, 32] varTxt l 148 fun v hv => by
    have := var_len (List.all_eq_true.1 h.1.1 v hv)
    simp only [List.length_cons, List.length_nil]; omega
  exact Nat.le_trans h2 (mul_le h.2)
theorem lines_len {l : List VarE} {a b : Nat} (h : manyB l a b = true) : (sepTo [] (atL lineTxt l) l.length).length ≤ 150 * b := by
  unfold manyB at h
  simp only [Bool.and_eq_true, decide_eq_true_eq] at h
  have h2 := sep_bound [] lineTxt l 150 fun v hv => by
    have := var_len (List.all_eq_true.1 h.1.1 v hv)
    unfold lineTxt
    simp only [List.length_append, List.length_cons, List.length_nil]; omega
  exact Nat.le_trans h2 (mul_le h.2)
theorem eq_len {B : Nat} {w : World} {q : EqE} {S : Sl} {A : Option Addr} {cap : Nat} (hq : EqIs B w q S A cap) (h : eqB q = true) (hs : q.right.size ≤ 100000000) : (eqTxt q).length ≤ 6500000000 := by
  unfold eqB at h
  simp only [Bool.and_eq_true, decide_eq_true_eq] at h
  obtain ⟨⟨⟨hl, _⟩, h8⟩, hr⟩ := h
  have h1 := txt_len hq.right (ok_of_right hq.right hr) 0
  have h2 := sep_bound [44, 32] (fun x : ByteArray => x.data.toList) q.left 22 fun x hx => by
    have := isName_le (List.all_eq_true.1 hl x hx)
    simp only [List.length_cons, List.length_nil]; omega
  have h3 := mul_le (c := 22) h8
  unfold eqTxt leftTxt namesTxt
  simp only [List.length_append, List.length_cons, List.length_nil]
  split <;> ((try simp only [List.length_append, List.length_cons, List.length_nil]); omega)
theorem nodes_len {B : Nat} {w : World} {n : NodeE} {S : NSl} (hn : NodeIs B w n S) (h : nodeB n = true) (hs : ∀ q ∈ n.eqs, q.right.size ≤ 100000000) : (nodeTxt n).length ≤ 400000000000 := by
  unfold nodeB at h
  simp only [Bool.and_eq_true, decide_eq_true_eq] at h
  obtain ⟨⟨⟨⟨⟨⟨hq, hnm⟩, _⟩, h48⟩, hi⟩, ho⟩, hv⟩ := h
  have h1 := isName_le hnm
  have h2 := vars_len hi
  have h3 := vars_len ho
  have h4 := lines_len hv
  have h5 := sep_bound [] eqTxt n.eqs 6500000000 fun q hqm => by
    obtain ⟨j, hj, rfl⟩ := List.getElem_of_mem hqm
    obtain ⟨b, o, _, _, S, A, cap, _, hi⟩ := hn.eqs j hj
    simpa using eq_len hi (List.all_eq_true.1 hq _ hqm) (hs _ hqm)
  have h6 := mul_le (c := 6500000000) h48
  rw [node_len]
  unfold nodeVars
  simp only [List.length_append]
  split <;> (simp only [List.length_cons, List.length_nil]; omega)
theorem src_len {B : Nat} {w : World} {s : List NodeE} {S : Sl} (hi : SrcIs B w s S) (h : srcB s = true) (hs : ∀ n ∈ s, ∀ q ∈ n.eqs, q.right.size ≤ 100000000) : (srcTxt s).length ≤ 140737488355000 := by
  unfold srcB at h
  simp only [Bool.and_eq_true, decide_eq_true_eq] at h
  have h1 := sep_bound [10] nodeTxt s 400000000001 fun n hn => by
    obtain ⟨j, hj, rfl⟩ := List.getElem_of_mem hn
    obtain ⟨b, o, _, _, S, _, hi⟩ := hi.nodes j hj
    have := nodes_len hi (List.all_eq_true.1 h.1.1 _ hn) (hs _ hn)
    simp only [List.length_cons, List.length_nil]; omega
  have h2 := mul_le (c := 400000000001) h.2
  unfold srcTxt
  omega

end Go.Proofs.YtnlikhjmmnaknaaGreatDoor
