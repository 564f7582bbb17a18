/-
  A right source that lies in memory has few and short names; sources alike are alike both ways.
-/
import Derived.Test.YtnlikhjmmnaknaaGreatDoorHBackL
import Derived.Test.YtnlikhjmmnaknaaGreatDoorGF
import Derived.Test.YtnlikhjmmnaknaaGreatDoorGW
namespace Go.Proofs.YtnlikhjmmnaknaaGreatDoor
open Go.RowKit

theorem size_list (x : ByteArray) : x.size = x.data.toList.length := by rw [← ByteArray.size_data, Array.length_toList]
theorem name_size {x : ByteArray} (h : isName x.data.toList = true) : x.size ≤ 20 := by rw [size_list]; exact (name_len h).2
theorem short_of_ok : ∀ e : Ex, e.ok → e.short := by
  intro e
  induction e with
  | junk => intro h; exact h.elim
  | mk op name n k arg l c ih =>
    intro h
    refine ⟨?_, fun i hi => ih i (h.2 i hi)⟩
    have hF := plain_facts h.1
    by_cases hn : op = 3 ∨ op = 4 ∨ op = 24 ∨ op = 25 ∨ op = 26
    · have := name_size (hF.named hn); omega
    · rw [size_list, hF.bare hn]; simp
theorem var_few {v : VarE} (h : v.fine) : v.few := by
  refine ⟨by have := name_size h.1; omega, fun c hc => ?_⟩
  have : isName c.name.data.toList = true := h.2.2.1 c hc
  have := name_size this
  omega
theorem ok_of_fine : ∀ e : Ex, e.fine → e.ok := by
  intro e
  induction e with
  | junk => intro h; exact h
  | mk op name n k arg l c ih => intro h; exact ⟨h.1, fun i hi => ih i (h.2.2 i hi)⟩
theorem few_of_fine {n : NodeE} (h : n.fine) (hs : ∀ q ∈ n.eqs, q.right.size ≤ 1000000) : n.few := by
  obtain ⟨h1, h2, h3, h4, h5, -⟩ := h
  refine ⟨by have := name_size h1; omega, fun v hv => var_few (h2 v hv), fun v hv => var_few (h3 v hv), fun v hv => var_few (h4 v hv), fun q hq => ?_⟩
  obtain ⟨g1, _, _, g4, g5⟩ := h5 q hq
  exact ⟨hs q hq, by omega, short_of_ok _ (ok_of_fine _ g4), fun x hx => by have := name_size (g1 x hx); omega⟩

theorem zip_comm {α : Type} {p : α → α → Bool} : ∀ {xs ys : List α}, (∀ x ∈ xs, ∀ y ∈ ys, p x y = p y x) → zipB p xs ys = zipB p ys xs
  | [], [], _ => rfl
  | [], _ :: _, _ => rfl
  | _ :: _, [], _ => rfl
  | a :: l, b :: m, h => by
    rw [zipB, zipB, h a (List.mem_cons_self ..) b (List.mem_cons_self ..), zip_comm fun x hx y hy => h x (List.mem_cons_of_mem _ hx) y (List.mem_cons_of_mem _ hy)]
theorem strS_comm (a b : ByteArray) : strS a b = strS b a := by unfold strS; exact BEq.comm
theorem litS_comm (a b : LitE) : litS a b = litS b a := by unfold litS; rw [strS_comm, BEq.comm (a := a.neg)]
theorem varS_comm (a b : VarE) : varS a b = varS b a := by
  unfold varS; rw [strS_comm, BEq.comm (a := a.type), zip_comm fun x _ y _ => litS_comm x y]
theorem eqnS_comm {a b : EqE} (ha : a.right.live) (hb : b.right.live) : eqnS a b = eqnS b a := by
  unfold eqnS; rw [same_comm b.right a.right hb ha, zip_comm fun x _ y _ => strS_comm x y]
theorem nodeS_comm {a b : NodeE} (ha : ∀ q ∈ a.eqs, q.right.live) (hb : ∀ q ∈ b.eqs, q.right.live) : nodeS a b = nodeS b a := by
  unfold nodeS
  rw [strS_comm, zip_comm (xs := a.ins) fun x _ y _ => varS_comm x y, zip_comm (xs := a.outs) fun x _ y _ => varS_comm x y, zip_comm (xs := a.vars) fun x _ y _ => varS_comm x y, zip_comm (xs := a.eqs) fun x hx y hy => eqnS_comm (ha x hx) (hb y hy)]
theorem src_live {B : Nat} {w : World} {s : List NodeE} {S : Sl} (h : SrcIs B w s S) : ∀ n ∈ s, ∀ q ∈ n.eqs, q.right.live := by
  intro n hn q hq
  obtain ⟨j, hj, rfl⟩ := List.getElem_of_mem hn
  obtain ⟨b, o, _, _, S1, _, hi⟩ := h.nodes j hj
  obtain ⟨k, hk, rfl⟩ := List.getElem_of_mem hq
  obtain ⟨_, _, _, _, S2, A, cap, _, hm⟩ := hi.eqs k hk
  exact ExAt.live _ _ _ hm.right
theorem src_comm {B B' : Nat} {w w' : World} {xs ys : List NodeE} {S S' : Sl} (hx : SrcIs B w xs S) (hy : SrcIs B' w' ys S') : zipB nodeS xs ys = zipB nodeS ys xs :=
  zip_comm fun a ha b hb => nodeS_comm (src_live hx a ha) (src_live hy b hb)
end Go.Proofs.YtnlikhjmmnaknaaGreatDoor
