/-
  The walk of the statement ShowSources.
-/
import Derived.Test.YtnlikhjmmnaknaaDoorGH
import Derived.Test.YtnlikhjmmnaknaaDoorGE
import Derived.Test.YtnlikhjmmnaknaaDoorGF
namespace Go.Proofs.YtnlikhjmmnaknaaDoor
open Go.RowKit

theorem sep_bound {α : Type} (sep : List UInt8) (f : α → List UInt8) (xs : List α) (c : Nat) (h : ∀ x ∈ xs, (f x).length + sep.length ≤ c) : (sepTo sep (atL f xs) xs.length).length ≤ c * xs.length := by
  have : ∀ j, j ≤ xs.length → (sepTo sep (atL f xs) j).length ≤ c * j := by
    intro j
    induction j with
    | zero => intro _; simp [sepTo_zero]
    | succ j ih =>
      intro hj
      have h1 := ih (by omega)
      have h2 := h xs[j] (List.getElem_mem _)
      rw [sepTo_succ, List.length_append, List.length_append, atL_lt f (by omega), Nat.mul_succ]
      have h3 : (if j = 0 then ([] : List UInt8) else sep).length ≤ sep.length := by split <;> simp
      omega
  exact this _ (Nat.le_refl _)
theorem mul_le {c n m : Nat} (h : n ≤ m) : c * n ≤ c * m := Nat.mul_le_mul_left c h

theorem isName_le {x : ByteArray} (h : isName x.data.toList = true) : x.data.toList.length ≤ 20 := (name_len h).2
theorem var_len {v : VarE} (h : varB v = true) : (varTxt v).length ≤ 146 := by
  unfold varB at h
  simp only [Bool.and_eq_true, decide_eq_true_eq] at h
  obtain ⟨⟨⟨hc, hn⟩, _⟩, h4⟩ := h
  have h1 := isName_le hn
  have h2 := sep_bound [] litTxt v.clock 30 fun c hcm => by
    have := isName_le (List.all_eq_true.1 hc c hcm)
    unfold litTxt
    simp only [List.length_append, List.length_cons, List.length_nil]
    split <;> (simp only [List.length_cons, List.length_nil]; omega)
  have h3 := mul_le (c := 30) h4
  unfold varTxt
  simp only [List.length_append, List.length_cons, List.length_nil]
  split <;> (simp only [List.length_cons, List.length_nil]; omega)
theorem vars_len {l : List VarE} {a b : Nat} (h : manyB l a b = true) : (varsTxt l).length ≤ 148 * b := by
  unfold manyB at h
  simp only [Bool.and_eq_true, decide_eq_true_eq] at h
  have h2 := sep_bound [59, 32] varTxt l 148 fun v hv => by
    have := var_len (List.all_eq_true.1 h.1.1 v hv)
    simp only [List.length_cons, List.length_nil]; omega
  exact Nat.le_trans h2 (mul_le h.2)
theorem lines_len {l : List VarE} {a b : Nat} (h : manyB l a b = true) : (sepTo [] (atL lineTxt l) l.length).length ≤ 150 * b := by
  unfold manyB at h
  simp only [Bool.and_eq_true, decide_eq_true_eq] at h
  have h2 := sep_bound [] lineTxt l 150 fun v hv => by
    have := var_len (List.all_eq_true.1 h.1.1 v hv)
    unfold lineTxt
    simp only [List.length_append, List.length_cons, List.length_nil]; omega
  exact Nat.le_trans h2 (mul_le h.2)
theorem eq_len {B : Nat} {w : World} {q : EqE} {S : Sl} {A : Option Addr} {cap : Nat} (hq : EqIs B w q S A cap) (h : eqB q = true) (hs : q.right.size ≤ 100000000) : (eqTxt q).length ≤ 6500000000 := by
  unfold eqB at h
  simp only [Bool.and_eq_true, decide_eq_true_eq] at h
  obtain ⟨⟨⟨hl, _⟩, h8⟩, hr⟩ := h
  have h1 := txt_len hq.right (ok_of_right hq.right hr) 0
  have h2 := sep_bound [44, 32] (fun x : ByteArray => x.data.toList) q.left 22 fun x hx => by
    have := isName_le (List.all_eq_true.1 hl x hx)
    simp only [List.length_cons, List.length_nil]; omega
  have h3 := mul_le (c := 22) h8
  unfold eqTxt leftTxt namesTxt
  simp only [List.length_append, List.length_cons, List.length_nil]
  split <;> ((try simp only [List.length_append, List.length_cons, List.length_nil]); omega)
theorem nodes_len {B : Nat} {w : World} {n : NodeE} {S : NSl} (hn : NodeIs B w n S) (h : nodeB n = true) (hs : ∀ q ∈ n.eqs, q.right.size ≤ 100000000) : (nodeTxt n).length ≤ 400000000000 := by
  unfold nodeB at h
  simp only [Bool.and_eq_true, decide_eq_true_eq] at h
  obtain ⟨⟨⟨⟨⟨⟨hq, hnm⟩, _⟩, h48⟩, hi⟩, ho⟩, hv⟩ := h
  have h1 := isName_le hnm
  have h2 := vars_len hi
  have h3 := vars_len ho
  have h4 := lines_len hv
  have h5 := sep_bound [] eqTxt n.eqs 6500000000 fun q hqm => by
    obtain ⟨j, hj, rfl⟩ := List.getElem_of_mem hqm
    obtain ⟨b, o, _, _, S, A, cap, _, hi⟩ := hn.eqs j hj
    simpa using eq_len hi (List.all_eq_true.1 hq _ hqm) (hs _ hqm)
  have h6 := mul_le (c := 6500000000) h48
  rw [node_len]
  unfold nodeVars
  simp only [List.length_append]
  split <;> (simp only [List.length_cons, List.length_nil]; omega)
theorem src_len {B : Nat} {w : World} {s : List NodeE} {S : Sl} (hi : SrcIs B w s S) (h : srcB s = true) (hs : ∀ n ∈ s, ∀ q ∈ n.eqs, q.right.size ≤ 100000000) : (srcTxt s).length ≤ 140737488355000 := by
  unfold srcB at h
  simp only [Bool.and_eq_true, decide_eq_true_eq] at h
  have h1 := sep_bound [10] nodeTxt s 400000000001 fun n hn => by
    obtain ⟨j, hj, rfl⟩ := List.getElem_of_mem hn
    obtain ⟨b, o, _, _, S, _, hi⟩ := hi.nodes j hj
    have := nodes_len hi (List.all_eq_true.1 h.1.1 _ hn) (hs _ hn)
    simp only [List.length_cons, List.length_nil]; omega
  have h2 := mul_le (c := 400000000001) h.2
  unfold srcTxt
  omega

set_option maxHeartbeats 4000000 in
theorem showSources_any (s : List NodeE) (S : Sl) (w : World) (hs : SrcIs w.heap.size w s S) (hT : Tab w) :
    Calls Tryd.prog 4 #[srcVal s S] w fun r w' => r = .returned (.bool true) ∧ Below w.heap.size w w' := by
  obtain ⟨A, cap⟩ := S
  have hG := hT.lt
  have hb0 : Below w.heap.size w (w.alloc (.cells #[.slice A s.length cap] 38)) := (Below.refl _ _).alloc (Nat.le_refl _) _
  have hz0 : w.heap.size < (w.alloc (.cells #[.slice A s.length cap] 38)).heap.size := by simp
  have hX0 : (w.alloc (.cells #[.slice A s.length cap] 38)).heap[w.heap.size]? = some (.cells #[.slice A s.length cap] 38 (0, 0)) := World.alloc_heap_new w _
  have haw := awake13_any (w.alloc (.cells #[.slice A s.length cap] 38)) (hT.below hb0 hG)
  have hfn := fun W (h : Below w.heap.size w W) => fewNodes_any s ⟨A, cap⟩ w.heap.size W (hs.keep (same_below (Nat.le_refl _) h)) h.size
  have hsh := fun (hf : ∀ n ∈ s, n.few) W (h : Below w.heap.size w W) => showSource_any s ⟨A, cap⟩ w.heap.size W (hs.keep (same_below (Nat.le_refl _) h)) h.size (hT.below h hG) (fun n hn q hq => Nat.le_trans ((hf n hn).2.2.2.2 q hq).2.1 (by omega)) (fun hb => Nat.le_trans (src_len hs hb fun n hn q hq => Nat.le_trans ((hf n hn).2.2.2.2 q hq).1 (by omega)) (by omega))
  have hrs := fun (hf : ∀ n ∈ s, n.few) W (h : Below w.heap.size w W) => rsource13_any s ⟨A, cap⟩ w.heap.size W (hs.keep (same_below (Nat.le_refl _) h)) h.size hf (fun hb => src_len hs hb fun n hn q hq => Nat.le_trans ((hf n hn).2.2.2.2 q hq).1 (by omega))
  unfold srcVal Sl.v at hfn hsh hrs ⊢
  have HAW := hid haw
  have HFN := hid hfn
  have HSH := hid hsh
  have HRS := hid hrs
  clear haw hfn hsh hrs hs
  go_enter Tryd.func4, Tryd.ntmps4
  go_wp2_with fail
  refine HAW.out.mono ?_
  rintro r w1 ⟨rfl, hb1⟩
  have hX1 := (hb1.block w.heap.size (heap_lt hX0)).trans hX0
  have hb1' := hb0.trans (hb1.mono (by omega))
  have c0 : w1.cell? ⟨w.heap.size, 0, none⟩ = some (.slice A s.length cap) := Lib.cell_of_heap hX1 0
  go_wp2_with fail
  refine (HFN.out w1 hb1').mono ?_
  rintro r w2 ⟨few, rfl, hfew, hb2⟩
  have hX2 := (hb2.block w.heap.size (heap_lt hX1)).trans hX1
  have hb2' := hb1'.trans (hb2.mono hb1'.size)
  clear c0
  cases few with
  | false =>
    clear hfew
    go_wp2_with fail
    go_ret
    exact ⟨rfl, hb2'⟩
  | true =>
    have HF := hid (hfew rfl)
    clear hfew
    have c0 : w2.cell? ⟨w.heap.size, 0, none⟩ = some (.slice A s.length cap) := Lib.cell_of_heap hX2 0
    go_wp2_with fail
    refine (HSH.out HF.out w2 hb2').mono ?_
    rintro r w3 ⟨rfl, hb3⟩
    have hX3 := (hb3.block w.heap.size (heap_lt hX2)).trans hX2
    have hb3' := hb2'.trans (hb3.mono hb2'.size)
    clear c0
    have c0 : w3.cell? ⟨w.heap.size, 0, none⟩ = some (.slice A s.length cap) := Lib.cell_of_heap hX3 0
    go_wp2_with fail
    refine (HRS.out HF.out w3 hb3').mono ?_
    rintro r w4 ⟨rfl, hb4⟩
    go_wp2_with fail
    go_ret
    exact ⟨rfl, hb3'.trans (hb4.mono hb3'.size)⟩
end Go.Proofs.YtnlikhjmmnaknaaDoor
