/-
  What is read as an expression is right.
-/
import Derived.Test.YtnlikhjmmnaknaaGreatDoorGP
import Derived.Test.YtnlikhjmmnaknaaGreatDoorGC
namespace Go.Proofs.YtnlikhjmmnaknaaGreatDoor
open Go.RowKit

theorem right_mk {op : Int} {name : ByteArray} {n ln cl : Int} {xs : List Ex} (hp : plainOf op name n xs.length = true) (hx : ∀ x ∈ xs, x.right = true) (hh : (mkEx op name n xs ln cl).height ≤ 30) : (mkEx op name n xs ln cl).right = true := by
  unfold Ex.right
  rw [Bool.and_eq_true, List.all_eq_true]
  refine ⟨fun y hy => ?_, decide_eq_true hh⟩
  unfold mkEx at hy
  rw [Ex.pre] at hy
  rcases List.mem_cons.1 hy with rfl | hy
  · exact hp
  · have hflat : ∀ k, k ≤ xs.length → y ∈ flatTo (fun i => (xs[i]?.getD .junk).pre) k → plainE y = true := by
      intro k
      induction k with
      | zero => intro _ h; simp [flatTo] at h
      | succ k ih =>
        intro hk h
        rw [flatTo, List.mem_append] at h
        rcases h with h | h
        · exact ih (by omega) h
        · have hxk := hx xs[k] (List.getElem_mem (by omega))
          rw [List.getElem?_eq_getElem (show k < xs.length by omega)] at h
          unfold Ex.right at hxk
          rw [Bool.and_eq_true, List.all_eq_true] at hxk
          exact hxk.1 y h
    exact hflat _ (Nat.le_refl _) hy
/-- tokens: names are names, numbers are not below 0 -/
def GoodT (l : List Tk) : Prop := ∀ i, ((tkN l i).kind = 1 → isName (tkN l i).text.data.toList = true) ∧ ((tkN l i).kind = 2 → 0 ≤ (tkN l i).num)
def PR.rt (r : PR) : Prop := ∀ e i, r = .ok e i → e.right = true
theorem rt_bad {a b c : Int} : (PR.bad a b c).rt := fun _ _ h => by cases h
theorem rt_ok {i : Nat} {e : Ex} (h : e.right = true) : (PR.ok e i).rt := fun _ _ h' => by injection h' with h1 h2; subst h1 h2; exact h
theorem rt_then {r : PR} {f : Ex → Nat → PR} (h : r.rt) (hf : ∀ e i, e.right = true → (f e i).rt) : (r.then f).rt := by
  cases r with
  | ok e i => exact hf e i (h e i rfl)
  | bad a b c => exact rt_bad
section
variable {s : ByteArray} {l : List Tk}
theorem rt_want {w : List UInt8} {i : Nat} {f : Nat → PR} (hf : (f (i + 1)).rt) : (wantN s l w i f).rt := by
  unfold wantN
  split
  · exact hf
  · exact rt_bad
theorem rt_name (hG : GoodT l) {i : Nat} {f : ByteArray → Nat → PR} (hf : ∀ t, isName t.data.toList = true → (f t (i + 1)).rt) : (nameN s l i f).rt := by
  unfold nameN
  split
  · rename_i h; exact hf _ ((hG i).1 h)
  · exact rt_bad
theorem rt_made {op : Int} {name : ByteArray} {n ln cl : Int} {xs : List Ex} {i : Nat} (hp : plainOf op name n xs.length = true) (hx : ∀ x ∈ xs, x.right = true) : (madeN (mkEx op name n xs ln cl) i).rt := by
  unfold madeN
  split
  · exact rt_bad
  · rename_i h; exact rt_ok (right_mk hp hx (by omega))
theorem rt_then_made {op : Int} {name : ByteArray} {n ln cl : Int} {xs : List Ex} {i : Nat} {f : Ex → Nat → PR} (hp : plainOf op name n xs.length = true) (hx : ∀ x ∈ xs, x.right = true) (hf : ∀ e j, e.right = true → (f e j).rt) : ((madeN (mkEx op name n xs ln cl) i).then f).rt :=
  rt_then (rt_made hp hx) hf
theorem all1 {x : Ex} (h : x.right = true) : ∀ y ∈ [x], y.right = true := fun y hy => by rw [List.mem_singleton.1 hy]; exact h
theorem all2 {x y : Ex} (h : x.right = true) (h2 : y.right = true) : ∀ z ∈ [x, y], z.right = true := fun z hz => by
  rcases List.mem_cons.1 hz with rfl | hz
  · exact h
  · exact all1 h2 z hz
theorem all3 {x y z : Ex} (h : x.right = true) (h2 : y.right = true) (h3 : z.right = true) : ∀ u ∈ [x, y, z], u.right = true := fun u hu => by
  rcases List.mem_cons.1 hu with rfl | hu
  · exact h
  · exact all2 h2 h3 u hu
theorem plain_name {op : Int} {name : ByteArray} {k : Nat} (h : isName name.data.toList = true) (ho : (op = 3 ∧ k = 0) ∨ (op = 4 ∧ 1 ≤ k ∧ k ≤ 8) ∨ (op = 24 ∧ k = 1) ∨ (op = 25 ∧ k = 1) ∨ (op = 26 ∧ k = 2)) : plainOf op name 0 k = true := by
  rcases ho with ⟨rfl, rfl⟩ | ⟨rfl, h1, h2⟩ | ⟨rfl, rfl⟩ | ⟨rfl, rfl⟩ | ⟨rfl, rfl⟩
  · simp [plainOf, partsOf, namesOp, h]
  · have : ¬ (k < 1 ∨ 8 < k) := by omega
    simp [plainOf, partsOf, namesOp, h]
    omega
  · simp [plainOf, partsOf, namesOp, h]
  · simp [plainOf, partsOf, namesOp, h]
  · simp [plainOf, partsOf, namesOp, h]
theorem mem_ite {c : Prop} [Decidable c] {a b : Int} {L : List Int} (ha : a ∈ L) (hb : b ∈ L) : (if c then a else b) ∈ L := by split <;> assumption
theorem opText_in (t : List UInt8) : opText t ∈ ([0, 23, 22, 24, 19, 20, 18, 7, 8, 9, 10, 11, 12, 13, 14, 15, 16, 17] : List Int) := by
  unfold opText
  repeat (refine mem_ite (by decide) ?_)
  decide
theorem plain_two {i : Nat} (h0 : ¬ opN l i = 0) (h24 : ¬ opN l i = 24) : plainOf (opN l i) ⟨#[]⟩ 0 2 = true := by
  have hall : ∀ o ∈ ([0, 23, 22, 24, 19, 20, 18, 7, 8, 9, 10, 11, 12, 13, 14, 15, 16, 17] : List Int), ¬ o = 0 → ¬ o = 24 → plainOf o ⟨#[]⟩ 0 2 = true := by decide
  refine hall _ ?_ h0 h24
  unfold opN
  split
  · exact opText_in _
  · decide
variable {rec : Int → Nat → PR}
def RtR (rec : Int → Nat → PR) : Prop := ∀ x i, (rec x i).rt
theorem rt_within (hA : RtR rec) {i : Nat} {f : Ex → Nat → PR} (hf : ∀ e i1, e.right = true → (f e i1).rt) : (withinN s l rec i f).rt :=
  rt_want (rt_then (hA 0 _) fun _ _ h2 => rt_want (hf _ _ h2))
theorem rt_choice (hA : RtR rec) {i : Nat} : (choiceN s l rec i).rt :=
  rt_want (rt_then (hA 0 _) fun _ _ h2 => rt_want (rt_then (hA 0 _) fun _ _ h5 => rt_want (rt_then (hA 0 _) fun _ _ h8 => rt_made (show plainOf 27 ⟨#[]⟩ 0 3 = true by decide) (all3 h2 h5 h8))))
theorem rt_args (hA : RtR rec) {name : ByteArray} (hn : isName name.data.toList = true) {at_ : Nat} : ∀ (k : Nat) (xs : List Ex) (i : Nat), 1 ≤ xs.length → xs.length + k = 8 → (∀ x ∈ xs, x.right = true) → (argsN s l rec name at_ k xs i).rt := by
  intro k
  induction k with
  | zero =>
    intro xs i h1 h8 hx
    unfold argsN
    split
    · exact rt_bad
    · exact rt_want (rt_made (plain_name hn (.inr (.inl ⟨rfl, h1, by omega⟩))) hx)
  | succ k ih =>
    intro xs i h1 h8 hx
    unfold argsN
    split
    · refine rt_then (hA 0 _) fun e i1 he => ih _ _ (by simp) (by simp; omega) fun x hm => ?_
      rcases List.mem_append.1 hm with hm | hm
      · exact hx x hm
      · exact all1 he x hm
    · exact rt_want (rt_made (plain_name hn (.inr (.inl ⟨rfl, h1, by omega⟩))) hx)
theorem none_right : ∀ x ∈ ([] : List Ex), x.right = true := fun x h => by cases h
theorem rt_alone (hG : GoodT l) (hA : RtR rec) {i : Nat} : (aloneN s l rec i).rt := by
  have hh : ∀ (op : Int) (name : ByteArray) (n ln cl : Int), (mkEx op name n [] ln cl).height ≤ 30 := fun op name n ln cl => by show 0 + 1 ≤ 30; omega
  unfold aloneN
  by_cases h2 : (tkN l i).kind = 2
  · rw [if_pos h2]
    have hn := (hG i).2 h2
    exact rt_ok (right_mk (by simp [plainOf, partsOf, namesOp, hn]) none_right (hh _ _ _ _ _))
  rw [if_neg h2]
  by_cases ht : isN l i wTrue = true
  · rw [if_pos ht]; exact rt_ok (right_mk (by decide) none_right (hh _ _ _ _ _))
  rw [if_neg ht]
  by_cases hf : isN l i wFalse = true
  · rw [if_pos hf]; exact rt_ok (right_mk (by decide) none_right (hh _ _ _ _ _))
  rw [if_neg hf]
  by_cases h1 : (tkN l i).kind = 1
  · rw [if_pos h1]
    have hn := (hG i).1 h1
    by_cases ho : isN l (i + 1) wOpen = true
    · rw [if_pos ho]
      exact rt_then (hA 0 _) fun e i1 h4 => rt_args hA hn 7 [e] i1 (by simp) (by simp) (all1 h4)
    · rw [if_neg ho]; exact rt_ok (right_mk (plain_name hn (.inl ⟨rfl, rfl⟩)) none_right (hh _ _ _ _ _))
  rw [if_neg h1]
  by_cases hm : isN l i wMerge = true
  · rw [if_pos hm]
    exact rt_name hG fun _ hn => rt_within hA fun _ _ h5 => rt_within hA fun _ _ h7 => rt_made (plain_name hn (.inr (.inr (.inr (.inr ⟨rfl, rfl⟩))))) (all2 h5 h7)
  · rw [if_neg hm]
    exact rt_within hA fun _ _ h4 => rt_ok h4
theorem rt_pref (hG : GoodT l) (hA : RtR rec) {i : Nat} : (prefN s l rec i).rt := by
  unfold prefN
  split
  · exact rt_alone hG hA
  · rename_i h0
    refine rt_then (hA 9 _) fun x _ h1 => rt_made ?_ (all1 h1)
    unfold op1N at *
    split at h0
    · rename_i h; rw [if_pos h]; exact (show plainOf 5 ⟨#[]⟩ 0 1 = true by decide)
    · rename_i h
      split at h0
      · rename_i h2; rw [if_neg h, if_pos h2]; exact (show plainOf 6 ⟨#[]⟩ 0 1 = true by decide)
      · rename_i h2
        split at h0
        · rename_i h3; rw [if_neg h, if_neg h2, if_pos h3]; exact (show plainOf 21 ⟨#[]⟩ 0 1 = true by decide)
        · exact absurd rfl h0
theorem rt_when (hG : GoodT l) {e : Ex} (he : e.right = true) {i : Nat} {f : Ex → Nat → PR} (hf : ∀ e1 i1, e1.right = true → (f e1 i1).rt) : (whenN s l e i f).rt := by
  unfold whenN
  split
  · exact rt_name hG fun _ hn => rt_then_made (plain_name hn (.inr (.inr (.inr (.inl ⟨rfl, rfl⟩))))) (all1 he) hf
  · exact rt_name hG fun _ hn => rt_then_made (plain_name hn (.inr (.inr (.inl ⟨rfl, rfl⟩)))) (all1 he) hf
theorem rt_loop (hG : GoodT l) (hA : RtR rec) (least : Int) : ∀ (f : Nat) (e : Ex) (sg : Int) (i : Nat), e.right = true → (loopN s l rec least f e sg i).rt := by
  intro f
  induction f with
  | zero => intro e sg i he; exact rt_ok he
  | succ f ih =>
    intro e sg i he
    unfold loopN
    by_cases h : opN l i = 0 ∨ strOf (opN l i) < least ∨ sg < needOf (opN l i)
    · rw [if_pos h]; exact rt_ok he
    rw [if_neg h]
    by_cases h24 : opN l i = 24
    · rw [if_pos h24]
      exact rt_when hG he fun e1 i1 h1 => ih _ _ _ h1
    · rw [if_neg h24]
      exact rt_then (hA _ _) fun r i1 hr => rt_then_made (plain_two (fun h0 => h (.inl h0)) h24) (all2 he hr) fun e1 i2 h1 => ih _ _ _ h1
theorem rt_expr (hG : GoodT l) : ∀ d, RtR (exprN s l d) := by
  intro d
  induction d with
  | zero => intro x i; exact rt_bad
  | succ d ih =>
    intro x i
    unfold exprN
    split
    · unfold oneN
      split
      · exact rt_choice ih
      · exact rt_then (rt_pref hG ih) fun e i1 h1 => rt_loop hG ih x _ _ _ _ h1
    · exact rt_bad
end
end Go.Proofs.YtnlikhjmmnaknaaGreatDoor
