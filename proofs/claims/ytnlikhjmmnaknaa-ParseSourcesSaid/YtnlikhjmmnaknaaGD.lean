/-
  Texts of this claim, joined: Txt Show1.
-/
import Derived.Test.YtnlikhjmmnaknaaGC
import Derived.Lib.ItoaMem
import Derived.Lib.ItoaLen
import Derived.Deep.AppendLies
/-
  The text of an expression, in plain Lean.
-/
namespace Go.Proofs.Ytnlikhjmmnaknaa
open Go.RowKit

def strL : List Int := [10, 10, 10, 10, 9, 9, 7, 7, 8, 8, 8, 6, 6, 6, 6, 6, 6, 5, 4, 4, 9, 2, 1, 3, 3, 10, 0]
/-- how strong an op is -/
def strOf (op : Int) : Int := if op < 1 ∨ 27 < op then 10 else strL[(op - 1).toNat]?.getD 0
def sgnL : List ByteArray := [⟨#[43]⟩, ⟨#[45]⟩, ⟨#[42]⟩, ⟨#[47]⟩, ⟨#[37]⟩, ⟨#[61]⟩, ⟨#[60, 62]⟩, ⟨#[60]⟩, ⟨#[60, 61]⟩, ⟨#[62]⟩, ⟨#[62, 61]⟩, ⟨#[97, 110, 100]⟩, ⟨#[111, 114]⟩, ⟨#[120, 111, 114]⟩, ⟨#[]⟩, ⟨#[102, 98, 121]⟩, ⟨#[45, 62]⟩]
/-- the sign of an op of two parts -/
def sgnOf (op : Int) : ByteArray := sgnL[(op - 7).toNat]?.getD ⟨#[]⟩

/-- a text where it has to be so strong -/
def wrapT (op least : Int) (t : List UInt8) : List UInt8 := if strOf op < least then 40 :: (t ++ [41]) else t
/-- the first so many, with commas between -/
def commaTo (f : Nat → List UInt8) : Nat → List UInt8
  | 0 => []
  | n + 1 => commaTo f n ++ ((if n = 0 then [] else [44, 32]) ++ f n)
/-- how strong the parts of an op of two parts have to be -/
def leftOf (op : Int) : Int := if strOf op = 6 then 7 else if strOf op = 1 ∨ strOf op = 2 then strOf op + 1 else strOf op
def rightOf (op : Int) : Int := if strOf op = 1 ∨ strOf op = 2 then strOf op else strOf op + 1
/-- the text of an op with its name, number and parts -/
def bareOf (op : Int) (name : ByteArray) (n : Int) (k : Nat) (p : Nat → Int → List UInt8) : List UInt8 :=
  if op = 1 then Lib.itoa n
  else if op = 2 then (if n = 1 then [116, 114, 117, 101] else [102, 97, 108, 115, 101])
  else if op = 3 then name.data.toList
  else if op = 4 then name.data.toList ++ (40 :: (commaTo (fun i => p i 0) k ++ [41]))
  else if op = 5 then 45 :: p 0 9
  else if op = 6 then [110, 111, 116, 32] ++ p 0 9
  else if op = 21 then [112, 114, 101, 32] ++ p 0 9
  else if op = 24 then p 0 3 ++ ([32, 119, 104, 101, 110, 32] ++ name.data.toList)
  else if op = 25 then p 0 3 ++ ([32, 119, 104, 101, 110, 32, 110, 111, 116, 32] ++ name.data.toList)
  else if op = 26 then [109, 101, 114, 103, 101, 32] ++ (name.data.toList ++ ([32, 40] ++ (p 0 0 ++ ([41, 32, 40] ++ (p 1 0 ++ [41])))))
  else if op = 27 then [105, 102, 32] ++ (p 0 0 ++ ([32, 116, 104, 101, 110, 32] ++ (p 1 0 ++ ([32, 101, 108, 115, 101, 32] ++ p 2 0))))
  else p 0 (leftOf op) ++ (32 :: ((sgnOf op).data.toList ++ (32 :: p 1 (rightOf op))))
def Ex.bare : Ex → List UInt8
  | .junk => []
  | .mk op name n k arg _ _ => bareOf op name n k fun i least => wrapT (arg i).op least (arg i).bare
/-- the text of an expression that has to be so strong -/
def Ex.txt (e : Ex) (least : Int) : List UInt8 := wrapT e.op least e.bare
theorem bare_mk (op : Int) (name : ByteArray) (n : Int) (k : Nat) (arg : Nat → Ex) (l c : Int) : (Ex.mk op name n k arg l c).bare = bareOf op name n k fun i least => (arg i).txt least := rfl

theorem strOf_bd (op : Int) : 0 ≤ strOf op ∧ strOf op ≤ 10 := by
  unfold strOf
  split
  · omega
  · rename_i h
    have : ∀ j : Nat, j < 27 → 0 ≤ strL[j]?.getD 0 ∧ strL[j]?.getD 0 ≤ 10 := by decide
    exact this _ (by omega)

/-- it and all within it is plain -/
def Ex.ok : Ex → Prop
  | .junk => False
  | .mk op name n k arg _ _ => plainOf op name n k = true ∧ ∀ i, i < k → (arg i).ok

theorem mem_flatTo {α : Type} {f : Nat → List α} {i : Nat} {x : α} : ∀ {k : Nat}, i < k → x ∈ f i → x ∈ flatTo f k := by
  intro k
  induction k with
  | zero => intro h; omega
  | succ k ih =>
    intro h hx
    rw [flatTo_succ, List.mem_append]
    by_cases h1 : i = k
    · subst h1; exact .inr hx
    · exact .inl (ih (by omega) hx)
theorem ok_of_all {B : Nat} {w : World} : ∀ (e : Ex) (A : Option Addr) (cap : Nat), ExAt B w e A cap → (∀ x ∈ e.pre, plainE x = true) → e.ok := by
  intro e
  induction e with
  | junk => intro A cap h; exact h.elim
  | mk op name n k arg l c ih =>
    intro A cap h hp
    refine ⟨hp (.mk op name n k arg l c) (by rw [Ex.pre]; exact List.mem_cons_self ..), fun i hi => ?_⟩
    obtain ⟨b, o, A', cap', _, _, _, hr⟩ := h.2 i hi
    exact ih i A' cap' hr fun x hx => hp x (by rw [Ex.pre]; exact List.mem_cons_of_mem _ (mem_flatTo hi hx))
theorem ok_of_right {B : Nat} {w : World} {e : Ex} {A : Option Addr} {cap : Nat} (h : ExAt B w e A cap) (hr : e.right = true) : e.ok := by
  unfold Ex.right at hr
  rw [Bool.and_eq_true, List.all_eq_true] at hr
  exact ok_of_all e A cap h hr.1

/-- what a plain expression has -/
structure PlainF (op : Int) (name : ByteArray) (n : Int) (k : Nat) : Prop where
  lo : 1 ≤ op
  hi : op ≤ 27
  k0 : op ≤ 3 → k = 0
  k4 : op = 4 → 1 ≤ k ∧ k ≤ 8
  k1 : op = 5 ∨ op = 6 ∨ op = 21 ∨ op = 24 ∨ op = 25 → k = 1
  k2 : (7 ≤ op ∧ op ≤ 20) ∨ op = 22 ∨ op = 23 ∨ op = 26 → k = 2
  k3 : op = 27 → k = 3
  n1 : op = 1 → 0 ≤ n
  n2 : op = 2 → n = 0 ∨ n = 1
  n0 : op ≠ 1 → op ≠ 2 → n = 0
  named : op = 3 ∨ op = 4 ∨ op = 24 ∨ op = 25 ∨ op = 26 → isName name.data.toList = true
  bare : ¬ (op = 3 ∨ op = 4 ∨ op = 24 ∨ op = 25 ∨ op = 26) → name.data.toList = []
theorem plain_facts {op : Int} {name : ByteArray} {n : Int} {k : Nat} (h : plainOf op name n k = true) : PlainF op name n k := by
  unfold plainOf at h
  by_cases h1 : partsOf op = -2
  · rw [if_pos h1] at h; cases h
  rw [if_neg h1] at h
  by_cases h2 : partsOf op = -1 ∧ (k < 1 ∨ 8 < k)
  · rw [if_pos h2] at h; cases h
  rw [if_neg h2] at h
  by_cases h3 : 0 ≤ partsOf op ∧ (k : Int) ≠ partsOf op
  · rw [if_pos h3] at h; cases h
  rw [if_neg h3] at h
  have hnm : (namesOp op = true ∨ op = 4) ↔ (op = 3 ∨ op = 4 ∨ op = 24 ∨ op = 25 ∨ op = 26) := by simp [namesOp]; omega
  rw [show (if namesOp op = true ∨ op = 4 then isName name.data.toList && n == 0 else if op = 1 then name.data.toList.isEmpty && decide (0 ≤ n) else if op = 2 then name.data.toList.isEmpty && (n == 0 || n == 1) else name.data.toList.isEmpty && n == 0) =
    (if (op = 3 ∨ op = 4 ∨ op = 24 ∨ op = 25 ∨ op = 26) then isName name.data.toList && n == 0 else if op = 1 then name.data.toList.isEmpty && decide (0 ≤ n) else if op = 2 then name.data.toList.isEmpty && (n == 0 || n == 1) else name.data.toList.isEmpty && n == 0) from by simp only [hnm]] at h
  have hE : name.data.toList.isEmpty = true → name.data.toList = [] := List.isEmpty_iff.1
  unfold partsOf at h1 h2 h3
  by_cases c1 : op = 1 ∨ op = 2 ∨ op = 3
  · rw [if_pos c1] at h1 h2 h3
    refine ⟨by omega, by omega, fun _ => by omega, fun _ => by omega, fun _ => by omega, fun _ => by omega, fun _ => by omega, fun e => ?_, fun e => ?_, fun e e' => ?_, fun e => ?_, fun e => ?_⟩
    · rw [if_neg (by omega), if_pos e] at h; simp at h; exact h.2
    · rw [if_neg (by omega), if_neg (by omega), if_pos e] at h; simp at h; exact h.2
    · rw [if_pos (by omega)] at h; simp at h; exact h.2
    · rw [if_pos e] at h; simp at h; exact h.1
    · rw [if_neg e] at h
      rcases (by omega : op = 1 ∨ op = 2) with c | c
      · rw [if_pos c] at h; rw [Bool.and_eq_true] at h; exact hE h.1
      · rw [if_neg (by omega), if_pos c] at h; rw [Bool.and_eq_true] at h; exact hE h.1
  · rw [if_neg c1] at h1 h2 h3
    have h' : (if (op = 3 ∨ op = 4 ∨ op = 24 ∨ op = 25 ∨ op = 26) then isName name.data.toList && n == 0 else name.data.toList.isEmpty && n == 0) = true := by
      rw [← h]; split
      · rfl
      · rw [if_neg (by omega), if_neg (by omega)]
    have hn0 : n = 0 := by
      split at h' <;> (simp at h'; exact h'.2)
    have hnd : (op = 3 ∨ op = 4 ∨ op = 24 ∨ op = 25 ∨ op = 26) → isName name.data.toList = true := fun e => by rw [if_pos e] at h'; simp at h'; exact h'.1
    have hbr : ¬ (op = 3 ∨ op = 4 ∨ op = 24 ∨ op = 25 ∨ op = 26) → name.data.toList = [] := fun e => by rw [if_neg e, Bool.and_eq_true] at h'; exact hE h'.1
    refine ⟨?_, ?_, ?_, ?_, ?_, ?_, ?_, fun _ => by omega, fun _ => by omega, fun _ _ => hn0, hnd, hbr⟩ <;>
      (clear h h' hnm hE hnd hbr hn0
       by_cases c2 : op = 4
       · rw [if_pos c2] at h1 h2 h3; omega
       · rw [if_neg c2] at h1 h2 h3
         by_cases c3 : op = 5 ∨ op = 6 ∨ op = 21 ∨ op = 24 ∨ op = 25
         · rw [if_pos c3] at h1 h2 h3; omega
         · rw [if_neg c3] at h1 h2 h3
           by_cases c4 : (7 ≤ op ∧ op ≤ 20) ∨ op = 22 ∨ op = 23 ∨ op = 26
           · rw [if_pos c4] at h1 h2 h3; omega
           · rw [if_neg c4] at h1 h2 h3
             by_cases c5 : op = 27
             · rw [if_pos c5] at h1 h2 h3; omega
             · rw [if_neg c5] at h1; omega)

/-! how long it is -/
theorem name_len {l : List UInt8} (h : isName l = true) : 1 ≤ l.length ∧ l.length ≤ 20 := by
  unfold isName isNamed at h
  simp at h
  omega
theorem wrapT_len (op least : Int) (t : List UInt8) : (wrapT op least t).length ≤ t.length + 2 := by
  unfold wrapT; split <;> simp
theorem commaTo_len {f : Nat → List UInt8} {g : Nat → Nat} : ∀ k, (∀ i, i < k → (f i).length + 2 ≤ g i) → (commaTo f k).length ≤ sumTo g k := by
  intro k
  induction k with
  | zero => intro _; simp [commaTo, sumTo]
  | succ k ih =>
    intro h
    have h1 := ih fun i hi => h i (by omega)
    have h2 := h k (by omega)
    rw [commaTo, sumTo_succ, List.length_append, List.length_append]
    have h3 : (if k = 0 then ([] : List UInt8) else [44, 32]).length ≤ 2 := by split <;> simp
    omega
theorem sgn_len (op : Int) : (sgnOf op).data.toList.length ≤ 3 := by
  unfold sgnOf
  by_cases h : (op - 7).toNat < 17
  · have : ∀ j, j < 17 → (sgnL[j]?.getD ⟨#[]⟩).data.toList.length ≤ 3 := by decide
    exact this _ h
  · have e : sgnL[(op - 7).toNat]? = none := List.getElem?_eq_none (Nat.not_lt.1 h)
    rw [e]; simp
theorem sumTo_add (f : Nat → Nat) (c : Nat) : ∀ k, sumTo (fun i => c * f i) k = c * sumTo f k := by
  intro k
  induction k with
  | zero => rfl
  | succ k ih => rw [sumTo_succ, sumTo_succ, ih, Nat.mul_add]
theorem itoa_len20 {n : Int} (h0 : 0 ≤ n) (h1 : n ≤ 9223372036854775807) : (Lib.itoa n).length ≤ 20 := by
  obtain ⟨u, rfl⟩ := Int.eq_ofNat_of_zero_le h0
  rw [Lib.itoa_nonneg, Lib.decDigits_length]
  exact Lib.nDigits_le20 u (by omega)
theorem bare_len {B : Nat} {w : World} : ∀ (e : Ex) (A : Option Addr) (cap : Nat), ExAt B w e A cap → e.ok → e.bare.length + 4 ≤ 64 * e.size := by
  intro e
  induction e with
  | junk => intro A cap h; exact h.elim
  | mk op name n k arg l c ih =>
    intro A cap h hok
    have hF := plain_facts hok.1
    have hn : n ≤ 9223372036854775807 := h.1.2.2.1.2
    have hp : ∀ i, i < k → ∀ least, ((arg i).txt least).length + 2 ≤ 64 * (arg i).size := fun i hi least => by
      obtain ⟨b, o, A', cap', _, _, _, hr⟩ := h.2 i hi
      have h1 := ih i A' cap' hr (hok.2 i hi)
      have h2 := wrapT_len (arg i).op least (arg i).bare
      unfold Ex.txt
      omega
    have hname : name.data.toList.length ≤ 20 := by
      by_cases hc : op = 3 ∨ op = 4 ∨ op = 24 ∨ op = 25 ∨ op = 26
      · exact (name_len (hF.named hc)).2
      · rw [hF.bare hc]; simp
    have hlo := hF.lo
    have hhi := hF.hi
    rw [bare_mk, Ex.size]
    unfold bareOf
    by_cases c1 : op = 1
    · rw [if_pos c1]; have := itoa_len20 (hF.n1 c1) hn; omega
    rw [if_neg c1]
    by_cases c2 : op = 2
    · rw [if_pos c2]; split <;> (simp; omega)
    rw [if_neg c2]
    by_cases c3 : op = 3
    · rw [if_pos c3]; omega
    rw [if_neg c3]
    by_cases c4 : op = 4
    · rw [if_pos c4]
      have := commaTo_len (f := fun i => (arg i).txt 0) (g := fun i => 64 * (arg i).size) k fun i hi => hp i hi 0
      rw [sumTo_add] at this
      simp only [List.length_append, List.length_cons, List.length_nil]
      omega
    rw [if_neg c4]
    by_cases k1 : op = 5 ∨ op = 6 ∨ op = 21 ∨ op = 24 ∨ op = 25
    · have hk := hF.k1 k1
      subst hk
      have h9 := hp 0 (by omega) 9
      have h3 := hp 0 (by omega) 3
      have hs : sumTo (fun i => (arg i).size) 1 = (arg 0).size := by simp [sumTo]
      rw [hs]
      (repeat' split) <;> (try simp only [List.length_append, List.length_cons, List.length_nil]) <;> omega
    by_cases k3 : op = 27
    · have hk := hF.k3 k3
      subst hk
      subst k3
      have q0 := hp 0 (by omega) 0
      have q1 := hp 1 (by omega) 0
      have q2 := hp 2 (by omega) 0
      have hs : sumTo (fun i => (arg i).size) 3 = (arg 0).size + (arg 1).size + (arg 2).size := by simp [sumTo]
      rw [hs]
      simp only [List.length_append, List.length_cons, List.length_nil, reduceIte, show ¬ (27 : Int) = 5 by omega, show ¬ (27 : Int) = 6 by omega, show ¬ (27 : Int) = 21 by omega, show ¬ (27 : Int) = 24 by omega, show ¬ (27 : Int) = 25 by omega, show ¬ (27 : Int) = 26 by omega]
      omega
    · have hk := hF.k2 (by omega)
      subst hk
      have q0 := hp 0 (by omega) 0
      have q1 := hp 1 (by omega) 0
      have r0 := hp 0 (by omega) (leftOf op)
      have r1 := hp 1 (by omega) (rightOf op)
      have hsg := sgn_len op
      have hs : sumTo (fun i => (arg i).size) 2 = (arg 0).size + (arg 1).size := by simp [sumTo]
      rw [hs]
      rw [if_neg (by omega), if_neg (by omega), if_neg (by omega), if_neg (by omega), if_neg (by omega)]
      split
      · simp only [List.length_append, List.length_cons, List.length_nil]; omega
      · simp only [List.length_append, List.length_cons]; omega
theorem txt_len {B : Nat} {w : World} {e : Ex} {A : Option Addr} {cap : Nat} (h : ExAt B w e A cap) (hok : e.ok) (least : Int) : (e.txt least).length + 2 ≤ 64 * e.size := by
  have h1 := bare_len e A cap h hok
  have h2 := wrapT_len e.op least e.bare
  unfold Ex.txt
  omega
end Go.Proofs.Ytnlikhjmmnaknaa
/-
  The walks of show's and the reference's small functions: Strength, sign, Digits.
-/
namespace Go.Proofs.Ytnlikhjmmnaknaa
open Go.RowKit

theorem strL_eq : ∀ j : Nat, j < 27 → strL[j]?.getD 0 = strOf ((j : Int) + 1) := by decide
theorem strL_val (j : Nat) (h : j < 27) (h' : j < (strL.map (Value.int .i64)).length) : (strL.map (Value.int .i64))[j]'h' = .int .i64 (strL[j]?.getD 0) := by
  rw [List.getElem_map, List.getElem?_eq_getElem (show j < strL.length from h)]; rfl
theorem strOf_at {op : Int} {j : Nat} (h : op = (j : Int) + 1) (hj : j < 27) : strOf op = strL[j]?.getD 0 := by rw [strL_eq j hj, h]
theorem strOf_out {op : Int} (h : op < 1 ∨ 27 < op) : strOf op = 10 := by unfold strOf; rw [if_pos h]

/-- the same by cases -/
def strC (op : Int) : Int :=
  if op = 27 then 0 else if op = 23 then 1 else if op = 22 then 2 else if op = 24 ∨ op = 25 then 3 else if op = 19 ∨ op = 20 then 4 else if op = 18 then 5
  else if 12 ≤ op ∧ op ≤ 17 then 6 else if op = 7 ∨ op = 8 then 7 else if 9 ≤ op ∧ op ≤ 11 then 8 else if op = 5 ∨ op = 6 ∨ op = 21 then 9 else 10
theorem strC_eq (op : Int) : strOf op = strC op := by
  by_cases h : 1 ≤ op ∧ op ≤ 27
  · obtain ⟨j, rfl⟩ : ∃ j : Nat, op = (j : Int) + 1 := ⟨(op - 1).toNat, by omega⟩
    have : ∀ j : Nat, j < 27 → strOf ((j : Int) + 1) = strC ((j : Int) + 1) := by decide
    exact this j (by omega)
  · rw [strOf_out (by omega)]
    unfold strC
    (repeat' split) <;> omega

theorem op_case {op : Int} (h : 1 ≤ op ∧ op ≤ 27) : op = 1 ∨ op = 2 ∨ op = 3 ∨ op = 4 ∨ op = 5 ∨ op = 6 ∨ op = 7 ∨ op = 8 ∨ op = 9 ∨ op = 10 ∨ op = 11 ∨ op = 12 ∨ op = 13 ∨ op = 14 ∨ op = 15 ∨ op = 16 ∨ op = 17 ∨ op = 18 ∨ op = 19 ∨ op = 20 ∨ op = 21 ∨ op = 22 ∨ op = 23 ∨ op = 24 ∨ op = 25 ∨ op = 26 ∨ op = 27 := by omega
set_option maxHeartbeats 1600000 in
theorem strength_any (op : Int) (w : World) :
    Calls Try.prog 34 #[.int .i64 op] w fun e w' => e = .returned (.int .i64 (strOf op)) ∧ w = w' := by
  by_cases h : 1 ≤ op ∧ op ≤ 27
  · rcases op_case h with h | h | h | h | h | h | h | h | h | h | h | h | h | h | h | h | h | h | h | h | h | h | h | h | h | h | h <;>
      (subst h
       go_enter Try.func34, Try.ntmps34
       go_wp2_with fail
       go_ret
       exact ⟨rfl, rfl⟩)
  · have HR := hid (strOf_out (op := op) (by omega))
    have hne : ∀ k : Int, 1 ≤ k → k ≤ 27 → (op == k) = false := fun k h1 h2 => by simp; omega
    have h27 := hne 27 (by omega) (by omega)
    have h23 := hne 23 (by omega) (by omega)
    have h22 := hne 22 (by omega) (by omega)
    have h24 := hne 24 (by omega) (by omega)
    have h25 := hne 25 (by omega) (by omega)
    have h19 := hne 19 (by omega) (by omega)
    have h20 := hne 20 (by omega) (by omega)
    have h18 := hne 18 (by omega) (by omega)
    have h12 := hne 12 (by omega) (by omega)
    have h13 := hne 13 (by omega) (by omega)
    have h14 := hne 14 (by omega) (by omega)
    have h15 := hne 15 (by omega) (by omega)
    have h16 := hne 16 (by omega) (by omega)
    have h17 := hne 17 (by omega) (by omega)
    have h7 := hne 7 (by omega) (by omega)
    have h8 := hne 8 (by omega) (by omega)
    have h9 := hne 9 (by omega) (by omega)
    have h10 := hne 10 (by omega) (by omega)
    have h11 := hne 11 (by omega) (by omega)
    have h5 := hne 5 (by omega) (by omega)
    have h6 := hne 6 (by omega) (by omega)
    have h21 := hne 21 (by omega) (by omega)
    clear hne h
    go_enter Try.func34, Try.ntmps34
    go_wp2_with fail
    go_ret
    exact ⟨ret_int HR.out.symm, rfl⟩

/-- an op of two parts that has a sign -/
def signed (op : Int) : Prop := (7 ≤ op ∧ op ≤ 20) ∨ op = 22 ∨ op = 23
theorem sgnL_val (j : Nat) (h : j < 17) (h' : j < (sgnL.map Value.string).length) : (sgnL.map Value.string)[j]'h' = .string (sgnL[j]?.getD ⟨#[]⟩) := by
  rw [List.getElem_map, List.getElem?_eq_getElem (show j < sgnL.length from h)]; rfl

theorem sgn_case {op : Int} (h : signed op) : op = 7 ∨ op = 8 ∨ op = 9 ∨ op = 10 ∨ op = 11 ∨ op = 12 ∨ op = 13 ∨ op = 14 ∨ op = 15 ∨ op = 16 ∨ op = 17 ∨ op = 18 ∨ op = 19 ∨ op = 20 ∨ op = 22 ∨ op = 23 := by
  unfold signed at h; omega

theorem digit_cut {n : Nat} (h : n < 10) : ((⟨#[48, 49, 50, 51, 52, 53, 54, 55, 56, 57]⟩ : ByteArray).extract n (n + 1)).data.toList = [UInt8.ofNat (48 + n)] := by
  have : ∀ m, m < 10 → ((⟨#[48, 49, 50, 51, 52, 53, 54, 55, 56, 57]⟩ : ByteArray).extract m (m + 1)).data.toList = [UInt8.ofNat (48 + m)] := by decide
  exact this n h
theorem digits_step {n : Nat} (h : ¬ n < 10) : Lib.decDigits n = Lib.decDigits (n / 10) ++ Lib.decDigits (n % 10) := by
  rw [Lib.decDigits, dif_neg h, Lib.decDigits_one (show n % 10 < 10 from Nat.mod_lt _ (by omega))]
theorem dec_le {n : Nat} (h : n ≤ 9223372036854775807) : (Lib.decDigits n).length ≤ 20 := by
  rw [Lib.decDigits_length]; exact Lib.nDigits_le20 n (by omega)

theorem str_append (a b : List UInt8) : (⟨a.toArray⟩ : ByteArray) ++ ⟨b.toArray⟩ = ⟨(a ++ b).toArray⟩ := by
  apply ByteArray.ext
  simp

end Go.Proofs.Ytnlikhjmmnaknaa
