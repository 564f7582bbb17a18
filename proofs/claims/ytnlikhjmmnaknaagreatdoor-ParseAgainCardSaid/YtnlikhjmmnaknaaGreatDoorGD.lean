/-
  Texts of this claim, joined: Txt Show1 Build ShowW ShowL ShowB ShowC ShowX.
-/
import Derived.Test.YtnlikhjmmnaknaaGreatDoorGC
import Derived.Lib.ItoaMem
import Derived.Lib.ItoaLen
import Derived.Deep.AppendLies
import Derived.Test.YtnlikhjmmnaknaaGreatDoorGA
import Derived.Shelf.Strings.Builder1
import Derived.Test.YtnlikhjmmnaknaaGreatDoorHShelf
import Derived.Test.YtnlikhjmmnaknaaGreatDoorGB
/-
  The text of an expression, in plain Lean.
-/
namespace Go.Proofs.YtnlikhjmmnaknaaGreatDoor
open Go.RowKit

def strL : List Int := [10, 10, 10, 10, 9, 9, 7, 7, 8, 8, 8, 6, 6, 6, 6, 6, 6, 5, 4, 4, 9, 2, 1, 3, 3, 10, 0]
/-- how strong an op is -/
def strOf (op : Int) : Int := if op < 1 ∨ 27 < op then 10 else strL[(op - 1).toNat]?.getD 0
def sgnL : List ByteArray := [⟨#[43]⟩, ⟨#[45]⟩, ⟨#[42]⟩, ⟨#[47]⟩, ⟨#[37]⟩, ⟨#[61]⟩, ⟨#[60, 62]⟩, ⟨#[60]⟩, ⟨#[60, 61]⟩, ⟨#[62]⟩, ⟨#[62, 61]⟩, ⟨#[97, 110, 100]⟩, ⟨#[111, 114]⟩, ⟨#[120, 111, 114]⟩, ⟨#[]⟩, ⟨#[102, 98, 121]⟩, ⟨#[45, 62]⟩]
/-- the sign of an op of two parts -/
def sgnOf (op : Int) : ByteArray := sgnL[(op - 7).toNat]?.getD ⟨#[]⟩

/-- a text where it has to be so strong -/
def wrapT (op least : Int) (t : List UInt8) : List UInt8 := if strOf op < least then 40 :: (t ++ [41]) else t
/-- the first so many, with commas between -/
def commaTo (f : Nat → List UInt8) : Nat → List UInt8
  | 0 => []
  | n + 1 => commaTo f n ++ ((if n = 0 then [] else [44, 32]) ++ f n)
/-- how strong the parts of an op of two parts have to be -/
def leftOf (op : Int) : Int := if strOf op = 6 then 7 else if strOf op = 1 ∨ strOf op = 2 then strOf op + 1 else strOf op
def rightOf (op : Int) : Int := if strOf op = 1 ∨ strOf op = 2 then strOf op else strOf op + 1
/-- the text of an op with its name, number and parts -/
def bareOf (op : Int) (name : ByteArray) (n : Int) (k : Nat) (p : Nat → Int → List UInt8) : List UInt8 :=
  if op = 1 then Lib.itoa n
  else if op = 2 then (if n = 1 then [116, 114, 117, 101] else [102, 97, 108, 115, 101])
  else if op = 3 then name.data.toList
  else if op = 4 then name.data.toList ++ (40 :: (commaTo (fun i => p i 0) k ++ [41]))
  else if op = 5 then 45 :: p 0 9
  else if op = 6 then [110, 111, 116, 32] ++ p 0 9
  else if op = 21 then [112, 114, 101, 32] ++ p 0 9
  else if op = 24 then p 0 3 ++ ([32, 119, 104, 101, 110, 32] ++ name.data.toList)
  else if op = 25 then p 0 3 ++ ([32, 119, 104, 101, 110, 32, 110, 111, 116, 32] ++ name.data.toList)
  else if op = 26 then [109, 101, 114, 103, 101, 32] ++ (name.data.toList ++ ([32, 40] ++ (p 0 0 ++ ([41, 32, 40] ++ (p 1 0 ++ [41])))))
  else if op = 27 then [105, 102, 32] ++ (p 0 0 ++ ([32, 116, 104, 101, 110, 32] ++ (p 1 0 ++ ([32, 101, 108, 115, 101, 32] ++ p 2 0))))
  else p 0 (leftOf op) ++ (32 :: ((sgnOf op).data.toList ++ (32 :: p 1 (rightOf op))))
def Ex.bare : Ex → List UInt8
  | .junk => []
  | .mk op name n k arg _ _ => bareOf op name n k fun i least => wrapT (arg i).op least (arg i).bare
/-- the text of an expression that has to be so strong -/
def Ex.txt (e : Ex) (least : Int) : List UInt8 := wrapT e.op least e.bare
theorem bare_mk (op : Int) (name : ByteArray) (n : Int) (k : Nat) (arg : Nat → Ex) (l c : Int) : (Ex.mk op name n k arg l c).bare = bareOf op name n k fun i least => (arg i).txt least := rfl

theorem strOf_bd (op : Int) : 0 ≤ strOf op ∧ strOf op ≤ 10 := by
  unfold strOf
  split
  · omega
  · rename_i h
    have : ∀ j : Nat, j < 27 → 0 ≤ strL[j]?.getD 0 ∧ strL[j]?.getD 0 ≤ 10 := by decide
    exact this _ (by omega)

/-- it and all within it is plain -/
def Ex.ok : Ex → Prop
  | .junk => False
  | .mk op name n k arg _ _ => plainOf op name n k = true ∧ ∀ i, i < k → (arg i).ok

theorem mem_flatTo {α : Type} {f : Nat → List α} {i : Nat} {x : α} : ∀ {k : Nat}, i < k → x ∈ f i → x ∈ flatTo f k := by
  intro k
  induction k with
  | zero => intro h; omega
  | succ k ih =>
    intro h hx
    rw [flatTo_succ, List.mem_append]
    by_cases h1 : i = k
    · subst h1; exact .inr hx
    · exact .inl (ih (by omega) hx)
theorem ok_of_all {B : Nat} {w : World} : ∀ (e : Ex) (A : Option Addr) (cap : Nat), ExAt B w e A cap → (∀ x ∈ e.pre, plainE x = true) → e.ok := by
  intro e
  induction e with
  | junk => intro A cap h; exact h.elim
  | mk op name n k arg l c ih =>
    intro A cap h hp
    refine ⟨hp (.mk op name n k arg l c) (by rw [Ex.pre]; exact List.mem_cons_self ..), fun i hi => ?_⟩
    obtain ⟨b, o, A', cap', _, _, _, hr⟩ := h.2 i hi
    exact ih i A' cap' hr fun x hx => hp x (by rw [Ex.pre]; exact List.mem_cons_of_mem _ (mem_flatTo hi hx))
theorem ok_of_right {B : Nat} {w : World} {e : Ex} {A : Option Addr} {cap : Nat} (h : ExAt B w e A cap) (hr : e.right = true) : e.ok := by
  unfold Ex.right at hr
  rw [Bool.and_eq_true, List.all_eq_true] at hr
  exact ok_of_all e A cap h hr.1

/-- what a plain expression has -/
structure PlainF (op : Int) (name : ByteArray) (n : Int) (k : Nat) : Prop where
  lo : 1 ≤ op
  hi : op ≤ 27
  k0 : op ≤ 3 → k = 0
  k4 : op = 4 → 1 ≤ k ∧ k ≤ 8
  k1 : op = 5 ∨ op = 6 ∨ op = 21 ∨ op = 24 ∨ op = 25 → k = 1
  k2 : (7 ≤ op ∧ op ≤ 20) ∨ op = 22 ∨ op = 23 ∨ op = 26 → k = 2
  k3 : op = 27 → k = 3
  n1 : op = 1 → 0 ≤ n
  n2 : op = 2 → n = 0 ∨ n = 1
  n0 : op ≠ 1 → op ≠ 2 → n = 0
  named : op = 3 ∨ op = 4 ∨ op = 24 ∨ op = 25 ∨ op = 26 → isName name.data.toList = true
  bare : ¬ (op = 3 ∨ op = 4 ∨ op = 24 ∨ op = 25 ∨ op = 26) → name.data.toList = []
theorem plain_facts {op : Int} {name : ByteArray} {n : Int} {k : Nat} (h : plainOf op name n k = true) : PlainF op name n k := by
  unfold plainOf at h
  by_cases h1 : partsOf op = -2
  · rw [if_pos h1] at h; cases h
  rw [if_neg h1] at h
  by_cases h2 : partsOf op = -1 ∧ (k < 1 ∨ 8 < k)
  · rw [if_pos h2] at h; cases h
  rw [if_neg h2] at h
  by_cases h3 : 0 ≤ partsOf op ∧ (k : Int) ≠ partsOf op
  · rw [if_pos h3] at h; cases h
  rw [if_neg h3] at h
  have hnm : (namesOp op = true ∨ op = 4) ↔ (op = 3 ∨ op = 4 ∨ op = 24 ∨ op = 25 ∨ op = 26) := by simp [namesOp]; omega
  rw [show (if namesOp op = true ∨ op = 4 then isName name.data.toList && n == 0 else if op = 1 then name.data.toList.isEmpty && decide (0 ≤ n) else if op = 2 then name.data.toList.isEmpty && (n == 0 || n == 1) else name.data.toList.isEmpty && n == 0) =
    (if (op = 3 ∨ op = 4 ∨ op = 24 ∨ op = 25 ∨ op = 26) then isName name.data.toList && n == 0 else if op = 1 then name.data.toList.isEmpty && decide (0 ≤ n) else if op = 2 then name.data.toList.isEmpty && (n == 0 || n == 1) else name.data.toList.isEmpty && n == 0) from by simp only [hnm]] at h
  have hE : name.data.toList.isEmpty = true → name.data.toList = [] := List.isEmpty_iff.1
  unfold partsOf at h1 h2 h3
  by_cases c1 : op = 1 ∨ op = 2 ∨ op = 3
  · rw [if_pos c1] at h1 h2 h3
    refine ⟨by omega, by omega, fun _ => by omega, fun _ => by omega, fun _ => by omega, fun _ => by omega, fun _ => by omega, fun e => ?_, fun e => ?_, fun e e' => ?_, fun e => ?_, fun e => ?_⟩
    · rw [if_neg (by omega), if_pos e] at h; simp at h; exact h.2
    · rw [if_neg (by omega), if_neg (by omega), if_pos e] at h; simp at h; exact h.2
    · rw [if_pos (by omega)] at h; simp at h; exact h.2
    · rw [if_pos e] at h; simp at h; exact h.1
    · rw [if_neg e] at h
      rcases (by omega : op = 1 ∨ op = 2) with c | c
      · rw [if_pos c] at h; rw [Bool.and_eq_true] at h; exact hE h.1
      · rw [if_neg (by omega), if_pos c] at h; rw [Bool.and_eq_true] at h; exact hE h.1
  · rw [if_neg c1] at h1 h2 h3
    have h' : (if (op = 3 ∨ op = 4 ∨ op = 24 ∨ op = 25 ∨ op = 26) then isName name.data.toList && n == 0 else name.data.toList.isEmpty && n == 0) = true := by
      rw [← h]; split
      · rfl
      · rw [if_neg (by omega), if_neg (by omega)]
    have hn0 : n = 0 := by
      split at h' <;> (simp at h'; exact h'.2)
    have hnd : (op = 3 ∨ op = 4 ∨ op = 24 ∨ op = 25 ∨ op = 26) → isName name.data.toList = true := fun e => by rw [if_pos e] at h'; simp at h'; exact h'.1
    have hbr : ¬ (op = 3 ∨ op = 4 ∨ op = 24 ∨ op = 25 ∨ op = 26) → name.data.toList = [] := fun e => by rw [if_neg e, Bool.and_eq_true] at h'; exact hE h'.1
    refine ⟨?_, ?_, ?_, ?_, ?_, ?_, ?_, fun _ => by omega, fun _ => by omega, fun _ _ => hn0, hnd, hbr⟩ <;>
      (clear h h' hnm hE hnd hbr hn0
       by_cases c2 : op = 4
       · rw [if_pos c2] at h1 h2 h3; omega
       · rw [if_neg c2] at h1 h2 h3
         by_cases c3 : op = 5 ∨ op = 6 ∨ op = 21 ∨ op = 24 ∨ op = 25
         · rw [if_pos c3] at h1 h2 h3; omega
         · rw [if_neg c3] at h1 h2 h3
           by_cases c4 : (7 ≤ op ∧ op ≤ 20) ∨ op = 22 ∨ op = 23 ∨ op = 26
           · rw [if_pos c4] at h1 h2 h3; omega
           · rw [if_neg c4] at h1 h2 h3
             by_cases c5 : op = 27
             · rw [if_pos c5] at h1 h2 h3; omega
             · rw [if_neg c5] at h1; omega)

/-! how long it is -/
theorem name_len {l : List UInt8} (h : isName l = true) : 1 ≤ l.length ∧ l.length ≤ 20 := by
  unfold isName isNamed at h
  simp at h
  omega
theorem wrapT_len (op least : Int) (t : List UInt8) : (wrapT op least t).length ≤ t.length + 2 := by
  unfold wrapT; split <;> simp
theorem commaTo_len {f : Nat → List UInt8} {g : Nat → Nat} : ∀ k, (∀ i, i < k → (f i).length + 2 ≤ g i) → (commaTo f k).length ≤ sumTo g k := by
  intro k
  induction k with
  | zero => intro _; simp [commaTo, sumTo]
  | succ k ih =>
    intro h
    have h1 := ih fun i hi => h i (by omega)
    have h2 := h k (by omega)
    rw [commaTo, sumTo_succ, List.length_append, List.length_append]
    have h3 : (if k = 0 then ([] : List UInt8) else [44, 32]).length ≤ 2 := by split <;> simp
    omega
theorem sgn_len (op : Int) : (sgnOf op).data.toList.length ≤ 3 := by
  unfold sgnOf
  by_cases h : (op - 7).toNat < 17
  · have : ∀ j, j < 17 → (sgnL[j]?.getD ⟨#[]⟩).data.toList.length ≤ 3 := by decide
    exact this _ h
  · have e : sgnL[(op - 7).toNat]? = none := List.getElem?_eq_none (Nat.not_lt.1 h)
    rw [e]; simp
theorem sumTo_add (f : Nat → Nat) (c : Nat) : ∀ k, sumTo (fun i => c * f i) k = c * sumTo f k := by
  intro k
  induction k with
  | zero => rfl
  | succ k ih => rw [sumTo_succ, sumTo_succ, ih, Nat.mul_add]
theorem itoa_len20 {n : Int} (h0 : 0 ≤ n) (h1 : n ≤ 9223372036854775807) : (Lib.itoa n).length ≤ 20 := by
  obtain ⟨u, rfl⟩ := Int.eq_ofNat_of_zero_le h0
  rw [Lib.itoa_nonneg, Lib.decDigits_length]
  exact Lib.nDigits_le20 u (by omega)
theorem bare_len {B : Nat} {w : World} : ∀ (e : Ex) (A : Option Addr) (cap : Nat), ExAt B w e A cap → e.ok → e.bare.length + 4 ≤ 64 * e.size := by
  intro e
  induction e with
  | junk => intro A cap h; exact h.elim
  | mk op name n k arg l c ih =>
    intro A cap h hok
    have hF := plain_facts hok.1
    have hn : n ≤ 9223372036854775807 := h.1.2.2.1.2
    have hp : ∀ i, i < k → ∀ least, ((arg i).txt least).length + 2 ≤ 64 * (arg i).size := fun i hi least => by
      obtain ⟨b, o, A', cap', _, _, _, hr⟩ := h.2 i hi
      have h1 := ih i A' cap' hr (hok.2 i hi)
      have h2 := wrapT_len (arg i).op least (arg i).bare
      unfold Ex.txt
      omega
    have hname : name.data.toList.length ≤ 20 := by
      by_cases hc : op = 3 ∨ op = 4 ∨ op = 24 ∨ op = 25 ∨ op = 26
      · exact (name_len (hF.named hc)).2
      · rw [hF.bare hc]; simp
    have hlo := hF.lo
    have hhi := hF.hi
    rw [bare_mk, Ex.size]
    unfold bareOf
    by_cases c1 : op = 1
    · rw [if_pos c1]; have := itoa_len20 (hF.n1 c1) hn; omega
    rw [if_neg c1]
    by_cases c2 : op = 2
    · rw [if_pos c2]; split <;> (simp; omega)
    rw [if_neg c2]
    by_cases c3 : op = 3
    · rw [if_pos c3]; omega
    rw [if_neg c3]
    by_cases c4 : op = 4
    · rw [if_pos c4]
      have := commaTo_len (f := fun i => (arg i).txt 0) (g := fun i => 64 * (arg i).size) k fun i hi => hp i hi 0
      rw [sumTo_add] at this
      simp only [List.length_append, List.length_cons, List.length_nil]
      omega
    rw [if_neg c4]
    by_cases k1 : op = 5 ∨ op = 6 ∨ op = 21 ∨ op = 24 ∨ op = 25
    · have hk := hF.k1 k1
      subst hk
      have h9 := hp 0 (by omega) 9
      have h3 := hp 0 (by omega) 3
      have hs : sumTo (fun i => (arg i).size) 1 = (arg 0).size := by simp [sumTo]
      rw [hs]
      (repeat' split) <;> (try simp only [List.length_append, List.length_cons, List.length_nil]) <;> omega
    by_cases k3 : op = 27
    · have hk := hF.k3 k3
      subst hk
      subst k3
      have q0 := hp 0 (by omega) 0
      have q1 := hp 1 (by omega) 0
      have q2 := hp 2 (by omega) 0
      have hs : sumTo (fun i => (arg i).size) 3 = (arg 0).size + (arg 1).size + (arg 2).size := by simp [sumTo]
      rw [hs]
      simp only [List.length_append, List.length_cons, List.length_nil, reduceIte, show ¬ (27 : Int) = 5 by omega, show ¬ (27 : Int) = 6 by omega, show ¬ (27 : Int) = 21 by omega, show ¬ (27 : Int) = 24 by omega, show ¬ (27 : Int) = 25 by omega, show ¬ (27 : Int) = 26 by omega]
      omega
    · have hk := hF.k2 (by omega)
      subst hk
      have q0 := hp 0 (by omega) 0
      have q1 := hp 1 (by omega) 0
      have r0 := hp 0 (by omega) (leftOf op)
      have r1 := hp 1 (by omega) (rightOf op)
      have hsg := sgn_len op
      have hs : sumTo (fun i => (arg i).size) 2 = (arg 0).size + (arg 1).size := by simp [sumTo]
      rw [hs]
      rw [if_neg (by omega), if_neg (by omega), if_neg (by omega), if_neg (by omega), if_neg (by omega)]
      split
      · simp only [List.length_append, List.length_cons, List.length_nil]; omega
      · simp only [List.length_append, List.length_cons]; omega
theorem txt_len {B : Nat} {w : World} {e : Ex} {A : Option Addr} {cap : Nat} (h : ExAt B w e A cap) (hok : e.ok) (least : Int) : (e.txt least).length + 2 ≤ 64 * e.size := by
  have h1 := bare_len e A cap h hok
  have h2 := wrapT_len e.op least e.bare
  unfold Ex.txt
  omega
end Go.Proofs.YtnlikhjmmnaknaaGreatDoor
/-
  The walks of show's and the reference's small functions: Strength, sign, Digits.
-/
namespace Go.Proofs.YtnlikhjmmnaknaaGreatDoor
open Go.RowKit

theorem strL_eq : ∀ j : Nat, j < 27 → strL[j]?.getD 0 = strOf ((j : Int) + 1) := by decide
theorem strL_val (j : Nat) (h : j < 27) (h' : j < (strL.map (Value.int .i64)).length) : (strL.map (Value.int .i64))[j]'h' = .int .i64 (strL[j]?.getD 0) := by
  rw [List.getElem_map, List.getElem?_eq_getElem (show j < strL.length from h)]; rfl
theorem strOf_at {op : Int} {j : Nat} (h : op = (j : Int) + 1) (hj : j < 27) : strOf op = strL[j]?.getD 0 := by rw [strL_eq j hj, h]
theorem strOf_out {op : Int} (h : op < 1 ∨ 27 < op) : strOf op = 10 := by unfold strOf; rw [if_pos h]

/-- the same by cases -/
def strC (op : Int) : Int :=
  if op = 27 then 0 else if op = 23 then 1 else if op = 22 then 2 else if op = 24 ∨ op = 25 then 3 else if op = 19 ∨ op = 20 then 4 else if op = 18 then 5
  else if 12 ≤ op ∧ op ≤ 17 then 6 else if op = 7 ∨ op = 8 then 7 else if 9 ≤ op ∧ op ≤ 11 then 8 else if op = 5 ∨ op = 6 ∨ op = 21 then 9 else 10
theorem strC_eq (op : Int) : strOf op = strC op := by
  by_cases h : 1 ≤ op ∧ op ≤ 27
  · obtain ⟨j, rfl⟩ : ∃ j : Nat, op = (j : Int) + 1 := ⟨(op - 1).toNat, by omega⟩
    have : ∀ j : Nat, j < 27 → strOf ((j : Int) + 1) = strC ((j : Int) + 1) := by decide
    exact this j (by omega)
  · rw [strOf_out (by omega)]
    unfold strC
    (repeat' split) <;> omega

theorem op_case {op : Int} (h : 1 ≤ op ∧ op ≤ 27) : op = 1 ∨ op = 2 ∨ op = 3 ∨ op = 4 ∨ op = 5 ∨ op = 6 ∨ op = 7 ∨ op = 8 ∨ op = 9 ∨ op = 10 ∨ op = 11 ∨ op = 12 ∨ op = 13 ∨ op = 14 ∨ op = 15 ∨ op = 16 ∨ op = 17 ∨ op = 18 ∨ op = 19 ∨ op = 20 ∨ op = 21 ∨ op = 22 ∨ op = 23 ∨ op = 24 ∨ op = 25 ∨ op = 26 ∨ op = 27 := by omega
set_option maxHeartbeats 1600000 in
theorem strength_any (op : Int) (w : World) :
    Calls Tryz.prog 68 #[.int .i64 op] w fun e w' => e = .returned (.int .i64 (strOf op)) ∧ w = w' := by
  by_cases h : 1 ≤ op ∧ op ≤ 27
  · rcases op_case h with h | h | h | h | h | h | h | h | h | h | h | h | h | h | h | h | h | h | h | h | h | h | h | h | h | h | h <;>
      (subst h
       go_enter Tryz.func68, Tryz.ntmps68
       go_wp2_with fail
       go_ret
       exact ⟨rfl, rfl⟩)
  · have HR := hid (strOf_out (op := op) (by omega))
    have hne : ∀ k : Int, 1 ≤ k → k ≤ 27 → (op == k) = false := fun k h1 h2 => by simp; omega
    have h27 := hne 27 (by omega) (by omega)
    have h23 := hne 23 (by omega) (by omega)
    have h22 := hne 22 (by omega) (by omega)
    have h24 := hne 24 (by omega) (by omega)
    have h25 := hne 25 (by omega) (by omega)
    have h19 := hne 19 (by omega) (by omega)
    have h20 := hne 20 (by omega) (by omega)
    have h18 := hne 18 (by omega) (by omega)
    have h12 := hne 12 (by omega) (by omega)
    have h13 := hne 13 (by omega) (by omega)
    have h14 := hne 14 (by omega) (by omega)
    have h15 := hne 15 (by omega) (by omega)
    have h16 := hne 16 (by omega) (by omega)
    have h17 := hne 17 (by omega) (by omega)
    have h7 := hne 7 (by omega) (by omega)
    have h8 := hne 8 (by omega) (by omega)
    have h9 := hne 9 (by omega) (by omega)
    have h10 := hne 10 (by omega) (by omega)
    have h11 := hne 11 (by omega) (by omega)
    have h5 := hne 5 (by omega) (by omega)
    have h6 := hne 6 (by omega) (by omega)
    have h21 := hne 21 (by omega) (by omega)
    clear hne h
    go_enter Tryz.func68, Tryz.ntmps68
    go_wp2_with fail
    go_ret
    exact ⟨ret_int HR.out.symm, rfl⟩

set_option maxHeartbeats 800000 in
theorem rstrength_any (op : Int) (w : World) :
    Calls Tryz.prog 94 #[.int .i64 op] w fun e w' => e = .returned (.int .i64 (strOf op)) ∧ Below w.heap.size w w' := by
  by_cases h : 1 ≤ op ∧ op ≤ 27
  · obtain ⟨j, rfl⟩ : ∃ j : Nat, op = (j : Int) + 1 := ⟨(op - 1).toNat, by omega⟩
    have hj : j < 27 := by omega
    have hr := strL_eq j hj
    have HR := hid hr
    have hcell : (w.alloc (.cells (strL.map (.int .i64)).toArray 3)).cell? ⟨w.heap.size, j, none⟩ = some (.int .i64 (strL[j]?.getD 0)) := by
      rw [World.cell?_alloc_new]
      simp [List.getElem?_eq_getElem (show j < strL.length from hj)]
    have hbel : Below w.heap.size w (w.alloc (.cells (strL.map (.int .i64)).toArray 3)) := (Below.refl _ _).alloc (Nat.le_refl _) _
    go_enter Tryz.func94, Tryz.ntmps94
    go_wp2_with fail
    go_ret
    refine ⟨?_, hbel⟩
    rw [← HR.out]
    exact congrArg Ending.returned (strL_val j hj _)
  · have HR := hid (strOf_out (op := op) (by omega))
    go_enter Tryz.func94, Tryz.ntmps94
    go_wp2_with fail
    all_goals
      go_ret
      exact ⟨ret_int HR.out.symm, Below.refl _ _⟩

/-- an op of two parts that has a sign -/
def signed (op : Int) : Prop := (7 ≤ op ∧ op ≤ 20) ∨ op = 22 ∨ op = 23
theorem sgnL_val (j : Nat) (h : j < 17) (h' : j < (sgnL.map Value.string).length) : (sgnL.map Value.string)[j]'h' = .string (sgnL[j]?.getD ⟨#[]⟩) := by
  rw [List.getElem_map, List.getElem?_eq_getElem (show j < sgnL.length from h)]; rfl

theorem sgn_case {op : Int} (h : signed op) : op = 7 ∨ op = 8 ∨ op = 9 ∨ op = 10 ∨ op = 11 ∨ op = 12 ∨ op = 13 ∨ op = 14 ∨ op = 15 ∨ op = 16 ∨ op = 17 ∨ op = 18 ∨ op = 19 ∨ op = 20 ∨ op = 22 ∨ op = 23 := by
  unfold signed at h; omega

set_option maxHeartbeats 800000 in
theorem sign_show (op : Int) (w : World) (h : signed op) :
    Calls Tryz.prog 115 #[.int .i64 op] w fun e w' => e = .returned (.string (sgnOf op)) ∧ w = w' := by
  rcases sgn_case h with h | h | h | h | h | h | h | h | h | h | h | h | h | h | h | h <;>
    (subst h
     go_enter Tryz.func115, Tryz.ntmps115
     go_wp2_with fail
     go_ret
     exact ⟨rfl, rfl⟩)

set_option maxHeartbeats 800000 in
theorem rsign_any (op : Int) (w : World) (h : signed op) :
    Calls Tryz.prog 96 #[.int .i64 op] w fun e w' => e = .returned (.string (sgnOf op)) ∧ Below w.heap.size w w' := by
  obtain ⟨j, rfl⟩ : ∃ j : Nat, op = (j : Int) + 7 := ⟨(op - 7).toNat, by unfold signed at h; omega⟩
  have hj : j < 17 := by unfold signed at h; omega
  have hr : sgnOf ((j : Int) + 7) = sgnL[j]?.getD ⟨#[]⟩ := by unfold sgnOf; rw [show ((j : Int) + 7 - 7).toNat = j by omega]
  have HR := hid hr
  clear hr h
  have hcell : (w.alloc (.cells (sgnL.map .string).toArray 9)).cell? ⟨w.heap.size, j, none⟩ = some (.string (sgnL[j]?.getD ⟨#[]⟩)) := by
    rw [World.cell?_alloc_new]
    simp [List.getElem?_eq_getElem (show j < sgnL.length from hj)]
  have hbel : Below w.heap.size w (w.alloc (.cells (sgnL.map .string).toArray 9)) := (Below.refl _ _).alloc (Nat.le_refl _) _
  go_enter Tryz.func96, Tryz.ntmps96
  go_wp2_with fail
  go_ret
  refine ⟨?_, hbel⟩
  rw [HR.out]
  exact congrArg Ending.returned (sgnL_val j hj _)

theorem digit_cut {n : Nat} (h : n < 10) : ((⟨#[48, 49, 50, 51, 52, 53, 54, 55, 56, 57]⟩ : ByteArray).extract n (n + 1)).data.toList = [UInt8.ofNat (48 + n)] := by
  have : ∀ m, m < 10 → ((⟨#[48, 49, 50, 51, 52, 53, 54, 55, 56, 57]⟩ : ByteArray).extract m (m + 1)).data.toList = [UInt8.ofNat (48 + m)] := by decide
  exact this n h
theorem digits_step {n : Nat} (h : ¬ n < 10) : Lib.decDigits n = Lib.decDigits (n / 10) ++ Lib.decDigits (n % 10) := by
  rw [Lib.decDigits, dif_neg h, Lib.decDigits_one (show n % 10 < 10 from Nat.mod_lt _ (by omega))]
theorem dec_le {n : Nat} (h : n ≤ 9223372036854775807) : (Lib.decDigits n).length ≤ 20 := by
  rw [Lib.decDigits_length]; exact Lib.nDigits_le20 n (by omega)

theorem str_append (a b : List UInt8) : (⟨a.toArray⟩ : ByteArray) ++ ⟨b.toArray⟩ = ⟨(a ++ b).toArray⟩ := by
  apply ByteArray.ext
  simp

set_option maxHeartbeats 800000 in
theorem rdigits_any (k : Nat) : ∀ (n : Nat) (w : World), n ≤ k → n ≤ 9223372036854775807 →
    Calls Tryz.prog 95 #[.int .i64 n] w fun e w' => e = .returned (.string ⟨(Lib.decDigits n).toArray⟩) ∧ w = w' := by
  induction k with
  | zero =>
    intro n w hk _
    obtain rfl : n = 0 := by omega
    go_enter Tryz.func95, Tryz.ntmps95
    go_wp2_with fail
    go_ret
    refine ⟨?_, rfl⟩
    rw [Lib.decDigits_one (by omega)]
    rfl
  | succ k ih =>
    intro n w hk hn
    by_cases h : n < 10
    · have HD := hid (Lib.decDigits_one h)
      go_enter Tryz.func95, Tryz.ntmps95
      go_wp2_with fail
      go_ret
      refine ⟨?_, rfl⟩
      rw [HD.out, ← digit_cut h]
      rfl
    · have HD := hid (digits_step h)
      have hq : n / 10 ≤ k := by omega
      have hm := Nat.mod_lt n (show 0 < 10 by omega)
      have hl1 := dec_le (n := n / 10) (by omega)
      have hl2 := dec_le (n := n % 10) (by omega)
      have ih1 := ih (n / 10) w hq (by omega)
      have ih2 := ih (n % 10) w (by omega) (by omega)
      clear ih
      go_enter Tryz.func95, Tryz.ntmps95
      go_wp2_with fail
      refine ih1.mono ?_
      rintro r w1 ⟨rfl, rfl⟩
      go_wp2_with fail
      refine ih2.mono ?_
      rintro r w1 ⟨rfl, rfl⟩
      go_wp2_with fail
      go_ret
      exact ⟨by rw [str_append, ← HD.out]; rfl, rfl⟩
end Go.Proofs.YtnlikhjmmnaknaaGreatDoor
/-
  The walks of strings.Builder's methods where the builder is the one field of show's writer.
-/
namespace Go.Proofs.YtnlikhjmmnaknaaGreatDoor
open Go.RowKit

/-- a writer in block b that holds these bytes -/
def WrAt (B b : Nat) (p : Value) (l : List UInt8) (w : World) : Prop := Lib.BuilderAt 70 5 B b p (Lib.byteCells l) w
def Wr (B b : Nat) (l : List UInt8) (w : World) : Prop := WrAt B b (.pointer none) l w ∨ WrAt B b (.pointer (some ⟨b, 0, none⟩)) l w

/-- what a writer leaves as it was: what lies below; and every block that is no row of bytes, but its own -/
structure Wkeep (B b : Nat) (w w' : World) : Prop where
  below : Below B w w'
  other : ∀ (k : Nat) (cs : Array Value) (t : TypeId) (fr : Nat × Nat), k ≠ b → t ≠ 5 → w.heap[k]? = some (.cells cs t fr) → w'.heap[k]? = some (.cells cs t fr)
section
variable {B b : Nat} {w w' w'' : World}
theorem Wkeep.refl (B b : Nat) (w : World) : Wkeep B b w w := ⟨Below.refl _ _, fun _ _ _ _ _ _ h => h⟩
theorem Wkeep.trans (h : Wkeep B b w w') (h' : Wkeep B b w' w'') : Wkeep B b w w'' := ⟨h.below.trans h'.below, fun k cs t fr hk ht hc => h'.other k cs t fr hk ht (h.other k cs t fr hk ht hc)⟩
theorem heap_lt {k : Nat} {o : Obj} (h : w.heap[k]? = some o) : k < w.heap.size := (Array.getElem?_eq_some_iff.1 h).1
theorem Wkeep.of_below (h : Below w.heap.size w w') (hB : B ≤ w.heap.size) : Wkeep B b w w' := ⟨h.mono hB, fun k _ _ _ _ _ hc => (h.block k (heap_lt hc)).trans hc⟩
theorem Wkeep.alloc (h : Wkeep B b w w') (hB : B ≤ w'.heap.size) (o : Obj) : Wkeep B b w (w'.alloc o) := h.trans (.of_below ((Below.refl _ _).alloc (Nat.le_refl _) o) hB)
theorem Wkeep.set (h : Wkeep B b w w') (hb : B ≤ b) (i : Nat) (v : Value) : Wkeep B b w (w'.setCell ⟨b, i, none⟩ v) :=
  h.trans ⟨(Below.refl _ _).setCell (p := ⟨b, i, none⟩) hb v, fun _ _ _ _ hk _ hc => (Below.heap_setCell _ _ _ _ hk).trans hc⟩
theorem Wkeep.cell (h : Wkeep B b w w') {k : Nat} {cs : Array Value} {t : TypeId} {fr : Nat × Nat} (hk : k ≠ b) (ht : t ≠ 5) (hc : w.heap[k]? = some (.cells cs t fr)) (i : Nat) : w'.cell? ⟨k, i, none⟩ = cs[i]? := by
  have := h.other k cs t fr hk ht hc
  simp [World.cell?, this]
theorem Wr.lt {l : List UInt8} (h : Wr B b l w) : b < w.heap.size := by rcases h with h | h <;> exact h.lt
theorem Wr.le {l : List UInt8} (h : Wr B b l w) : B ≤ b := by rcases h with h | h <;> exact h.1
theorem WrAt.kept {p : Value} {l : List UInt8} (h : WrAt B b p l w) (hg : w.grownBy w' none) : WrAt B b p l w' := by
  obtain ⟨h1, v, h2, h3, h4⟩ := h
  exact ⟨h1, v, (hg.block b (heap_lt h2) (by simp)).trans h2, h3.kept hg (by cases hv : v.ownBlock <;> simp), h4⟩
theorem Wr.kept {l : List UInt8} (h : Wr B b l w) (hg : w.grownBy w' none) : Wr B b l w' := by
  rcases h with h | h
  · exact .inl (h.kept hg)
  · exact .inr (h.kept hg)
theorem Wr.below {l : List UInt8} (h : Wr B b l w) (hg : Below w.heap.size w w') : Wr B b l w' := h.kept ⟨hg.os, hg.tape, hg.output, hg.size, fun i hi _ => hg.block i hi⟩
theorem Wr.alloc {l : List UInt8} (h : Wr B b l w) (o : Obj) : Wr B b l (w.alloc o) := h.below ((Below.refl _ _).alloc (Nat.le_refl _) o)
end

theorem writer_info : (Tryz.prog.info? 68).map (·.size) = some 2 := by kernel_rfl
theorem writer_lies : liesAt Tryz.prog Tryz.prog.depth 70 (2 / Tryz.prog.cellsOf 70) 0 68 1 = true := by kernel_rfl
theorem byte_info : (Tryz.prog.info? 5).map (fun i => (i.zero, i.size, i.bytes)) = some (some (.int .u8 0), 1, 1) := by kernel_rfl
theorem byte_cells : Tryz.prog.cellsOf 5 = 1 := by kernel_rfl
theorem writer_ne : (70 : TypeId) ≠ 5 := by decide
set_option maxHeartbeats 1000000 in
set_option maxRecDepth 100000 in
theorem copy_used (b : Nat) (w : World) (h0 : w.cell? ⟨b, 0, none⟩ = some (.pointer (some ⟨b, 0, none⟩))) :
    Calls Tryz.prog 92 #[.pointer (some ⟨b, 0, none⟩)] w fun e w' => e = .returned (.tuple #[]) ∧ w = w' := by
  obtain ⟨j, hj, _⟩ := Option.map_eq_some_iff.1 writer_info
  go_enter Tryz.func92, Tryz.ntmps92
  go_wp2_with fail
  rw [Lib.run_neq_ptr_same w _ Tryz.underlying65 hj]
  go_wp2_with fail
  go_end0
  exact ⟨rfl, rfl⟩

set_option maxHeartbeats 1000000 in
set_option maxRecDepth 100000 in
theorem copy_fresh (b : Nat) (w : World) (h0 : w.cell? ⟨b, 0, none⟩ = some (.pointer none)) (hsh : w.shape? b = some (70, 2)) (hfz : w.frozen? ⟨b, 0, none⟩ = false) :
    Calls Tryz.prog 92 #[.pointer (some ⟨b, 0, none⟩)] w fun e w' => e = .returned (.tuple #[]) ∧ w' = w.setCell ⟨b, 0, none⟩ (.pointer (some ⟨b, 0, none⟩)) := by
  obtain ⟨j, hj, hjs⟩ := Option.map_eq_some_iff.1 writer_info
  go_enter Tryz.func92, Tryz.ntmps92
  go_wp2_with fail
  rw [Lib.run_to_unsafe w ⟨b, 0, none⟩ Tryz.underlying65 Tryz.underlying147 hj (by rw [hjs]; decide) hsh (Nat.zero_lt_succ 1)]
  simp only [Result.andThen]
  rw [Oper.upon_value]
  go_wp2_with fail
  rw [run_callFunc_extern Tryz.func111 (by kernel_rfl) (by kernel_rfl) (by kernel_rfl) (e := Extern.AbiNoEscape.same) (by kernel_rfl)]
  rw [Lib.run_noEscape]
  simp only [Result.andThen]
  rw [Oper.upon_value]
  go_wp2_with fail
  rw [Lib.run_from_unsafe w ⟨b, 0, none⟩ Tryz.underlying147 Tryz.underlying65 hj hsh writer_lies]
  simp only [Result.andThen]
  rw [Oper.upon_value]
  go_wp2_with fail
  go_end0
  exact ⟨rfl, rfl⟩

theorem copy_any (B b : Nat) (l : List UInt8) (w : World) (h : Wr B b l w) :
    Calls Tryz.prog 92 #[.pointer (some ⟨b, 0, none⟩)] w fun e w' => e = .returned (.tuple #[]) ∧ (WrAt B b (.pointer (some ⟨b, 0, none⟩)) l w' ∧ Wkeep B b w w') := by
  rcases h with h | h
  · refine (copy_fresh b w h.cell0 h.shape h.frozen0).mono ?_
    rintro e w' ⟨rfl, rfl⟩
    exact ⟨rfl, h.used _, (Wkeep.refl B b w).set h.1 0 _⟩
  · refine (copy_used b w h.cell0).mono ?_
    rintro e w' ⟨rfl, rfl⟩
    exact ⟨rfl, h, Wkeep.refl B b _⟩

set_option maxHeartbeats 2000000 in
set_option maxRecDepth 100000 in
theorem writeString_any (B b : Nat) (l : List UInt8) (s : ByteArray) (w : World) (h : Wr B b l w) (hlen : l.length + s.size ≤ 140737488355328) (hBw : B ≤ w.heap.size) :
    Calls Tryz.prog 53 #[.pointer (some ⟨b, 0, none⟩), .string s] w fun e w' => e = .returned (.tuple #[.int .i64 s.size, .nilIface]) ∧ (Wr B b (l ++ s.data.toList) w' ∧ Wkeep B b w w') := by
  obtain ⟨i0, hi, hz0, hz1, hz2⟩ := info_parts byte_info
  go_enter Tryz.func53, Tryz.ntmps53
  go_wp2_with fail
  refine (copy_any B b l _ h).mono ?_
  rintro e w1 ⟨rfl, h1, hk1⟩
  have hb1 := hk1.below
  obtain ⟨hB, v, hbk, hown, hne⟩ := h1
  rw [Lib.byteCells_length] at hown
  have c0 : w1.cell? ⟨b, 0, none⟩ = some (.pointer (some ⟨b, 0, none⟩)) := by rw [Lib.cell_of_heap hbk]; rfl
  have c1 : w1.cell? ⟨b, 1, none⟩ = some v := by rw [Lib.cell_of_heap hbk]; rfl
  go_wp2_with (at_builtin; refine Lib.wpList_append_own_string _ rfl _ _ 66 9 rfl B 5 i0 Tryz.underlying66 Tryz.underlying9 hi hz0 hz1 hz2 _ _ _ rfl hown s rfl ?c3 ?c4 ?c5 ?_)
  case c3 => unfold maxLen; omega
  case c4 => omega
  case c5 => have := hb1.size; omega
  intro v' w2 hown' hgrow _
  have hlt : b < w1.heap.size := by
    rcases Nat.lt_or_ge b w1.heap.size with h' | h'
    · exact h'
    · simp [Array.getElem?_eq_none h'] at hbk
  have hb2 : w2.heap[b]? = some (.cells #[.pointer (some ⟨b, 0, none⟩), v] 70 (0, 0)) := by
    rw [hgrow.block b hlt (fun e => hne e.symm)]
    exact hbk
  have d0 : w2.cell? ⟨b, 0, none⟩ = some (.pointer (some ⟨b, 0, none⟩)) := by rw [Lib.cell_of_heap hb2]; rfl
  have d1 : w2.cell? ⟨b, 1, none⟩ = some v := by rw [Lib.cell_of_heap hb2]; rfl
  have f1 : w2.frozen? ⟨b, 1, none⟩ = false := Lib.frozen_of_heap hb2 1
  obtain ⟨ao, n', cap, rfl⟩ : ∃ ao n' cap, v' = .slice ao n' cap := by
    rcases hown'.2 with ⟨hv, _⟩ | ⟨g, cap, cur, hv, _⟩
    · exact ⟨_, _, _, hv⟩
    · exact ⟨_, _, _, hv⟩
  go_wp2_with fail
  go_ret2
  refine ⟨rfl, .inr ?_, ?_⟩
  · exact Lib.BuilderAt.put (T := 70) (e := 5) hB hb2 (bs' := Lib.byteCells (l ++ s.data.toList)) (by rw [Lib.byteCells_length, Lib.byteCells_append, List.length_append, show s.data.toList.length = s.size from by rw [Array.length_toList]; rfl]; exact hown') writer_ne
  · refine (hk1.trans ⟨(Below.refl _ _).grown hgrow (by have := hb1.size; omega) (fun k hk => (hown.lt k hk).1), fun k cs t fr hk ht hc => ?_⟩).set hB 1 _
    exact (hgrow.block k (heap_lt hc) (fun e => Lib.ownBlock_ne hown hc ht e.symm)).trans hc

set_option maxHeartbeats 1000000 in
set_option maxRecDepth 100000 in
/-- what was written, of a writer that holds a byte -/
theorem wrote_any (B b : Nat) (l : List UInt8) (w : World) (h : Wr B b l w) (h0 : l ≠ []) :
    Calls Tryz.prog 57 #[.pointer (some ⟨b, 0, none⟩)] w fun e w' => e = .returned (.string ⟨l.toArray⟩) ∧ Below B w w' := by
  obtain ⟨p, hB, v, hbk, hown, hne⟩ : ∃ p, WrAt B b p l w := by
    rcases h with h | h
    · exact ⟨_, h⟩
    · exact ⟨_, h⟩
  have hl0 : l.length ≠ 0 := by simpa using h0
  rw [Lib.byteCells_length] at hown
  obtain ⟨g, cap, cur, rfl, hbg, hg, hnc, hcm, hcs, htake⟩ : ∃ g cap cur, v = .slice (some ⟨g, 0, none⟩) l.length cap ∧ B ≤ g ∧ w.heap[g]? = some (.cells cur 5 (0, 0)) ∧ l.length ≤ cap ∧ cap ≤ maxLen ∧ cur.size = cap * 1 ∧ cur.toList.take (l.length * 1) = Lib.byteCells l := by
    rcases hown.2 with ⟨_, hz⟩ | ⟨g, cap, cur, hv, r⟩
    · exact absurd hz hl0
    · exact ⟨g, cap, cur, hv, r⟩
  have c1 : w.drew.cell? ⟨b, 1, none⟩ = some (.slice (some ⟨g, 0, none⟩) l.length cap) := by
    have : w.drew.heap[b]? = some (.cells #[p, .slice (some ⟨g, 0, none⟩) l.length cap] 70 (0, 0)) := hbk
    rw [Lib.cell_of_heap this]; rfl
  have hSD : (Builtin.unsafeSliceData_ #[66] 138 #[.slice (some ⟨g, 0, none⟩) l.length cap]).run Tryz.prog w.drew = .ok (.pointer (some ⟨g, 0, none⟩)) w.drew :=
    Lib.run_unsafeSliceData_row _ _ _ _ _ _ (by omega)
  have hUS : (Builtin.unsafeString_ #[138, 3] 9 #[.pointer (some ⟨g, 0, none⟩), .int .i64 l.length]).run Tryz.prog w.drew = .ok (.string ⟨l.toArray⟩) (w.drew.freeze ⟨g, 0, none⟩ l.length) := by
    refine Lib.run_unsafeString_row w.drew 138 3 9 5 Tryz.underlying138 byte_cells g cur.size (by have hg' : w.drew.heap[g]? = some (.cells cur 5 (0, 0)) := hg; simp [World.shape?, hg']) l h0 (by omega) (by unfold maxLen at hcm; omega) ?_
    intro j x hx
    have := hown.cells (g := g) rfl j (.int .u8 x.toNat) (by simp [Lib.byteCells, hx])
    exact this
  go_enter Tryz.func57, Tryz.ntmps57
  go_wp2_with fail
  go_region
  all_goals (go_wp2_with fail; go_ret; exact ⟨rfl, Lib.below_freeze (Below.drew (Below.refl B w)) (p := ⟨g, 0, none⟩) hbg _⟩)

/-- the bytes of texts, one behind the other -/
def joinB (ls : List ByteArray) : List UInt8 := ls.flatMap fun x => x.data.toList
theorem joinB_take {ls : List ByteArray} {j : Nat} (h : j < ls.length) : joinB (ls.take (j + 1)) = joinB (ls.take j) ++ ls[j].data.toList := by
  unfold joinB
  rw [List.take_succ_eq_append_getElem h, List.flatMap_append]
  simp
theorem joinB_le (ls : List ByteArray) (j : Nat) : (joinB (ls.take j)).length ≤ (joinB ls).length := by
  conv => rhs; rw [← List.take_append_drop j ls]
  unfold joinB
  rw [List.flatMap_append, List.length_append]; omega

set_option maxHeartbeats 1000000 in
theorem all_wr (B b : Nat) (l : List UInt8) (ls : List ByteArray) (k cap : Nat) (w : World) (h : Wr B b l w) (hk : w.heap[k]? = some (.cells (ls.map Value.string).toArray 9 (0, 0))) (hkb : k ≠ b)
    (hlen : l.length + (joinB ls).length ≤ 140737488355328) (hn : ls.length ≤ 1000000) (hBw : B ≤ w.heap.size) :
    Calls Tryz.prog 26 #[.pointer (some ⟨b, 0, none⟩), .slice (some ⟨k, 0, none⟩) ls.length cap] w fun e w' => e = .returned (.tuple #[]) ∧ (Wr B b (l ++ joinB ls) w' ∧ Wkeep B b w w') := by
  have HK := hid hk
  clear hk
  go_enter Tryz.func26, Tryz.ntmps26
  go_wp2_with fail
  go_loopw [8] (fun i wr => ∃ j : Nat, j ≤ ls.length ∧ i = .int .i64 j ∧ Wr B b (l ++ joinB (ls.take j)) wr ∧ Wkeep B b w wr) (fun i _ => ls.length - (intOf i).toNat)
  case atStart => exact ⟨0, by omega, rfl, by simpa [joinB] using h, Wkeep.refl _ _ _⟩
  case round =>
    obtain ⟨j, hj, rfl, hW, hkp⟩ := hrel
    by_cases hlt : j < ls.length
    · have hc : wr.cell? ⟨k, j, none⟩ = some (.string ls[j]) := by
        rw [hkp.cell hkb (by decide) HK.out]
        simp [List.getElem?_eq_getElem hlt]
      have hsz := hkp.below.size
      have hl2 := joinB_le ls (j + 1)
      rw [joinB_take hlt, List.length_append] at hl2
      have hws := writeString_any B b (l ++ joinB (ls.take j)) ls[j] wr hW (by rw [List.length_append, show ls[j].size = ls[j].data.toList.length from by rw [Array.length_toList]; rfl]; omega) (by omega)
      have HW := hid hws
      clear hws hl2
      go_wp2_with fail
      refine HW.out.mono ?_
      rintro r w1 ⟨rfl, hW1, hk1⟩
      go_wp2_with fail
      go_roundw
      case rel => exact ⟨j + 1, by omega, by go_num, by rw [joinB_take hlt, ← List.append_assoc]; exact hW1, hkp.trans hk1⟩
      case measure => simp [intOf]; omega
    · have : j = ls.length := by omega
      subst this
      go_wp2_with fail
      go_end0
      exact ⟨rfl, by rw [List.take_length] at hW; exact hW, hkp⟩
end Go.Proofs.YtnlikhjmmnaknaaGreatDoor
/-
  The walks of show's writer over an expression.
-/
namespace Go.Proofs.YtnlikhjmmnaknaaGreatDoor
open Go.RowKit

/-- the library's table is as it is laid -/
def Tab (w : World) : Prop := Lib.TabIs Tryz.prog w "internal/strconv.uint64pow10" .u64 Lib.pow10Tab
theorem tab_at : Tryz.prog.globalNamed "internal/strconv.uint64pow10" = some 1 := by kernel_rfl
def tabG : Nat := 1
theorem Tab.below {B : Nat} {w w' : World} (h : Tab w) (hb : Below B w w') (hB : tabG < B) : Tab w' := var?_below hb tab_at (by unfold tabG at hB; omega) h
theorem Tab.lt {w : World} (h : Tab w) : tabG < w.heap.size := by
  have hc := Lib.TabIs.cell h tab_at 0 (by decide)
  unfold World.cell? at hc
  split at hc
  · rename_i h1; exact (Array.getElem?_eq_some_iff.1 h1).1
  · cases hc

theorem below_grow (w : World) (k : Nat) (os : Array Obj) : Below w.heap.size w (Go.Sort.grow (w.drewN k) os) :=
  ⟨rfl, rfl, rfl, by simp [Go.Sort.grow, World.drewN], fun i hi => by
    show (w.heap ++ os)[i]? = w.heap[i]?
    rw [Array.getElem?_append_left hi]⟩

theorem itoa_any (n : Int) (w : World) (h : I64 n) (hT : Tab w) :
    Calls Tryz.prog 101 #[.int .i64 n] w fun e w' => e = .returned (.string ⟨(Lib.itoa n).toArray⟩) ∧ Below w.heap.size w w' := by
  refine (Tryz.strconv_Itoa n h.1 h.2 w hT).mono ?_
  rintro e w' ⟨rfl, k, os, rfl⟩
  exact ⟨rfl, below_grow w k os⟩

/-- what a call leaves that writes a text -/
def Writes (B b : Nat) (l t : List UInt8) (w : World) (r : Ending) (w' : World) : Prop := r = .returned (.tuple #[]) ∧ Wr B b (l ++ t) w' ∧ Wkeep B b w w'

theorem ExBox.wkeep {B b k : Nat} {w w' : World} {e : Ex} {A : Option Addr} {cap : Nat} (h : ExBox w k e A cap) (hk : Wkeep B b w w') (hkb : k ≠ b) : ExBox w' k e A cap := hk.other k _ _ _ hkb (by decide) h
theorem ExBox.below {k : Nat} {w w' : World} {e : Ex} {A : Option Addr} {cap : Nat} (h : ExBox w k e A cap) (hk : Below w.heap.size w w') : ExBox w' k e A cap := (hk.block k (heap_lt h)).trans h

theorem all_new (B b : Nat) (l : List UInt8) (ls : List ByteArray) (k n cap : Nat) (cs : Array Value) (W : World) (hW : Wr B b l W) (hk : k = W.heap.size) (hcs : cs = (ls.map Value.string).toArray) (hn : n = ls.length) (hlen : l.length + (joinB ls).length ≤ 140737488355328) (hls : ls.length ≤ 1000) :
    Calls Tryz.prog 26 #[.pointer (some ⟨b, 0, none⟩), .slice (some ⟨k, 0, none⟩) n cap] (W.alloc (.cells cs 9)) (Writes B b l (joinB ls) W) := by
  subst hcs hn hk
  have hlt := hW.lt
  have hle := hW.le
  have h0 : Wkeep B b W (W.alloc (.cells (ls.map Value.string).toArray 9)) := (Wkeep.refl _ _ _).alloc (by omega) _
  refine (all_wr B b l ls W.heap.size cap _ (hW.alloc _) (World.alloc_heap_new W _) (by omega) hlen (by omega) (by simp; omega)).mono ?_
  rintro r w' ⟨rfl, h1, h2⟩
  exact ⟨rfl, h1, h0.trans h2⟩

def ExprW (e : Ex) : Prop := ∀ (B b : Nat) (l : List UInt8) (A : Option Addr) (cap : Nat) (least : Int) (w : World), ExAt B w e A cap → e.ok → Wr B b l w → Tab w → tabG < B → l.length + (e.txt least).length ≤ 140737488355328 →
  Calls Tryz.prog 36 #[.pointer (some ⟨b, 0, none⟩), e.val A cap, .int .i64 least] w (Writes B b l (e.txt least) w)
def BareW (e : Ex) : Prop := ∀ (B b : Nat) (l : List UInt8) (A : Option Addr) (cap : Nat) (w : World), ExAt B w e A cap → e.ok → Wr B b l w → Tab w → tabG < B → l.length + e.bare.length ≤ 140737488355328 →
  Calls Tryz.prog 69 #[.pointer (some ⟨b, 0, none⟩), e.val A cap] w (Writes B b l e.bare w)

set_option maxHeartbeats 1000000 in
theorem expr_of_bare (e : Ex) (hB : BareW e) : ExprW e := by
  intro B b l A cap least w hE hok hW hT hB3 hlen
  have hlt := hW.lt
  have hle := hW.le
  have hbl := bare_len e A cap hE hok
  have hX0 : ExBox (w.alloc (.cells #[.int .i64 e.op, .string e.name, .int .i64 e.num, .slice A e.k cap, .int .i64 e.line, .int .i64 e.col] 41)) w.heap.size e A cap := World.alloc_heap_new w _
  have hK0 : Wkeep B b w (w.alloc (.cells #[.int .i64 e.op, .string e.name, .int .i64 e.num, .slice A e.k cap, .int .i64 e.line, .int .i64 e.col] 41)) := (Wkeep.refl _ _ _).alloc (by omega) _
  have hW0 := hW.alloc (.cells #[.int .i64 e.op, .string e.name, .int .i64 e.num, .slice A e.k cap, .int .i64 e.line, .int .i64 e.col] 41)
  have HB := hid hB
  clear hB
  by_cases hs : strOf e.op < least
  · have HT : Hid (e.txt least = 40 :: (e.bare ++ [41])) := by show _ = _; unfold Ex.txt wrapT; rw [if_pos hs]
    have hlen' : l.length + (e.bare.length + 2) ≤ 140737488355328 := by rw [HT.out] at hlen; simpa using hlen
    clear hlen
    unfold Ex.val
    go_enter Tryz.func36, Tryz.ntmps36
    go_wp2_with fail
    refine (strength_any _ _).mono ?_
    rintro r w0 ⟨rfl, rfl⟩
    go_wp2_with fail
    generalize hV : w.alloc (.cells #[.int .i64 e.op, .string e.name, .int .i64 e.num, .slice A e.k cap, .int .i64 e.line, .int .i64 e.col] 41) = V at *
    have hV0 : w.heap.size + 1 = V.heap.size := by rw [← hV]; simp
    have HV := hid hV
    clear hV
    refine (all_new B b l [⟨#[40]⟩] _ _ _ _ V hW0 hV0 (by rfl) (by rfl) (by simp [joinB]; omega) (by decide)).mono ?_
    rintro r w1 ⟨rfl, hW1, hK1⟩
    have hX1 := hX0.wkeep hK1 (by omega)
    have hK1' := hK0.trans hK1
    obtain ⟨c0, c1, c2, c3, c4, c5⟩ := hX1.cells
    go_wp2_with fail
    refine (HB.out B b _ A cap w1 (hE.below (Nat.le_refl _) hK1'.below) hok hW1 (hT.below hK1'.below hB3) hB3 (by simp [joinB]; omega)).mono ?_
    rintro r w2 ⟨rfl, hW2, hK2⟩
    have hK2' := hK1'.trans hK2
    go_wp2_with fail
    refine (all_new B b _ [⟨#[41]⟩] _ _ _ _ w2 hW2 (by rfl) (by rfl) (by rfl) (by simp [joinB]; omega) (by decide)).mono ?_
    rintro r w3 ⟨rfl, hW3, hK3⟩
    go_wp2_with fail
    go_end0
    refine ⟨rfl, ?_, hK2'.trans hK3⟩
    rw [HT.out]
    simpa [joinB] using hW3
  · have HT : Hid (e.txt least = e.bare) := by show _ = _; unfold Ex.txt wrapT; rw [if_neg hs]
    have hlen' : l.length + e.bare.length ≤ 140737488355328 := by rw [HT.out] at hlen; exact hlen
    clear hlen
    obtain ⟨c0, c1, c2, c3, c4, c5⟩ := hX0.cells
    unfold Ex.val
    go_enter Tryz.func36, Tryz.ntmps36
    go_wp2_with fail
    refine (strength_any _ _).mono ?_
    rintro r w0 ⟨rfl, rfl⟩
    go_wp2_with fail
    refine (HB.out B b _ A cap _ (hE.below (Nat.le_refl _) hK0.below) hok hW0 (hT.below hK0.below hB3) hB3 hlen').mono ?_
    rintro r w2 ⟨rfl, hW2, hK2⟩
    go_wp2_with fail
    go_end0
    refine ⟨rfl, ?_, hK0.trans hK2⟩
    rw [HT.out]
    exact hW2
end Go.Proofs.YtnlikhjmmnaknaaGreatDoor
/-
  The walks of show's writer over a list of expressions, and over an expression of two parts.
-/
namespace Go.Proofs.YtnlikhjmmnaknaaGreatDoor
open Go.RowKit

/-- the parts of an expression, as they lie -/
def PartsAt (B : Nat) (w : World) (A : Option Addr) (k : Nat) (arg : Nat → Ex) : Prop := ∀ i, i < k → ∃ b o A' cap', A = some ⟨b, o, none⟩ ∧ b < B ∧ CellsAt w b (o + i * 6) (arg i) A' cap' ∧ ExAt B w (arg i) A' cap'
theorem PartsAt.below {B B' : Nat} {w w' : World} {A : Option Addr} {k : Nat} {arg : Nat → Ex} (h : PartsAt B w A k arg) (hB : B ≤ B') (hb : Below B' w w') : PartsAt B w' A k arg := fun i hi => by
  obtain ⟨b, o, A', cap', h1, h2, h3, h4⟩ := h i hi
  exact ⟨b, o, A', cap', h1, h2, h3.keep fun i => hb.cell (p := ⟨b, i, none⟩) (by simp; omega), h4.below hB hb⟩

theorem commaTo_mono (f : Nat → List UInt8) {j k : Nat} (h : j ≤ k) : (commaTo f j).length ≤ (commaTo f k).length := by
  induction k with
  | zero => obtain rfl : j = 0 := by omega
            exact Nat.le_refl _
  | succ k ih =>
    by_cases e : j = k + 1
    · subst e; exact Nat.le_refl _
    · have := ih (by omega)
      rw [commaTo, List.length_append]; omega

set_option maxHeartbeats 1000000 in
theorem list_wr (k : Nat) (arg : Nat → Ex) (hx : ∀ i, i < k → ExprW (arg i)) (B b : Nat) (l : List UInt8) (A : Option Addr) (cap : Nat) (w : World) (hA : PartsAt B w A k arg) (hok : ∀ i, i < k → (arg i).ok)
    (hW : Wr B b l w) (hT : Tab w) (hB3 : tabG < B) (hk : k ≤ 1000000) (hlen : l.length + (commaTo (fun i => (arg i).txt 0) k).length ≤ 140737488355328) :
    Calls Tryz.prog 103 #[.pointer (some ⟨b, 0, none⟩), .slice A k cap] w (Writes B b l (commaTo (fun i => (arg i).txt 0) k) w) := by
  have HX := hid hx
  have HA := hid hA
  have HO := hid hok
  clear hx hA hok
  go_enter Tryz.func103, Tryz.ntmps103
  go_wp2_with fail
  go_loopw [8] (fun i wr => ∃ j : Nat, j ≤ k ∧ i = .int .i64 j ∧ Wr B b (l ++ commaTo (fun i => (arg i).txt 0) j) wr ∧ Wkeep B b w wr) (fun i _ => k - (intOf i).toNat)
  case atStart => exact ⟨0, by omega, rfl, by simpa [commaTo] using hW, Wkeep.refl _ _ _⟩
  case round =>
    obtain ⟨j, hj, rfl, hWr, hK⟩ := hrel
    by_cases hlt : j < k
    · obtain ⟨b', o, A', cap', rfl, hb, hcells, hin⟩ := (HA.out.below (Nat.le_refl _) hK.below) j hlt
      obtain ⟨c0, c1, c2, c3, c4, c5⟩ := hcells
      have hm := commaTo_mono (fun i => (arg i).txt 0) (show j + 1 ≤ k by omega)
      rw [commaTo, List.length_append, List.length_append] at hm
      have hltb := hWr.lt
      have hleb := hWr.le
      have hX0 : ExBox (wr.alloc (.cells #[.int .i64 (arg j).op, .string (arg j).name, .int .i64 (arg j).num, .slice A' (arg j).k cap', .int .i64 (arg j).line, .int .i64 (arg j).col] 41)) wr.heap.size (arg j) A' cap' := World.alloc_heap_new wr _
      have hK0 : Wkeep B b wr (wr.alloc (.cells #[.int .i64 (arg j).op, .string (arg j).name, .int .i64 (arg j).num, .slice A' (arg j).k cap', .int .i64 (arg j).line, .int .i64 (arg j).col] 41)) := (Wkeep.refl _ _ _).alloc (by omega) _
      have hW0 := hWr.alloc (.cells #[.int .i64 (arg j).op, .string (arg j).name, .int .i64 (arg j).num, .slice A' (arg j).k cap', .int .i64 (arg j).line, .int .i64 (arg j).col] 41)
      have hxj := HX.out j hlt
      have HXJ := hid hxj
      clear hxj
      by_cases h0 : 0 < j
      · have hm' : l.length + ((commaTo (fun i => (arg i).txt 0) j).length + (2 + ((arg j).txt 0).length)) ≤ 140737488355328 := by rw [if_neg (by omega)] at hm; simp only [List.length_cons, List.length_nil] at hm; omega
        have HC : Hid (commaTo (fun i => (arg i).txt 0) (j + 1) = commaTo (fun i => (arg i).txt 0) j ++ ([44, 32] ++ (arg j).txt 0)) := by show _ = _; rw [commaTo, if_neg (by omega)]
        clear hm
        go_wp2_with fail
        generalize hV : wr.alloc (.cells #[.int .i64 (arg j).op, .string (arg j).name, .int .i64 (arg j).num, .slice A' (arg j).k cap', .int .i64 (arg j).line, .int .i64 (arg j).col] 41) = V at *
        have hV0 : wr.heap.size + 1 = V.heap.size := by rw [← hV]; simp
        have HV := hid hV
        clear hV
        refine (all_new B b _ [⟨#[44, 32]⟩] _ _ _ _ V hW0 hV0 (by rfl) (by rfl) (by simp [joinB]; omega) (by decide)).mono ?_
        rintro r w1 ⟨rfl, hW1, hK1⟩
        have hX1 := hX0.wkeep hK1 (by omega)
        have hK1' := hK0.trans hK1
        obtain ⟨c0, c1, c2, c3, c4, c5⟩ := hX1.cells
        go_wp2_with fail
        refine (HXJ.out B b _ A' cap' 0 w1 (hin.below (Nat.le_refl _) hK1'.below) (HO.out j hlt) hW1 (hT.below (hK.trans hK1').below hB3) hB3 (by simp [joinB]; omega)).mono ?_
        rintro r w2 ⟨rfl, hW2, hK2⟩
        go_wp2_with fail
        go_roundw
        case rel => exact ⟨j + 1, by omega, by go_num, by rw [HC.out]; simpa [joinB] using hW2, hK.trans (hK1'.trans hK2)⟩
        case measure => simp [intOf]; omega
      · obtain rfl : j = 0 := by omega
        have hm' : l.length + ((commaTo (fun i => (arg i).txt 0) 0).length + ((arg 0).txt 0).length) ≤ 140737488355328 := by rw [if_pos rfl] at hm; simp only [List.length_nil] at hm; omega
        have HC : Hid (commaTo (fun i => (arg i).txt 0) (0 + 1) = commaTo (fun i => (arg i).txt 0) 0 ++ (arg 0).txt 0) := by show _ = _; simp [commaTo]
        clear hm
        simp only [Nat.zero_mul, Nat.add_zero] at c0 c1 c2 c3 c4 c5
        obtain ⟨d0, d1, d2, d3, d4, d5⟩ := hX0.cells
        go_wp2_with fail
        refine (HXJ.out B b _ A' cap' 0 _ (hin.below (Nat.le_refl _) hK0.below) (HO.out 0 hlt) hW0 (hT.below (hK.trans hK0).below hB3) hB3 (by rw [List.length_append]; omega)).mono ?_
        rintro r w2 ⟨rfl, hW2, hK2⟩
        go_wp2_with fail
        go_roundw
        case rel => exact ⟨1, by omega, by go_num, by rw [HC.out]; simpa [joinB] using hW2, hK.trans (hK0.trans hK2)⟩
        case measure => simp [intOf]; omega
    · have : j = k := by omega
      subst this
      go_wp2_with fail
      go_end0
      exact ⟨rfl, hWr, hK⟩

theorem joinB_sign (s : ByteArray) : joinB [⟨#[32]⟩, s, ⟨#[32]⟩] = 32 :: (s.data.toList ++ [32]) := by simp [joinB]
theorem strOf_ways (op : Int) : ∃ m L R : Int, strOf op = m ∧ leftOf op = L ∧ rightOf op = R ∧ 0 ≤ m ∧ m ≤ 10 ∧
    ((m = 6 ∧ L = 7 ∧ R = 7) ∨ (m = 1 ∧ L = 2 ∧ R = 1) ∨ (m = 2 ∧ L = 3 ∧ R = 2) ∨ (L = m ∧ R = m + 1 ∧ (m == 6) = false ∧ (m == 1) = false ∧ (m == 2) = false)) := by
  refine ⟨_, _, _, rfl, rfl, rfl, (strOf_bd op).1, (strOf_bd op).2, ?_⟩
  unfold leftOf rightOf
  by_cases h6 : strOf op = 6
  · exact .inl ⟨h6, by rw [if_pos h6], by rw [if_neg (by omega), h6]; rfl⟩
  · by_cases h1 : strOf op = 1
    · exact .inr (.inl ⟨h1, by rw [if_neg h6, if_pos (.inl h1), h1]; rfl, by rw [if_pos (.inl h1), h1]⟩)
    · by_cases h2 : strOf op = 2
      · exact .inr (.inr (.inl ⟨h2, by rw [if_neg h6, if_pos (.inr h2), h2]; rfl, by rw [if_pos (.inr h2), h2]⟩))
      · exact .inr (.inr (.inr ⟨by rw [if_neg h6, if_neg (by omega)], by rw [if_neg (by omega)], by simpa using h6, by simpa using h1, by simpa using h2⟩))

set_option maxHeartbeats 4000000 in
theorem pair_wr (op : Int) (name : ByteArray) (n : Int) (arg : Nat → Ex) (ln cl : Int) (hs : signed op) (hx0 : ExprW (arg 0)) (hx1 : ExprW (arg 1)) (B b : Nat) (l : List UInt8) (A : Option Addr) (cap : Nat) (w : World)
    (hA : PartsAt B w A 2 arg) (hok : ∀ i, i < 2 → (arg i).ok)
    (hW : Wr B b l w) (hT : Tab w) (hB3 : tabG < B) (hlen : l.length + (((arg 0).txt (leftOf op)).length + (((sgnOf op).data.toList).length + 2 + ((arg 1).txt (rightOf op)).length)) ≤ 140737488355328) :
    Calls Tryz.prog 104 #[.pointer (some ⟨b, 0, none⟩), (Ex.mk op name n 2 arg ln cl).val A cap] w
      (Writes B b l ((arg 0).txt (leftOf op) ++ (32 :: ((sgnOf op).data.toList ++ (32 :: (arg 1).txt (rightOf op))))) w) := by
  have hltb := hW.lt
  have hleb := hW.le
  have HX0 := hid hx0
  have HX1 := hid hx1
  have HS := hid hs
  have HO := hid hok
  obtain ⟨b0, o0, A0, cap0, rfl, hb0, hc0, hin0⟩ := hA 0 (by omega)
  have HA := hid hA
  have hX0 : ExBox (w.alloc (.cells #[.int .i64 op, .string name, .int .i64 n, .slice (some ⟨b0, o0, none⟩) 2 cap, .int .i64 ln, .int .i64 cl] 41)) w.heap.size (.mk op name n 2 arg ln cl) (some ⟨b0, o0, none⟩) cap := World.alloc_heap_new w _
  have hK0 : Wkeep B b w (w.alloc (.cells #[.int .i64 op, .string name, .int .i64 n, .slice (some ⟨b0, o0, none⟩) 2 cap, .int .i64 ln, .int .i64 cl] 41)) := (Wkeep.refl _ _ _).alloc (by omega) _
  have hW0 := hW.alloc (.cells #[.int .i64 op, .string name, .int .i64 n, .slice (some ⟨b0, o0, none⟩) 2 cap, .int .i64 ln, .int .i64 cl] 41)
  clear hx0 hx1 hs hok hA hin0 hc0
  obtain ⟨m, L, R, hm, hL, hR, hm0, hm10, hway⟩ := strOf_ways op
  rw [hL, hR] at hlen
  have HM := hid hm
  have HL := hid hL
  have HR := hid hR
  clear hm hL hR
  simp only [Ex.val, Ex.op, Ex.name, Ex.num, Ex.k, Ex.line, Ex.col]
  rcases hway with ⟨rfl, rfl, rfl⟩ | ⟨rfl, rfl, rfl⟩ | ⟨rfl, rfl, rfl⟩ | ⟨rfl, rfl, hq6, hq1, hq2⟩ <;>
  ( go_enter Tryz.func104, Tryz.ntmps104
    go_wp2_with fail
    refine (strength_any _ _).mono ?_
    rintro r w0 ⟨rfl, rfl⟩
    rw [HM.out]
    have hP1 := HA.out.below (Nat.le_refl _) hK0.below
    obtain ⟨b1, o1, A1, cap1, he, hb1, hc1, hin1⟩ := hP1 0 (by omega)
    injection he with he
    injection he with he1 he2
    subst he1 he2
    obtain ⟨c0, c1, c2, c3, c4, c5⟩ := hc1
    simp only [Nat.zero_mul, Nat.add_zero] at c0 c1 c2 c3 c4 c5
    obtain ⟨d0, d1, d2, d3, d4, d5⟩ := hX0.cells
    simp only [Ex.op, Ex.name, Ex.num, Ex.k, Ex.line, Ex.col] at d0 d1 d2 d3 d4 d5
    go_wp2_with fail
    refine (HX0.out B b _ A1 cap1 _ _ hin1 (HO.out 0 (by omega)) hW0 (hT.below hK0.below hB3) hB3 (by omega)).mono ?_
    clear c0 c1 c2 c3 c4 c5 d0 d1 d2 d3 d4 d5
    rintro r w2 ⟨rfl, hW2, hK2⟩
    have hK2' := hK0.trans hK2
    have hX2 := hX0.wkeep hK2 (by omega)
    obtain ⟨d0, d1, d2, d3, d4, d5⟩ := hX2.cells
    simp only [Ex.op, Ex.name, Ex.num, Ex.k, Ex.line, Ex.col] at d0 d1 d2 d3 d4 d5
    go_wp2_with fail
    refine (sign_show _ _ HS.out).mono ?_
    rintro r w3 ⟨rfl, rfl⟩
    go_wp2_with fail
    refine (all_new B b _ [⟨#[32]⟩, sgnOf op, ⟨#[32]⟩] _ _ _ _ w2 hW2 (by rfl) (by rfl) (by rfl) (by rw [joinB_sign, List.length_append, List.length_cons, List.length_append, List.length_cons, List.length_nil]; omega) (by simp)).mono ?_
    clear d0 d1 d2 d3 d4 d5
    rintro r w4 ⟨rfl, hW4, hK4⟩
    have hK4' := hK2'.trans hK4
    have hX4 := hX2.wkeep hK4 (by omega)
    have hP2 := HA.out.below (Nat.le_refl _) hK4'.below
    obtain ⟨b2, o2, A2, cap2, he, hb2, hc2, hin2⟩ := hP2 1 (by omega)
    injection he with he
    injection he with he1 he2
    subst he1 he2
    obtain ⟨c0, c1, c2, c3, c4, c5⟩ := hc2
    simp only [Nat.one_mul] at c0 c1 c2 c3 c4 c5
    obtain ⟨d0, d1, d2, d3, d4, d5⟩ := hX4.cells
    simp only [Ex.op, Ex.name, Ex.num, Ex.k, Ex.line, Ex.col] at d0 d1 d2 d3 d4 d5
    go_wp2_with fail
    refine (HX1.out B b _ A2 cap2 _ _ hin2 (HO.out 1 (by omega)) hW4 (hT.below hK4'.below hB3) hB3 (by rw [joinB_sign, List.length_append, List.length_append, List.length_cons, List.length_append, List.length_cons, List.length_nil]; omega)).mono ?_
    clear c0 c1 c2 c3 c4 c5 d0 d1 d2 d3 d4 d5
    rintro r w5 ⟨rfl, hW5, hK5⟩
    go_wp2_with fail
    go_end0
    refine ⟨rfl, ?_, hK4'.trans hK5⟩
    rw [HL.out, HR.out]
    simpa [joinB] using hW5)
end Go.Proofs.YtnlikhjmmnaknaaGreatDoor
/-
  The walk of show's writer over an expression: every op.
-/
namespace Go.Proofs.YtnlikhjmmnaknaaGreatDoor
open Go.RowKit

theorem joinB_one (s : ByteArray) : joinB [s] = s.data.toList := by simp [joinB]
theorem joinB_two (s t : ByteArray) : joinB [s, t] = s.data.toList ++ t.data.toList := by simp [joinB]
theorem parts_of {B : Nat} {w : World} {op : Int} {name : ByteArray} {n : Int} {k : Nat} {arg : Nat → Ex} {l c : Int} {A : Option Addr} {cap : Nat} (h : ExAt B w (.mk op name n k arg l c) A cap) : PartsAt B w A k arg := h.2

set_option maxHeartbeats 2000000 in
theorem bare_1 (name : ByteArray) (n : Int) (arg : Nat → Ex) (ln cl : Int) (hx : ∀ i, i < 0 → ExprW (arg i)) : BareW (.mk 1 name n 0 arg ln cl) := by
  intro B b l A cap w hE hok hW hT hB3 hlen
  have hltb := hW.lt
  have hleb := hW.le
  have hP := parts_of hE
  have hF := plain_facts hok.1
  have hO := hok.2
  have hI := hE.1
  rw [bare_mk] at hlen
  have HX := hid hx
  have HP := hid hP
  have HO := hid hO
  have hX0 : ExBox (w.alloc (.cells #[.int .i64 1, .string name, .int .i64 n, .slice A (0 : Nat) cap, .int .i64 ln, .int .i64 cl] 41)) w.heap.size (.mk 1 name n 0 arg ln cl) A cap := World.alloc_heap_new w _
  have hK0 : Wkeep B b w (w.alloc (.cells #[.int .i64 1, .string name, .int .i64 n, .slice A (0 : Nat) cap, .int .i64 ln, .int .i64 cl] 41)) := (Wkeep.refl _ _ _).alloc (by omega) _
  have hW0 := hW.alloc (.cells #[.int .i64 1, .string name, .int .i64 n, .slice A (0 : Nat) cap, .int .i64 ln, .int .i64 cl] 41)
  clear hx hP hO
  simp only [Ex.val, Ex.op, Ex.name, Ex.num, Ex.k, Ex.line, Ex.col]
  have hT0 := hT.below hK0.below hB3
  have hlen' : l.length + (Lib.itoa n).length ≤ 140737488355328 := hlen
  have hI64 : I64 n := hI.2.2.1
  clear hlen hok hE hF hI
  obtain ⟨d0, d1, d2, d3, d4, d5⟩ := hX0.cells
  simp only [Ex.op, Ex.name, Ex.num, Ex.k, Ex.line, Ex.col] at d0 d1 d2 d3 d4 d5
  go_enter Tryz.func69, Tryz.ntmps69
  go_wp2_with fail
  generalize hV : w.alloc (.cells #[.int .i64 1, .string name, .int .i64 n, .slice A (0 : Nat) cap, .int .i64 ln, .int .i64 cl] 41) = V at *
  have HV := hid hV
  clear hV
  refine (itoa_any n V hI64 hT0).mono ?_
  rintro r w1 ⟨rfl, hb1⟩
  have hW1 := hW0.below hb1
  have hlt0 := hW0.lt
  have hle0 := hW0.le
  have hK1 : Wkeep B b V w1 := Wkeep.of_below hb1 (by omega)
  go_wp2_with fail
  refine (all_new B b l [⟨(Lib.itoa n).toArray⟩] _ _ _ _ w1 hW1 (by rfl) (by rfl) (by rfl) (by rw [joinB_one]; exact hlen') (by simp)).mono ?_
  rintro r w2 ⟨rfl, hW2, hK2⟩
  go_wp2_with fail
  go_end0
  refine ⟨rfl, ?_, (hK0.trans hK1).trans hK2⟩
  rw [joinB_one] at hW2
  exact hW2

set_option maxHeartbeats 2000000 in
theorem bare_2 (name : ByteArray) (n : Int) (arg : Nat → Ex) (ln cl : Int) (hx : ∀ i, i < 0 → ExprW (arg i)) : BareW (.mk 2 name n 0 arg ln cl) := by
  intro B b l A cap w hE hok hW hT hB3 hlen
  have hltb := hW.lt
  have hleb := hW.le
  have hP := parts_of hE
  have hF := plain_facts hok.1
  have hO := hok.2
  have hI := hE.1
  rw [bare_mk] at hlen
  have HX := hid hx
  have HP := hid hP
  have HO := hid hO
  have hX0 : ExBox (w.alloc (.cells #[.int .i64 2, .string name, .int .i64 n, .slice A (0 : Nat) cap, .int .i64 ln, .int .i64 cl] 41)) w.heap.size (.mk 2 name n 0 arg ln cl) A cap := World.alloc_heap_new w _
  have hK0 : Wkeep B b w (w.alloc (.cells #[.int .i64 2, .string name, .int .i64 n, .slice A (0 : Nat) cap, .int .i64 ln, .int .i64 cl] 41)) := (Wkeep.refl _ _ _).alloc (by omega) _
  have hW0 := hW.alloc (.cells #[.int .i64 2, .string name, .int .i64 n, .slice A (0 : Nat) cap, .int .i64 ln, .int .i64 cl] 41)
  clear hx hP hO
  simp only [Ex.val, Ex.op, Ex.name, Ex.num, Ex.k, Ex.line, Ex.col]
  have hT0 := hT.below hK0.below hB3
  have hI64 : I64 n := hI.2.2.1
  have hfb : ((Lib.formatBool (n == 1)) : List UInt8) = bareOf 2 name n 0 (fun i least => (arg i).txt least) := by
    unfold bareOf
    rcases hF.n2 rfl with h | h <;> subst h <;> rfl
  have hlen' : l.length + (Lib.formatBool (n == 1)).length ≤ 140737488355328 := by rw [hfb]; exact hlen
  have HFB := hid hfb
  clear hlen hok hE hF hI hfb
  obtain ⟨d0, d1, d2, d3, d4, d5⟩ := hX0.cells
  simp only [Ex.op, Ex.name, Ex.num, Ex.k, Ex.line, Ex.col] at d0 d1 d2 d3 d4 d5
  go_enter Tryz.func69, Tryz.ntmps69
  go_wp2_with fail
  refine (Tryz.strconv_FormatBool _ _).mono ?_
  rintro r w1 ⟨rfl, rfl⟩
  go_wp2_with fail
  generalize hV : w.alloc (.cells #[.int .i64 2, .string name, .int .i64 n, .slice A (0 : Nat) cap, .int .i64 ln, .int .i64 cl] 41) = V at *
  have hV0 : w.heap.size + 1 = V.heap.size := by rw [← hV]; simp
  have HV := hid hV
  clear hV
  refine (all_new B b l [⟨(Lib.formatBool (n == 1)).toArray⟩] _ _ _ _ V hW0 hV0 (by rfl) (by rfl) (by rw [joinB_one]; exact hlen') (by simp)).mono ?_
  rintro r w2 ⟨rfl, hW2, hK2⟩
  go_wp2_with fail
  go_end0
  refine ⟨rfl, ?_, hK0.trans hK2⟩
  rw [joinB_one] at hW2
  rw [bare_mk, ← HFB.out]
  exact hW2

set_option maxHeartbeats 2000000 in
theorem bare_3 (name : ByteArray) (n : Int) (arg : Nat → Ex) (ln cl : Int) (hx : ∀ i, i < 0 → ExprW (arg i)) : BareW (.mk 3 name n 0 arg ln cl) := by
  intro B b l A cap w hE hok hW hT hB3 hlen
  have hltb := hW.lt
  have hleb := hW.le
  have hP := parts_of hE
  have hF := plain_facts hok.1
  have hO := hok.2
  have hI := hE.1
  rw [bare_mk] at hlen
  have HX := hid hx
  have HP := hid hP
  have HO := hid hO
  have hX0 : ExBox (w.alloc (.cells #[.int .i64 3, .string name, .int .i64 n, .slice A (0 : Nat) cap, .int .i64 ln, .int .i64 cl] 41)) w.heap.size (.mk 3 name n 0 arg ln cl) A cap := World.alloc_heap_new w _
  have hK0 : Wkeep B b w (w.alloc (.cells #[.int .i64 3, .string name, .int .i64 n, .slice A (0 : Nat) cap, .int .i64 ln, .int .i64 cl] 41)) := (Wkeep.refl _ _ _).alloc (by omega) _
  have hW0 := hW.alloc (.cells #[.int .i64 3, .string name, .int .i64 n, .slice A (0 : Nat) cap, .int .i64 ln, .int .i64 cl] 41)
  clear hx hP hO
  simp only [Ex.val, Ex.op, Ex.name, Ex.num, Ex.k, Ex.line, Ex.col]
  have hT0 := hT.below hK0.below hB3
  have hlen' : l.length + name.data.toList.length ≤ 140737488355328 := hlen
  clear hlen hok hE hF hI
  obtain ⟨d0, d1, d2, d3, d4, d5⟩ := hX0.cells
  simp only [Ex.op, Ex.name, Ex.num, Ex.k, Ex.line, Ex.col] at d0 d1 d2 d3 d4 d5
  go_enter Tryz.func69, Tryz.ntmps69
  go_wp2_with fail
  generalize hV : w.alloc (.cells #[.int .i64 3, .string name, .int .i64 n, .slice A (0 : Nat) cap, .int .i64 ln, .int .i64 cl] 41) = V at *
  have hV0 : w.heap.size + 1 = V.heap.size := by rw [← hV]; simp
  have HV := hid hV
  clear hV
  refine (all_new B b l [name] _ _ _ _ V hW0 hV0 (by rfl) (by rfl) (by rw [joinB_one]; exact hlen') (by simp)).mono ?_
  rintro r w2 ⟨rfl, hW2, hK2⟩
  go_wp2_with fail
  go_end0
  refine ⟨rfl, ?_, hK0.trans hK2⟩
  rw [joinB_one] at hW2
  exact hW2

set_option maxHeartbeats 2000000 in
theorem bare_4 (name : ByteArray) (n : Int) (k : Nat) (arg : Nat → Ex) (ln cl : Int) (hx : ∀ i, i < k → ExprW (arg i)) : BareW (.mk 4 name n k arg ln cl) := by
  intro B b l A cap w hE hok hW hT hB3 hlen
  have hltb := hW.lt
  have hleb := hW.le
  have hP := parts_of hE
  have hF := plain_facts hok.1
  have hO := hok.2
  have hI := hE.1
  rw [bare_mk] at hlen
  have HX := hid hx
  have HP := hid hP
  have HO := hid hO
  have hX0 : ExBox (w.alloc (.cells #[.int .i64 4, .string name, .int .i64 n, .slice A (k : Nat) cap, .int .i64 ln, .int .i64 cl] 41)) w.heap.size (.mk 4 name n k arg ln cl) A cap := World.alloc_heap_new w _
  have hK0 : Wkeep B b w (w.alloc (.cells #[.int .i64 4, .string name, .int .i64 n, .slice A (k : Nat) cap, .int .i64 ln, .int .i64 cl] 41)) := (Wkeep.refl _ _ _).alloc (by omega) _
  have hW0 := hW.alloc (.cells #[.int .i64 4, .string name, .int .i64 n, .slice A (k : Nat) cap, .int .i64 ln, .int .i64 cl] 41)
  clear hx hP hO
  simp only [Ex.val, Ex.op, Ex.name, Ex.num, Ex.k, Ex.line, Ex.col]
  have hT0 := hT.below hK0.below hB3
  have hk8 := (hF.k4 rfl).2
  have hlen' : l.length + (name.data.toList.length + ((commaTo (fun i => (arg i).txt 0) k).length + 2)) ≤ 140737488355328 := by
    rw [show bareOf 4 name n k (fun i least => (arg i).txt least) = name.data.toList ++ (40 :: (commaTo (fun i => (arg i).txt 0) k ++ [41])) from rfl] at hlen
    simp only [List.length_append, List.length_cons, List.length_nil] at hlen
    omega
  clear hlen hok hE hF hI
  obtain ⟨d0, d1, d2, d3, d4, d5⟩ := hX0.cells
  simp only [Ex.op, Ex.name, Ex.num, Ex.k, Ex.line, Ex.col] at d0 d1 d2 d3 d4 d5
  go_enter Tryz.func69, Tryz.ntmps69
  go_wp2_with fail
  generalize hV : w.alloc (.cells #[.int .i64 4, .string name, .int .i64 n, .slice A (k : Nat) cap, .int .i64 ln, .int .i64 cl] 41) = V at *
  have hV0 : w.heap.size + 1 = V.heap.size := by rw [← hV]; simp
  have HV := hid hV
  clear hV
  clear d0 d1 d2 d3 d4 d5
  refine (all_new B b l [name, ⟨#[40]⟩] _ _ _ _ V hW0 hV0 (by rfl) (by rfl) (by rw [joinB_two, List.length_append, List.length_cons, List.length_nil]; omega) (by simp)).mono ?_
  rintro r w2 ⟨rfl, hW2, hK2⟩
  have hK2' := hK0.trans hK2
  have hX2 := hX0.wkeep hK2 (by omega)
  obtain ⟨d0, d1, d2, d3, d4, d5⟩ := hX2.cells
  simp only [Ex.op, Ex.name, Ex.num, Ex.k, Ex.line, Ex.col] at d0 d1 d2 d3 d4 d5
  go_wp2_with fail
  clear d0 d1 d2 d3 d4 d5
  refine (list_wr k arg HX.out B b _ A cap w2 (HP.out.below (Nat.le_refl _) hK2'.below) HO.out hW2 (hT.below hK2'.below hB3) hB3 (by omega) (by rw [joinB_two, List.length_append, List.length_append, List.length_cons, List.length_nil]; omega)).mono ?_
  rintro r w3 ⟨rfl, hW3, hK3⟩
  go_wp2_with fail
  refine (all_new B b _ [⟨#[41]⟩] _ _ _ _ w3 hW3 (by rfl) (by rfl) (by rfl) (by rw [joinB_one, joinB_two, List.length_append, List.length_append, List.length_append, List.length_cons, List.length_nil, List.length_cons, List.length_nil]; omega) (by simp)).mono ?_
  rintro r w4 ⟨rfl, hW4, hK4⟩
  go_wp2_with fail
  go_end0
  refine ⟨rfl, ?_, hK2'.trans (hK3.trans hK4)⟩
  rw [joinB_one, joinB_two] at hW4
  rw [show (Ex.mk 4 name n k arg ln cl).bare = name.data.toList ++ (40 :: (commaTo (fun i => (arg i).txt 0) k ++ [41])) from rfl]
  simpa using hW4

set_option maxHeartbeats 2000000 in
theorem bare_5 (name : ByteArray) (n : Int) (arg : Nat → Ex) (ln cl : Int) (hx : ∀ i, i < 1 → ExprW (arg i)) : BareW (.mk 5 name n 1 arg ln cl) := by
  intro B b l A cap w hE hok hW hT hB3 hlen
  have hltb := hW.lt
  have hleb := hW.le
  have hP := parts_of hE
  have hF := plain_facts hok.1
  have hO := hok.2
  have hI := hE.1
  rw [bare_mk] at hlen
  have HX := hid hx
  have HP := hid hP
  have HO := hid hO
  have hX0 : ExBox (w.alloc (.cells #[.int .i64 5, .string name, .int .i64 n, .slice A (1 : Nat) cap, .int .i64 ln, .int .i64 cl] 41)) w.heap.size (.mk 5 name n 1 arg ln cl) A cap := World.alloc_heap_new w _
  have hK0 : Wkeep B b w (w.alloc (.cells #[.int .i64 5, .string name, .int .i64 n, .slice A (1 : Nat) cap, .int .i64 ln, .int .i64 cl] 41)) := (Wkeep.refl _ _ _).alloc (by omega) _
  have hW0 := hW.alloc (.cells #[.int .i64 5, .string name, .int .i64 n, .slice A (1 : Nat) cap, .int .i64 ln, .int .i64 cl] 41)
  clear hx hP hO
  simp only [Ex.val, Ex.op, Ex.name, Ex.num, Ex.k, Ex.line, Ex.col]
  have hT0 := hT.below hK0.below hB3
  have hlen' : l.length + (1 + ((arg 0).txt 9).length) ≤ 140737488355328 := by
    rw [show bareOf 5 name n 1 (fun i least => (arg i).txt least) = [45] ++ (arg 0).txt 9 from rfl] at hlen
    simp only [List.length_append, List.length_cons, List.length_nil] at hlen
    omega
  clear hlen hok hE hF hI
  obtain ⟨d0, d1, d2, d3, d4, d5⟩ := hX0.cells
  simp only [Ex.op, Ex.name, Ex.num, Ex.k, Ex.line, Ex.col] at d0 d1 d2 d3 d4 d5
  go_enter Tryz.func69, Tryz.ntmps69
  go_wp2_with fail
  generalize hV : w.alloc (.cells #[.int .i64 5, .string name, .int .i64 n, .slice A (1 : Nat) cap, .int .i64 ln, .int .i64 cl] 41) = V at *
  have hV0 : w.heap.size + 1 = V.heap.size := by rw [← hV]; simp
  have HV := hid hV
  clear hV
  clear d0 d1 d2 d3 d4 d5
  refine (all_new B b l [⟨#[45]⟩] _ _ _ _ V hW0 hV0 (by rfl) (by rfl) (by rw [joinB_one]; simp only [List.length_cons, List.length_nil]; omega) (by simp)).mono ?_
  rintro r w2 ⟨rfl, hW2, hK2⟩
  have hK2' := hK0.trans hK2
  have hX2 := hX0.wkeep hK2 (by omega)
  obtain ⟨d0, d1, d2, d3, d4, d5⟩ := hX2.cells
  simp only [Ex.op, Ex.name, Ex.num, Ex.k, Ex.line, Ex.col] at d0 d1 d2 d3 d4 d5
  obtain ⟨b1, o1, A1, cap1, he1, hb1, hc1, hin1⟩ := (HP.out.below (Nat.le_refl _) hK2'.below) 0 (by omega)
  subst he1
  obtain ⟨c0, c1, c2, c3, c4, c5⟩ := hc1
  simp only [Nat.zero_mul, Nat.add_zero] at c0 c1 c2 c3 c4 c5
  go_wp2_with fail
  clear d0 d1 d2 d3 d4 d5
  refine (HX.out 0 (by omega) B b _ A1 cap1 _ _ hin1 (HO.out 0 (by omega)) hW2 (hT.below hK2'.below hB3) hB3 (by rw [joinB_one]; simp only [List.length_append, List.length_cons, List.length_nil]; omega)).mono ?_
  clear c0 c1 c2 c3 c4 c5
  rintro r w3 ⟨rfl, hW3, hK3⟩
  go_wp2_with fail
  go_end0
  refine ⟨rfl, ?_, hK2'.trans hK3⟩
  rw [joinB_one] at hW3
  rw [show (Ex.mk 5 name n 1 arg ln cl).bare = [45] ++ (arg 0).txt 9 from rfl]
  simpa using hW3

set_option maxHeartbeats 2000000 in
theorem bare_6 (name : ByteArray) (n : Int) (arg : Nat → Ex) (ln cl : Int) (hx : ∀ i, i < 1 → ExprW (arg i)) : BareW (.mk 6 name n 1 arg ln cl) := by
  intro B b l A cap w hE hok hW hT hB3 hlen
  have hltb := hW.lt
  have hleb := hW.le
  have hP := parts_of hE
  have hF := plain_facts hok.1
  have hO := hok.2
  have hI := hE.1
  rw [bare_mk] at hlen
  have HX := hid hx
  have HP := hid hP
  have HO := hid hO
  have hX0 : ExBox (w.alloc (.cells #[.int .i64 6, .string name, .int .i64 n, .slice A (1 : Nat) cap, .int .i64 ln, .int .i64 cl] 41)) w.heap.size (.mk 6 name n 1 arg ln cl) A cap := World.alloc_heap_new w _
  have hK0 : Wkeep B b w (w.alloc (.cells #[.int .i64 6, .string name, .int .i64 n, .slice A (1 : Nat) cap, .int .i64 ln, .int .i64 cl] 41)) := (Wkeep.refl _ _ _).alloc (by omega) _
  have hW0 := hW.alloc (.cells #[.int .i64 6, .string name, .int .i64 n, .slice A (1 : Nat) cap, .int .i64 ln, .int .i64 cl] 41)
  clear hx hP hO
  simp only [Ex.val, Ex.op, Ex.name, Ex.num, Ex.k, Ex.line, Ex.col]
  have hT0 := hT.below hK0.below hB3
  have hlen' : l.length + (4 + ((arg 0).txt 9).length) ≤ 140737488355328 := by
    rw [show bareOf 6 name n 1 (fun i least => (arg i).txt least) = [110, 111, 116, 32] ++ (arg 0).txt 9 from rfl] at hlen
    simp only [List.length_append, List.length_cons, List.length_nil] at hlen
    omega
  clear hlen hok hE hF hI
  obtain ⟨d0, d1, d2, d3, d4, d5⟩ := hX0.cells
  simp only [Ex.op, Ex.name, Ex.num, Ex.k, Ex.line, Ex.col] at d0 d1 d2 d3 d4 d5
  go_enter Tryz.func69, Tryz.ntmps69
  go_wp2_with fail
  generalize hV : w.alloc (.cells #[.int .i64 6, .string name, .int .i64 n, .slice A (1 : Nat) cap, .int .i64 ln, .int .i64 cl] 41) = V at *
  have hV0 : w.heap.size + 1 = V.heap.size := by rw [← hV]; simp
  have HV := hid hV
  clear hV
  clear d0 d1 d2 d3 d4 d5
  refine (all_new B b l [⟨#[110, 111, 116, 32]⟩] _ _ _ _ V hW0 hV0 (by rfl) (by rfl) (by rw [joinB_one]; simp only [List.length_cons, List.length_nil]; omega) (by simp)).mono ?_
  rintro r w2 ⟨rfl, hW2, hK2⟩
  have hK2' := hK0.trans hK2
  have hX2 := hX0.wkeep hK2 (by omega)
  obtain ⟨d0, d1, d2, d3, d4, d5⟩ := hX2.cells
  simp only [Ex.op, Ex.name, Ex.num, Ex.k, Ex.line, Ex.col] at d0 d1 d2 d3 d4 d5
  obtain ⟨b1, o1, A1, cap1, he1, hb1, hc1, hin1⟩ := (HP.out.below (Nat.le_refl _) hK2'.below) 0 (by omega)
  subst he1
  obtain ⟨c0, c1, c2, c3, c4, c5⟩ := hc1
  simp only [Nat.zero_mul, Nat.add_zero] at c0 c1 c2 c3 c4 c5
  go_wp2_with fail
  clear d0 d1 d2 d3 d4 d5
  refine (HX.out 0 (by omega) B b _ A1 cap1 _ _ hin1 (HO.out 0 (by omega)) hW2 (hT.below hK2'.below hB3) hB3 (by rw [joinB_one]; simp only [List.length_append, List.length_cons, List.length_nil]; omega)).mono ?_
  clear c0 c1 c2 c3 c4 c5
  rintro r w3 ⟨rfl, hW3, hK3⟩
  go_wp2_with fail
  go_end0
  refine ⟨rfl, ?_, hK2'.trans hK3⟩
  rw [joinB_one] at hW3
  rw [show (Ex.mk 6 name n 1 arg ln cl).bare = [110, 111, 116, 32] ++ (arg 0).txt 9 from rfl]
  simpa using hW3

set_option maxHeartbeats 2000000 in
theorem bare_21 (name : ByteArray) (n : Int) (arg : Nat → Ex) (ln cl : Int) (hx : ∀ i, i < 1 → ExprW (arg i)) : BareW (.mk 21 name n 1 arg ln cl) := by
  intro B b l A cap w hE hok hW hT hB3 hlen
  have hltb := hW.lt
  have hleb := hW.le
  have hP := parts_of hE
  have hF := plain_facts hok.1
  have hO := hok.2
  have hI := hE.1
  rw [bare_mk] at hlen
  have HX := hid hx
  have HP := hid hP
  have HO := hid hO
  have hX0 : ExBox (w.alloc (.cells #[.int .i64 21, .string name, .int .i64 n, .slice A (1 : Nat) cap, .int .i64 ln, .int .i64 cl] 41)) w.heap.size (.mk 21 name n 1 arg ln cl) A cap := World.alloc_heap_new w _
  have hK0 : Wkeep B b w (w.alloc (.cells #[.int .i64 21, .string name, .int .i64 n, .slice A (1 : Nat) cap, .int .i64 ln, .int .i64 cl] 41)) := (Wkeep.refl _ _ _).alloc (by omega) _
  have hW0 := hW.alloc (.cells #[.int .i64 21, .string name, .int .i64 n, .slice A (1 : Nat) cap, .int .i64 ln, .int .i64 cl] 41)
  clear hx hP hO
  simp only [Ex.val, Ex.op, Ex.name, Ex.num, Ex.k, Ex.line, Ex.col]
  have hT0 := hT.below hK0.below hB3
  have hlen' : l.length + (4 + ((arg 0).txt 9).length) ≤ 140737488355328 := by
    rw [show bareOf 21 name n 1 (fun i least => (arg i).txt least) = [112, 114, 101, 32] ++ (arg 0).txt 9 from rfl] at hlen
    simp only [List.length_append, List.length_cons, List.length_nil] at hlen
    omega
  clear hlen hok hE hF hI
  obtain ⟨d0, d1, d2, d3, d4, d5⟩ := hX0.cells
  simp only [Ex.op, Ex.name, Ex.num, Ex.k, Ex.line, Ex.col] at d0 d1 d2 d3 d4 d5
  go_enter Tryz.func69, Tryz.ntmps69
  go_wp2_with fail
  generalize hV : w.alloc (.cells #[.int .i64 21, .string name, .int .i64 n, .slice A (1 : Nat) cap, .int .i64 ln, .int .i64 cl] 41) = V at *
  have hV0 : w.heap.size + 1 = V.heap.size := by rw [← hV]; simp
  have HV := hid hV
  clear hV
  clear d0 d1 d2 d3 d4 d5
  refine (all_new B b l [⟨#[112, 114, 101, 32]⟩] _ _ _ _ V hW0 hV0 (by rfl) (by rfl) (by rw [joinB_one]; simp only [List.length_cons, List.length_nil]; omega) (by simp)).mono ?_
  rintro r w2 ⟨rfl, hW2, hK2⟩
  have hK2' := hK0.trans hK2
  have hX2 := hX0.wkeep hK2 (by omega)
  obtain ⟨d0, d1, d2, d3, d4, d5⟩ := hX2.cells
  simp only [Ex.op, Ex.name, Ex.num, Ex.k, Ex.line, Ex.col] at d0 d1 d2 d3 d4 d5
  obtain ⟨b1, o1, A1, cap1, he1, hb1, hc1, hin1⟩ := (HP.out.below (Nat.le_refl _) hK2'.below) 0 (by omega)
  subst he1
  obtain ⟨c0, c1, c2, c3, c4, c5⟩ := hc1
  simp only [Nat.zero_mul, Nat.add_zero] at c0 c1 c2 c3 c4 c5
  go_wp2_with fail
  clear d0 d1 d2 d3 d4 d5
  refine (HX.out 0 (by omega) B b _ A1 cap1 _ _ hin1 (HO.out 0 (by omega)) hW2 (hT.below hK2'.below hB3) hB3 (by rw [joinB_one]; simp only [List.length_append, List.length_cons, List.length_nil]; omega)).mono ?_
  clear c0 c1 c2 c3 c4 c5
  rintro r w3 ⟨rfl, hW3, hK3⟩
  go_wp2_with fail
  go_end0
  refine ⟨rfl, ?_, hK2'.trans hK3⟩
  rw [joinB_one] at hW3
  rw [show (Ex.mk 21 name n 1 arg ln cl).bare = [112, 114, 101, 32] ++ (arg 0).txt 9 from rfl]
  simpa using hW3

set_option maxHeartbeats 2000000 in
theorem bare_24 (name : ByteArray) (n : Int) (arg : Nat → Ex) (ln cl : Int) (hx : ∀ i, i < 1 → ExprW (arg i)) : BareW (.mk 24 name n 1 arg ln cl) := by
  intro B b l A cap w hE hok hW hT hB3 hlen
  have hltb := hW.lt
  have hleb := hW.le
  have hP := parts_of hE
  have hF := plain_facts hok.1
  have hO := hok.2
  have hI := hE.1
  rw [bare_mk] at hlen
  have HX := hid hx
  have HP := hid hP
  have HO := hid hO
  have hX0 : ExBox (w.alloc (.cells #[.int .i64 24, .string name, .int .i64 n, .slice A (1 : Nat) cap, .int .i64 ln, .int .i64 cl] 41)) w.heap.size (.mk 24 name n 1 arg ln cl) A cap := World.alloc_heap_new w _
  have hK0 : Wkeep B b w (w.alloc (.cells #[.int .i64 24, .string name, .int .i64 n, .slice A (1 : Nat) cap, .int .i64 ln, .int .i64 cl] 41)) := (Wkeep.refl _ _ _).alloc (by omega) _
  have hW0 := hW.alloc (.cells #[.int .i64 24, .string name, .int .i64 n, .slice A (1 : Nat) cap, .int .i64 ln, .int .i64 cl] 41)
  clear hx hP hO
  simp only [Ex.val, Ex.op, Ex.name, Ex.num, Ex.k, Ex.line, Ex.col]
  have hT0 := hT.below hK0.below hB3
  have hlen' : l.length + (6 + ((arg 0).txt 3).length + name.data.toList.length) ≤ 140737488355328 := by
    rw [show bareOf 24 name n 1 (fun i least => (arg i).txt least) = (arg 0).txt 3 ++ ([32, 119, 104, 101, 110, 32] ++ name.data.toList) from rfl] at hlen
    simp only [List.length_append, List.length_cons, List.length_nil] at hlen
    omega
  clear hlen hok hE hF hI
  obtain ⟨d0, d1, d2, d3, d4, d5⟩ := hX0.cells
  simp only [Ex.op, Ex.name, Ex.num, Ex.k, Ex.line, Ex.col] at d0 d1 d2 d3 d4 d5
  obtain ⟨b1, o1, A1, cap1, he1, hb1, hc1, hin1⟩ := (HP.out.below (Nat.le_refl _) hK0.below) 0 (by omega)
  subst he1
  obtain ⟨c0, c1, c2, c3, c4, c5⟩ := hc1
  simp only [Nat.zero_mul, Nat.add_zero] at c0 c1 c2 c3 c4 c5
  go_enter Tryz.func69, Tryz.ntmps69
  go_wp2_with fail
  clear d0 d1 d2 d3 d4 d5
  refine (HX.out 0 (by omega) B b _ A1 cap1 _ _ hin1 (HO.out 0 (by omega)) hW0 hT0 hB3 (by omega)).mono ?_
  clear c0 c1 c2 c3 c4 c5
  rintro r w3 ⟨rfl, hW3, hK3⟩
  have hK3' := hK0.trans hK3
  have hX3 := hX0.wkeep hK3 (by omega)
  obtain ⟨d0, d1, d2, d3, d4, d5⟩ := hX3.cells
  simp only [Ex.op, Ex.name, Ex.num, Ex.k, Ex.line, Ex.col] at d0 d1 d2 d3 d4 d5
  go_wp2_with fail
  refine (all_new B b _ [⟨#[32, 119, 104, 101, 110, 32]⟩, name] _ _ _ _ w3 hW3 (by rfl) (by rfl) (by rfl) (by rw [joinB_two]; simp only [List.length_append, List.length_cons, List.length_nil]; omega) (by simp)).mono ?_
  clear d0 d1 d2 d3 d4 d5
  rintro r w4 ⟨rfl, hW4, hK4⟩
  go_wp2_with fail
  go_end0
  refine ⟨rfl, ?_, hK3'.trans hK4⟩
  rw [joinB_two] at hW4
  rw [show (Ex.mk 24 name n 1 arg ln cl).bare = (arg 0).txt 3 ++ ([32, 119, 104, 101, 110, 32] ++ name.data.toList) from rfl]
  simpa using hW4

set_option maxHeartbeats 2000000 in
theorem bare_25 (name : ByteArray) (n : Int) (arg : Nat → Ex) (ln cl : Int) (hx : ∀ i, i < 1 → ExprW (arg i)) : BareW (.mk 25 name n 1 arg ln cl) := by
  intro B b l A cap w hE hok hW hT hB3 hlen
  have hltb := hW.lt
  have hleb := hW.le
  have hP := parts_of hE
  have hF := plain_facts hok.1
  have hO := hok.2
  have hI := hE.1
  rw [bare_mk] at hlen
  have HX := hid hx
  have HP := hid hP
  have HO := hid hO
  have hX0 : ExBox (w.alloc (.cells #[.int .i64 25, .string name, .int .i64 n, .slice A (1 : Nat) cap, .int .i64 ln, .int .i64 cl] 41)) w.heap.size (.mk 25 name n 1 arg ln cl) A cap := World.alloc_heap_new w _
  have hK0 : Wkeep B b w (w.alloc (.cells #[.int .i64 25, .string name, .int .i64 n, .slice A (1 : Nat) cap, .int .i64 ln, .int .i64 cl] 41)) := (Wkeep.refl _ _ _).alloc (by omega) _
  have hW0 := hW.alloc (.cells #[.int .i64 25, .string name, .int .i64 n, .slice A (1 : Nat) cap, .int .i64 ln, .int .i64 cl] 41)
  clear hx hP hO
  simp only [Ex.val, Ex.op, Ex.name, Ex.num, Ex.k, Ex.line, Ex.col]
  have hT0 := hT.below hK0.below hB3
  have hlen' : l.length + (10 + ((arg 0).txt 3).length + name.data.toList.length) ≤ 140737488355328 := by
    rw [show bareOf 25 name n 1 (fun i least => (arg i).txt least) = (arg 0).txt 3 ++ ([32, 119, 104, 101, 110, 32, 110, 111, 116, 32] ++ name.data.toList) from rfl] at hlen
    simp only [List.length_append, List.length_cons, List.length_nil] at hlen
    omega
  clear hlen hok hE hF hI
  obtain ⟨d0, d1, d2, d3, d4, d5⟩ := hX0.cells
  simp only [Ex.op, Ex.name, Ex.num, Ex.k, Ex.line, Ex.col] at d0 d1 d2 d3 d4 d5
  obtain ⟨b1, o1, A1, cap1, he1, hb1, hc1, hin1⟩ := (HP.out.below (Nat.le_refl _) hK0.below) 0 (by omega)
  subst he1
  obtain ⟨c0, c1, c2, c3, c4, c5⟩ := hc1
  simp only [Nat.zero_mul, Nat.add_zero] at c0 c1 c2 c3 c4 c5
  go_enter Tryz.func69, Tryz.ntmps69
  go_wp2_with fail
  clear d0 d1 d2 d3 d4 d5
  refine (HX.out 0 (by omega) B b _ A1 cap1 _ _ hin1 (HO.out 0 (by omega)) hW0 hT0 hB3 (by omega)).mono ?_
  clear c0 c1 c2 c3 c4 c5
  rintro r w3 ⟨rfl, hW3, hK3⟩
  have hK3' := hK0.trans hK3
  have hX3 := hX0.wkeep hK3 (by omega)
  obtain ⟨d0, d1, d2, d3, d4, d5⟩ := hX3.cells
  simp only [Ex.op, Ex.name, Ex.num, Ex.k, Ex.line, Ex.col] at d0 d1 d2 d3 d4 d5
  go_wp2_with fail
  refine (all_new B b _ [⟨#[32, 119, 104, 101, 110, 32, 110, 111, 116, 32]⟩, name] _ _ _ _ w3 hW3 (by rfl) (by rfl) (by rfl) (by rw [joinB_two]; simp only [List.length_append, List.length_cons, List.length_nil]; omega) (by simp)).mono ?_
  clear d0 d1 d2 d3 d4 d5
  rintro r w4 ⟨rfl, hW4, hK4⟩
  go_wp2_with fail
  go_end0
  refine ⟨rfl, ?_, hK3'.trans hK4⟩
  rw [joinB_two] at hW4
  rw [show (Ex.mk 25 name n 1 arg ln cl).bare = (arg 0).txt 3 ++ ([32, 119, 104, 101, 110, 32, 110, 111, 116, 32] ++ name.data.toList) from rfl]
  simpa using hW4
end Go.Proofs.YtnlikhjmmnaknaaGreatDoor
/-
  The walk of show's writer over an expression: merge, if, and all of it.
-/
namespace Go.Proofs.YtnlikhjmmnaknaaGreatDoor
open Go.RowKit

theorem flatTo_mono (f : Nat → List UInt8) {j k : Nat} (h : j ≤ k) : (flatTo f j).length ≤ (flatTo f k).length := flatTo_le h

set_option maxHeartbeats 2000000 in
theorem bare_26 (name : ByteArray) (n : Int) (arg : Nat → Ex) (ln cl : Int) (hx : ∀ i, i < 2 → ExprW (arg i)) : BareW (.mk 26 name n 2 arg ln cl) := by
  intro B b l A cap w hE hok hW hT hB3 hlen
  have hltb := hW.lt
  have hleb := hW.le
  have hP := parts_of hE
  have hO := hok.2
  have hI := hE.1
  rw [bare_mk] at hlen
  have HX := hid hx
  have HP := hid hP
  have HO := hid hO
  have hX0 : ExBox (w.alloc (.cells #[.int .i64 26, .string name, .int .i64 n, .slice A (2 : Nat) cap, .int .i64 ln, .int .i64 cl] 41)) w.heap.size (.mk 26 name n 2 arg ln cl) A cap := World.alloc_heap_new w _
  have hK0 : Wkeep B b w (w.alloc (.cells #[.int .i64 26, .string name, .int .i64 n, .slice A (2 : Nat) cap, .int .i64 ln, .int .i64 cl] 41)) := (Wkeep.refl _ _ _).alloc (by omega) _
  have hW0 := hW.alloc (.cells #[.int .i64 26, .string name, .int .i64 n, .slice A (2 : Nat) cap, .int .i64 ln, .int .i64 cl] 41)
  clear hx hP hO
  simp only [Ex.val, Ex.op, Ex.name, Ex.num, Ex.k, Ex.line, Ex.col]
  have hT0 := hT.below hK0.below hB3
  have hbare : (Ex.mk 26 name n 2 arg ln cl).bare = [109, 101, 114, 103, 101, 32] ++ (name.data.toList ++ flatTo (fun i => [32, 40] ++ ((arg i).txt 0 ++ [41])) 2) := by
    rw [show (Ex.mk 26 name n 2 arg ln cl).bare = [109, 101, 114, 103, 101, 32] ++ (name.data.toList ++ ([32, 40] ++ ((arg 0).txt 0 ++ ([41, 32, 40] ++ ((arg 1).txt 0 ++ [41]))))) from rfl]
    simp [flatTo]
  have hlen' : l.length + (6 + (name.data.toList.length + (flatTo (fun i => [32, 40] ++ ((arg i).txt 0 ++ [41])) 2).length)) ≤ 140737488355328 := by
    rw [← bare_mk 26 name n 2 arg ln cl, hbare] at hlen
    simp only [List.length_append, List.length_cons, List.length_nil] at hlen
    omega
  have HBR := hid hbare
  clear hlen hok hE hI hbare
  obtain ⟨d0, d1, d2, d3, d4, d5⟩ := hX0.cells
  simp only [Ex.op, Ex.name, Ex.num, Ex.k, Ex.line, Ex.col] at d0 d1 d2 d3 d4 d5
  go_enter Tryz.func69, Tryz.ntmps69
  go_wp2_with fail
  generalize hV : w.alloc (.cells #[.int .i64 26, .string name, .int .i64 n, .slice A (2 : Nat) cap, .int .i64 ln, .int .i64 cl] 41) = V at *
  have hV0 : w.heap.size + 1 = V.heap.size := by rw [← hV]; simp
  have HV := hid hV
  clear hV d0 d1 d2 d3 d4 d5
  refine (all_new B b l [⟨#[109, 101, 114, 103, 101, 32]⟩, name] _ _ _ _ V hW0 hV0 (by rfl) (by rfl) (by rw [joinB_two, List.length_append]; simp only [List.length_cons, List.length_nil]; omega) (by simp)).mono ?_
  rintro r w2 ⟨rfl, hW2, hK2⟩
  have hK2' := hK0.trans hK2
  have hX2 := hX0.wkeep hK2 (by omega)
  rw [joinB_two] at hW2
  obtain ⟨d0, d1, d2, d3, d4, d5⟩ := hX2.cells
  simp only [Ex.op, Ex.name, Ex.num, Ex.k, Ex.line, Ex.col] at d0 d1 d2 d3 d4 d5
  go_wp2_with fail
  clear d0 d1 d2 d3 d4 d5
  go_loopw [120] (fun i wr => ∃ j : Nat, j ≤ 2 ∧ i = .int .i64 j ∧ Wr B b (l ++ ([109, 101, 114, 103, 101, 32] ++ name.data.toList) ++ flatTo (fun i => [32, 40] ++ ((arg i).txt 0 ++ [41])) j) wr ∧ Wkeep B b w wr) (fun i _ => 2 - (intOf i).toNat)
  case atStart => exact ⟨0, by omega, rfl, by simpa [flatTo] using hW2, hK2'⟩
  case round =>
    obtain ⟨j, hj, rfl, hWr, hK⟩ := hrel
    by_cases hlt : j < 2
    · obtain ⟨b', o, A', cap', rfl, hb, hcells, hin⟩ := (HP.out.below (Nat.le_refl _) hK.below) j hlt
      obtain ⟨c0, c1, c2, c3, c4, c5⟩ := hcells
      have hm := flatTo_mono (fun i => [32, 40] ++ ((arg i).txt 0 ++ [41])) (show j + 1 ≤ 2 by omega)
      rw [flatTo_succ, List.length_append] at hm
      have hm1 : ([32, 40] ++ ((arg j).txt 0 ++ [41])).length = ((arg j).txt 0).length + 3 := by simp
      rw [hm1] at hm
      have hltr := hWr.lt
      have hXj : ExBox (wr.alloc (.cells #[.int .i64 (arg j).op, .string (arg j).name, .int .i64 (arg j).num, .slice A' (arg j).k cap', .int .i64 (arg j).line, .int .i64 (arg j).col] 41)) wr.heap.size (arg j) A' cap' := World.alloc_heap_new wr _
      have hKj : Wkeep B b wr (wr.alloc (.cells #[.int .i64 (arg j).op, .string (arg j).name, .int .i64 (arg j).num, .slice A' (arg j).k cap', .int .i64 (arg j).line, .int .i64 (arg j).col] 41)) := (Wkeep.refl _ _ _).alloc (by omega) _
      have hWj := hWr.alloc (.cells #[.int .i64 (arg j).op, .string (arg j).name, .int .i64 (arg j).num, .slice A' (arg j).k cap', .int .i64 (arg j).line, .int .i64 (arg j).col] 41)
      have HXJ := hid (HX.out j hlt)
      clear hm1
      go_wp2_with fail
      generalize hV : wr.alloc (.cells #[.int .i64 (arg j).op, .string (arg j).name, .int .i64 (arg j).num, .slice A' (arg j).k cap', .int .i64 (arg j).line, .int .i64 (arg j).col] 41) = V1 at *
      have hV1 : wr.heap.size + 1 = V1.heap.size := by rw [← hV]; simp
      have HV1 := hid hV
      clear hV
      refine (all_new B b _ [⟨#[32, 40]⟩] _ _ _ _ V1 hWj hV1 (by rfl) (by rfl) (by rw [joinB_one]; simp only [List.length_append, List.length_cons, List.length_nil]; omega) (by simp)).mono ?_
      rintro r w3 ⟨rfl, hW3, hK3⟩
      have hK3' := hKj.trans hK3
      have hX3 := hXj.wkeep hK3 (by omega)
      clear c0 c1 c2 c3 c4 c5
      obtain ⟨c0, c1, c2, c3, c4, c5⟩ := hX3.cells
      go_wp2_with fail
      clear c0 c1 c2 c3 c4 c5
      refine (HXJ.out B b _ A' cap' 0 w3 (hin.below (Nat.le_refl _) hK3'.below) (HO.out j hlt) hW3 (hT.below (hK.trans hK3').below hB3) hB3 (by rw [joinB_one]; simp only [List.length_append, List.length_cons, List.length_nil]; omega)).mono ?_
      rintro r w4 ⟨rfl, hW4, hK4⟩
      go_wp2_with fail
      refine (all_new B b _ [⟨#[41]⟩] _ _ _ _ w4 hW4 (by rfl) (by rfl) (by rfl) (by rw [joinB_one, joinB_one]; simp only [List.length_append, List.length_cons, List.length_nil]; omega) (by simp)).mono ?_
      rintro r w5 ⟨rfl, hW5, hK5⟩
      go_wp2_with fail
      go_roundw
      case rel => exact ⟨j + 1, by omega, by go_num, by rw [flatTo_succ]; rw [joinB_one, joinB_one] at hW5; simpa using hW5, hK.trans (hK3'.trans (hK4.trans hK5))⟩
      case measure => simp [intOf]; omega
    · have : j = 2 := by omega
      subst this
      go_wp2_with fail
      go_end0
      refine ⟨rfl, ?_, hK⟩
      rw [HBR.out]
      simpa using hWr

/-- what stands ahead of the parts of a choice -/
def ifL : List ByteArray := [⟨#[105, 102, 32]⟩, ⟨#[32, 116, 104, 101, 110, 32]⟩, ⟨#[32, 101, 108, 115, 101, 32]⟩]
def ifAt (j : Nat) : ByteArray := ifL[j]?.getD ⟨#[]⟩

set_option maxHeartbeats 2000000 in
theorem bare_27 (name : ByteArray) (n : Int) (arg : Nat → Ex) (ln cl : Int) (hx : ∀ i, i < 3 → ExprW (arg i)) : BareW (.mk 27 name n 3 arg ln cl) := by
  intro B b l A cap w hE hok hW hT hB3 hlen
  have hltb := hW.lt
  have hleb := hW.le
  have hP := parts_of hE
  have hO := hok.2
  have hI := hE.1
  rw [bare_mk] at hlen
  have HX := hid hx
  have HP := hid hP
  have HO := hid hO
  have hX0 : ExBox (w.alloc (.cells #[.int .i64 27, .string name, .int .i64 n, .slice A (3 : Nat) cap, .int .i64 ln, .int .i64 cl] 41)) w.heap.size (.mk 27 name n 3 arg ln cl) A cap := World.alloc_heap_new w _
  have hK0 : Wkeep B b w (w.alloc (.cells #[.int .i64 27, .string name, .int .i64 n, .slice A (3 : Nat) cap, .int .i64 ln, .int .i64 cl] 41)) := (Wkeep.refl _ _ _).alloc (by omega) _
  have hW0 := hW.alloc (.cells #[.int .i64 27, .string name, .int .i64 n, .slice A (3 : Nat) cap, .int .i64 ln, .int .i64 cl] 41)
  clear hx hP hO
  simp only [Ex.val, Ex.op, Ex.name, Ex.num, Ex.k, Ex.line, Ex.col]
  have hT0 := hT.below hK0.below hB3
  have hbare : (Ex.mk 27 name n 3 arg ln cl).bare = flatTo (fun i => (ifAt i).data.toList ++ (arg i).txt 0) 3 := by
    rw [show (Ex.mk 27 name n 3 arg ln cl).bare = [105, 102, 32] ++ ((arg 0).txt 0 ++ ([32, 116, 104, 101, 110, 32] ++ ((arg 1).txt 0 ++ ([32, 101, 108, 115, 101, 32] ++ (arg 2).txt 0)))) from rfl]
    simp [flatTo, ifAt, ifL]
  have hlen' : l.length + (flatTo (fun i => (ifAt i).data.toList ++ (arg i).txt 0) 3).length ≤ 140737488355328 := by
    rw [← bare_mk 27 name n 3 arg ln cl, hbare] at hlen
    exact hlen
  have HBR := hid hbare
  clear hlen hok hE hI hbare
  obtain ⟨d0, d1, d2, d3, d4, d5⟩ := hX0.cells
  simp only [Ex.op, Ex.name, Ex.num, Ex.k, Ex.line, Ex.col] at d0 d1 d2 d3 d4 d5
  go_enter Tryz.func69, Tryz.ntmps69
  go_wp2_with fail
  generalize hV : w.alloc (.cells #[.int .i64 27, .string name, .int .i64 n, .slice A (3 : Nat) cap, .int .i64 ln, .int .i64 cl] 41) = V at *
  have hV0 : w.heap.size + 1 = V.heap.size := by rw [← hV]; simp
  have HV := hid hV
  clear hV d0 d1 d2 d3 d4 d5
  have hS0 : (V.alloc (.cells (ifL.map Value.string).toArray 9)).heap[V.heap.size]? = some (.cells (ifL.map Value.string).toArray 9 (0, 0)) := World.alloc_heap_new V _
  have hW1 := hW0.alloc (.cells (ifL.map Value.string).toArray 9)
  have hK1 : Wkeep B b V (V.alloc (.cells (ifL.map Value.string).toArray 9)) := (Wkeep.refl _ _ _).alloc (by omega) _
  have hX1 := hX0.wkeep hK1 (by omega)
  have hK1' := hK0.trans hK1
  simp only [show (ifL.map Value.string).toArray = #[Value.string ⟨#[105, 102, 32]⟩, .string ⟨#[32, 116, 104, 101, 110, 32]⟩, .string ⟨#[32, 101, 108, 115, 101, 32]⟩] from rfl] at hW1 hK1 hX1 hK1' hS0
  generalize hU : V.alloc (.cells #[Value.string ⟨#[105, 102, 32]⟩, .string ⟨#[32, 116, 104, 101, 110, 32]⟩, .string ⟨#[32, 101, 108, 115, 101, 32]⟩] 9) = U at *
  have HU := hid hU
  clear hU
  rw [← hV0] at hS0
  have hne : w.heap.size + 1 ≠ b := by omega
  clear hV0
  go_loopw [6, 7, 138] (fun _ _ i wr => ∃ j : Nat, j ≤ 3 ∧ i = .int .i64 j ∧ Wr B b (l ++ flatTo (fun i => (ifAt i).data.toList ++ (arg i).txt 0) j) wr ∧ Wkeep B b U wr) (fun _ _ i _ => 3 - (intOf i).toNat)
  case atStart => exact ⟨0, by omega, rfl, by simpa [flatTo] using hW1, Wkeep.refl _ _ _⟩
  case round =>
    obtain ⟨j, hj, rfl, hWr, hK⟩ := hrel
    by_cases hlt : j < 3
    · have hKw := hK1'.trans hK
      obtain ⟨b', o, A', cap', rfl, hb, hcells, hin⟩ := (HP.out.below (Nat.le_refl _) hKw.below) j hlt
      have hsj : wr.cell? ⟨w.heap.size + 1, j, none⟩ = some (.string (ifAt j)) := by
        rw [hK.cell hne (by decide) hS0]
        rcases (by omega : j = 0 ∨ j = 1 ∨ j = 2) with rfl | rfl | rfl <;> rfl
      have hm := flatTo_mono (fun i => (ifAt i).data.toList ++ (arg i).txt 0) (show j + 1 ≤ 3 by omega)
      rw [flatTo_succ, List.length_append, List.length_append] at hm
      have hltr := hWr.lt
      have HXJ := hid (HX.out j hlt)
      go_wp2_with fail
      refine (all_new B b _ [ifAt j] _ _ _ _ wr hWr (by rfl) (by rfl) (by rfl) (by rw [joinB_one, List.length_append]; omega) (by simp)).mono ?_
      rintro r w3 ⟨rfl, hW3, hK3⟩
      have hK3' := hKw.trans hK3
      have hX3 := (hX1.wkeep hK (by omega)).wkeep hK3 (by omega)
      obtain ⟨d0, d1, d2, d3, d4, d5⟩ := hX3.cells
      simp only [Ex.op, Ex.name, Ex.num, Ex.k, Ex.line, Ex.col] at d0 d1 d2 d3 d4 d5
      obtain ⟨c0, c1, c2, c3, c4, c5⟩ := hcells.keep (w' := w3) fun i => hK3.below.cell (p := ⟨b', i, none⟩) (by simp; omega)
      go_wp2_with fail
      clear c0 c1 c2 c3 c4 c5 d0 d1 d2 d3 d4 d5
      refine (HXJ.out B b _ A' cap' 0 w3 (hin.below (Nat.le_refl _) hK3.below) (HO.out j hlt) hW3 (hT.below hK3'.below hB3) hB3 (by rw [joinB_one]; simp only [List.length_append]; omega)).mono ?_
      rintro r w4 ⟨rfl, hW4, hK4⟩
      go_wp2_with fail
      go_roundw
      case rel => exact ⟨j + 1, by omega, by go_num, by rw [flatTo_succ]; rw [joinB_one] at hW4; simpa using hW4, hK.trans (hK3.trans hK4)⟩
      case measure => simp [intOf]; omega
    · have : j = 3 := by omega
      subst this
      go_wp2_with fail
      go_end0
      refine ⟨rfl, ?_, hK1'.trans hK⟩
      rw [HBR.out]
      exact hWr

set_option maxHeartbeats 2000000 in
theorem bare_two (op : Int) (name : ByteArray) (n : Int) (arg : Nat → Ex) (ln cl : Int) (hs : signed op) (hx : ∀ i, i < 2 → ExprW (arg i)) : BareW (.mk op name n 2 arg ln cl) := by
  intro B b l A cap w hE hok hW hT hB3 hlen
  have hltb := hW.lt
  have hleb := hW.le
  have hP := parts_of hE
  have hO := hok.2
  rw [bare_mk] at hlen
  have HX := hid hx
  have HP := hid hP
  have HO := hid hO
  have hne : ∀ k : Int, (k = 1 ∨ k = 2 ∨ k = 3 ∨ k = 4 ∨ k = 5 ∨ k = 6 ∨ k = 21 ∨ k = 24 ∨ k = 25 ∨ k = 26 ∨ k = 27) → (op == k) = false := fun k hk => by unfold signed at hs; simp; omega
  have hbare : (Ex.mk op name n 2 arg ln cl).bare = (arg 0).txt (leftOf op) ++ (32 :: ((sgnOf op).data.toList ++ (32 :: (arg 1).txt (rightOf op)))) := by
    rw [bare_mk]; unfold signed at hs; unfold bareOf
    rw [if_neg (by omega), if_neg (by omega), if_neg (by omega), if_neg (by omega), if_neg (by omega), if_neg (by omega), if_neg (by omega), if_neg (by omega), if_neg (by omega), if_neg (by omega), if_neg (by omega)]
  have hlen' : l.length + (((arg 0).txt (leftOf op)).length + (((sgnOf op).data.toList).length + 2 + ((arg 1).txt (rightOf op)).length)) ≤ 140737488355328 := by
    rw [← bare_mk op name n 2 arg ln cl, hbare] at hlen
    simp only [List.length_append, List.length_cons] at hlen
    omega
  have HBR := hid hbare
  have HS := hid hs
  have n1 := hne 1 (by omega)
  have n2 := hne 2 (by omega)
  have n3 := hne 3 (by omega)
  have n4 := hne 4 (by omega)
  have n5 := hne 5 (by omega)
  have n6 := hne 6 (by omega)
  have n21 := hne 21 (by omega)
  have n24 := hne 24 (by omega)
  have n25 := hne 25 (by omega)
  have n26 := hne 26 (by omega)
  have n27 := hne 27 (by omega)
  have hX0 : ExBox (w.alloc (.cells #[.int .i64 op, .string name, .int .i64 n, .slice A (2 : Nat) cap, .int .i64 ln, .int .i64 cl] 41)) w.heap.size (.mk op name n 2 arg ln cl) A cap := World.alloc_heap_new w _
  have hK0 : Wkeep B b w (w.alloc (.cells #[.int .i64 op, .string name, .int .i64 n, .slice A (2 : Nat) cap, .int .i64 ln, .int .i64 cl] 41)) := (Wkeep.refl _ _ _).alloc (by omega) _
  have hW0 := hW.alloc (.cells #[.int .i64 op, .string name, .int .i64 n, .slice A (2 : Nat) cap, .int .i64 ln, .int .i64 cl] 41)
  clear hx hP hO hlen hok hE hbare hs hne
  simp only [Ex.val, Ex.op, Ex.name, Ex.num, Ex.k, Ex.line, Ex.col]
  have hT0 := hT.below hK0.below hB3
  obtain ⟨d0, d1, d2, d3, d4, d5⟩ := hX0.cells
  simp only [Ex.op, Ex.name, Ex.num, Ex.k, Ex.line, Ex.col] at d0 d1 d2 d3 d4 d5
  go_enter Tryz.func69, Tryz.ntmps69
  go_wp2_with fail
  clear d0 d1 d2 d3 d4 d5
  refine (pair_wr op name n arg ln cl HS.out (HX.out 0 (by omega)) (HX.out 1 (by omega)) B b l A cap _ (HP.out.below (Nat.le_refl _) hK0.below) HO.out hW0 hT0 hB3 hlen').mono ?_
  rintro r w2 ⟨rfl, hW2, hK2⟩
  go_wp2_with fail
  go_end0
  refine ⟨rfl, ?_, hK0.trans hK2⟩
  rw [HBR.out]
  exact hW2

theorem bare_wr : ∀ e : Ex, e.ok → BareW e := by
  intro e
  induction e with
  | junk => intro h; exact h.elim
  | mk op name n k arg ln cl ih =>
    intro hok
    have hF := plain_facts hok.1
    have hx : ∀ i, i < k → ExprW (arg i) := fun i hi => expr_of_bare _ (ih i (hok.2 i hi))
    have hlo := hF.lo
    have hhi := hF.hi
    by_cases h3 : op ≤ 3
    · have h0 := hF.k0 h3
      subst h0
      rcases (by omega : op = 1 ∨ op = 2 ∨ op = 3) with rfl | rfl | rfl
      · exact bare_1 name n arg ln cl hx
      · exact bare_2 name n arg ln cl hx
      · exact bare_3 name n arg ln cl hx
    · by_cases h4 : op = 4
      · subst h4; exact bare_4 name n k arg ln cl hx
      · by_cases h1 : op = 5 ∨ op = 6 ∨ op = 21 ∨ op = 24 ∨ op = 25
        · have hk := hF.k1 h1
          subst hk
          rcases h1 with rfl | rfl | rfl | rfl | rfl
          · exact bare_5 name n arg ln cl hx
          · exact bare_6 name n arg ln cl hx
          · exact bare_21 name n arg ln cl hx
          · exact bare_24 name n arg ln cl hx
          · exact bare_25 name n arg ln cl hx
        · by_cases h27 : op = 27
          · have hk := hF.k3 h27
            subst hk h27
            exact bare_27 name n arg ln cl hx
          · have hk := hF.k2 (by omega)
            subst hk
            by_cases h26 : op = 26
            · subst h26; exact bare_26 name n arg ln cl hx
            · exact bare_two op name n arg ln cl (by unfold signed; omega) hx
theorem expr_wr (e : Ex) (h : e.ok) : ExprW e := expr_of_bare e (bare_wr e h)
end Go.Proofs.YtnlikhjmmnaknaaGreatDoor
/-
  The walks of show.Expr and of the reference's Fits.
-/
namespace Go.Proofs.YtnlikhjmmnaknaaGreatDoor
open Go.RowKit

/-- has a text not too many tokens, and are they right? -/
def fitsT (t : List UInt8) : Bool := match scanOf ⟨t.toArray⟩ with | .toks _ => true | .bad _ _ => false
theorem scanGo_bad {s : ByteArray} {e : Int} {p : Nat} : ∀ (f n i : Nat) (l : List Tk), scanGo s f n i l = .bad e p → e = 3 ∨ e = 20 := by
  intro f
  induction f with
  | zero => intro n i l h; unfold scanGo at h; cases h
  | succ f ih =>
    intro n i l h
    unfold scanGo at h
    split at h
    · cases h
    · split at h
      · injection h with h1 _; exact .inl h1.symm
      · split at h
        · exact ih _ _ _ h
        · injection h with h1 _; exact .inr h1.symm
theorem scan_badE {s : ByteArray} {e : Int} {p : Nat} (h : scanOf s = .bad e p) : e = 3 ∨ e = 20 := by
  unfold scanOf at h
  split at h
  · injection h with h1 _; exact .inl h1.symm
  · exact scanGo_bad _ _ _ _ h

theorem bare_ne : ∀ e : Ex, e.ok → e.bare ≠ [] := by
  intro e h
  obtain _ | ⟨op, name, n, k, arg, ln, cl⟩ := e
  · exact h.elim
  · have hF := plain_facts h.1
    rw [bare_mk]
    unfold bareOf
    by_cases c1 : op = 1
    · rw [if_pos c1]
      obtain ⟨u, rfl⟩ := Int.eq_ofNat_of_zero_le (hF.n1 c1)
      rw [Lib.itoa_nonneg]
      intro h0
      have : (Lib.decDigits u).length = 0 := by rw [h0]; rfl
      rw [Lib.decDigits] at this
      split at this <;> simp at this
    rw [if_neg c1]
    by_cases c2 : op = 2
    · rw [if_pos c2]; split <;> simp
    rw [if_neg c2]
    by_cases c3 : op = 3
    · rw [if_pos c3]
      have := (name_len (hF.named (.inl c3))).1
      intro h0
      rw [h0] at this
      simp at this
    rw [if_neg c3]
    (repeat' split) <;> simp
theorem txt_ne {e : Ex} (h : e.ok) (least : Int) : e.txt least ≠ [] := by
  unfold Ex.txt wrapT
  split
  · simp
  · exact bare_ne e h

set_option maxHeartbeats 2000000 in
theorem done_any (B b : Nat) (t : List UInt8) (w : World) (hW : Wr B b t w) (ht : t ≠ []) (hlen : t.length ≤ 140737488355328) :
    Calls Tryz.prog 28 #[.pointer (some ⟨b, 0, none⟩)] w fun r w' => r = .returned (.tuple #[.string (if fitsT t = true then ⟨t.toArray⟩ else ⟨#[]⟩), .int .i64 (if fitsT t = true then 0 else 3)]) ∧ Below B w w' := by
  have hs : (⟨t.toArray⟩ : ByteArray).size ≤ maxLen := by
    show t.toArray.size ≤ maxLen
    unfold maxLen
    simp; omega
  cases hsc : scanOf ⟨t.toArray⟩ with
  | toks l =>
    have hf : fitsT t = true := by unfold fitsT; rw [hsc]
    rw [hf]
    have HSC := hid hsc
    clear hsc
    simp only [reduceIte]
    go_enter Tryz.func28, Tryz.ntmps28
    go_wp2_with fail
    refine (wrote_any B b t w hW ht).mono ?_
    rintro r w1 ⟨rfl, hb1⟩
    go_wp2_with fail
    refine (scan_any ⟨t.toArray⟩ w1 hs).mono ?_
    rintro r w2 ⟨hb2, hr2⟩
    rw [HSC.out] at hr2
    obtain ⟨g, c, rfl, hown2⟩ := hr2
    have hlt := hW.lt
    have hle := hW.le
    have hz := hb1.size
    have hb3 := hb1.trans (hb2.mono (by omega))
    have hz3 := hb3.size
    go_wp2_with fail
    go_ret2
    exact ⟨rfl, hb3.alloc (by omega) _⟩
  | bad e p =>
    have hf : fitsT t = false := by unfold fitsT; rw [hsc]
    have he : (e != 0) = true := by rcases scan_badE hsc with h | h <;> subst h <;> rfl
    rw [hf]
    have HSC := hid hsc
    clear hsc
    simp only [Bool.false_eq_true, reduceIte]
    go_enter Tryz.func28, Tryz.ntmps28
    go_wp2_with fail
    refine (wrote_any B b t w hW ht).mono ?_
    rintro r w1 ⟨rfl, hb1⟩
    go_wp2_with fail
    refine (scan_any ⟨t.toArray⟩ w1 hs).mono ?_
    rintro r w2 ⟨hb2, hr2⟩
    rw [HSC.out] at hr2
    obtain rfl := hr2
    have hlt := hW.lt
    have hle := hW.le
    have hz := hb1.size
    have hb3 := hb1.trans (hb2.mono (by omega))
    have hz3 := hb3.size
    go_wp2_with fail
    go_ret2
    exact ⟨rfl, hb3.alloc (by omega) _⟩

set_option maxHeartbeats 2000000 in
theorem rfits_any (t : List UInt8) (w : World) (hlen : t.length ≤ 140737488355328) :
    Calls Tryz.prog 10 #[.string ⟨t.toArray⟩] w fun r w' => r = .returned (.bool (fitsT t)) ∧ Below w.heap.size w w' := by
  have hs : (⟨t.toArray⟩ : ByteArray).size ≤ maxLen := by
    show t.toArray.size ≤ maxLen
    unfold maxLen
    simp; omega
  cases hsc : scanOf ⟨t.toArray⟩ with
  | toks l =>
    have hf : fitsT t = true := by unfold fitsT; rw [hsc]
    rw [hf]
    have HSC := hid hsc
    clear hsc
    go_enter Tryz.func10, Tryz.ntmps10
    go_wp2_with fail
    refine (rscan_any ⟨t.toArray⟩ w hs).mono ?_
    rintro r w2 ⟨hb2, hr2⟩
    rw [HSC.out] at hr2
    obtain ⟨g, c, rfl, hown2⟩ := hr2
    go_wp2_with fail
    go_ret
    exact ⟨rfl, hb2.alloc hb2.size _⟩
  | bad e p =>
    have hf : fitsT t = false := by unfold fitsT; rw [hsc]
    have he : (e == 0) = false := by rcases scan_badE hsc with h | h <;> subst h <;> rfl
    rw [hf]
    have HSC := hid hsc
    clear hsc
    go_enter Tryz.func10, Tryz.ntmps10
    go_wp2_with fail
    refine (rscan_any ⟨t.toArray⟩ w hs).mono ?_
    rintro r w2 ⟨hb2, hr2⟩
    rw [HSC.out] at hr2
    obtain rfl := hr2
    go_wp2_with fail
    go_ret
    exact ⟨rfl, hb2.alloc hb2.size _⟩

/-- what show.Expr says: a text, an error -/
def shown (e : Ex) : ByteArray × Int := if e.right = true then (if fitsT (e.txt 0) = true then (⟨(e.txt 0).toArray⟩, 0) else (⟨#[]⟩, 3)) else (⟨#[]⟩, 2)

set_option maxHeartbeats 2000000 in
theorem showExpr_any (e : Ex) (B : Nat) (A : Option Addr) (cap : Nat) (w : World) (hE : ExAt B w e A cap) (hB : B ≤ w.heap.size) (hT : Tab w) (hh : e.height ≤ 1000000) (hlen : e.right = true → (e.txt 0).length ≤ 140737488355328) :
    Calls Tryz.prog 15 #[e.val A cap] w fun r w' => r = .returned (.tuple #[.string (shown e).1, .int .i64 (shown e).2]) ∧ Below w.heap.size w w' := by
  have hE' := ExAt.more hB e A cap hE
  have hG := hT.lt
  have hX0 : ExBox (w.alloc (.cells #[.int .i64 e.op, .string e.name, .int .i64 e.num, .slice A e.k cap, .int .i64 e.line, .int .i64 e.col] 41)) w.heap.size e A cap := World.alloc_heap_new w _
  have hb0 : Below w.heap.size w (w.alloc (.cells #[.int .i64 e.op, .string e.name, .int .i64 e.num, .slice A e.k cap, .int .i64 e.line, .int .i64 e.col] 41)) := (Below.refl _ _).alloc (Nat.le_refl _) _
  have hz0 : w.heap.size < (w.alloc (.cells #[.int .i64 e.op, .string e.name, .int .i64 e.num, .slice A e.k cap, .int .i64 e.line, .int .i64 e.col] 41)).heap.size := by simp
  have hr := right_any e w.heap.size A cap (w.alloc (.cells #[.int .i64 e.op, .string e.name, .int .i64 e.num, .slice A e.k cap, .int .i64 e.line, .int .i64 e.col] 41)) (hE'.below (Nat.le_refl _) hb0) hb0.size hh
  have HR := hid hr
  clear hr
  cases hri : e.right with
  | false =>
    have HS : Hid (shown e = (⟨#[]⟩, 2)) := by show _ = _; unfold shown; rw [hri]; rfl
    unfold Ex.val at HR ⊢
    rw [HS.out]
    rw [hri] at HR
    clear hlen
    go_enter Tryz.func15, Tryz.ntmps15
    go_wp2_with fail
    refine HR.out.mono ?_
    rintro r w1 ⟨rfl, hb1⟩
    go_wp2_with fail
    go_ret2
    exact ⟨rfl, hb0.trans (hb1.mono (by omega))⟩
  | true =>
    have hok := ok_of_right hE hri
    have hlen' := hlen hri
    have HS : Hid (shown e = (if fitsT (e.txt 0) = true then ⟨(e.txt 0).toArray⟩ else ⟨#[]⟩, if fitsT (e.txt 0) = true then 0 else 3)) := by show _ = _; unfold shown; rw [hri]; simp only [reduceIte]; split <;> rfl
    unfold Ex.val at HR ⊢
    rw [HS.out]
    rw [hri] at HR
    clear hlen
    go_enter Tryz.func15, Tryz.ntmps15
    go_wp2_with fail
    refine HR.out.mono ?_
    rintro r w1 ⟨rfl, hb1⟩
    have hb1' := hb0.trans (hb1.mono (by omega))
    have hz1 := hb1.size
    have hX1 := hX0.below hb1
    have hlt1 : w.heap.size < w1.heap.size := by omega
    have hX2 := hX1.below ((Below.refl w1.heap.size w1).alloc (Nat.le_refl _) (.cells #[.pointer none, .slice none 0 0] 70))
    obtain ⟨c0, c1, c2, c3, c4, c5⟩ := hX1.cells
    obtain ⟨d0, d1, d2, d3, d4, d5⟩ := hX2.cells
    have hW2 : Wr w.heap.size w1.heap.size [] (w1.alloc (.cells #[.pointer none, .slice none 0 0] 70)) := .inl ⟨by omega, .slice none 0 0, World.alloc_heap_new w1 _, World.ownsRow_nil _ _ _ _, by simp [Value.ownBlock]⟩
    have hb2 := hb1'.alloc (by omega) (.cells #[.pointer none, .slice none 0 0] 70)
    go_wp2_with fail
    refine (expr_wr e hok w.heap.size w1.heap.size [] A cap 0 _ (hE'.below (Nat.le_refl _) hb2) hok hW2 (hT.below hb2 hG) hG (by simpa using hlen')).mono ?_
    rintro r w3 ⟨rfl, hW3, hK3⟩
    go_wp2_with fail
    rw [List.nil_append] at hW3
    refine (done_any w.heap.size w1.heap.size (e.txt 0) w3 hW3 (txt_ne hok 0) hlen').mono ?_
    rintro r w4 ⟨rfl, hb4⟩
    go_wp2_with fail
    all_goals
      go_ret2
      exact ⟨rfl, (hb2.trans hK3.below).trans hb4⟩
end Go.Proofs.YtnlikhjmmnaknaaGreatDoor
