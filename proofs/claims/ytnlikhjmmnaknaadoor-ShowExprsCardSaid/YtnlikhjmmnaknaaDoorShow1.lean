/-
  The walks of show's and the reference's small functions: Strength, sign, Digits.
-/
import Derived.Test.YtnlikhjmmnaknaaDoorTxt
import Derived.Deep.AppendLies
namespace Go.Proofs.YtnlikhjmmnaknaaDoor
open Go.RowKit

theorem strL_eq : ∀ j : Nat, j < 27 → strL[j]?.getD 0 = strOf ((j : Int) + 1) := by decide
theorem strL_val (j : Nat) (h : j < 27) (h' : j < (strL.map (Value.int .i64)).length) : (strL.map (Value.int .i64))[j]'h' = .int .i64 (strL[j]?.getD 0) := by
  rw [List.getElem_map, List.getElem?_eq_getElem (show j < strL.length from h)]; rfl
theorem strOf_at {op : Int} {j : Nat} (h : op = (j : Int) + 1) (hj : j < 27) : strOf op = strL[j]?.getD 0 := by rw [strL_eq j hj, h]
theorem strOf_out {op : Int} (h : op < 1 ∨ 27 < op) : strOf op = 10 := by unfold strOf; rw [if_pos h]

/-- the same by cases -/
def strC (op : Int) : Int :=
  if op = 27 then 0 else if op = 23 then 1 else if op = 22 then 2 else if op = 24 ∨ op = 25 then 3 else if op = 19 ∨ op = 20 then 4 else if op = 18 then 5
  else if 12 ≤ op ∧ op ≤ 17 then 6 else if op = 7 ∨ op = 8 then 7 else if 9 ≤ op ∧ op ≤ 11 then 8 else if op = 5 ∨ op = 6 ∨ op = 21 then 9 else 10
theorem strC_eq (op : Int) : strOf op = strC op := by
  by_cases h : 1 ≤ op ∧ op ≤ 27
  · obtain ⟨j, rfl⟩ : ∃ j : Nat, op = (j : Int) + 1 := ⟨(op - 1).toNat, by omega⟩
    have : ∀ j : Nat, j < 27 → strOf ((j : Int) + 1) = strC ((j : Int) + 1) := by decide
    exact this j (by omega)
  · rw [strOf_out (by omega)]
    unfold strC
    (repeat' split) <;> omega

theorem op_case {op : Int} (h : 1 ≤ op ∧ op ≤ 27) : op = 1 ∨ op = 2 ∨ op = 3 ∨ op = 4 ∨ op = 5 ∨ op = 6 ∨ op = 7 ∨ op = 8 ∨ op = 9 ∨ op = 10 ∨ op = 11 ∨ op = 12 ∨ op = 13 ∨ op = 14 ∨ op = 15 ∨ op = 16 ∨ op = 17 ∨ op = 18 ∨ op = 19 ∨ op = 20 ∨ op = 21 ∨ op = 22 ∨ op = 23 ∨ op = 24 ∨ op = 25 ∨ op = 26 ∨ op = 27 := by omega
set_option maxHeartbeats 1600000 in
theorem strength_any (op : Int) (w : World) :
    Calls Tryd.prog 9 #[.int .i64 op] w fun e w' => e = .returned (.int .i64 (strOf op)) ∧ w = w' := by
  by_cases h : 1 ≤ op ∧ op ≤ 27
  · rcases op_case h with h | h | h | h | h | h | h | h | h | h | h | h | h | h | h | h | h | h | h | h | h | h | h | h | h | h | h <;>
      (subst h
       go_enter Tryd.func9, Tryd.ntmps9
       go_wp2_with fail
       go_ret
       exact ⟨rfl, rfl⟩)
  · have HR := hid (strOf_out (op := op) (by omega))
    have hne : ∀ k : Int, 1 ≤ k → k ≤ 27 → (op == k) = false := fun k h1 h2 => by simp; omega
    have h27 := hne 27 (by omega) (by omega)
    have h23 := hne 23 (by omega) (by omega)
    have h22 := hne 22 (by omega) (by omega)
    have h24 := hne 24 (by omega) (by omega)
    have h25 := hne 25 (by omega) (by omega)
    have h19 := hne 19 (by omega) (by omega)
    have h20 := hne 20 (by omega) (by omega)
    have h18 := hne 18 (by omega) (by omega)
    have h12 := hne 12 (by omega) (by omega)
    have h13 := hne 13 (by omega) (by omega)
    have h14 := hne 14 (by omega) (by omega)
    have h15 := hne 15 (by omega) (by omega)
    have h16 := hne 16 (by omega) (by omega)
    have h17 := hne 17 (by omega) (by omega)
    have h7 := hne 7 (by omega) (by omega)
    have h8 := hne 8 (by omega) (by omega)
    have h9 := hne 9 (by omega) (by omega)
    have h10 := hne 10 (by omega) (by omega)
    have h11 := hne 11 (by omega) (by omega)
    have h5 := hne 5 (by omega) (by omega)
    have h6 := hne 6 (by omega) (by omega)
    have h21 := hne 21 (by omega) (by omega)
    clear hne h
    go_enter Tryd.func9, Tryd.ntmps9
    go_wp2_with fail
    go_ret
    exact ⟨ret_int HR.out.symm, rfl⟩

set_option maxHeartbeats 800000 in
theorem rstrength_any (op : Int) (w : World) :
    Calls Tryd.prog 10 #[.int .i64 op] w fun e w' => e = .returned (.int .i64 (strOf op)) ∧ Below w.heap.size w w' := by
  by_cases h : 1 ≤ op ∧ op ≤ 27
  · obtain ⟨j, rfl⟩ : ∃ j : Nat, op = (j : Int) + 1 := ⟨(op - 1).toNat, by omega⟩
    have hj : j < 27 := by omega
    have hr := strL_eq j hj
    have HR := hid hr
    have hcell : (w.alloc (.cells (strL.map (.int .i64)).toArray 3)).cell? ⟨w.heap.size, j, none⟩ = some (.int .i64 (strL[j]?.getD 0)) := by
      rw [World.cell?_alloc_new]
      simp [List.getElem?_eq_getElem (show j < strL.length from hj)]
    have hbel : Below w.heap.size w (w.alloc (.cells (strL.map (.int .i64)).toArray 3)) := (Below.refl _ _).alloc (Nat.le_refl _) _
    go_enter Tryd.func10, Tryd.ntmps10
    go_wp2_with fail
    go_ret
    refine ⟨?_, hbel⟩
    rw [← HR.out]
    exact congrArg Ending.returned (strL_val j hj _)
  · have HR := hid (strOf_out (op := op) (by omega))
    go_enter Tryd.func10, Tryd.ntmps10
    go_wp2_with fail
    all_goals
      go_ret
      exact ⟨ret_int HR.out.symm, Below.refl _ _⟩

/-- an op of two parts that has a sign -/
def signed (op : Int) : Prop := (7 ≤ op ∧ op ≤ 20) ∨ op = 22 ∨ op = 23
theorem sgnL_val (j : Nat) (h : j < 17) (h' : j < (sgnL.map Value.string).length) : (sgnL.map Value.string)[j]'h' = .string (sgnL[j]?.getD ⟨#[]⟩) := by
  rw [List.getElem_map, List.getElem?_eq_getElem (show j < sgnL.length from h)]; rfl

theorem sgn_case {op : Int} (h : signed op) : op = 7 ∨ op = 8 ∨ op = 9 ∨ op = 10 ∨ op = 11 ∨ op = 12 ∨ op = 13 ∨ op = 14 ∨ op = 15 ∨ op = 16 ∨ op = 17 ∨ op = 18 ∨ op = 19 ∨ op = 20 ∨ op = 22 ∨ op = 23 := by
  unfold signed at h; omega

set_option maxHeartbeats 800000 in
theorem sign_show (op : Int) (w : World) (h : signed op) :
    Calls Tryd.prog 76 #[.int .i64 op] w fun e w' => e = .returned (.string (sgnOf op)) ∧ w = w' := by
  rcases sgn_case h with h | h | h | h | h | h | h | h | h | h | h | h | h | h | h | h <;>
    (subst h
     go_enter Tryd.func76, Tryd.ntmps76
     go_wp2_with fail
     go_ret
     exact ⟨rfl, rfl⟩)

set_option maxHeartbeats 800000 in
theorem rsign_any (op : Int) (w : World) (h : signed op) :
    Calls Tryd.prog 25 #[.int .i64 op] w fun e w' => e = .returned (.string (sgnOf op)) ∧ Below w.heap.size w w' := by
  obtain ⟨j, rfl⟩ : ∃ j : Nat, op = (j : Int) + 7 := ⟨(op - 7).toNat, by unfold signed at h; omega⟩
  have hj : j < 17 := by unfold signed at h; omega
  have hr : sgnOf ((j : Int) + 7) = sgnL[j]?.getD ⟨#[]⟩ := by unfold sgnOf; rw [show ((j : Int) + 7 - 7).toNat = j by omega]
  have HR := hid hr
  clear hr h
  have hcell : (w.alloc (.cells (sgnL.map .string).toArray 9)).cell? ⟨w.heap.size, j, none⟩ = some (.string (sgnL[j]?.getD ⟨#[]⟩)) := by
    rw [World.cell?_alloc_new]
    simp [List.getElem?_eq_getElem (show j < sgnL.length from hj)]
  have hbel : Below w.heap.size w (w.alloc (.cells (sgnL.map .string).toArray 9)) := (Below.refl _ _).alloc (Nat.le_refl _) _
  go_enter Tryd.func25, Tryd.ntmps25
  go_wp2_with fail
  go_ret
  refine ⟨?_, hbel⟩
  rw [HR.out]
  exact congrArg Ending.returned (sgnL_val j hj _)

theorem digit_cut {n : Nat} (h : n < 10) : ((⟨#[48, 49, 50, 51, 52, 53, 54, 55, 56, 57]⟩ : ByteArray).extract n (n + 1)).data.toList = [UInt8.ofNat (48 + n)] := by
  have : ∀ m, m < 10 → ((⟨#[48, 49, 50, 51, 52, 53, 54, 55, 56, 57]⟩ : ByteArray).extract m (m + 1)).data.toList = [UInt8.ofNat (48 + m)] := by decide
  exact this n h
theorem digits_step {n : Nat} (h : ¬ n < 10) : Lib.decDigits n = Lib.decDigits (n / 10) ++ Lib.decDigits (n % 10) := by
  rw [Lib.decDigits, dif_neg h, Lib.decDigits_one (show n % 10 < 10 from Nat.mod_lt _ (by omega))]
theorem dec_le {n : Nat} (h : n ≤ 9223372036854775807) : (Lib.decDigits n).length ≤ 20 := by
  rw [Lib.decDigits_length]; exact Lib.nDigits_le20 n (by omega)

theorem str_append (a b : List UInt8) : (⟨a.toArray⟩ : ByteArray) ++ ⟨b.toArray⟩ = ⟨(a ++ b).toArray⟩ := by
  apply ByteArray.ext
  simp

set_option maxHeartbeats 800000 in
theorem rdigits_any (k : Nat) : ∀ (n : Nat) (w : World), n ≤ k → n ≤ 9223372036854775807 →
    Calls Tryd.prog 24 #[.int .i64 n] w fun e w' => e = .returned (.string ⟨(Lib.decDigits n).toArray⟩) ∧ w = w' := by
  induction k with
  | zero =>
    intro n w hk _
    obtain rfl : n = 0 := by omega
    go_enter Tryd.func24, Tryd.ntmps24
    go_wp2_with fail
    go_ret
    refine ⟨?_, rfl⟩
    rw [Lib.decDigits_one (by omega)]
    rfl
  | succ k ih =>
    intro n w hk hn
    by_cases h : n < 10
    · have HD := hid (Lib.decDigits_one h)
      go_enter Tryd.func24, Tryd.ntmps24
      go_wp2_with fail
      go_ret
      refine ⟨?_, rfl⟩
      rw [HD.out, ← digit_cut h]
      rfl
    · have HD := hid (digits_step h)
      have hq : n / 10 ≤ k := by omega
      have hm := Nat.mod_lt n (show 0 < 10 by omega)
      have hl1 := dec_le (n := n / 10) (by omega)
      have hl2 := dec_le (n := n % 10) (by omega)
      have ih1 := ih (n / 10) w hq (by omega)
      have ih2 := ih (n % 10) w (by omega) (by omega)
      clear ih
      go_enter Tryd.func24, Tryd.ntmps24
      go_wp2_with fail
      refine ih1.mono ?_
      rintro r w1 ⟨rfl, rfl⟩
      go_wp2_with fail
      refine ih2.mono ?_
      rintro r w1 ⟨rfl, rfl⟩
      go_wp2_with fail
      go_ret
      exact ⟨by rw [str_append, ← HD.out]; rfl, rfl⟩
end Go.Proofs.YtnlikhjmmnaknaaDoor
