/-
  The walks of token.named and token.Name.
-/
import Derived.Test.YtnlikhjmmnaknaaDoorTok
namespace Go.Proofs.YtnlikhjmmnaknaaDoor
open Go.RowKit

/-- may a byte stand at this place of a name? -/
def partAt (i : Nat) (c : Int) : Bool := isLetter c || (!(i == 0) && isDigit c)
/-- does the rest of a text, whose first byte stands at a place, go on as a name? -/
def namedFrom (i : Nat) : List UInt8 → Bool
  | [] => true
  | c :: l => partAt i (c.toNat : Int) && namedFrom (i + 1) l
def isNamed (l : List UInt8) : Bool := namedFrom 0 l && decide (1 ≤ l.length) && decide (l.length ≤ 20)
def isName (l : List UInt8) : Bool := isNamed l && !isWord l

theorem partAt_letter {j : Nat} {c : Int} (h : isLetter c = true) : partAt j c = true := by simp [partAt, h]
theorem partAt_first {c : Int} (h : ¬isLetter c = true) : partAt 0 c = false := by simp [partAt, h]
theorem partAt_no {j : Nat} {c : Int} (h : ¬isLetter c = true) (h0 : ¬j = 0) (h1 : ((j : Int) == 0) = true ∨ (!isDigit c) = true) : partAt j c = false := by
  rcases h1 with h1 | h1
  · simp at h1; omega
  · simp at h1; simp [partAt, h, h1]
theorem partAt_yes {j : Nat} {c : Int} (h1 : ((j : Int) == 0) = false ∧ (!isDigit c) = false) : partAt j c = true := by
  obtain ⟨h1, h2⟩ := h1
  simp at h1 h2; simp [partAt, h1, h2]

theorem byte_data (s : ByteArray) (j : Nat) (h : j < s.size) : s.data.toList.drop j = s[j] :: s.data.toList.drop (j + 1) := by
  rw [List.drop_eq_getElem_cons (by simpa using h)]; rfl
theorem byte_lt (c : UInt8) : (c.toNat : Int) ≤ 255 := by have := c.toNat_lt; omega

set_option maxHeartbeats 400000 in
theorem named_any (s : ByteArray) (w : World) (hs : s.size ≤ maxLen) :
    Calls Tryd.prog 72 #[.string s] w fun e w' => e = .returned (.bool (isNamed s.data.toList)) ∧ w = w' := by
  unfold maxLen at hs
  go_enter Tryd.func72, Tryd.ntmps72
  go_wp2_with fail
  go_loop [3, 6] (fun x i => ∃ j : Nat, j ≤ s.size ∧ i = .int .i64 j ∧ Hid (namedFrom 0 s.data.toList = namedFrom j (s.data.toList.drop j))) (fun _ i => s.size - (intOf i).toNat)
  case atStart => exact ⟨0, by omega, rfl, rfl⟩
  case round =>
    obtain ⟨j, hj, rfl, hrel⟩ := hrel
    by_cases hlt : j < s.size
    · have hd := byte_data s j hlt
      have hn : namedFrom 0 s.data.toList = (partAt j (s[j].toNat : Int) && namedFrom (j + 1) (s.data.toList.drop (j + 1))) := by
        rw [hrel.out, hd]; rfl
      have HN := hid hn
      clear hn hd hrel
      go_wp2_with (first | (go_at_call 78; refine (letter_any _ _).mono ?_; rintro e w' ⟨rfl, rfl⟩) | (go_at_call 81; refine (digit_any _ _).mono ?_; rintro e w' ⟨rfl, rfl⟩))
      · go_round
        case rel =>
          refine ⟨j + 1, by omega, by go_num, ?_⟩
          show _ = _
          rw [HN.out, partAt_letter ‹_›, Bool.true_and]
        case measure => simp [intOf]; omega
      · go_ret
        refine ⟨ret_bool ?_, rfl⟩
        subst_vars
        rw [isNamed, HN.out, partAt_first ‹_›]; rfl
      · go_ret
        refine ⟨ret_bool ?_, rfl⟩
        rw [isNamed, HN.out, partAt_no ‹_› ‹_› (by assumption)]; rfl
      · go_round
        case rel =>
          refine ⟨j + 1, by omega, by go_num, ?_⟩
          show _ = _
          rw [HN.out, partAt_yes (by assumption), Bool.true_and]
        case measure => simp [intOf]; omega
    · have : j = s.size := by omega
      subst this
      have HN : Hid (namedFrom 0 s.data.toList = true) := by
        rw [hrel.out, List.drop_of_length_le (by simp)]; rfl
      clear hrel
      go_wp2_with fail
      all_goals
        go_ret
        refine ⟨ret_bool ?_, rfl⟩
        rw [isNamed, HN.out, Bool.eq_iff_iff]
        simp
        try omega

set_option maxHeartbeats 400000 in
theorem name_any (s : ByteArray) (w : World) (hs : s.size ≤ maxLen) :
    Calls Tryd.prog 55 #[.string s] w fun e w' => e = .returned (.bool (isName s.data.toList)) ∧ Below w.heap.size w w' := by
  go_enter Tryd.func55, Tryd.ntmps55
  go_wp2_with (first | (go_at_call 72; refine (named_any _ _ hs).mono ?_; rintro e w' ⟨rfl, rfl⟩) | (go_at_call 73; refine (word_any _ _).mono ?_; rintro e w' ⟨rfl, hb⟩))
  · go_ret
    exact ⟨ret_bool (by simp [isName, *]), hb⟩
  · go_ret
    exact ⟨ret_bool (by simp [isName, *]), Below.refl _ _⟩
end Go.Proofs.YtnlikhjmmnaknaaDoor
