/-
  The walks of package token's small functions, and of the reference's: what each returns.
-/
import Derived.Test.YtnlikhjmmnaknaaDoorEx
namespace Go.Proofs.YtnlikhjmmnaknaaDoor
open Go.RowKit

def isLetter (c : Int) : Bool := (decide (97 ≤ c) && decide (c ≤ 122)) || (decide (65 ≤ c) && decide (c ≤ 90)) || (c == 95)
def isDigit (c : Int) : Bool := decide (48 ≤ c) && decide (c ≤ 57)

theorem ret_int {k : IntKind} {a b : Int} (h : a = b) : Ending.returned (.int k a) = .returned (.int k b) := by rw [h]
theorem ret_bool {a b : Bool} (h : a = b) : Ending.returned (.bool a) = .returned (.bool b) := by rw [h]

theorem letter_1 {c : Int} (h : isLetter c = true) : (97 ≤ c ∧ c ≤ 122) ∨ (65 ≤ c ∧ c ≤ 90) ∨ c = 95 := by
  simpa [isLetter, or_assoc] using h

set_option maxHeartbeats 400000 in
theorem letter_any (c : Int) (w : World) :
    Calls Tryd.prog 78 #[.int .u8 c] w fun e w' => e = .returned (.bool (isLetter c)) ∧ w = w' := by
  go_enter Tryd.func78, Tryd.ntmps78
  go_wp2_with fail
  all_goals (go_ret; refine ⟨ret_bool ?_, rfl⟩; rw [Bool.eq_iff_iff]; simp [isLetter]; try omega)

set_option maxHeartbeats 400000 in
theorem digit_any (c : Int) (w : World) :
    Calls Tryd.prog 81 #[.int .u8 c] w fun e w' => e = .returned (.bool (isDigit c)) ∧ w = w' := by
  go_enter Tryd.func81, Tryd.ntmps81
  go_wp2_with fail
  all_goals (go_ret; refine ⟨ret_bool ?_, rfl⟩; rw [Bool.eq_iff_iff]; simp [isDigit]; try omega)

set_option maxHeartbeats 400000 in
theorem rdigit_any (c : Int) (w : World) :
    Calls Tryd.prog 63 #[.int .u8 c] w fun e w' => e = .returned (.bool (isDigit c)) ∧ w = w' := by
  go_enter Tryd.func63, Tryd.ntmps63
  go_wp2_with fail
  all_goals (go_ret; refine ⟨ret_bool ?_, rfl⟩; rw [Bool.eq_iff_iff]; simp [isDigit]; try omega)

set_option maxHeartbeats 400000 in
theorem rpart_any (c : Int) (w : World) :
    Calls Tryd.prog 62 #[.int .u8 c] w fun e w' => e = .returned (.bool (isLetter c || isDigit c)) ∧ w = w' := by
  go_enter Tryd.func62, Tryd.ntmps62
  go_wp2_with (go_at_call 63; refine (rdigit_any _ _).mono ?_; rintro e w' ⟨rfl, rfl⟩)
  all_goals (go_ret; refine ⟨ret_bool ?_, rfl⟩; rw [Bool.eq_iff_iff]; simp [isDigit, isLetter]; try omega)

/-- the words, as bytes -/
def wordL : List ByteArray := [⟨#[110, 111, 100, 101]⟩, ⟨#[114, 101, 116, 117, 114, 110, 115]⟩, ⟨#[118, 97, 114]⟩, ⟨#[108, 101, 116]⟩, ⟨#[116, 101, 108]⟩, ⟨#[105, 102]⟩, ⟨#[116, 104, 101, 110]⟩, ⟨#[101, 108, 115, 101]⟩, ⟨#[112, 114, 101]⟩, ⟨#[102, 98, 121]⟩, ⟨#[119, 104, 101, 110]⟩, ⟨#[110, 111, 116]⟩, ⟨#[109, 101, 114, 103, 101]⟩, ⟨#[97, 110, 100]⟩, ⟨#[111, 114]⟩, ⟨#[120, 111, 114]⟩, ⟨#[116, 114, 117, 101]⟩, ⟨#[102, 97, 108, 115, 101]⟩, ⟨#[105, 110, 116]⟩, ⟨#[98, 111, 111, 108]⟩]

def isWord (s : List UInt8) : Bool := wordL.any (fun x => x.data.toList == s)

set_option maxHeartbeats 400000 in
theorem words_any (w : World) :
    Calls Tryd.prog 87 #[] w fun e w' => e = .returned (.slice (some ⟨w.heap.size, 0, none⟩) 20 20) ∧ w.alloc (.cells (wordL.map .string).toArray 9) = w' := by
  go_enter Tryd.func87, Tryd.ntmps87
  go_wp2_with fail
  go_ret
  exact ⟨rfl, rfl⟩

theorem wordL_len : wordL.length = 20 := rfl
theorem isWord_hit {s : ByteArray} {j : Nat} (h : j < 20) (he : (s.toList == (wordL[j]?.getD ByteArray.empty).toList) = true) : isWord s.data.toList = true := by
  unfold isWord
  rw [List.any_eq_true]
  refine ⟨wordL[j], List.getElem_mem _, ?_⟩
  rw [List.getElem?_eq_getElem h] at he
  rw [ByteArray.toList_eq, ByteArray.toList_eq] at he
  simp at he ⊢
  exact he.symm
theorem isWord_miss {s : ByteArray} (h : ∀ j, j < 20 → (s.toList == (wordL[j]?.getD ByteArray.empty).toList) = false) : isWord s.data.toList = false := by
  unfold isWord
  rw [List.any_eq_false]
  intro x hx
  obtain ⟨j, hj, rfl⟩ := List.getElem_of_mem hx
  have := h j hj
  rw [List.getElem?_eq_getElem hj] at this
  rw [ByteArray.toList_eq, ByteArray.toList_eq] at this
  simp at this ⊢
  exact fun e => this e.symm

set_option maxHeartbeats 400000 in
theorem word_any (s : ByteArray) (w : World) :
    Calls Tryd.prog 73 #[.string s] w fun e w' => e = .returned (.bool (isWord s.data.toList)) ∧ Below w.heap.size w w' := by
  go_enter Tryd.func73, Tryd.ntmps73
  go_wp2_with (go_at_call 87; refine (words_any _).mono ?_; rintro e w' ⟨rfl, rfl⟩)
  have hbel : Below w.heap.size w (w.alloc (.cells (wordL.map .string).toArray 9)) := (Below.refl _ _).alloc (Nat.le_refl _) _
  have hcell : ∀ i, i < 20 → (w.alloc (.cells (wordL.map .string).toArray 9)).cell? ⟨w.heap.size, i, none⟩ = some (.string (wordL[i]?.getD ByteArray.empty)) := fun i hi => by
    rw [World.cell?_alloc_new]
    simp [List.getElem?_eq_getElem (show i < wordL.length from hi)]
  generalize w.alloc (.cells (wordL.map .string).toArray 9) = W at *
  go_loop [4, 7] (fun x i => ∃ j : Nat, j ≤ 20 ∧ i = .int .i64 j ∧ Hid (∀ m, m < j → (s.toList == (wordL[m]?.getD ByteArray.empty).toList) = false)) (fun _ i => 20 - (intOf i).toNat)
  case atStart => exact ⟨0, by omega, rfl, fun m hm => absurd hm (by omega)⟩
  case round =>
    obtain ⟨j, hj, rfl, hmiss⟩ := hrel
    by_cases hlt : j < 20
    · have hc := hcell j hlt
      clear hcell
      go_wp2_with fail
      · go_ret
        exact ⟨ret_bool (isWord_hit hlt ‹_›).symm, hbel⟩
      · go_round
        case rel =>
          refine ⟨j + 1, by omega, by go_num, fun m hm => ?_⟩
          by_cases hmj : m = j
          · subst hmj; assumption
          · exact hmiss.out m (by omega)
        case measure => simp [intOf]; omega
    · have : j = 20 := by omega
      subst this
      go_wp2_with fail
      go_ret
      exact ⟨ret_bool (isWord_miss hmiss.out).symm, hbel⟩
end Go.Proofs.YtnlikhjmmnaknaaDoor
