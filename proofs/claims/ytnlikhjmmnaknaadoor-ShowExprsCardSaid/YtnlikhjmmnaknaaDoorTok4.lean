/-
  The walk of the reference's Name.
-/
import Derived.Test.YtnlikhjmmnaknaaDoorTok3
namespace Go.Proofs.YtnlikhjmmnaknaaDoor
open Go.RowKit

def partsOnly (l : List UInt8) : Bool := l.all (fun c => isLetter (c.toNat : Int) || isDigit (c.toNat : Int))

theorem namedFrom_succ (l : List UInt8) : ∀ i, namedFrom (i + 1) l = partsOnly l := by
  induction l with
  | nil => intro i; rfl
  | cons c l ih =>
    intro i
    rw [namedFrom, ih]
    simp [partsOnly, partAt]

theorem not_both (c : Int) (h : isDigit c = true) : isLetter c = false := by
  simp [isDigit, isLetter] at *; omega

/-- the reference's test is the code's -/
theorem rname_eq (c : UInt8) (l : List UInt8) (h : partsOnly (c :: l) = true) : isName (c :: l) = (decide ((c :: l).length ≤ 20) && !isDigit (c.toNat : Int) && !isWord (c :: l)) := by
  simp only [partsOnly, List.all_cons, Bool.and_eq_true] at h
  unfold isName isNamed
  rw [namedFrom, namedFrom_succ]
  cases hd : isDigit (c.toNat : Int) with
  | true => simp [partAt, not_both _ hd]
  | false =>
    have hl : isLetter (c.toNat : Int) = true := by simpa [hd] using h.1
    have h2 := h.2
    unfold partsOnly
    rw [h2]
    simp [partAt, hl]

theorem rname_not (l : List UInt8) (h : partsOnly l = false) : isName l = false := by
  cases l with
  | nil => simp [partsOnly] at h
  | cons c l =>
    unfold isName isNamed
    rw [namedFrom, namedFrom_succ]
    simp only [partsOnly, List.all_cons] at h ⊢
    cases hl : isLetter (c.toNat : Int) with
    | true => simp [hl] at h; simp [partAt, hl]; intro hall; obtain ⟨x, hx, hn⟩ := h; exact absurd (hall x hx) (by simp [hn])
    | false => simp [partAt, hl]

set_option maxHeartbeats 400000 in
theorem rname_any (s : ByteArray) (w : World) (hs : s.size ≤ 1000000) :
    Calls Tryd.prog 40 #[.string s] w fun e w' => e = .returned (.bool (isName s.data.toList)) ∧ w = w' := by
  go_enter Tryd.func40, Tryd.ntmps40
  go_wp2_with fail
  go_loop [3] (fun i => ∃ j : Nat, j ≤ s.size ∧ i = .int .i64 j ∧ Hid (partsOnly s.data.toList = partsOnly (s.data.toList.drop j))) (fun i => s.size - (intOf i).toNat)
  case atStart => exact ⟨0, by omega, rfl, rfl⟩
  case round =>
    obtain ⟨j, hj, rfl, hrel⟩ := hrel
    by_cases hlt : j < s.size
    · have hd := byte_data s j hlt
      have hn : partsOnly s.data.toList = ((isLetter (s[j].toNat : Int) || isDigit (s[j].toNat : Int)) && partsOnly (s.data.toList.drop (j + 1))) := by
        rw [hrel.out, hd]; rfl
      have HN := hid hn
      clear hn hd hrel
      cases hp : (isLetter (s[j].toNat : Int) || isDigit (s[j].toNat : Int)) with
      | true =>
        go_wp2_with (go_at_call 62; refine (rpart_any _ _).mono ?_; rintro e w' ⟨rfl, rfl⟩)
        go_round
        case rel =>
          refine ⟨j + 1, by omega, by go_num, ?_⟩
          show _ = _
          rw [HN.out, hp, Bool.true_and]
        case measure => simp [intOf]; omega
      | false =>
        go_wp2_with (go_at_call 62; refine (rpart_any _ _).mono ?_; rintro e w' ⟨rfl, rfl⟩)
        go_ret
        refine ⟨ret_bool (rname_not _ ?_).symm, rfl⟩
        rw [HN.out, hp, Bool.false_and]
    · have : j = s.size := by omega
      subst this
      have HN : Hid (partsOnly s.data.toList = true) := by
        rw [hrel.out, List.drop_of_length_le (by simp)]; rfl
      clear hrel
      by_cases h0 : s.size = 0
      · have hl : s.data.toList = [] := by
          rw [size_len] at h0
          exact List.eq_nil_of_length_eq_zero h0
        have he : s.toList = [] := by rw [ByteArray.toList_eq, hl]
        have HL := hid hl
        clear hl
        go_wp2_with fail
        go_ret
        refine ⟨ret_bool ?_, rfl⟩
        rw [HL.out]; rfl
      · have h0' : 0 < s.size := by omega
        have hl := byte_data s 0 h0'
        rw [List.drop_zero] at hl
        have he : s.toList.isEmpty = false := by rw [ByteArray.toList_eq, hl]; rfl
        have HL := hid hl
        have hk := rname_eq s[0] (s.data.toList.drop (0 + 1)) (by rw [← hl]; exact HN.out)
        rw [← hl, ← size_len] at hk
        have HK := hid hk
        clear hl hk
        go_wp2_with (first | (go_at_call 63; refine (rdigit_any _ _).mono ?_; rintro e w' ⟨rfl, rfl⟩) | (go_at_call 64; refine (rword_any _ _ hs).mono ?_; rintro e w' ⟨rfl, rfl⟩))
        all_goals
          go_ret
          refine ⟨ret_bool ?_, rfl⟩
          rw [HK.out]
          simp [*]
          try (intros; omega)
end Go.Proofs.YtnlikhjmmnaknaaDoor
