/-
  The walks of the reference's Word and Name.
-/
import Derived.Test.YtnlikhjmmnaknaaDoorTok2
import Derived.Lib.Strings
namespace Go.Proofs.YtnlikhjmmnaknaaDoor
open Go.RowKit

def wordsC : ByteArray := ⟨#[32, 110, 111, 100, 101, 32, 114, 101, 116, 117, 114, 110, 115, 32, 118, 97, 114, 32, 108, 101, 116, 32, 116, 101, 108, 32, 105, 102, 32, 116, 104, 101, 110, 32, 101, 108, 115, 101, 32, 112, 114, 101, 32, 102, 98, 121, 32, 119, 104, 101, 110, 32, 110, 111, 116, 32, 109, 101, 114, 103, 101, 32, 97, 110, 100, 32, 111, 114, 32, 120, 111, 114, 32, 116, 114, 117, 101, 32, 102, 97, 108, 115, 101, 32, 105, 110, 116, 32, 98, 111, 111, 108, 32]⟩

def spaced (l : List UInt8) : Bool := l.any (fun c => c.toNat == 32)

def wordsL : List UInt8 := wordsC.data.toList

theorem words_have : ∀ x ∈ wordL, ∃ m, m < 94 ∧ m + (x.data.toList.length + 2) ≤ 93 ∧ (wordsL.drop m).take (x.data.toList.length + 2) = 32 :: (x.data.toList ++ [32]) := by
  decide +kernel
theorem words_plain : ∀ x ∈ wordL, spaced x.data.toList = false := by
  decide +kernel
theorem words_only : ∀ j, j < 94 → ∀ n, n < 94 → (wordsL.drop j).take (n + 2) = 32 :: ((wordsL.drop (j + 1)).take n ++ [32]) → spaced ((wordsL.drop (j + 1)).take n) = false →
    isWord ((wordsL.drop (j + 1)).take n) = !((wordsL.drop (j + 1)).take n).isEmpty := by
  decide +kernel

theorem isWord_mem {l : List UInt8} (h : isWord l = true) : ∃ x ∈ wordL, x.data.toList = l := by
  unfold isWord at h
  rw [List.any_eq_true] at h
  obtain ⟨x, hx, he⟩ := h
  exact ⟨x, hx, by simpa using he⟩
theorem isWord_spaced {l : List UInt8} (h : spaced l = true) : isWord l = false := by
  cases hw : isWord l with
  | false => rfl
  | true =>
    obtain ⟨x, hx, rfl⟩ := isWord_mem hw
    rw [words_plain x hx] at h
    cases h

theorem size_len (t : ByteArray) : t.size = t.data.toList.length := by rw [Array.length_toList]; rfl

theorem win (t : ByteArray) (m : Nat) : (wordsC.extract m (m + t.size)).toList = (wordsL.drop m).take t.data.toList.length := by
  rw [ByteArray.toList_eq, Lib.extract_data]
  show List.take (m + t.size - m) _ = _
  rw [← size_len, show m + t.size - m = t.size by omega]; rfl

theorem found_word {t : ByteArray} {l : List UInt8} {j : Nat} (ht : t.data.toList = 32 :: (l ++ [32])) (hj : j + t.size ≤ 93) (hl : spaced l = false)
    (h : ((wordsC.extract j (j + t.size)).toList == t.toList) = true) : isWord l = !l.isEmpty := by
  rw [win, ByteArray.toList_eq, ht] at h
  have hn : t.size = l.length + 2 := by
    rw [size_len, ht]; simp
  have h' : (wordsL.drop j).take (l.length + 2) = 32 :: (l ++ [32]) := by simpa using h
  have hl' : l = (wordsL.drop (j + 1)).take l.length := by
    have h2 := congrArg (fun x => (x.drop 1).take l.length) h'
    simp only [List.drop_take, List.drop_drop, List.take_take, List.drop_succ_cons, List.drop_zero] at h2
    rw [List.take_left] at h2
    rw [show min l.length (l.length + 2 - 1) = l.length by omega] at h2
    exact h2.symm
  have := words_only j (by omega) l.length (by omega)
  rw [← hl'] at this
  exact this h' hl

theorem found_none {t : ByteArray} {l : List UInt8} (ht : t.data.toList = 32 :: (l ++ [32])) (h : ∀ m, m + t.size ≤ 93 → ((wordsC.extract m (m + t.size)).toList == t.toList) = false) : isWord l = false := by
  cases hw : isWord l with
  | false => rfl
  | true =>
    obtain ⟨x, hx, rfl⟩ := isWord_mem hw
    obtain ⟨m, _, hm, he⟩ := words_have x hx
    have hn : t.size = x.data.toList.length + 2 := by
      rw [size_len, ht]; simp
    have := h m (by omega)
    rw [win, ByteArray.toList_eq, ht] at this
    simp at this he
    exact absurd he this

set_option maxHeartbeats 400000 in
theorem rword_any (s : ByteArray) (w : World) (hs : s.size ≤ 1000000) :
    Calls Tryd.prog 64 #[.string s] w fun e w' => e = .returned (.bool (isWord s.data.toList)) ∧ w = w' := by
  go_enter Tryd.func64, Tryd.ntmps64
  go_wp2_with fail
  go_loop [3] (fun i => ∃ j : Nat, j ≤ s.size ∧ i = .int .i64 j ∧ Hid (spaced s.data.toList = spaced (s.data.toList.drop j))) (fun i => s.size - (intOf i).toNat)
  case atStart => exact ⟨0, by omega, rfl, rfl⟩
  case round =>
    obtain ⟨j, hj, rfl, hrel⟩ := hrel
    by_cases hlt : j < s.size
    · have hd := byte_data s j hlt
      have hn : spaced s.data.toList = ((s[j].toNat == 32) || spaced (s.data.toList.drop (j + 1))) := by
        rw [hrel.out, hd]; rfl
      have HN := hid hn
      clear hn hd hrel
      go_wp2_with fail
      · go_ret
        refine ⟨ret_bool (isWord_spaced ?_).symm, rfl⟩
        rw [HN.out]
        have h : ((s[j].toNat : Int) == 32) = true := ‹_›
        simp at h
        simp; omega
      · go_round
        case rel =>
          refine ⟨j + 1, by omega, by go_num, ?_⟩
          show _ = _
          have h : ((s[j].toNat : Int) == 32) = false := ‹_›
          simp at h
          rw [HN.out, beq_eq_false_iff_ne.2 (by omega), Bool.false_or]
        case measure => simp [intOf]; omega
    · have : j = s.size := by omega
      subst this
      have HN : Hid (spaced s.data.toList = false) := by
        rw [hrel.out, List.drop_of_length_le (by simp)]; rfl
      clear hrel
      go_wp2_with fail
      have hts : ({ data := #[32] } ++ s ++ { data := #[32] } : ByteArray).size = s.size + 2 := by
        rw [ByteArray.size_append, ByteArray.size_append]
        show 1 + s.size + 1 = _
        omega
      have htl : ({ data := #[32] } ++ s ++ { data := #[32] } : ByteArray).data.toList = 32 :: (s.data.toList ++ [32]) := by
        simp
      generalize ({ data := #[32] } ++ s ++ { data := #[32] } : ByteArray) = t at *
      have HTL := hid htl
      have hb1 : s.size + 2 ≤ t.size := by omega
      have hb2 : t.size ≤ s.size + 2 := by omega
      clear hts htl
      go_loop [5] (fun i => ∃ j : Nat, j ≤ 92 ∧ i = .int .i64 j ∧ Hid (∀ m, m < j → ((wordsC.extract m (m + t.size)).toList == t.toList) = false)) (fun i => 93 - (intOf i).toNat)
      case atStart => exact ⟨0, by omega, rfl, fun m hm => absurd hm (by omega)⟩
      case round =>
        obtain ⟨j, hj, rfl, hmiss⟩ := hrel
        by_cases hle : j + t.size ≤ 93
        · go_wp2_with fail
          · go_ret
            refine ⟨ret_bool ?_, rfl⟩
            rw [found_word HTL.out hle HN.out (by assumption), ByteArray.toList_eq]
          · go_round
            case rel =>
              refine ⟨j + 1, by omega, by go_num, fun m hm => ?_⟩
              by_cases hmj : m = j
              · subst hmj; assumption
              · exact hmiss.out m (by omega)
            case measure => simp [intOf]; omega
        · go_wp2_with fail
          go_ret
          exact ⟨ret_bool (found_none HTL.out fun m hm => hmiss.out m (by omega)).symm, rfl⟩
end Go.Proofs.YtnlikhjmmnaknaaDoor
