/-
  The walk of the reference's words.
-/
import Derived.Test.YtmdnmodjdgcmjaaDoorHScRd
namespace Go.Proofs.YtmdnmodjdgcmjaaDoor
open Go.RowKit

theorem words_len : ∀ (l cur : List UInt8), (wordsGo l cur).length ≤ l.length + 1
  | [], cur => by unfold wordsGo; split <;> simp
  | c :: t, cur => by
    rw [wordsGo]
    split
    · split
      · have := words_len t []; simp; omega
      · have := words_len t []; simp; omega
    · have := words_len t (cur ++ [c]); simp; omega
theorem str_snoc (cur : List UInt8) (s : ByteArray) (j : Nat) (h : j < s.size) : (⟨cur.toArray⟩ : ByteArray) ++ s.extract j (j + 1) = ⟨(cur ++ [s.get! j]).toArray⟩ := by
  have : s.extract j (j + 1) = ⟨[s.get! j].toArray⟩ := by
    have h1 := piece_extract s j (j + 1)
    unfold Lib.pieceU at h1
    rw [drop_get s j h, show j + 1 - j = 1 by omega, List.take_succ_cons, List.take_zero] at h1
    apply ByteArray.ext
    rw [← h1]
  rw [this, str_append]
theorem get_bang {s : ByteArray} {j : Nat} (h : j < s.size) : s.get! j = s[j] := by
  show s.data[j]! = s.data[j]
  rw [getElem!_pos s.data j h]
theorem ne_empty {cur : List UInt8} : ((⟨cur.toArray⟩ : ByteArray) = ⟨#[]⟩) ↔ cur = [] := by
  constructor
  · intro h
    have := congrArg (fun x : ByteArray => x.data.toList) h
    simpa using this
  · intro h; subst h; rfl

set_option maxRecDepth 100000 in
set_option maxHeartbeats 4000000 in
theorem rwords_any (s : ByteArray) (w : World) (hs : s.size ≤ 20000000) : Calls Tryd.prog 37 #[.string s] w (MadeWords w (wordsOf s.data.toList)) := by
  obtain ⟨i0, z0, hi0, hz0, hs0, hb0, hc0⟩ := info_string
  have hlen := size_L s
  have hmost := words_len s.data.toList []
  rw [hlen] at hmost
  have hbig : (s.size : Int) ≤ 9223372036854775807 := by omega
  go_enter Tryd.func37, Tryd.ntmps37
  go_wp2_with fail
  have f_0 := (Fr.start0 w).nilRow 9 1
  go_loopw [3, 4, 5] (fun o cw i wr => ∃ (j n : Nat) (ls : List (List UInt8)) (cur : List UInt8) (A : Option Addr) (c : Nat), o = .slice A n c ∧ cw = .string ⟨cur.toArray⟩ ∧ i = .int .i64 j ∧ j ≤ s.size ∧ cur.length ≤ j ∧ Hid (ls.length = n ∧ ls ++ wordsGo (s.data.toList.drop j) cur = wordsOf s.data.toList) ∧
    Fr none (fun _ => True) w wr [rowK w 9 1 (.slice A n c) n ((strL' ls).flatMap strC)]) (fun _ _ i _ => s.size - (intOf i).toNat)
  case atStart => exact ⟨0, 0, [], [], none, 0, rfl, rfl, rfl, Nat.zero_le _, Nat.le_refl _, ⟨rfl, rfl⟩, f_0⟩
  case round =>
    clear f_0
    obtain ⟨j, n, ls, cur, A, c, rfl, rfl, rfl, hj, hcur, hI, f⟩ := hrel
    have hn : n ≤ s.size + 1 := by
      have h1 := congrArg List.length hI.out.2
      rw [List.length_append] at h1
      have := hI.out.1
      unfold wordsOf at h1
      omega
    have hlsn := hI.out.1
    by_cases hlt : j < s.size
    · have hgb := get_bang hlt
      have hd := drop_get s j hlt
      have hsn := str_snoc cur s j hlt
      rw [hgb] at hd hsn
      have hW := hI.out.2
      rw [hd, wordsGo] at hW
      have hj0 : (0 : Int) ≤ (j : Int) := by omega
      have hj1 : (j : Int) < (s.size : Int) := by omega
      have hbb : blankB s[j] = true ↔ (s[j].toNat = 32 ∨ s[j].toNat = 9 ∨ s[j].toNat = 13) := by
        rw [← blank_r]; unfold blankR; simp [or_assoc]
      clear hd hgb
      cases hbl : blankB s[j] with
      | true =>
        have hor := hbb.1 hbl
        rw [if_pos hbl] at hW
        clear hbb hbl
        by_cases hce : cur = []
        · subst hce
          rw [if_pos rfl] at hW
          have hW2 := hid hW
          clear hW hI hsn
          rcases hor with h | h | h
          all_goals
            first
              | (have hi : ((s[j].toNat : Nat) : Int) = 32 := by omega)
              | (have hi : ((s[j].toNat : Nat) : Int) = 9 := by omega)
              | (have hi : ((s[j].toNat : Nat) : Int) = 13 := by omega)
            clear h
            go_wp2_with fail
            go_roundw
            case rel => exact ⟨j + 1, n, ls, [], _, _, rfl, rfl, by go_num, by omega, Nat.zero_le _, ⟨hlsn, hW2.out⟩, f⟩
            case measure => simp [intOf]; omega
        · rw [if_neg hce] at hW
          have hne : cur.isEmpty = false := by cases cur with | nil => exact absurd rfl hce | cons _ _ => rfl
          have hW2 : Hid ((ls ++ [cur]) ++ wordsGo (s.data.toList.drop (j + 1)) [] = wordsOf s.data.toList) := by
            show _ = _; rw [List.append_assoc]; exact hW
          clear hW hI hsn
          have f_1 := f.alloc (.cells #[.string ⟨cur.toArray⟩] 9)
          rcases hor with h | h | h
          all_goals
            first
              | (have hi : ((s[j].toNat : Nat) : Int) = 32 := by omega)
              | (have hi : ((s[j].toNat : Nat) : Int) = 9 := by omega)
              | (have hi : ((s[j].toNat : Nat) : Int) = 13 := by omega)
            clear h
            go_wp2_with (at_builtin; refine Fr.wpApp f_1 rfl _ _ _ rfl Tryd.underlying68 hi0 hz0 hs0 hb0 hc0 (by decide) rfl rfl rfl str_one (by decide) (by unfold maxLen; omega) (by omega) ?_; intro G cap w2 f_3)
            have f_4 := f_3.sub (List.Sublist.cons_cons _ (List.sublist_cons_self _ _))
            go_roundw
            case rel => exact ⟨j + 1, n + 1, ls ++ [cur], [], _, _, rfl, rfl, by go_num, by omega, Nat.zero_le _, ⟨by simp [hlsn], hW2.out⟩, by rw [show cur = (⟨cur.toArray⟩ : ByteArray).data.toList from rfl, str_push]; exact f_4⟩
            case measure => simp [intOf]; omega
      | false =>
        have hor : ¬ (s[j].toNat = 32 ∨ s[j].toNat = 9 ∨ s[j].toNat = 13) := fun h => by rw [hbb.2 h] at hbl; cases hbl
        rw [hbl] at hW
        simp only [Bool.false_eq_true, if_false] at hW
        have hW2 := hid hW
        replace hsn := hid hsn
        have h1 : (((s[j].toNat : Nat) : Int) == 32) = false := beq_eq_false_iff_ne.2 fun h => hor (.inl (by omega))
        have h2 : (((s[j].toNat : Nat) : Int) == 9) = false := beq_eq_false_iff_ne.2 fun h => hor (.inr (.inl (by omega)))
        have h3 : (((s[j].toNat : Nat) : Int) == 13) = false := beq_eq_false_iff_ne.2 fun h => hor (.inr (.inr (by omega)))
        have hcs : (⟨cur.toArray⟩ : ByteArray).size ≤ 20000000 := by show cur.toArray.size ≤ _; simp; omega
        have hex : (s.extract j (j + 1)).size = 1 := by simp; omega
        clear hW hI hbb hbl hor
        go_wp2_with fail
        go_roundw
        case rel => exact ⟨j + 1, n, ls, cur ++ [s[j]], _, _, rfl, by rw [← hsn.out], by go_num, by omega, by simp; omega, ⟨hlsn, hW2.out⟩, f⟩
        case measure => simp [intOf]; omega
    · have hje : j = s.size := by omega
      subst hje
      have hW := hI.out.2
      rw [List.drop_eq_nil_of_le (by omega), wordsGo] at hW
      clear hI
      by_cases hce : cur = []
      · subst hce
        rw [if_pos rfl, List.append_nil] at hW
        have hW2 := hid hW
        clear hW
        go_wp2_with fail
        go_ret
        unfold MadeWords
        rw [← hW2.out, hlsn]
        exact ⟨f.low, _, _, rfl, f.head.q⟩
      · rw [if_neg hce] at hW
        have hne : cur.isEmpty = false := by cases cur with | nil => exact absurd rfl hce | cons _ _ => rfl
        have hW2 := hid hW
        clear hW
        have f_1 := f.alloc (.cells #[.string ⟨cur.toArray⟩] 9)
        go_wp2_with (at_builtin; refine Fr.wpApp f_1 rfl _ _ _ rfl Tryd.underlying68 hi0 hz0 hs0 hb0 hc0 (by decide) rfl rfl rfl str_one (by decide) (by unfold maxLen; omega) (by omega) ?_; intro G cap w2 f_3)
        go_ret
        unfold MadeWords
        rw [← hW2.out, show (ls ++ [cur]).length = n + 1 by simp [hlsn]]
        exact ⟨f_3.low, _, _, rfl, by rw [show cur = (⟨cur.toArray⟩ : ByteArray).data.toList from rfl, str_push]; exact f_3.head.q⟩
end Go.Proofs.YtmdnmodjdgcmjaaDoor
