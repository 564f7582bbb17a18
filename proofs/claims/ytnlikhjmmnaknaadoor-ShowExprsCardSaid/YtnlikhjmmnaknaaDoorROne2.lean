/-
  The reference's one where neither a letter nor a digit comes; and at any byte.
-/
import Derived.Deep.QuietTactic
import Derived.BigQuiet
import Derived.Test.YtnlikhjmmnaknaaDoorROne
namespace Go.Proofs.YtnlikhjmmnaknaaDoor
open Go.RowKit

def signsC : ByteArray := ⟨#[40, 41, 44, 59, 58, 61, 60, 62, 43, 45, 42, 47, 37]⟩
theorem signs_at (b : Int) (k : Nat) (hk : k < 13) (h : bt signsC k = b) : sign1 b = true := by
  have : ∀ k, k < 13 → sign1 (bt signsC k) = true := by decide +kernel
  rw [← h]; exact this k hk
theorem signs_no (b : Int) (h : ∀ k, k < 13 → bt signsC k ≠ b) : sign1 b = false := by
  cases hs : sign1 b with
  | false => rfl
  | true =>
    simp only [sign1, Bool.or_eq_true, beq_iff_eq] at hs
    rcases hs with (((((((((((h1 | h1) | h1) | h1) | h1) | h1) | h1) | h1) | h1) | h1) | h1) | h1) | h1
    · exact absurd h1.symm (h 0 (by omega))
    · exact absurd h1.symm (h 1 (by omega))
    · exact absurd h1.symm (h 2 (by omega))
    · exact absurd h1.symm (h 3 (by omega))
    · exact absurd h1.symm (h 4 (by omega))
    · exact absurd h1.symm (h 5 (by omega))
    · exact absurd h1.symm (h 6 (by omega))
    · exact absurd h1.symm (h 7 (by omega))
    · exact absurd h1.symm (h 8 (by omega))
    · exact absurd h1.symm (h 9 (by omega))
    · exact absurd h1.symm (h 10 (by omega))
    · exact absurd h1.symm (h 11 (by omega))
    · exact absurd h1.symm (h 12 (by omega))
theorem two_eq (s : ByteArray) (i : Nat) (h : i + 2 ≤ s.size) : ((s.extract i s.size).extract 0 2).toList = (s.extract i (i + 2)).toList := by
  rw [ByteArray.toList_eq, ByteArray.toList_eq, Lib.extract_data, Lib.extract_data, Lib.extract_data, List.drop_zero, List.take_take]
  congr 1; omega
/-- do two bytes make a sign? -/
def pairB (l : List UInt8) : Bool := l == [45, 62] || l == [60, 62] || l == [60, 61] || l == [62, 61]
theorem sign2_yes (s : ByteArray) (i : Nat) (h : i + 2 ≤ s.size) : sign2 (s.extract i s.size) = pairB (s.extract i (i + 2)).toList := by
  unfold sign2 pairB
  rw [two_eq s i h, decide_eq_true (by rw [size_extract' s i s.size (Nat.le_refl _)]; omega), Bool.true_and]
theorem sign2_no (s : ByteArray) (i : Nat) (h : ¬ i + 2 ≤ s.size) : sign2 (s.extract i s.size) = false := by
  unfold sign2
  rw [decide_eq_false (by rw [size_extract' s i s.size (Nat.le_refl _)]; omega), Bool.false_and]

set_option maxRecDepth 100000 in
set_option maxHeartbeats 4000000 in
theorem one_sign (s : ByteArray) (i : Nat) (w : World) (hi : i < s.size) (hs : s.size ≤ 1000000) (hl : isLetter (bt s i) = false) (hdg : isDigit (bt s i) = false) :
    Calls Tryd.prog 43 #[.string s, .int .i64 i] w (OnePost s i w) := by
  have hlen : Hid (tokLen s i = signOf (s.extract i s.size)) := by show _ = _; unfold tokLen; rw [hl, hdg, if_neg (by simp), if_neg (by simp)]
  have hnum : Hid (tokNum s i = 0) := by show _ = _; unfold tokNum; rw [hl, hdg, if_neg (by simp), if_neg (by simp)]
  have hok : Hid (tokOk s i = decide (0 < tokLen s i)) := by show _ = _; unfold tokOk; rw [hl, hdg, if_neg (by simp), if_neg (by simp)]
  have hkd : Hid (tokKind s i = 3) := by show _ = _; unfold tokKind; rw [hl, hdg, if_neg (by simp), if_neg (by simp)]
  have hb0 : Hid (bt (s.extract i s.size) 0 = bt s i) := by show _ = _; rw [bt_extract s i s.size 0 (by omega), Nat.add_zero]
  have hbt := bt_eq s i hi
  have hW := OneW.new w
  have HW := hid hW
  clear hW
  cases h2 : sign2 (s.extract i s.size) with
  | true =>
    have hle : i + 2 ≤ s.size := by
      rcases Nat.lt_or_ge s.size (i + 2) with h | h
      · rw [sign2_no s i (by omega)] at h2; cases h2
      · exact h
    rw [sign2_yes s i hle] at h2
    have hl2 : Hid (tokLen s i = 2) := by show _ = _; rw [hlen.out]; unfold signOf; rw [if_pos (by rw [sign2_yes s i hle]; exact h2)]
    have ht2 : Hid (textOf s i (tokLen s i) = s.extract i (i + 2)) := by show _ = _; rw [hl2.out]; rfl
    have hok2 : Hid (tokOk s i = true) := by show _ = _; rw [hok.out, hl2.out]; rfl
    have H2 := hid h2
    clear h2
    go_enter Tryd.func43, Tryd.ntmps43
    go_wp2_with (first | (go_at_call 62; refine (rpart_any _ _).mono ?_; rintro e w' ⟨rfl, rfl⟩; rw [hl, hdg]; simp only [Bool.false_or]) | (go_at_call 63; refine (rdigit_any _ _).mono ?_; rintro e w' ⟨rfl, rfl⟩; rw [hdg]))
    all_goals first
      | (have h2 := H2.out
         exfalso
         simp_all [pairB]
         done)
      | (refine bodyPost_ret (v := .tuple #[.agg #[.int .i64 3, .string (s.extract i (i + 2)), .int .i64 0, .int .i64 0, .int .i64 0], .bool true]) (by simp [results, Tryd.results43, go_sem]) rfl ⟨3, s.extract i (i + 2), 0, by rw [hok2.out], fun _ => ⟨hkd.out.symm, ht2.out.symm, hnum.out.symm⟩, (Below.refl _ _).alloc (Nat.le_refl _) _⟩)
  | false =>
    have hl2 : Hid (tokLen s i = if sign1 (bt s i) = true then 1 else 0) := by show _ = _; rw [hlen.out]; unfold signOf; rw [if_neg (by rw [h2]; simp), hb0.out]
    have hp2 : Hid ((i : Int) + 1 < (s.size : Int) → pairB (s.extract i (i + 2)).toList = false) := fun h => by rw [← sign2_yes s i (by omega)]; exact h2
    clear h2
    by_cases hle : (i : Int) + 1 < (s.size : Int)
    all_goals
      (try have hpp := hp2.out hle)
      (try unfold pairB at hpp)
      (try simp only [Bool.or_eq_false_iff] at hpp)
      (try obtain ⟨⟨⟨t1, t2⟩, t3⟩, t4⟩ := hpp)
      go_enter Tryd.func43, Tryd.ntmps43
      go_wp2_with (first | (go_at_call 62; refine (rpart_any _ _).mono ?_; rintro e w' ⟨rfl, rfl⟩; rw [hl, hdg]; simp only [Bool.false_or]) | (go_at_call 63; refine (rdigit_any _ _).mono ?_; rintro e w' ⟨rfl, rfl⟩; rw [hdg]))
      have hW := HW.out
      clear HW
      generalize w.alloc (.cells #[.int .i64 0, .string ⟨#[]⟩, .int .i64 0, .int .i64 0, .int .i64 0] 82) = W at *
      (try clear t1 t2 t3 t4)
      have hsg : ∃ sg : ByteArray, sg = ⟨#[40, 41, 44, 59, 58, 61, 60, 62, 43, 45, 42, 47, 37]⟩ := ⟨_, rfl⟩
      obtain ⟨sg, hsg⟩ := hsg
      rw [← hsg]
      have hs1 : sg.size ≤ 13 := by rw [hsg]; decide
      have hs2 : 13 ≤ sg.size := by rw [hsg]; decide
      have hyes : Hid (∀ k, k < 13 → bt sg k = bt s i → sign1 (bt s i) = true) := fun k hk h => signs_at _ k hk (by rw [← h, hsg]; rfl)
      have hno : Hid ((∀ k, k < 13 → bt sg k ≠ bt s i) → sign1 (bt s i) = false) := fun h => signs_no _ (fun k hk => by have := h k hk; rw [hsg] at this; exact this)
      clear hsg
      go_loopg [13] 13 (fun k v wr => ∃ q : Nat, q ≤ 13 ∧ 13 ≤ q + k ∧ v = .int .i64 q ∧ Hid (∀ j, j < q → bt sg j ≠ bt s i) ∧ OneW w wr)
      case atStart => exact ⟨0, by omega, by omega, rfl, fun j hj => absurd hj (by omega), hW⟩
      case round =>
        obtain ⟨q, hq, hk, rfl, hmiss, hW1⟩ := hrel
        obtain ⟨c0, c1, c2, c3, c4, cf⟩ := hW1.cells
        by_cases hlt : q < 13
        · have hbq := bt_eq sg q (by omega)
          have hi0 : (0 : Int) ≤ (i : Int) := by omega
          have hi1 : (i : Int) < (s.size : Int) := by omega
          have hq0 : (0 : Int) ≤ (q : Int) := by omega
          have hq1 : (q : Int) < (sg.size : Int) := by omega
          by_cases he : bt sg q = bt s i
          · have hsi := hyes.out q hlt he
            have hl3 : Hid (tokLen s i = 1) := by show _ = _; rw [hl2.out, if_pos hsi]
            have ht3 : Hid (textOf s i (tokLen s i) = s.extract i (i + 1)) := by show _ = _; rw [hl3.out]; rfl
            have hok3 : Hid (tokOk s i = true) := by show _ = _; rw [hok.out, hl3.out]; rfl
            have htt : (bt sg q == bt s i) = true := by rw [he]; simp
            clear he hsi
            go_wp2_with fail
            go_quiet (fail)
            go_wp2_with fail
            have hW2 := hW1.drewN nq
            obtain ⟨W', hW', ⟨q0, q1, q2, q3, q4⟩, hb'⟩ := hW2.wrote (.int .i64 3) (.string (s.extract i (i + 1))) (.int .i64 0) (.int .i64 0) (.int .i64 0)
            rw [← hW']
            refine bodyPost_ret (v := .tuple #[.agg #[.int .i64 3, .string (s.extract i (i + 1)), .int .i64 0, .int .i64 0, .int .i64 0], .bool true]) (by simp [results, Tryd.results43, go_sem, q0, q1, q2, q3, q4]) rfl ⟨3, s.extract i (i + 1), 0, by rw [hok3.out], fun _ => ⟨hkd.out.symm, ht3.out.symm, hnum.out.symm⟩, hb'⟩
          · have htt : (bt sg q == bt s i) = false := by simpa using he
            have hm2 : Hid (∀ j, j < q + 1 → bt sg j ≠ bt s i) := fun j hj => by
              by_cases hjq : j = q
              · rw [hjq]; exact he
              · exact hmiss.out j (by omega)
            clear he
            go_wp2_with fail
            go_quiet (fail)
            go_wp2_with fail
            go_roundg (gk - 1)
            case measure => omega
            case rel => exact ⟨q + 1, by omega, by omega, by go_num, hm2, hW1.drewN nq⟩
        · obtain rfl : q = 13 := by omega
          have hsi := hno.out (fun k hk => hmiss.out k hk)
          have hl3 : Hid (tokLen s i = 0) := by show _ = _; rw [hl2.out, hsi]; rfl
          have hok3 : Hid (tokOk s i = false) := by show _ = _; rw [hok.out, hl3.out]; rfl
          clear hsi
          go_wp2_with fail
          obtain ⟨W', hW', ⟨q0, q1, q2, q3, q4⟩, hb'⟩ := hW1.wrote (.int .i64 0) (.string ⟨#[]⟩) (.int .i64 0) (.int .i64 0) (.int .i64 0)
          rw [← hW']
          refine bodyPost_ret (v := .tuple #[.agg #[.int .i64 0, .string ⟨#[]⟩, .int .i64 0, .int .i64 0, .int .i64 0], .bool false]) (by simp [results, Tryd.results43, go_sem, q0, q1, q2, q3, q4]) rfl ⟨0, ⟨#[]⟩, 0, by rw [hok3.out], (fun h => by rw [hok3.out] at h; cases h), hb'⟩

theorem one_any (s : ByteArray) (i : Nat) (w : World) (hi : i < s.size) (hs : s.size ≤ 1000000) :
    Calls Tryd.prog 43 #[.string s, .int .i64 i] w (OnePost s i w) := by
  cases hl : isLetter (bt s i) with
  | true => exact one_letter s i w hi hs hl
  | false =>
    cases hd : isDigit (bt s i) with
    | true => exact one_digit s i w hi hs hl hd
    | false => exact one_sign s i w hi hs hl hd
end Go.Proofs.YtnlikhjmmnaknaaDoor
