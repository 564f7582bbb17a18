/-
  The reference's one: plain facts, and the walks.
-/
import Derived.Test.YtnlikhjmmnaknaaDoorScan9
import Derived.Test.YtnlikhjmmnaknaaDoorRPlace
namespace Go.Proofs.YtnlikhjmmnaknaaDoor
open Go.RowKit

theorem rn_stop (p : Int → Bool) (s : ByteArray) (i : Nat) (hi : i ≤ s.size) (h : i + rn p (s.data.toList.drop i) < s.size) : p (bt s (i + rn p (s.data.toList.drop i))) = false := by
  generalize hm : rn p (s.data.toList.drop i) = m at *
  revert i
  induction m with
  | zero =>
    intro i hi hm h
    cases hp : p (bt s (i + 0)) with
    | false => rfl
    | true => rw [rn_on (show i < s.size by omega) hp] at hm; omega
  | succ m ih =>
    intro i hi hm h
    cases hp : p (bt s i) with
    | false => rw [rn_off (show i < s.size by omega) hp] at hm; omega
    | true =>
      rw [rn_on (show i < s.size by omega) hp] at hm
      have := ih (i + 1) (by omega) (by omega) (by omega)
      rwa [show i + (m + 1) = i + 1 + m by omega]

theorem word_short {l : List UInt8} (h : isWord l = true) : l.length ≤ 20 := by
  obtain ⟨x, hx, rfl⟩ := isWord_mem h
  have : ∀ x ∈ wordL, x.data.toList.length ≤ 20 := by decide +kernel
  exact this x hx

/-- what one comes to -/
def OnePost (s : ByteArray) (i : Nat) (w : World) (r : Ending) (w' : World) : Prop :=
  ∃ (k : Int) (t : ByteArray) (n : Int), r = .returned (.tuple #[.agg #[.int .i64 k, .string t, .int .i64 n, .int .i64 0, .int .i64 0], .bool (tokOk s i)]) ∧
    (tokOk s i = true → k = tokKind s i ∧ t = textOf s i (tokLen s i) ∧ n = tokNum s i) ∧ Below w.heap.size w w'

/-- where one stands: the result's cells -/
structure OneW (w W : World) : Prop where
  res : W.heap[w.heap.size]? = some (.cells #[.int .i64 0, .string ⟨#[]⟩, .int .i64 0, .int .i64 0, .int .i64 0] 82 (0, 0))
  below : Below w.heap.size w W
theorem OneW.new (w : World) : OneW w (w.alloc (.cells #[.int .i64 0, .string ⟨#[]⟩, .int .i64 0, .int .i64 0, .int .i64 0] 82)) :=
  ⟨World.alloc_heap_new w _, (Below.refl _ _).alloc (Nat.le_refl _) _⟩
theorem OneW.drewN {w W : World} (h : OneW w W) (n : Nat) : OneW w (W.drewN n) := ⟨h.res, h.below.trans ⟨rfl, rfl, rfl, Nat.le_refl _, fun _ _ => rfl⟩⟩
theorem OneW.cells {w W : World} (h : OneW w W) : W.cell? ⟨w.heap.size, 0, none⟩ = some (.int .i64 0) ∧ W.cell? ⟨w.heap.size, 1, none⟩ = some (.string ⟨#[]⟩) ∧ W.cell? ⟨w.heap.size, 2, none⟩ = some (.int .i64 0) ∧
    W.cell? ⟨w.heap.size, 3, none⟩ = some (.int .i64 0) ∧ W.cell? ⟨w.heap.size, 4, none⟩ = some (.int .i64 0) ∧ ∀ k, W.frozen? ⟨w.heap.size, k, none⟩ = false := by
  have h1 := h.res
  refine ⟨?_, ?_, ?_, ?_, ?_, fun k => ?_⟩ <;> simp [World.cell?, World.frozen?, h1]
theorem OneW.wrote {w W : World} (h : OneW w W) (v0 v1 v2 v3 v4 : Value) :
    ∃ W', W' = ((((W.setCell ⟨w.heap.size, 0, none⟩ v0).setCell ⟨w.heap.size, 1, none⟩ v1).setCell ⟨w.heap.size, 2, none⟩ v2).setCell ⟨w.heap.size, 3, none⟩ v3).setCell ⟨w.heap.size, 4, none⟩ v4 ∧
      (W'.cell? ⟨w.heap.size, 0, none⟩ = some v0 ∧ W'.cell? ⟨w.heap.size, 1, none⟩ = some v1 ∧ W'.cell? ⟨w.heap.size, 2, none⟩ = some v2 ∧ W'.cell? ⟨w.heap.size, 3, none⟩ = some v3 ∧ W'.cell? ⟨w.heap.size, 4, none⟩ = some v4) ∧
      Below w.heap.size w W' := by
  have hb := blk_set (blk_set (blk_set (blk_set (blk_set h.res 0 v0) 1 v1) 2 v2) 3 v3) 4 v4
  simp only [List.setIfInBounds_toArray, List.set_cons_zero, List.set_cons_succ] at hb
  have hf : ∀ (W : World) (k : Nat) (v : Value), Below w.heap.size w W → Below w.heap.size w (W.setCell ⟨w.heap.size, k, none⟩ v) := fun W k v hb => hb.setCell (p := ⟨w.heap.size, k, none⟩) (Nat.le_refl _) v
  refine ⟨_, rfl, ?_, hf _ _ _ (hf _ _ _ (hf _ _ _ (hf _ _ _ (hf _ _ _ h.below))))⟩
  refine ⟨?_, ?_, ?_, ?_, ?_⟩ <;> (unfold World.cell?; rw [hb]; rfl)

set_option maxRecDepth 100000 in
set_option maxHeartbeats 2000000 in
theorem one_letter (s : ByteArray) (i : Nat) (w : World) (hi : i < s.size) (hs : s.size ≤ 1000000) (hl : isLetter (bt s i) = true) :
    Calls Tryd.prog 43 #[.string s, .int .i64 i] w (OnePost s i w) := by
  have hlen : Hid (tokLen s i = rn partB (s.data.toList.drop i)) := by show _ = _; unfold tokLen; rw [if_pos hl]
  have hnum : Hid (tokNum s i = 0) := by show _ = _; unfold tokNum; rw [if_pos hl]
  have hok : Hid (tokOk s i = decide (tokLen s i ≤ 20)) := by show _ = _; unfold tokOk; rw [if_pos hl]
  have hkd : Hid (tokKind s i = if isWord (textOf s i (tokLen s i)).data.toList = true then 4 else 1) := by show _ = _; unfold tokKind; rw [if_pos hl]
  have hrl := rn_le partB (s.data.toList.drop i)
  rw [List.length_drop, ← size_len, ← hlen.out] at hrl
  have hall : Hid (∀ q, q < tokLen s i → partB (bt s (i + q)) = true) := by rw [hlen.out]; exact rn_all partB s i
  have hstop : Hid (i + tokLen s i < s.size → partB (bt s (i + tokLen s i)) = false) := by rw [hlen.out]; exact rn_stop partB s i (by omega)
  have hbt := bt_eq s i hi
  have hnd : isDigit (bt s i) = false := by
    cases h : isDigit (bt s i) with
    | false => rfl
    | true => rw [not_both _ h] at hl; cases hl
  obtain ⟨m, hm⟩ : ∃ m, m = i + tokLen s i := ⟨_, rfl⟩
  have hmi : i ≤ m := by omega
  have hms : m ≤ s.size := by omega
  have htx : Hid (textOf s i (tokLen s i) = s.extract i m) := by show _ = _; unfold textOf; rw [hm]
  have htl : Hid ((s.extract i m).size = tokLen s i) := by show _ = _; rw [size_extract' s i m hms]; omega
  have HM := hid hm
  have hW := OneW.new w
  clear hm hrl
  have HW := hid hW
  clear hW
  go_enter Tryd.func43, Tryd.ntmps43
  go_wp2_with (first | (go_at_call 62; refine (rpart_any _ _).mono ?_; rintro e w' ⟨rfl, rfl⟩; rw [hl]; simp only [Bool.true_or]) | (go_at_call 63; refine (rdigit_any _ _).mono ?_; rintro e w' ⟨rfl, rfl⟩; rw [hnd]))
  have hW := HW.out
  clear HW
  generalize w.alloc (.cells #[.int .i64 0, .string ⟨#[]⟩, .int .i64 0, .int .i64 0, .int .i64 0] 82) = W at *
  clear hl hnd hbt
  go_loopg [6] (s.size + 1) (fun k v wr => ∃ q : Nat, i ≤ q ∧ q ≤ m ∧ s.size + 1 ≤ q + k ∧ v = .int .i64 q ∧ W = wr)
  case atStart => exact ⟨i, by omega, by omega, by omega, rfl, rfl⟩
  case round =>
    obtain ⟨q, hq1, hq2, hk, rfl, rfl⟩ := hrel
    by_cases hlt : q < m
    · have hpt : partB (bt s q) = true := by have := hall.out (q - i) (by have := HM.out; omega); rwa [show i + (q - i) = q by omega] at this
      have hbq := bt_eq s q (by omega)
      have hqs : (q : Int) < (s.size : Int) := by omega
      unfold partB at hpt
      go_wp2_with (first | (go_at_call 62; refine (rpart_any _ _).mono ?_; rintro e w' ⟨rfl, rfl⟩; rw [hpt]))
      go_roundg (gk - 1)
      case measure => omega
      case rel => exact ⟨q + 1, by omega, by omega, by omega, by go_num, rfl⟩
    · obtain rfl : q = m := by omega
      obtain ⟨c0, c1, c2, c3, c4, cf⟩ := hW.cells
      have hst : Hid ((q : Int) < (s.size : Int) → partB (bt s q) = false) := fun h => by have := hstop.out (by have := HM.out; omega); rwa [← HM.out] at this
      by_cases hqs : (q : Int) < (s.size : Int)
      all_goals
        (try have hpt := hst.out hqs)
        (try have hbq := bt_eq s q (by omega))
        (try unfold partB at hpt)
        cases hw : isWord (s.extract i q).data.toList
        all_goals
          go_wp2_with (first | (go_at_call 62; refine (rpart_any _ _).mono ?_; rintro e w' ⟨rfl, rfl⟩; rw [hpt]) | (go_at_call 64; refine (rword_any _ _ (by have := size_extract' s i q hms; omega)).mono ?_; rintro e w' ⟨rfl, rfl⟩; rw [hw]))
      · obtain ⟨W', hW', ⟨q0, q1, q2, q3, q4⟩, hb'⟩ := hW.wrote (.int .i64 1) (.string (s.extract i q)) (.int .i64 0) (.int .i64 0) (.int .i64 0)
        rw [← hW']
        refine bodyPost_ret (v := .tuple #[.agg #[.int .i64 1, .string (s.extract i q), .int .i64 0, .int .i64 0, .int .i64 0], .bool (decide (((q - i : Nat) : Int) ≤ 20))]) (by simp [results, Tryd.results43, go_sem, q0, q1, q2, q3, q4]) rfl ⟨1, s.extract i q, 0, ?_, fun _ => ⟨?_, htx.out.symm, hnum.out.symm⟩, hb'⟩
        · rw [hok.out, show decide (((q - i : Nat) : Int) ≤ 20) = decide (tokLen s i ≤ 20) from decide_eq_decide.2 (by have := HM.out; omega)]
        · rw [hkd.out, htx.out, hw]; rfl
      · obtain ⟨W', hW', ⟨q0, q1, q2, q3, q4⟩, hb'⟩ := hW.wrote (.int .i64 4) (.string (s.extract i q)) (.int .i64 0) (.int .i64 0) (.int .i64 0)
        rw [← hW']
        have hsh := word_short hw
        rw [← size_len, htl.out] at hsh
        refine bodyPost_ret (v := .tuple #[.agg #[.int .i64 4, .string (s.extract i q), .int .i64 0, .int .i64 0, .int .i64 0], .bool true]) (by simp [results, Tryd.results43, go_sem, q0, q1, q2, q3, q4]) rfl ⟨4, s.extract i q, 0, ?_, fun _ => ⟨?_, htx.out.symm, hnum.out.symm⟩, hb'⟩
        · rw [hok.out, decide_eq_true hsh]
        · rw [hkd.out, htx.out, hw]; rfl
      · obtain ⟨W', hW', ⟨q0, q1, q2, q3, q4⟩, hb'⟩ := hW.wrote (.int .i64 1) (.string (s.extract i q)) (.int .i64 0) (.int .i64 0) (.int .i64 0)
        rw [← hW']
        refine bodyPost_ret (v := .tuple #[.agg #[.int .i64 1, .string (s.extract i q), .int .i64 0, .int .i64 0, .int .i64 0], .bool (decide (((q - i : Nat) : Int) ≤ 20))]) (by simp [results, Tryd.results43, go_sem, q0, q1, q2, q3, q4]) rfl ⟨1, s.extract i q, 0, ?_, fun _ => ⟨?_, htx.out.symm, hnum.out.symm⟩, hb'⟩
        · rw [hok.out, show decide (((q - i : Nat) : Int) ≤ 20) = decide (tokLen s i ≤ 20) from decide_eq_decide.2 (by have := HM.out; omega)]
        · rw [hkd.out, htx.out, hw]; rfl
      · obtain ⟨W', hW', ⟨q0, q1, q2, q3, q4⟩, hb'⟩ := hW.wrote (.int .i64 4) (.string (s.extract i q)) (.int .i64 0) (.int .i64 0) (.int .i64 0)
        rw [← hW']
        have hsh := word_short hw
        rw [← size_len, htl.out] at hsh
        refine bodyPost_ret (v := .tuple #[.agg #[.int .i64 4, .string (s.extract i q), .int .i64 0, .int .i64 0, .int .i64 0], .bool true]) (by simp [results, Tryd.results43, go_sem, q0, q1, q2, q3, q4]) rfl ⟨4, s.extract i q, 0, ?_, fun _ => ⟨?_, htx.out.symm, hnum.out.symm⟩, hb'⟩
        · rw [hok.out, decide_eq_true hsh]
        · rw [hkd.out, htx.out, hw]; rfl

theorem big_iff (d n : Int) (h0 : 0 ≤ d) (h1 : d ≤ 9) : (9223372036854775807 - d) / 10 < n ↔ (922337203685477580 < n ∨ n = 922337203685477580 ∧ 7 < d) := by omega
/-- what the loop over the digits has come to -/
def numIs (v : Int) (fits : Bool) (l : List UInt8) (r : Option Int) : Prop := if fits = true then r = numGo v l else r = none

set_option maxRecDepth 100000 in
set_option maxHeartbeats 4000000 in
theorem one_digit (s : ByteArray) (i : Nat) (w : World) (hi : i < s.size) (hs : s.size ≤ 1000000) (hl : isLetter (bt s i) = false) (hdg : isDigit (bt s i) = true) :
    Calls Tryd.prog 43 #[.string s, .int .i64 i] w (OnePost s i w) := by
  have hlen : Hid (tokLen s i = rn isDigit (s.data.toList.drop i)) := by show _ = _; unfold tokLen; rw [hl, if_neg (by simp), if_pos hdg]
  have hnum : Hid (tokNum s i = (numOf (textOf s i (tokLen s i)).data.toList).getD 0) := by show _ = _; unfold tokNum; rw [hl, if_neg (by simp), if_pos hdg]
  have hok : Hid (tokOk s i = (numOf (textOf s i (tokLen s i)).data.toList).isSome) := by show _ = _; unfold tokOk; rw [hl, if_neg (by simp), if_pos hdg]
  have hkd : Hid (tokKind s i = 2) := by show _ = _; unfold tokKind; rw [hl, if_neg (by simp), if_pos hdg]
  have hrl := rn_le isDigit (s.data.toList.drop i)
  rw [List.length_drop, ← size_len, ← hlen.out] at hrl
  have hpos : 0 < tokLen s i := by rw [hlen.out]; exact rn_pos hi hdg
  have hall : Hid (∀ q, q < tokLen s i → isDigit (bt s (i + q)) = true) := by rw [hlen.out]; exact rn_all isDigit s i
  have hstop : Hid (i + tokLen s i < s.size → isDigit (bt s (i + tokLen s i)) = false) := by rw [hlen.out]; exact rn_stop isDigit s i (by omega)
  have hbt := bt_eq s i hi
  obtain ⟨m, hm⟩ : ∃ m, m = i + tokLen s i := ⟨_, rfl⟩
  have hmi : i < m := by omega
  have hms : m ≤ s.size := by omega
  have htx : Hid (textOf s i (tokLen s i) = s.extract i m) := by show _ = _; unfold textOf; rw [hm]
  have htl : Hid ((s.extract i m).size = m - i) := size_extract' s i m hms
  have HM := hid hm
  have hW := OneW.new w
  clear hm hrl
  have HW := hid hW
  clear hW
  go_enter Tryd.func43, Tryd.ntmps43
  go_wp2_with (first | (go_at_call 62; refine (rpart_any _ _).mono ?_; rintro e w' ⟨rfl, rfl⟩; rw [hl, hdg]; simp only [Bool.false_or]) | (go_at_call 63; refine (rdigit_any _ _).mono ?_; rintro e w' ⟨rfl, rfl⟩; rw [hdg]))
  have hW := HW.out
  clear HW
  generalize w.alloc (.cells #[.int .i64 0, .string ⟨#[]⟩, .int .i64 0, .int .i64 0, .int .i64 0] 82) = W at *
  clear hl hdg hbt
  go_loopg [6, 8, 9, 10] (s.size + 1) (fun k v n f _ wr => ∃ (q : Nat) (x : Int) (fits : Bool), i ≤ q ∧ q ≤ m ∧ s.size + 1 ≤ q + k ∧ v = .int .i64 q ∧ n = .int .i64 x ∧ f = .bool fits ∧ 0 ≤ x ∧ x ≤ 9223372036854775807 ∧ Hid (numIs x fits ((s.extract i m).data.toList.drop (q - i)) (numGo 0 ((s.extract i m).data.toList.drop 0))) ∧ W = wr)
  case atStart => exact ⟨i, 0, true, by omega, by omega, by omega, rfl, rfl, rfl, by omega, by omega, by show numIs _ _ _ _; rw [Nat.sub_self]; unfold numIs; rw [if_pos rfl], rfl⟩
  case round =>
    obtain ⟨q, x, fits, hq1, hq2, hk, rfl, rfl, rfl, hx0, hx1, hnu, rfl⟩ := hrel
    by_cases hlt : q < m
    · have hdt : isDigit (bt s q) = true := by have := hall.out (q - i) (by have := HM.out; omega); rwa [show i + (q - i) = q by omega] at this
      have hbq := bt_eq s q (by omega)
      have hqs : (q : Int) < (s.size : Int) := by omega
      have hdb : 48 ≤ bt s q ∧ bt s q ≤ 57 := by simpa [isDigit] using hdt
      have hbe : bt (s.extract i m) (q - i) = bt s q := by rw [bt_extract s i m (q - i) (by omega)]; congr 1; omega
      have hqe : q - i < (s.extract i m).size := by rw [htl.out]; omega
      have hbi := big_iff (bt s q - 48) x (by omega) (by omega)
      have hoff : Hid ((9223372036854775807 - (bt s q - 48)) / 10 < x → numGo x ((s.extract i m).data.toList.drop (q - i)) = none) := fun h => numGo_off hqe (by rw [hbe]; exact h)
      have hon : Hid (¬ (9223372036854775807 - (bt s q - 48)) / 10 < x → numGo x ((s.extract i m).data.toList.drop (q - i)) = numGo (10 * x + (bt s q - 48)) ((s.extract i m).data.toList.drop (q + 1 - i))) := fun h => by
        rw [numGo_on hqe (by rw [hbe]; exact h), hbe, show q - i + 1 = q + 1 - i by omega]
      have HDT := hid hdt
      clear hdt hbe hqe
      obtain ⟨hd0, hd1⟩ := hdb
      cases fits with
      | false =>
        have hn1 : Hid (numIs x false ((s.extract i m).data.toList.drop (q + 1 - i)) (numGo 0 ((s.extract i m).data.toList.drop 0))) := hnu.out
        clear hnu hon hoff hbi
        generalize bt s q = b at *
        by_cases hxe : x = 922337203685477580
        · subst hxe
          go_wp2_with (first | (go_at_call 63; refine (rdigit_any _ _).mono ?_; rintro e w' ⟨rfl, rfl⟩; rw [HDT.out]))
          all_goals
            go_roundg (gk - 1)
            case measure => omega
            case rel => exact ⟨q + 1, _, false, by omega, by omega, by omega, by go_num, rfl, rfl, by omega, by omega, hn1, rfl⟩
        have hx3 : (x == 922337203685477580) = false := by simpa using hxe
        go_wp2_with (first | (go_at_call 63; refine (rdigit_any _ _).mono ?_; rintro e w' ⟨rfl, rfl⟩; rw [HDT.out]))
        all_goals
          go_roundg (gk - 1)
          case measure => omega
          case rel => exact ⟨q + 1, x, false, by omega, by omega, by omega, by go_num, rfl, rfl, by omega, by omega, hn1, rfl⟩
      | true =>
        have hnu' : Hid (numGo 0 ((s.extract i m).data.toList.drop 0) = numGo x ((s.extract i m).data.toList.drop (q - i))) := by have := hnu.out; unfold numIs at this; rw [if_pos rfl] at this; exact this
        clear hnu
        by_cases hbig : 922337203685477580 < x ∨ x = 922337203685477580 ∧ 7 < bt s q - 48
        · have hn1 : Hid (numIs x false ((s.extract i m).data.toList.drop (q + 1 - i)) (numGo 0 ((s.extract i m).data.toList.drop 0))) := by
            show numIs _ _ _ _
            unfold numIs
            rw [if_neg (by simp)]
            exact hnu'.out.trans (hoff.out (hbi.2 hbig))
          clear hnu' hon hoff hbi
          generalize bt s q = b at *
          rcases hbig with hbig | ⟨hbig, hb7⟩
          · go_wp2_with (first | (go_at_call 63; refine (rdigit_any _ _).mono ?_; rintro e w' ⟨rfl, rfl⟩; rw [HDT.out]))
            go_roundg (gk - 1)
            case measure => omega
            case rel => exact ⟨q + 1, x, false, by omega, by omega, by omega, by go_num, rfl, rfl, by omega, by omega, hn1, rfl⟩
          · subst hbig
            go_wp2_with (first | (go_at_call 63; refine (rdigit_any _ _).mono ?_; rintro e w' ⟨rfl, rfl⟩; rw [HDT.out]))
            go_roundg (gk - 1)
            case measure => omega
            case rel => exact ⟨q + 1, _, false, by omega, by omega, by omega, by go_num, rfl, rfl, by omega, by omega, hn1, rfl⟩
        · have hn1 : Hid (numIs (10 * x + (bt s q - 48)) true ((s.extract i m).data.toList.drop (q + 1 - i)) (numGo 0 ((s.extract i m).data.toList.drop 0))) := by
            show numIs _ _ _ _
            unfold numIs
            rw [if_pos rfl]
            exact hnu'.out.trans (hon.out (fun h => hbig (hbi.1 h)))
          clear hnu' hon hoff hbi
          generalize bt s q = b at *
          have hx2 : x ≤ 922337203685477580 := by omega
          by_cases hxe : x = 922337203685477580
          · have hb7 : b - 48 ≤ 7 := by omega
            subst hxe
            clear hbig
            go_wp2_with (first | (go_at_call 63; refine (rdigit_any _ _).mono ?_; rintro e w' ⟨rfl, rfl⟩; rw [HDT.out]))
            go_roundg (gk - 1)
            case measure => omega
            case rel => exact ⟨q + 1, _, true, by omega, by omega, by omega, by go_num, rfl, rfl, by omega, by omega, hn1, rfl⟩
          · clear hbig
            have hx3 : (x == 922337203685477580) = false := by simpa using hxe
            go_wp2_with (first | (go_at_call 63; refine (rdigit_any _ _).mono ?_; rintro e w' ⟨rfl, rfl⟩; rw [HDT.out]))
            go_roundg (gk - 1)
            case measure => omega
            case rel => exact ⟨q + 1, _, true, by omega, by omega, by omega, by go_num, rfl, rfl, by omega, by omega, hn1, rfl⟩
    · obtain rfl : q = m := by omega
      have hnq : Hid (numIs x fits [] (numGo 0 ((s.extract i q).data.toList.drop 0))) := by
        have := hnu.out
        rw [List.drop_of_length_le (by rw [← size_len, htl.out]; exact Nat.le_refl _)] at this
        exact this
      clear hnu
      obtain ⟨c0, c1, c2, c3, c4, cf⟩ := hW.cells
      have hst : Hid ((q : Int) < (s.size : Int) → isDigit (bt s q) = false) := fun h => by have := hstop.out (by have := HM.out; omega); rwa [← HM.out] at this
      have hbt := bt_eq s i hi
      have hhd := head_bt (s.extract i q) (by rw [htl.out]; omega)
      rw [bt_extract s i q 0 (by omega), Nat.add_zero] at hhd
      have hlen1 : (s.extract i q).data.toList.length = q - i := by rw [← size_len, htl.out]
      by_cases hz : 1 < q - i ∧ bt s i = 48
      · have hno : Hid (numOf (s.extract i q).data.toList = none) := by show _ = _; unfold numOf; rw [if_pos ⟨by omega, hhd.2 hz.2⟩]
        obtain ⟨hz1, hz2⟩ := hz
        have hz3 : (1 : Int) < (q : Int) - (i : Int) := by omega
        rw [hz2] at hbt
        clear hhd hlen1 hz2
        have hres : Hid (tokOk s i = false) := by show _ = _; rw [hok.out, htx.out, hno.out]; rfl
        by_cases hqs : (q : Int) < (s.size : Int)
        all_goals
          (try have hpt := hst.out hqs)
          (try have hbq := bt_eq s q (by omega))
          go_wp2_with (first | (go_at_call 63; refine (rdigit_any _ _).mono ?_; rintro e w' ⟨rfl, rfl⟩; rw [hpt]))
          obtain ⟨W', hW', ⟨q0, q1, q2, q3, q4⟩, hb'⟩ := hW.wrote (.int .i64 0) (.string ⟨#[]⟩) (.int .i64 0) (.int .i64 0) (.int .i64 0)
          rw [← hW']
          refine bodyPost_ret (v := .tuple #[.agg #[.int .i64 0, .string ⟨#[]⟩, .int .i64 0, .int .i64 0, .int .i64 0], .bool false]) (by simp [results, Tryd.results43, go_sem, q0, q1, q2, q3, q4]) rfl ⟨0, ⟨#[]⟩, 0, by rw [hres.out], (fun h => by rw [hres.out] at h; cases h), hb'⟩
      · have hno : Hid (numOf (s.extract i q).data.toList = numGo 0 ((s.extract i q).data.toList.drop 0)) := by
          show _ = _
          unfold numOf
          rw [if_neg (fun h => hz ⟨by omega, hhd.1 h.2⟩), List.drop_zero]
        have hz3 : Hid ((1 : Int) < (q : Int) - (i : Int) → (bt s i == 48) = false) := fun h => by simp; intro h2; exact hz ⟨by omega, h2⟩
        clear hz hhd hlen1
        cases fits with
        | false =>
          have hres : Hid (tokOk s i = false) := by
            have hnq' := hnq.out
            unfold numIs at hnq'
            rw [if_neg (by simp)] at hnq'
            show _ = _; rw [hok.out, htx.out, hno.out, hnq']; rfl
          clear hnq hno
          by_cases hqs : (q : Int) < (s.size : Int)
          all_goals
            (try have hpt := hst.out hqs)
            (try have hbq := bt_eq s q (by omega))
            by_cases hz4 : (1 : Int) < (q : Int) - (i : Int)
            all_goals
              first | have hz5 := hz3.out hz4 | skip
              go_wp2_with (first | (go_at_call 63; refine (rdigit_any _ _).mono ?_; rintro e w' ⟨rfl, rfl⟩; rw [hpt]))
              obtain ⟨W', hW', ⟨q0, q1, q2, q3, q4⟩, hb'⟩ := hW.wrote (.int .i64 0) (.string ⟨#[]⟩) (.int .i64 0) (.int .i64 0) (.int .i64 0)
              rw [← hW']
              refine bodyPost_ret (v := .tuple #[.agg #[.int .i64 0, .string ⟨#[]⟩, .int .i64 0, .int .i64 0, .int .i64 0], .bool false]) (by simp [results, Tryd.results43, go_sem, q0, q1, q2, q3, q4]) rfl ⟨0, ⟨#[]⟩, 0, by rw [hres.out], (fun h => by rw [hres.out] at h; cases h), hb'⟩
        | true =>
          have hnq' := hnq.out
          unfold numIs at hnq'
          rw [if_pos rfl] at hnq'
          have hres : Hid (tokOk s i = true) := by show _ = _; rw [hok.out, htx.out, hno.out, hnq']; rfl
          have hres2 : Hid (tokNum s i = x) := by show _ = _; rw [hnum.out, htx.out, hno.out, hnq']; rfl
          clear hnq hno hnq'
          by_cases hqs : (q : Int) < (s.size : Int)
          all_goals
            (try have hpt := hst.out hqs)
            (try have hbq := bt_eq s q (by omega))
            by_cases hz4 : (1 : Int) < (q : Int) - (i : Int)
            all_goals
              first | have hz5 := hz3.out hz4 | skip
              go_wp2_with (first | (go_at_call 63; refine (rdigit_any _ _).mono ?_; rintro e w' ⟨rfl, rfl⟩; rw [hpt]))
              obtain ⟨W', hW', ⟨q0, q1, q2, q3, q4⟩, hb'⟩ := hW.wrote (.int .i64 2) (.string (s.extract i q)) (.int .i64 x) (.int .i64 0) (.int .i64 0)
              rw [← hW']
              refine bodyPost_ret (v := .tuple #[.agg #[.int .i64 2, .string (s.extract i q), .int .i64 x, .int .i64 0, .int .i64 0], .bool true]) (by simp [results, Tryd.results43, go_sem, q0, q1, q2, q3, q4]) rfl ⟨2, s.extract i q, x, by rw [hres.out], fun _ => ⟨hkd.out.symm, htx.out.symm, hres2.out.symm⟩, hb'⟩
end Go.Proofs.YtnlikhjmmnaknaaDoor
