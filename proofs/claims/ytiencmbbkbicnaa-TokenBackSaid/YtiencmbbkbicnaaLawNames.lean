/-
  The walk of the statement TokenNames.
-/
import Derived.Test.YtiencmbbkbicnaaLawScans
namespace Go.Proofs.Ytiencmbbkbicnaa
open Go.RowKit

theorem wordL_named : ∀ x ∈ wordL, isNamed x.data.toList = true := by decide +kernel
theorem word_named {l : List UInt8} (h : isWord l = true) : isNamed l = true := by
  obtain ⟨x, hx, rfl⟩ := isWord_mem h
  exact wordL_named x hx
theorem named_parts {l : List UInt8} (h : isNamed l = true) : 1 ≤ l.length ∧ l.length ≤ 20 ∧ ∃ c t, l = c :: t ∧ isLetter (c.toNat : Int) = true ∧ partsOnly t = true := by
  unfold isNamed at h
  simp only [Bool.and_eq_true, decide_eq_true_eq] at h
  obtain ⟨⟨h1, h2⟩, h3⟩ := h
  refine ⟨h2, h3, ?_⟩
  cases l with
  | nil => simp at h2
  | cons c t =>
    rw [namedFrom, namedFrom_succ] at h1
    simp only [Bool.and_eq_true] at h1
    refine ⟨c, t, rfl, ?_, h1.2⟩
    simpa [partAt] using h1.1
theorem rn_parts : ∀ l : List UInt8, partsOnly l = true → rn partB l = l.length := by
  intro l
  induction l with
  | nil => intro _; rfl
  | cons c t ih =>
    intro h
    simp only [partsOnly, List.all_cons, Bool.and_eq_true] at h
    rw [rn, if_pos (show partB (c.toNat : Int) = true from h.1), ih h.2, List.length_cons]; omega
theorem extract_all (s : ByteArray) : s.extract 0 s.size = s := by
  apply ByteArray.ext
  apply Array.ext'
  rw [Lib.extract_data, List.drop_zero, Nat.sub_zero]
  exact List.take_of_length_le (by rw [← size_len]; exact Nat.le_refl _)
/-- a name, or a word, is scanned as itself -/
theorem scan_named (s : ByteArray) (h : isNamed s.data.toList = true) : scanOf s = .toks [⟨if isWord s.data.toList = true then 4 else 1, s, 0, 0⟩, tkEnd s.size] := by
  obtain ⟨h1, h2, c, t, hl, hc, ht⟩ := named_parts h
  rw [← size_len] at h1 h2
  have hb : bt s 0 = (c.toNat : Int) := by unfold bt; rw [hl]; rfl
  have hlet : isLetter (bt s 0) = true := by rw [hb]; exact hc
  have hov : over s 0 = 0 := by
    have hlet' := letter_1 hlet
    exact over_stop (by omega) (by omega) (by omega)
  have hrn : rn partB (s.data.toList.drop 0) = s.size := by
    rw [List.drop_zero, size_len, hl, rn, if_pos (by unfold partB; rw [hc]; rfl), rn_parts t ht, List.length_cons]; omega
  have hlen : tokLen s 0 = s.size := by unfold tokLen; rw [if_pos hlet, hrn]
  have htx : textOf s 0 (tokLen s 0) = s := by unfold textOf; rw [hlen, Nat.zero_add, extract_all]
  have hkd : tokKind s 0 = if isWord s.data.toList = true then 4 else 1 := by unfold tokKind; rw [if_pos hlet, htx]
  have hnm : tokNum s 0 = 0 := by unfold tokNum; rw [if_pos hlet]
  have hok : tokOk s 0 = true := by unfold tokOk; rw [if_pos hlet, hlen]; exact decide_eq_true h2
  unfold scanOf
  rw [if_neg (by omega)]
  obtain ⟨n, hn⟩ : ∃ n, s.size = n + 1 := ⟨s.size - 1, by omega⟩
  rw [show s.size + 1 = n + 1 + 1 by omega]
  unfold scanGo
  rw [hov, if_neg (by omega), if_neg (by omega), if_pos hok, hlen]
  unfold scanGo
  rw [show 0 + s.size = s.size from Nat.zero_add _, over_end, if_pos rfl]
  have htk : tkAt s 0 = ⟨if isWord s.data.toList = true then 4 else 1, s, 0, 0⟩ := by unfold tkAt; rw [hkd, htx, hnm]
  rw [htk]; rfl

set_option maxRecDepth 100000 in
set_option maxHeartbeats 2000000 in
theorem names_any (s : ByteArray) (w : World) (hs : s.size ≤ maxLen) : Calls Try.prog 9 #[.string s] w fun r w' => r = .returned (.bool true) ∧ Below w.heap.size w w' := by
  have hs' := hs
  unfold maxLen at hs'
  by_cases hcap : 200 < s.size
  · go_enter Try.func9, Try.ntmps9
    go_wp2_with (go_at_call 27; refine (awake_any w).mono ?_; rintro r w1 ⟨rfl, hb1⟩)
    go_ret
    exact ⟨rfl, hb1⟩
  · cases hnm : isNamed s.data.toList with
    | false =>
      have hn : isName s.data.toList = false := by unfold isName; rw [hnm]; rfl
      have hw : isWord s.data.toList = false := by
        cases h : isWord s.data.toList with
        | false => rfl
        | true => rw [word_named h] at hnm; cases hnm
      clear hnm
      go_enter Try.func9, Try.ntmps9
      go_wp2_with (first
        | (go_at_call 27; refine (awake_any w).mono ?_; rintro r w1 ⟨rfl, hb1⟩)
        | (go_at_call 32; refine (name_any s _ hs).mono ?_; rintro r w2 ⟨rfl, hb2⟩; rw [hn]; have hb3 := hb1.trans (hb2.mono hb1.size))
        | (go_at_call 33; refine (rname_any s _ (by omega)).mono ?_; rintro r w3 ⟨rfl, rfl⟩; rw [hn])
        | (go_at_call 34; refine (word_any s _).mono ?_; rintro r w4 ⟨rfl, hb4⟩; rw [hw]; have hb5 := hb3.trans (hb4.mono hb3.size))
        | (go_at_call 35; refine (rword_any s _ (by omega)).mono ?_; rintro r w5 ⟨rfl, rfl⟩; rw [hw]))
      go_ret
      exact ⟨rfl, hb5⟩
    | true =>
      have hsc := hid (scan_named s hnm)
      have hn : isName s.data.toList = !isWord s.data.toList := by unfold isName; rw [hnm]; rfl
      clear hnm
      cases hw : isWord s.data.toList
      all_goals
        rw [hw] at hn hsc
        have hn2 : isName s.data.toList = _ := hn
        clear hn
        simp only [Bool.not_true, Bool.not_false] at hn2
        go_enter Try.func9, Try.ntmps9
        go_wp2_with (first
          | (go_at_call 27; refine (awake_any w).mono ?_; rintro r w1 ⟨rfl, hb1⟩)
          | (go_at_call 32; refine (name_any s _ hs).mono ?_; rintro r w2 ⟨rfl, hb2⟩; rw [hn2]; have hb3 := hb1.trans (hb2.mono hb1.size))
          | (go_at_call 33; refine (rname_any s _ (by omega)).mono ?_; rintro r w3 ⟨rfl, rfl⟩; rw [hn2])
          | (go_at_call 34; refine (word_any s _).mono ?_; rintro r w4 ⟨rfl, hb4⟩; rw [hw]; have hb5 := hb3.trans (hb4.mono hb3.size))
          | (go_at_call 35; refine (rword_any s _ (by omega)).mono ?_; rintro r w5 ⟨rfl, rfl⟩; rw [hw])
          | (go_at_call 28; refine (scan_any s _ hs).mono ?_; rintro r w6 ⟨hb6, hr⟩; rw [hsc.out] at hr; obtain ⟨g, c, rfl, hown⟩ := hr; have hb7 := hb5.trans (hb6.mono hb5.size)))
        have hb8 := hb7.alloc hb7.size (.cells #[.int .i64 0, .int .i64 0, .int .i64 0] 43)
        have ho := hown.alloc (.cells #[.int .i64 0, .int .i64 0, .int .i64 0] 43)
        obtain ⟨x0, x1, x2, x3, x4⟩ := tk_row ho rfl 0 (by simp)
        have hk := World.alloc_heap_new w6 (.cells #[.int .i64 0, .int .i64 0, .int .i64 0] 43)
        simp only [List.getElem_cons_zero, Nat.zero_mul, Nat.zero_add] at x0 x1 x2 x3 x4
        clear ho hown
        generalize w6.alloc (.cells #[.int .i64 0, .int .i64 0, .int .i64 0] 43) = W at *
        have c0 : W.cell? ⟨w6.heap.size, 0, none⟩ = some (.int .i64 0) := by unfold World.cell?; rw [hk]; rfl
        have c1 : W.cell? ⟨w6.heap.size, 1, none⟩ = some (.int .i64 0) := by unfold World.cell?; rw [hk]; rfl
        have c2 : W.cell? ⟨w6.heap.size, 2, none⟩ = some (.int .i64 0) := by unfold World.cell?; rw [hk]; rfl
        have hrn : ∀ n, Calls Try.prog 33 #[.string s] (W.drewN n) fun e w' => e = .returned (.bool (isName s.data.toList)) ∧ ∃ m, w' = W.drewN m := fun n =>
          (rname_any s _ (by omega)).mono fun _ _ ⟨h1, h2⟩ => ⟨h1, n, h2.symm⟩
        rw [hn2] at hrn
        have HRN := hid hrn
        clear hrn hk
        go_quiet (exact HRN.out _)
        go_wp2_with fail
        go_ret
        exact ⟨rfl, hb8.trans ⟨rfl, rfl, rfl, Nat.le_refl _, fun _ _ => rfl⟩⟩
end Go.Proofs.Ytiencmbbkbicnaa
