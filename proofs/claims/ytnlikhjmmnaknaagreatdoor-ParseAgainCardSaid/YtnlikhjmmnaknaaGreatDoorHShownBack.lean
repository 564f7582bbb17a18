/-
  What showing and reading again come to.
-/
import Derived.Test.YtnlikhjmmnaknaaGreatDoorHBackL
import Derived.Test.YtnlikhjmmnaknaaGreatDoorHRtS
import Derived.Test.YtnlikhjmmnaknaaGreatDoorGD
import Derived.Test.YtnlikhjmmnaknaaGreatDoorGG
namespace Go.Proofs.YtnlikhjmmnaknaaGreatDoor
open Go.RowKit

theorem fits_scan {t : List UInt8} (h : fitsT t = true) : ∃ l, scanOf ⟨t.toArray⟩ = .toks l := by
  unfold fitsT at h
  cases hs : scanOf ⟨t.toArray⟩ with
  | toks l => exact ⟨l, rfl⟩
  | bad a b => rw [hs] at h; cases h
theorem shown_back {B : Nat} {w : World} {e : Ex} {A : Option Addr} {cap : Nat} (hE : ExAt B w e A cap) : (∃ t, shown e = (t, 0) ∧ t.size ≤ 16384 ∧ ∃ e' i, parseOf t = .ok e' i ∧ e'.same e = true) ∨ ∃ c, shown e = (⟨#[]⟩, c) ∧ (c = 2 ∨ c = 3) := by
  unfold shown
  by_cases hr : e.right = true
  · rw [if_pos hr]
    by_cases hf : fitsT (e.txt 0) = true
    · rw [if_pos hf]
      obtain ⟨l, hl⟩ := fits_scan hf
      exact .inl ⟨_, rfl, (scan_toks hl).2.2, parse_shown hE hr hl⟩
    · rw [if_neg hf]; exact .inr ⟨3, rfl, .inr rfl⟩
  · rw [if_neg hr]; exact .inr ⟨2, rfl, .inl rfl⟩
theorem shownS_back {B : Nat} {w : World} {xs : List NodeE} {S : Sl} (hx : SrcIs B w xs S) : (∃ t, shownS xs = (t, 0) ∧ t.size ≤ 16384 ∧ ∃ zs j, sourceOf t = (zs, .ok j) ∧ zipB nodeS zs xs = true) ∨ ∃ c, shownS xs = (⟨#[]⟩, c) ∧ (c = 2 ∨ c = 3) := by
  unfold shownS
  by_cases hr : srcB xs = true
  · rw [if_pos hr]
    by_cases hf : fitsT (srcTxt xs) = true
    · rw [if_pos hf]
      obtain ⟨l, hl⟩ := fits_scan hf
      exact .inl ⟨_, rfl, (scan_toks hl).2.2, source_shown (src_fine hx hr) hr hl⟩
    · rw [if_neg hf]; exact .inr ⟨3, rfl, .inr rfl⟩
  · rw [if_neg hr]; exact .inr ⟨2, rfl, .inl rfl⟩
end Go.Proofs.YtnlikhjmmnaknaaGreatDoor
