/-
  The walk of the reference's Digits.
-/
import Derived.Test.YtmdnmodjdgcmjaaDoorHBas
import Derived.Lib.ItoaMem
import Derived.Lib.ItoaLen
namespace Go.Proofs.YtmdnmodjdgcmjaaDoor
open Go.RowKit

theorem digit_cut {n : Nat} (h : n < 10) : ((⟨#[48, 49, 50, 51, 52, 53, 54, 55, 56, 57]⟩ : ByteArray).extract n (n + 1)).data.toList = [UInt8.ofNat (48 + n)] := by
  have : ∀ m, m < 10 → ((⟨#[48, 49, 50, 51, 52, 53, 54, 55, 56, 57]⟩ : ByteArray).extract m (m + 1)).data.toList = [UInt8.ofNat (48 + m)] := by decide
  exact this n h
theorem digits_step {n : Nat} (h : ¬ n < 10) : Lib.decDigits n = Lib.decDigits (n / 10) ++ Lib.decDigits (n % 10) := by
  rw [Lib.decDigits, dif_neg h, Lib.decDigits_one (show n % 10 < 10 from Nat.mod_lt _ (by omega))]
theorem dec_le {n : Nat} (h : n ≤ 9223372036854775807) : (Lib.decDigits n).length ≤ 20 := by
  rw [Lib.decDigits_length]; exact Lib.nDigits_le20 n (by omega)
theorem str_append (a b : List UInt8) : (⟨a.toArray⟩ : ByteArray) ++ ⟨b.toArray⟩ = ⟨(a ++ b).toArray⟩ := by
  apply ByteArray.ext
  simp
set_option maxHeartbeats 800000 in
theorem rdigits_any (k : Nat) : ∀ (n : Nat) (w : World), n ≤ k → n ≤ 9223372036854775807 →
    Calls Tryd.prog 65 #[.int .i64 n] w fun e w' => e = .returned (.string ⟨(Lib.decDigits n).toArray⟩) ∧ w = w' := by
  induction k with
  | zero =>
    intro n w hk _
    obtain rfl : n = 0 := by omega
    go_enter Tryd.func65, Tryd.ntmps65
    go_wp2_with fail
    go_ret
    refine ⟨?_, rfl⟩
    rw [Lib.decDigits_one (by omega)]
    rfl
  | succ k ih =>
    intro n w hk hn
    by_cases h : n < 10
    · have HD := hid (Lib.decDigits_one h)
      go_enter Tryd.func65, Tryd.ntmps65
      go_wp2_with fail
      go_ret
      refine ⟨?_, rfl⟩
      rw [HD.out, ← digit_cut h]
      rfl
    · have HD := hid (digits_step h)
      have hq : n / 10 ≤ k := by omega
      have hm := Nat.mod_lt n (show 0 < 10 by omega)
      have hl1 := dec_le (n := n / 10) (by omega)
      have hl2 := dec_le (n := n % 10) (by omega)
      have ih1 := ih (n / 10) w hq (by omega)
      have ih2 := ih (n % 10) w (by omega) (by omega)
      clear ih
      go_enter Tryd.func65, Tryd.ntmps65
      go_wp2_with fail
      refine ih1.mono ?_
      rintro r w1 ⟨rfl, rfl⟩
      go_wp2_with fail
      refine ih2.mono ?_
      rintro r w1 ⟨rfl, rfl⟩
      go_wp2_with fail
      go_ret
      exact ⟨by rw [str_append, ← HD.out]; rfl, rfl⟩
end Go.Proofs.YtmdnmodjdgcmjaaDoor
