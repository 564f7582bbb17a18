/-
  How a run of plus signs is scanned (no program in sight).
-/
import Derived.Test.YtiencmbbkbicnaaAwake11
namespace Go.Proofs.Ytiencmbbkbicnaa
open Go.RowKit

/-- so many plus signs -/
def plus (k : Nat) : ByteArray := ⟨(List.replicate k (43 : UInt8)).toArray⟩
theorem plus_size (k : Nat) : (plus k).size = k := by simp [plus, ByteArray.size]
theorem plus_bt {k i : Nat} (h : i < k) : bt (plus k) i = 43 := by
  have := bt_eq (plus k) i (by rw [plus_size]; exact h)
  rw [← this]
  simp [plus, ByteArray.getElem_eq_getElem_data]
theorem plus_over {k i : Nat} (h : i ≤ k) : over (plus k) i = i := by
  rcases Nat.lt_or_ge i k with h1 | h1
  · exact over_stop (by rw [plus_size]; exact h1) (by rw [plus_bt h1]; decide) (by rw [plus_bt h1]; decide)
  · have : i = (plus k).size := by rw [plus_size]; omega
    rw [this]; exact over_end _
theorem plus_place {k : Nat} : ∀ i : Nat, i ≤ k → place (plus k) i = (1, (i : Int) + 1) := by
  intro i
  induction i with
  | zero => intro _; rfl
  | succ i ih =>
    intro h
    unfold place
    rw [plus_bt (show i < k by omega), if_neg (by decide), ih (by omega)]
    simp
theorem pair_bt {s : ByteArray} {c d : UInt8} (h : s.toList = [c, d]) : bt s 0 = (c.toNat : Int) := by
  rw [ByteArray.toList_eq] at h
  unfold bt
  rw [h]; rfl
theorem plus_two {s : ByteArray} (h0 : bt s 0 = 43) : ¬ sign2 s = true := by
  intro h
  simp only [sign2, Bool.and_eq_true, Bool.or_eq_true, decide_eq_true_eq, beq_iff_eq] at h
  obtain ⟨h2, h3⟩ := h
  have hx := bt_extract s 0 2 0 (by omega)
  simp only [Nat.add_zero, h0] at hx
  rcases h3 with ((h3 | h3) | h3) | h3 <;> (rw [pair_bt h3] at hx; revert hx; decide)
theorem plus_len {k i : Nat} (h : i < k) : tokLen (plus k) i = 1 := by
  unfold tokLen
  rw [plus_bt h, if_neg (by decide), if_neg (by decide)]
  unfold signOf
  have h0 : bt ((plus k).extract i (plus k).size) 0 = 43 := by
    rw [bt_extract (plus k) i (plus k).size 0 (by rw [plus_size]; omega)]; exact plus_bt h
  rw [if_neg (plus_two h0), if_pos (by rw [h0]; decide)]
theorem plus_ok {k i : Nat} (h : i < k) : tokOk (plus k) i = true := by
  unfold tokOk
  rw [plus_bt h, if_neg (by decide), if_neg (by decide), plus_len h]
  rfl
theorem plus_go {k : Nat} : ∀ (f n : Nat) (l : List Tk), l.length = n → n ≤ k → n ≤ 4096 → k < f + n →
    (k ≤ 4096 → ∃ m, scanGo (plus k) f n n l = .toks m ∧ m.length = k + 1) ∧ (4096 < k → scanGo (plus k) f n n l = .bad 3 4096) := by
  intro f
  induction f with
  | zero => intro n l _ _ _ h; omega
  | succ f ih =>
    intro n l hl hn h4 hf
    unfold scanGo
    rw [plus_over hn, plus_size]
    by_cases he : n = k
    · rw [if_pos he]
      exact ⟨fun _ => ⟨_, rfl, by simp; omega⟩, fun h => by omega⟩
    · rw [if_neg he]
      by_cases h5 : n = 4096
      · rw [if_pos h5]
        exact ⟨fun h => by omega, fun _ => by rw [h5]⟩
      · rw [if_neg h5, if_pos (plus_ok (by omega)), plus_len (by omega)]
        exact ih (n + 1) _ (by simp [hl]) (by omega) (by omega) (by omega)
theorem plus_scan (k : Nat) (hk : k ≤ 16384) : (k ≤ 4096 → ∃ m, scanOf (plus k) = .toks m ∧ m.length = k + 1) ∧ (4096 < k → scanOf (plus k) = .bad 3 4096) := by
  unfold scanOf
  rw [plus_size, if_neg (by omega)]
  exact plus_go (k + 1) 0 [] rfl (by omega) (by omega) (by omega)
end Go.Proofs.Ytiencmbbkbicnaa
