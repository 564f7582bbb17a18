/-
  The walk of sign.
-/
import Derived.Test.YtnlikhjmmnaknaaDoorScan4
namespace Go.Proofs.YtnlikhjmmnaknaaDoor
open Go.RowKit

def sign2 (s : ByteArray) : Bool := decide (2 ≤ s.size) && ((s.extract 0 2).toList == [45, 62] || (s.extract 0 2).toList == [60, 62] || (s.extract 0 2).toList == [60, 61] || (s.extract 0 2).toList == [62, 61])
def sign1 (b : Int) : Bool := b == 40 || b == 41 || b == 44 || b == 59 || b == 58 || b == 61 || b == 60 || b == 62 || b == 43 || b == 45 || b == 42 || b == 47 || b == 37
/-- how many bytes the sign has at the head of a text -/
def signOf (s : ByteArray) : Nat := if sign2 s = true then 2 else if sign1 (bt s 0) = true then 1 else 0

set_option maxHeartbeats 2000000 in
theorem sign_any (s : ByteArray) (w : World) (hs : s.size ≤ 1000000) (hp : 0 < s.size) :
    Calls Tryd.prog 83 #[.string s] w fun r w' => r = .returned (.int .i64 (signOf s)) ∧ w = w' := by
  have hb := bt_eq s 0 hp
  cases h2 : sign2 s with
  | true =>
    have HS : Hid (signOf s = 2) := by show _ = _; unfold signOf; rw [if_pos h2]
    simp only [sign2, Bool.and_eq_true, Bool.or_eq_true, decide_eq_true_eq] at h2
    obtain ⟨h3, h4⟩ := h2
    have h5 : (2 : Int) ≤ (s.size : Int) := by omega
    go_enter Tryd.func83, Tryd.ntmps83
    go_wp2_with fail
    all_goals first
      | (go_ret; exact ⟨ret_int (by rw [HS.out]; rfl), rfl⟩)
      | (exfalso; simp_all; done)
  | false =>
    have HS : Hid (signOf s = if sign1 (bt s 0) = true then 1 else 0) := by show _ = _; unfold signOf; rw [if_neg (by rw [h2]; simp)]
    cases h1 : sign1 (bt s 0) with
    | true =>
      rw [h1] at HS
      unfold sign2 at h2
      unfold sign1 at h1
      generalize bt s 0 = b at *
      by_cases h5 : (2 : Int) ≤ (s.size : Int)
      · rw [decide_eq_true (by omega), Bool.true_and] at h2
        simp only [Bool.or_eq_false_iff] at h2
        obtain ⟨⟨⟨t1, t2⟩, t3⟩, t4⟩ := h2
        have H1 := hid h1
        clear h1
        go_enter Tryd.func83, Tryd.ntmps83
        go_wp2_with fail
        all_goals first
          | (go_ret; exact ⟨ret_int (by rw [HS.out]; rfl), rfl⟩)
          | (exfalso; have h1 := H1.out; simp_all; done)
      · have H1 := hid h1
        clear h1 h2
        go_enter Tryd.func83, Tryd.ntmps83
        go_wp2_with fail
        all_goals first
          | (go_ret; exact ⟨ret_int (by rw [HS.out]; rfl), rfl⟩)
          | (exfalso; have h1 := H1.out; simp_all; done)
    | false =>
      rw [h1] at HS
      unfold sign2 at h2
      unfold sign1 at h1
      simp only [Bool.or_eq_false_iff] at h1
      obtain ⟨⟨⟨⟨⟨⟨⟨⟨⟨⟨⟨⟨a1, a2⟩, a3⟩, a4⟩, a5⟩, a6⟩, a7⟩, a8⟩, a9⟩, a10⟩, a11⟩, a12⟩, a13⟩ := h1
      generalize bt s 0 = b at *
      by_cases h5 : (2 : Int) ≤ (s.size : Int)
      · rw [decide_eq_true (by omega), Bool.true_and] at h2
        simp only [Bool.or_eq_false_iff] at h2
        obtain ⟨⟨⟨t1, t2⟩, t3⟩, t4⟩ := h2
        go_enter Tryd.func83, Tryd.ntmps83
        go_wp2_with fail
        go_ret
        exact ⟨ret_int (by rw [HS.out]; rfl), rfl⟩
      · clear h2
        go_enter Tryd.func83, Tryd.ntmps83
        go_wp2_with fail
        go_ret
        exact ⟨ret_int (by rw [HS.out]; rfl), rfl⟩
end Go.Proofs.YtnlikhjmmnaknaaDoor
