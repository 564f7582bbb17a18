/-
  The walks of number and sign.
-/
import Derived.Test.YtnlikhjmmnaknaaDoorScan3
namespace Go.Proofs.YtnlikhjmmnaknaaDoor
open Go.RowKit

/-- the number of digits, behind one; none: it is too great -/
def numGo (n : Int) : List UInt8 → Option Int
  | [] => some n
  | c :: l => if (9223372036854775807 - ((c.toNat : Int) - 48)) / 10 < n then none else numGo (10 * n + ((c.toNat : Int) - 48)) l
def numOf (l : List UInt8) : Option Int := if 1 < l.length ∧ l.head? = some 48 then none else numGo 0 l
def numRes : Option Int → Value
  | some n => .tuple #[.int .i64 n, .bool true]
  | none => .tuple #[.int .i64 0, .bool false]

theorem numGo_bd (d n : Int) (h0 : 0 ≤ d) (h1 : d ≤ 9) (hn : 0 ≤ n) (h : ¬ (9223372036854775807 - d) / 10 < n) : 0 ≤ 10 * n + d ∧ 10 * n + d ≤ 9223372036854775807 := by omega
theorem numGo_on {n : Int} {s : ByteArray} {q : Nat} (hq : q < s.size) (h : ¬ (9223372036854775807 - (bt s q - 48)) / 10 < n) : numGo n (s.data.toList.drop q) = numGo (10 * n + (bt s q - 48)) (s.data.toList.drop (q + 1)) := by
  obtain ⟨c, hd, hc⟩ := drop_bt s q hq
  rw [hd, numGo, hc, if_neg h]
theorem numGo_off {n : Int} {s : ByteArray} {q : Nat} (hq : q < s.size) (h : (9223372036854775807 - (bt s q - 48)) / 10 < n) : numGo n (s.data.toList.drop q) = none := by
  obtain ⟨c, hd, hc⟩ := drop_bt s q hq
  rw [hd, numGo, hc, if_pos h]
theorem numGo_end (n : Int) (s : ByteArray) : numGo n (s.data.toList.drop s.size) = some n := by rw [drop_end]; rfl

theorem head_bt (s : ByteArray) (h : 0 < s.size) : s.data.toList.head? = some 48 ↔ bt s 0 = 48 := by
  obtain ⟨c, hd, hc⟩ := drop_bt s 0 h
  rw [List.drop_zero] at hd
  rw [hd, ← hc]
  simp only [List.head?_cons, Option.some.injEq]
  constructor
  · rintro rfl; rfl
  · intro h; exact UInt8.toNat_inj.1 (by have : (48 : UInt8).toNat = 48 := rfl; omega)

set_option maxHeartbeats 1000000 in
theorem number_any (s : ByteArray) (w : World) (hs : s.size ≤ 1000000) (hp : 0 < s.size) (hd : ∀ q, q < s.size → 48 ≤ bt s q ∧ bt s q ≤ 57) :
    Calls Tryd.prog 82 #[.string s] w fun r w' => r = .returned (numRes (numOf s.data.toList)) ∧ w = w' := by
  have hsl : s.data.toList.length = s.size := (size_len s).symm
  by_cases h1 : 1 < s.size ∧ bt s 0 = 48
  · have HN : Hid (numOf s.data.toList = none) := by
      show _ = _
      unfold numOf
      rw [if_pos ⟨by omega, (head_bt s hp).2 h1.2⟩]
    obtain ⟨h1, h2⟩ := h1
    have hb := bt_eq s 0 hp
    rw [h2] at hb
    clear h2 hsl
    go_enter Tryd.func82, Tryd.ntmps82
    go_wp2_with fail
    go_ret2
    exact ⟨by rw [HN.out]; rfl, rfl⟩
  · have HN : Hid (numOf s.data.toList = numGo 0 (s.data.toList.drop 0)) := by
      show _ = _
      unfold numOf
      rw [if_neg (fun h => h1 ⟨by omega, (head_bt s hp).1 h.2⟩), List.drop_zero]
    have hg : Hid (¬ (1 < s.size ∧ bt s 0 = 48)) := h1
    have hb := bt_eq s 0 hp
    have HD := hid hd
    clear h1 hsl hd
    have h4 : (1 : Int) < (s.size : Int) → (bt s 0 == 48) = false := fun h2 => by
      simp; intro h; exact hg.out ⟨by omega, h⟩
    by_cases h2 : (1 : Int) < (s.size : Int)
    all_goals
      first | (have h3 := h4 h2; clear h4) | (clear h4 hb)
      go_enter Tryd.func82, Tryd.ntmps82
      go_wp2_with fail
      go_loop [4, 5, 6, 17] (fun v _ _ c => ∃ (j : Nat) (n : Int), j ≤ s.size ∧ c = .int .i64 j ∧ v = .int .i64 n ∧ 0 ≤ n ∧ n ≤ 9223372036854775807 ∧ Hid (numOf s.data.toList = numGo n (s.data.toList.drop j))) (fun _ _ _ c => s.size - (intOf c).toNat)
      case atStart => exact ⟨0, 0, by omega, rfl, rfl, by omega, by omega, HN⟩
      case round =>
        obtain ⟨j, n, hj, rfl, rfl, hn0, hn1, hnum⟩ := hrel
        by_cases hlt : j < s.size
        · obtain ⟨hd0, hd1⟩ := HD.out j hlt
          have hbj := bt_eq s j hlt
          by_cases hbig : (9223372036854775807 - (bt s j - 48)) / 10 < n
          · have hr := hid (numGo_off hlt hbig)
            generalize bt s j = b at *
            go_wp2_with fail
            go_ret2
            exact ⟨by rw [hnum.out, hr.out]; rfl, rfl⟩
          · have hr := hid (numGo_on hlt hbig)
            obtain ⟨hm0, hm1⟩ := numGo_bd (bt s j - 48) n (by omega) (by omega) hn0 hbig
            generalize bt s j = b at *
            go_wp2_with fail
            go_round
            case rel => exact ⟨j + 1, 10 * n + (b - 48), by omega, by go_num, by first | rfl | (congr 1; omega), hm0, hm1, hnum.out.trans hr.out⟩
            case measure => simp [intOf]; omega
        · have : j = s.size := by omega
          subst this
          go_wp2_with fail
          go_ret2
          exact ⟨by rw [hnum.out, numGo_end]; rfl, rfl⟩
end Go.Proofs.YtnlikhjmmnaknaaDoor
