/-
  The walks of run, number and sign.
-/
import Derived.IntWalk
import Derived.Test.YtnlikhjmmnaknaaDoorScan2
namespace Go.Proofs.YtnlikhjmmnaknaaDoor
open Go.RowKit

/-- how many bytes are so at the head of a text -/
def rn (p : Int → Bool) : List UInt8 → Nat
  | [] => 0
  | c :: l => if p (c.toNat : Int) = true then 1 + rn p l else 0
theorem rn_le (p : Int → Bool) : ∀ l : List UInt8, rn p l ≤ l.length := by
  intro l
  induction l with
  | nil => simp [rn]
  | cons c l ih => rw [rn]; split <;> simp <;> omega
theorem rn_on {p : Int → Bool} {s : ByteArray} {q : Nat} (h : q < s.size) (hp : p (bt s q) = true) : rn p (s.data.toList.drop q) = 1 + rn p (s.data.toList.drop (q + 1)) := by
  obtain ⟨c, hd, hc⟩ := drop_bt s q h
  rw [hd, rn, if_pos (by rw [hc]; exact hp)]
theorem rn_off {p : Int → Bool} {s : ByteArray} {q : Nat} (h : q < s.size) (hp : p (bt s q) = false) : rn p (s.data.toList.drop q) = 0 := by
  obtain ⟨c, hd, hc⟩ := drop_bt s q h
  rw [hd, rn, if_neg (by rw [hc, hp]; simp)]
theorem rn_end (p : Int → Bool) (s : ByteArray) : rn p (s.data.toList.drop s.size) = 0 := by rw [drop_end]; rfl

def partB (c : Int) : Bool := isLetter c || isDigit c

set_option maxHeartbeats 400000 in
theorem next1_any (c : Int) (w : World) :
    Calls Tryd.prog 80 #[.int .u8 c] w fun e w' => e = .returned (.bool (partB c)) ∧ w = w' := by
  cases h : isLetter c with
  | true =>
    go_enter Tryd.func80, Tryd.ntmps80
    go_wp2_with (first | (go_at_call 78; refine (letter_any _ _).mono ?_; rintro e w' ⟨rfl, rfl⟩) | (go_at_call 81; refine (digit_any _ _).mono ?_; rintro e w' ⟨rfl, rfl⟩))
    go_ret
    exact ⟨ret_bool (by simp [partB, h]), rfl⟩
  | false =>
    go_enter Tryd.func80, Tryd.ntmps80
    go_wp2_with (first | (go_at_call 78; refine (letter_any _ _).mono ?_; rintro e w' ⟨rfl, rfl⟩) | (go_at_call 81; refine (digit_any _ _).mono ?_; rintro e w' ⟨rfl, rfl⟩))
    go_ret
    exact ⟨ret_bool (by simp [partB, h]), rfl⟩

set_option maxRecDepth 100000 in
set_option maxHeartbeats 2000000 in
theorem run_any (f : Nat) (p : Int → Bool) (hcf : ∀ (args : Array Value) (W : World), (callFunc f args).run Tryd.prog W = .ok (.enter f args) W) (hf : ∀ (c : Int) (W : World), Calls Tryd.prog f #[.int .u8 c] W fun e w' => e = .returned (.bool (p c)) ∧ W = w') (g : Nat) (s : ByteArray) (i : Nat) (w : World) (hS : ScanAt w g s i) (hi : i ≤ s.size) (hs : s.size ≤ 1000000) :
    Calls Tryd.prog 79 #[.pointer (some ⟨g, 0, none⟩), .func (.func f) #[] #[]] w fun r w' => r = .returned (.int .i64 (rn p (s.data.toList.drop i) : Nat)) ∧ ∃ n, w' = w.drewN n := by
  have hcall : ∀ (c : Int) (W : World) (n : Nat), Calls Tryd.prog f #[.int .u8 c] (W.drewN n) fun e w' => e = .returned (.bool (p c)) ∧ ∃ m, w' = W.drewN m := fun c W n =>
    (hf c (W.drewN n)).mono fun _ _ ⟨h1, h2⟩ => ⟨h1, n, h2.symm⟩
  have HF := hid hcall
  clear hf hcall
  go_enter Tryd.func79, Tryd.ntmps79
  go_wp2_with fail
  go_loopw [5] (fun c wr => ∃ j q : Nat, i + j ≤ q ∧ q ≤ i + j ∧ q ≤ s.size ∧ c = .int .i64 j ∧ Hid (rn p (s.data.toList.drop i) = j + rn p (s.data.toList.drop q)) ∧ ScanAt wr g s i ∧ ∃ n, wr = w.drewN n) (fun c _ => s.size - (intOf c).toNat)
  case atStart => exact ⟨0, i, by omega, by omega, hi, rfl, by show _ = _; omega, hS, 0, rfl⟩
  case round =>
    obtain ⟨j, q, hq1, hq2, hqs, rfl, hrn, hS1, n0, hn0⟩ := hrel
    have HN := hid hn0
    clear hn0
    obtain ⟨c0, c1, c2, c3⟩ := hS1.cells
    have f0 := hS1.free
    have hrl := rn_le p (s.data.toList.drop i)
    have hw : IntKind.i64.wrap ((i : Int) + (j : Int)) = (q : Int) := by rw [show (i : Int) + (j : Int) = (q : Int) by omega]; exact IntWalk.i64_in _ (by omega)
    by_cases hlt : q < s.size
    · have hq0 : (0 : Int) ≤ (q : Int) := by omega
      have hq3 : (q : Int) < (s.size : Int) := by omega
      have hd : decide ((q : Int) < (s.size : Int)) = true := by simp; omega
      have hbt := bt_eq s q hlt
      cases hp : p (bt s q) with
      | true =>
        have hr2 := hid (rn_on hlt hp)
        have HP := hid hp
        clear hp
        go_wp2_with fail
        go_quiet (exact HF.out _ _ _)
        rw [HP.out]
        go_wp2_with fail
        go_roundw
        case rel =>
          refine ⟨j + 1, q + 1, by omega, by omega, by omega, by go_num, ?_, hS1, ?_⟩
          · show _ = _
            rw [hrn.out, hr2.out]; omega
          · exact ⟨n0 + nq, by rw [HN.out, World.drewN_drewN]⟩
        case measure => simp [intOf]; omega
      | false =>
        have hr2 := hid (rn_off hlt hp)
        have HP := hid hp
        clear hp
        go_wp2_with fail
        go_quiet (exact HF.out _ _ _)
        rw [HP.out]
        go_wp2_with fail
        go_ret
        exact ⟨ret_int (by rw [hrn.out, hr2.out]; omega), n0 + nq, by rw [HN.out, World.drewN_drewN]⟩
    · obtain rfl : q = s.size := by omega
      have hfl : decide ((s.size : Int) < (s.size : Int)) = false := by simp
      go_wp2_with fail
      go_quiet (fail)
      go_wp2_with fail
      go_ret
      exact ⟨ret_int (by rw [hrn.out, rn_end]; omega), n0 + nq, by rw [HN.out, World.drewN_drewN]⟩
end Go.Proofs.YtnlikhjmmnaknaaDoor
