/-
  The walks of Same, the code's (with slices.EqualFunc) and the reference's.
-/
import Derived.BigQuiet
import Derived.Deep.RegionWith
import Derived.Test.YtiencmbbkbicnaaTreeW3
namespace Go.Proofs.Ytiencmbbkbicnaa
open Go.RowKit

def allTo (f : Nat → Bool) : Nat → Bool
  | 0 => true
  | n + 1 => allTo f n && f n
theorem allTo_succ (f : Nat → Bool) (k : Nat) : allTo f (k + 1) = (allTo f k && f k) := rfl
theorem allTo_stop {f : Nat → Bool} {j k : Nat} (h : j < k) (hf : f j = false) : allTo f k = false := by
  induction k with
  | zero => omega
  | succ k ih =>
    rw [allTo_succ]
    by_cases hj : j = k
    · subst hj; rw [hf, Bool.and_false]
    · rw [ih (by omega), Bool.false_and]

/-- are two expressions one? -/
def Ex.same : Ex → Ex → Bool
  | .junk, _ => false
  | .mk op name n k arg _ _, b => op == b.op && name.data.toList == b.name.data.toList && n == b.num && k == b.k && allTo (fun i => (arg i).same (b.arg i)) k

/-- two lists of parts, one by one -/
def sameArgs (a b : Ex) : Bool := a.k == b.k && allTo (fun i => (a.arg i).same (b.arg i)) a.k

/-- the parts lie so -/
def ArgsAt (B : Nat) (w : World) (e : Ex) (A : Option Addr) (cap : Nat) : Prop :=
  (e.k ≤ cap ∧ cap ≤ maxLen) ∧ ∀ i, i < e.k → ∃ b o A' cap', A = some ⟨b, o, none⟩ ∧ b < B ∧ CellsAt w b (o + i * 6) (e.arg i) A' cap' ∧ ExAt B w (e.arg i) A' cap'
theorem ExAt.args {B : Nat} {w : World} {e : Ex} {A : Option Addr} {cap : Nat} (h : ExAt B w e A cap) : ArgsAt B w e A cap := by
  cases e with
  | junk => exact h.elim
  | mk op name n k arg l c => exact ⟨h.1.2.2.2.2.2, h.2⟩

/-- what a function value that tells whether two parts are one does -/
def SameFn (f : Nat) (a b : Ex) (B : Nat) : Prop :=
  ∀ i, i < a.k → ∀ (A A' : Option Addr) (cap cap' : Nat) (w : World), ExAt B w (a.arg i) A cap → ExAt B w (b.arg i) A' cap' → B ≤ w.heap.size →
    Calls Try.prog f #[(a.arg i).val A cap, (b.arg i).val A' cap'] w fun r w' => r = .returned (.bool ((a.arg i).same (b.arg i))) ∧ Below w.heap.size w w'

set_option maxHeartbeats 1000000 in
theorem equalFunc_any (a b : Ex) (B : Nat) (hsame : SameFn 15 a b B) (A A' : Option Addr) (cap cap' : Nat) (w : World) (ha : ArgsAt B w a A cap) (hb : ArgsAt B w b A' cap') (hB : B ≤ w.heap.size) :
    Calls Try.prog 46 #[.slice A a.k cap, .slice A' b.k cap', .func (.func 15) #[] #[]] w fun r w' => r = .returned (.bool (sameArgs a b)) ∧ Below w.heap.size w w' := by
  obtain ⟨⟨hk, hcap⟩, hargs⟩ := ha
  obtain ⟨⟨hk', hcap'⟩, hargs'⟩ := hb
  unfold maxLen at hcap hcap'
  have HF := hid hsame
  clear hsame
  have hc1 : (a.k : Int) ≤ 9223372036854775807 := by omega
  have hc2 : (b.k : Int) ≤ 9223372036854775807 := by omega
  by_cases hkk : a.k = b.k
  · have HS : Hid (sameArgs a b = allTo (fun i => (a.arg i).same (b.arg i)) a.k) := by
      show _ = _
      simp [sameArgs, hkk]
    have hne : ((a.k : Int) != (b.k : Int)) = false := by simp [hkk]
    have HK := hid hkk
    clear hkk
    go_enter Try.func46, Try.ntmps46
    go_wp2_with fail
    go_loopw [7, 8, 9, 17] (fun _ _ _ i wr => ∃ j : Nat, j ≤ a.k ∧ i = .int .i64 j ∧ Hid (allTo (fun i => (a.arg i).same (b.arg i)) j = true) ∧ Below w.heap.size w wr) (fun _ _ _ i _ => a.k - (intOf i).toNat)
    case atStart => exact ⟨0, by omega, rfl, rfl, Below.refl _ _⟩
    case round =>
      obtain ⟨j, hj, rfl, hall, hbel⟩ := hrel
      have hsz := hbel.size
      by_cases hlt : j < a.k
      · obtain ⟨b1, o1, A1, p1, rfl, hb1, hcl1, hin1⟩ := hargs j hlt
        obtain ⟨b2, o2, A2, p2, rfl, hb2, hcl2, hin2⟩ := hargs' j (by rw [← HK.out]; exact hlt)
        obtain ⟨c0, c1, c2, c3, c4, c5⟩ := hcl1.keep (w' := wr) fun i => hbel.cell (p := ⟨b1, i, none⟩) (by simp; omega)
        obtain ⟨d0, d1, d2, d3, d4, d5⟩ := hcl2.keep (w' := wr) fun i => hbel.cell (p := ⟨b2, i, none⟩) (by simp; omega)
        have hlt1 : b1 < wr.heap.size := by omega
        have hlt2 : b2 < wr.heap.size := by omega
        have hjb : (j : Int) < (b.k : Int) := by rw [← HK.out]; omega
        clear hcl1 hcl2
        go_wp2_with fail
        refine (HF.out j hlt A1 A2 p1 p2 _ (hin1.below hB ((hbel.alloc hsz _).alloc (by simp; omega) _)) (hin2.below hB ((hbel.alloc hsz _).alloc (by simp; omega) _)) (by simp; omega)).mono ?_
        rintro r w1 ⟨rfl, hw1⟩
        have hbel1 : Below w.heap.size w w1 := ((hbel.alloc hsz _).alloc (by simp; omega) _).trans (hw1.mono (by simp; omega))
        cases hsm : (a.arg j).same (b.arg j) with
        | true =>
          go_wp2_with fail
          go_roundw
          case rel =>
            refine ⟨j + 1, by omega, by go_num, ?_, hbel1⟩
            show _ = _
            rw [allTo_succ, hall.out, hsm]; rfl
          case measure => simp [intOf]; omega
        | false =>
          go_wp2_with fail
          go_ret
          exact ⟨ret_bool (by rw [HS.out, allTo_stop hlt hsm]), hbel1⟩
      · have : j = a.k := by omega
        subst this
        go_wp2_with fail
        go_ret
        exact ⟨ret_bool (by rw [HS.out, hall.out]), hbel⟩
  · have hne : ((a.k : Int) != (b.k : Int)) = true := by simp; omega
    have HS : Hid (sameArgs a b = false) := by
      show _ = _
      simp [sameArgs, hkk]
    clear hkk
    go_enter Try.func46, Try.ntmps46
    go_wp2_with fail
    go_ret
    exact ⟨ret_bool HS.out.symm, Below.refl _ _⟩
end Go.Proofs.Ytiencmbbkbicnaa
