/-
  The walks over expressions: the reference's Height, the code's Size, room and Few.
-/
import Derived.Test.YtnlikhjmmnaknaaDoorTreeW
namespace Go.Proofs.YtnlikhjmmnaknaaDoor
open Go.RowKit

set_option maxHeartbeats 400000 in
theorem rheight_any (e : Ex) : ∀ (B : Nat) (A : Option Addr) (cap : Nat) (w : World), ExAt B w e A cap → B ≤ w.heap.size → e.height ≤ 1000000 →
    Calls Tryd.prog 23 #[e.val A cap] w fun r w' => r = .returned (.int .i64 e.height) ∧ Below w.heap.size w w' := by
  induction e with
  | junk => intro B A cap; intros; contradiction
  | mk op name n k arg l c ih =>
    intro B A cap w hE hB hh
    obtain ⟨⟨_, _, _, _, _, hk, hcap⟩, hargs⟩ := hE
    simp only [Ex.val, Ex.op, Ex.name, Ex.num, Ex.k, Ex.line, Ex.col]
    unfold maxLen at hcap
    have hmax : ∀ j, j ≤ k → maxTo (fun i => (arg i).height) j ≤ 999999 := fun j hj => by
      have := maxTo_le (f := fun i => (arg i).height) hj
      simp only [Ex.height] at hh; omega
    have hcap' : (k : Int) ≤ 9223372036854775807 := by omega
    go_enter Tryd.func23, Tryd.ntmps23
    go_wp2_with fail
    go_loopw [3, 4, 5] (fun h i x wr => ∃ j : Nat, j ≤ k ∧ i = .int .i64 j ∧ h = .int .i64 (maxTo (fun i => (arg i).height) j) ∧ Below (w.heap.size + 1) (w.alloc (.cells #[.int .i64 op, .string name, .int .i64 n, .slice A k cap, .int .i64 l, .int .i64 c] 26)) wr) (fun _ i _ _ => k - (intOf i).toNat)
    case atStart => exact ⟨0, by omega, rfl, rfl, Below.refl _ _⟩
    case round =>
      obtain ⟨j, hj, rfl, rfl, hbel⟩ := hrel
      have hsl := boxed_cell hbel 3
      have hsz := boxed_size hbel
      have hw := boxed_below hbel
      by_cases hlt : j < k
      · obtain ⟨b, o, A', cap', rfl, hb, hcells, hin⟩ := hargs j hlt
        have hc := hcells.keep (w' := wr) fun i => hw.cell (p := ⟨b, i, none⟩) (by simp; omega)
        obtain ⟨c0, c1, c2, c3, c4, c5⟩ := hc
        clear hcells
        have hm := hmax (j + 1) (by omega)
        rw [maxTo_succ] at hm
        go_wp2_with fail
        refine (ih j B A' cap' _ (hin.below hB hw) (by omega) (by omega)).mono ?_
        rintro r w1 ⟨rfl, hb1⟩
        go_wp2_with fail
        all_goals
          go_roundw
          case rel =>
            refine ⟨j + 1, by omega, by go_num, ?_, hbel.trans (hb1.mono (by omega))⟩
            rw [maxTo_succ]
            congr 1
            omega
          case measure => simp [intOf]; omega
      · have : j = k := by omega
        subst this
        have hm := hmax j (by omega)
        go_wp2_with fail
        go_ret
        exact ⟨ret_int (by simp [Ex.height]), hw⟩

theorem sumTo_succ (f : Nat → Nat) (k : Nat) : sumTo f (k + 1) = sumTo f k + f k := rfl
theorem sumTo_le {f : Nat → Nat} {k j : Nat} (h : j ≤ k) : sumTo f j ≤ sumTo f k := by
  induction k with
  | zero => have : j = 0 := by omega
            subst this; exact Nat.le_refl _
  | succ k ih =>
    by_cases hj : j = k + 1
    · subst hj; exact Nat.le_refl _
    · exact Nat.le_trans (ih (by omega)) (by rw [sumTo_succ]; omega)

def roomTo (f : Nat → Int → Int) : Nat → Int → Int
  | 0, left => left
  | n + 1, left => if roomTo f n left < 0 then -1 else f n (roomTo f n left)
/-- how much room is left behind an expression -/
def Ex.room : Ex → Nat → Int → Int
  | .junk, _, _ => -1
  | .mk _ name _ k arg _ _, deep, left => if deep = 0 ∨ 30 < name.size then -1 else roomTo (fun i x => (arg i).room (deep - 1) x) k (left - 1)
/-- all names are short -/
def Ex.short : Ex → Prop
  | .junk => True
  | .mk _ name _ k arg _ _ => name.size ≤ 30 ∧ ∀ i, i < k → (arg i).short

theorem roomTo_bd {f : Nat → Int → Int} (hf : ∀ i x, 0 ≤ x → -1 ≤ f i x ∧ f i x ≤ x - 1) (left : Int) (h0 : -1 ≤ left) : ∀ n, -1 ≤ roomTo f n left ∧ roomTo f n left ≤ left := by
  intro n
  induction n with
  | zero => exact ⟨h0, Int.le_refl _⟩
  | succ n ih =>
    unfold roomTo
    split
    · omega
    · have := hf n (roomTo f n left) (by omega); omega
theorem room_bd : ∀ (e : Ex) (deep : Nat) (left : Int), 0 ≤ left → -1 ≤ e.room deep left ∧ e.room deep left ≤ left - 1 := by
  intro e
  induction e with
  | junk => intro deep left h; simp only [Ex.room]; omega
  | mk op name n k arg l c ih =>
    intro deep left h
    rw [Ex.room]
    split
    · omega
    · have := roomTo_bd (f := fun i x => (arg i).room (deep - 1) x) (fun i x hx => ih i _ x hx) (left - 1) (by omega) k
      omega
theorem roomTo_stop {f : Nat → Int → Int} {left : Int} {j : Nat} (h : roomTo f j left < 0) : ∀ k, j < k → roomTo f k left = -1 := by
  intro k
  induction k with
  | zero => intro h; omega
  | succ k ih =>
    intro hk
    unfold roomTo
    by_cases hj : j = k
    · subst hj; rw [if_pos h]
    · rw [ih (by omega), if_pos (by omega)]
theorem roomTo_sum {f : Nat → Int → Int} {g : Nat → Nat} {left : Int} (hf : ∀ i x, 0 ≤ f i x → f i x = x - g i) : ∀ k, 0 ≤ roomTo f k left → roomTo f k left = left - sumTo g k ∧ ∀ j, j ≤ k → 0 ≤ roomTo f j left := by
  intro k
  induction k with
  | zero => intro h; exact ⟨by simp [roomTo, sumTo], fun j hj => by have : j = 0 := by omega
                                                                    subst this; exact h⟩
  | succ k ih =>
    intro h
    unfold roomTo at h
    by_cases hn : roomTo f k left < 0
    · rw [if_pos hn] at h; omega
    · rw [if_neg hn] at h
      obtain ⟨h1, h2⟩ := ih (by omega)
      refine ⟨?_, fun j hj => ?_⟩
      · rw [roomTo, if_neg hn, hf _ _ h, h1, sumTo_succ]; omega
      · by_cases hjk : j = k + 1
        · subst hjk; rw [roomTo, if_neg hn]; exact h
        · exact h2 j (by omega)
/-- WHERE THERE IS ROOM: how much is taken; no higher than so; short names. -/
theorem room_fits : ∀ (e : Ex) (deep : Nat) (left : Int), 0 ≤ e.room deep left → e.room deep left = left - e.size ∧ e.height ≤ deep ∧ e.short := by
  intro e
  induction e with
  | junk => intro deep left h; simp only [Ex.room] at h; omega
  | mk op name n k arg l c ih =>
    intro deep left h
    rw [Ex.room] at h ⊢
    by_cases hc : deep = 0 ∨ 30 < name.size
    · rw [if_pos hc] at h; omega
    · rw [if_neg hc] at h ⊢
      obtain ⟨h1, h2⟩ := roomTo_sum (f := fun i x => (arg i).room (deep - 1) x) (g := fun i => (arg i).size) (fun i x hx => (ih i _ _ hx).1) k h
      have h3 : ∀ j, j < k → (arg j).height ≤ deep - 1 ∧ (arg j).short := fun j hj => by
        have := h2 (j + 1) (by omega)
        rw [roomTo, if_neg (by have := h2 j (by omega); omega)] at this
        exact (ih j _ _ this).2
      refine ⟨by rw [h1, Ex.size]; omega, ?_, by omega, fun i hi => (h3 i hi).2⟩
      have h4 : ∀ j, j ≤ k → maxTo (fun i => (arg i).height) j ≤ deep - 1 := by
        intro j
        induction j with
        | zero => intro _; simp [maxTo]
        | succ j ihj => intro hj; rw [maxTo_succ]; have := (h3 j (by omega)).1; have := ihj (by omega); omega
      have := h4 k (Nat.le_refl _)
      rw [Ex.height]; omega
end Go.Proofs.YtnlikhjmmnaknaaDoor
