/-
  Texts of this claim, joined: PlainW PlainW2 PlainW3 TreeW TreeW2 TreeW3 TreeR TreeR2 TreeL TreeRR.
-/
import Derived.Test.YtnlikhjmmnaknaaGreatDoorGA
import Derived.RangeFuncNested
import Derived.RangeFuncBound
import Derived.RangeFuncCalls
import Derived.RangeFuncLeaves
import Derived.Shelf.Abstract
import Derived.OwnWalkIn
import Derived.TacticsInMore
import Derived.LoopNIn
import Derived.LoopIn
import Derived.Deep.AppendLies
/-
  The walks of Parts, names and plain, the code's and the reference's.
-/
namespace Go.Proofs.YtnlikhjmmnaknaaGreatDoor
open Go.RowKit

def partsOf (op : Int) : Int :=
  if op = 1 ∨ op = 2 ∨ op = 3 then 0 else if op = 4 then -1 else if op = 5 ∨ op = 6 ∨ op = 21 ∨ op = 24 ∨ op = 25 then 1
  else if (7 ≤ op ∧ op ≤ 20) ∨ op = 22 ∨ op = 23 ∨ op = 26 then 2 else if op = 27 then 3 else -2
def namesOp (op : Int) : Bool := op == 3 || op == 24 || op == 25 || op == 26

set_option maxHeartbeats 400000 in
theorem parts_any (op : Int) (w : World) :
    Calls Tryz.prog 99 #[.int .i64 op] w fun e w' => e = .returned (.int .i64 (partsOf op)) ∧ w = w' := by
  go_enter Tryz.func99, Tryz.ntmps99
  go_wp2_with fail
  all_goals
    go_ret
    refine ⟨ret_int ?_, rfl⟩
    try simp at *
    unfold partsOf
    (repeat' split) <;> omega

def partsL : List Int := [0, 0, 0, -1, 1, 1, 2, 2, 2, 2, 2, 2, 2, 2, 2, 2, 2, 2, 2, 2, 1, 2, 2, 1, 1, 2, 3]
theorem partsL_eq : ∀ j : Nat, j < 27 → partsL[j]?.getD 0 = partsOf ((j : Int) + 1) := by decide

theorem partsL_val (j : Nat) (h : j < 27) (h' : j < (partsL.map (Value.int .i64)).length) : (partsL.map (Value.int .i64))[j]'h' = .int .i64 (partsL[j]?.getD 0) := by
  rw [List.getElem_map, List.getElem?_eq_getElem (show j < partsL.length from h)]; rfl

set_option maxHeartbeats 400000 in
theorem rparts_any (op : Int) (w : World) :
    Calls Tryz.prog 110 #[.int .i64 op] w fun e w' => e = .returned (.int .i64 (partsOf op)) ∧ Below w.heap.size w w' := by
  by_cases h : 1 ≤ op ∧ op ≤ 27
  · obtain ⟨j, rfl⟩ : ∃ j : Nat, op = (j : Int) + 1 := ⟨(op - 1).toNat, by omega⟩
    have hj : j < 27 := by omega
    have hr := partsL_eq j hj
    have HR := hid hr
    have hcell : (w.alloc (.cells (partsL.map (.int .i64)).toArray 3)).cell? ⟨w.heap.size, j, none⟩ = some (.int .i64 (partsL[j]?.getD 0)) := by
      rw [World.cell?_alloc_new]
      simp [List.getElem?_eq_getElem (show j < partsL.length from hj)]
    have hbel : Below w.heap.size w (w.alloc (.cells (partsL.map (.int .i64)).toArray 3)) := (Below.refl _ _).alloc (Nat.le_refl _) _
    go_enter Tryz.func110, Tryz.ntmps110
    go_wp2_with fail
    go_ret
    refine ⟨?_, hbel⟩
    rw [← HR.out]
    exact congrArg Ending.returned (partsL_val j hj _)
  · go_enter Tryz.func110, Tryz.ntmps110
    go_wp2_with fail
    all_goals
      go_ret
      refine ⟨ret_int ?_, Below.refl _ _⟩
      unfold partsOf
      (repeat' split) <;> omega

set_option maxHeartbeats 400000 in
theorem names_any (op : Int) (w : World) :
    Calls Tryz.prog 100 #[.int .i64 op] w fun e w' => e = .returned (.bool (namesOp op)) ∧ w = w' := by
  go_enter Tryz.func100, Tryz.ntmps100
  go_wp2_with fail
  all_goals (go_ret; refine ⟨ret_bool ?_, rfl⟩; simp [namesOp, *])
end Go.Proofs.YtnlikhjmmnaknaaGreatDoor
/-
  The walks of plain, the code's and the reference's.
-/
namespace Go.Proofs.YtnlikhjmmnaknaaGreatDoor
open Go.RowKit

def plainOf (op : Int) (name : ByteArray) (n : Int) (k : Nat) : Bool :=
  if partsOf op = -2 then false
  else if partsOf op = -1 ∧ (k < 1 ∨ 8 < k) then false
  else if 0 ≤ partsOf op ∧ (k : Int) ≠ partsOf op then false
  else if namesOp op = true ∨ op = 4 then isName name.data.toList && n == 0
  else if op = 1 then name.data.toList.isEmpty && decide (0 ≤ n)
  else if op = 2 then name.data.toList.isEmpty && (n == 0 || n == 1)
  else name.data.toList.isEmpty && n == 0

set_option maxHeartbeats 1000000 in
theorem plain_any (e : Ex) (B : Nat) (A : Option Addr) (cap : Nat) (w : World) (hE : ExAt B w e A cap) :
    Calls Tryz.prog 66 #[e.val A cap] w fun r w' => r = .returned (.bool (plainOf e.op e.name e.num e.k)) ∧ Below w.heap.size w w' := by
  obtain _ | ⟨op, name, n, k, arg, l, c⟩ := e
  · exact hE.elim
  obtain ⟨⟨_, hn, _, _, _, hk, hcap⟩, hargs⟩ := hE
  simp only [Ex.val, Ex.op, Ex.name, Ex.num, Ex.k, Ex.line, Ex.col]
  have hn' := hn
  unfold maxLen at hcap hn'
  have hcell : ∀ w', Below (w.heap.size + 1) (w.alloc (.cells #[.int .i64 op, .string name, .int .i64 n, .slice A k cap, .int .i64 l, .int .i64 c] 41)) w' → w'.cell? ⟨w.heap.size, 2, none⟩ = some (.int .i64 n) := fun w' h => by
    rw [h.cell (p := ⟨w.heap.size, 2, none⟩) (by simp), World.cell?_alloc_new]; rfl
  have HC := hid hcell
  have hb0 : Below w.heap.size w (w.alloc (.cells #[.int .i64 op, .string name, .int .i64 n, .slice A k cap, .int .i64 l, .int .i64 c] 41)) := (Below.refl _ _).alloc (Nat.le_refl _) _
  clear hcell
  go_enter Tryz.func66, Tryz.ntmps66
  go_wp2_with (first
    | (go_at_call 99; refine (parts_any _ _).mono ?_; rintro e w' ⟨rfl, rfl⟩)
    | (go_at_call 100; refine (names_any _ _).mono ?_; rintro e w' ⟨rfl, rfl⟩)
    | (go_at_call 48; refine (name_any _ _ hn).mono ?_; rintro e w' ⟨rfl, hb⟩; have hc2 := HC.out w' (by simpa using hb); replace hb := hb0.trans (hb.mono (by simp))))
  all_goals
    go_ret
    refine ⟨ret_bool ?_, (by first | assumption | exact (Below.refl _ _).alloc (Nat.le_refl _) _)⟩
    unfold plainOf
    try simp only [ByteArray.toList_eq] at *
    clear hb0 HC
    clear hargs
    grind [List.isEmpty_iff, namesOp]
end Go.Proofs.YtnlikhjmmnaknaaGreatDoor
/-
  The walk of the reference's plain.
-/
namespace Go.Proofs.YtnlikhjmmnaknaaGreatDoor
open Go.RowKit

set_option maxHeartbeats 1000000 in
theorem rplain_any (e : Ex) (B : Nat) (A : Option Addr) (cap : Nat) (w : World) (hE : ExAt B w e A cap) (hl : e.name.size ≤ 1000) :
    Calls Tryz.prog 90 #[e.val A cap] w fun r w' => r = .returned (.bool (plainOf e.op e.name e.num e.k)) ∧ Below w.heap.size w w' := by
  obtain _ | ⟨op, name, n, k, arg, l, c⟩ := e
  · exact hE.elim
  obtain ⟨⟨_, _, _, _, _, hk, hcap⟩, hargs⟩ := hE
  simp only [Ex.val, Ex.op, Ex.name, Ex.num, Ex.k, Ex.line, Ex.col] at *
  unfold maxLen at hcap
  have hcell : ∀ w', Below (w.heap.size + 1) (w.alloc (.cells #[.int .i64 op, .string name, .int .i64 n, .slice A k cap, .int .i64 l, .int .i64 c] 41)) w' →
      w'.cell? ⟨w.heap.size, 0, none⟩ = some (.int .i64 op) ∧ w'.cell? ⟨w.heap.size, 1, none⟩ = some (.string name) ∧ w'.cell? ⟨w.heap.size, 2, none⟩ = some (.int .i64 n) ∧ w'.cell? ⟨w.heap.size, 3, none⟩ = some (.slice A k cap) := fun w' h => by
    refine ⟨?_, ?_, ?_, ?_⟩
    · rw [h.cell (p := ⟨w.heap.size, 0, none⟩) (by simp), World.cell?_alloc_new]; rfl
    · rw [h.cell (p := ⟨w.heap.size, 1, none⟩) (by simp), World.cell?_alloc_new]; rfl
    · rw [h.cell (p := ⟨w.heap.size, 2, none⟩) (by simp), World.cell?_alloc_new]; rfl
    · rw [h.cell (p := ⟨w.heap.size, 3, none⟩) (by simp), World.cell?_alloc_new]; rfl
  have HC := hid hcell
  have HB : Hid (Below w.heap.size w (w.alloc (.cells #[.int .i64 op, .string name, .int .i64 n, .slice A k cap, .int .i64 l, .int .i64 c] 41))) := (Below.refl _ _).alloc (Nat.le_refl _) _
  clear hcell
  go_enter Tryz.func90, Tryz.ntmps90
  go_wp2_with fail
  refine (rparts_any _ _).mono ?_
  rintro e w1 ⟨rfl, hb⟩
  obtain ⟨c0, c1, c2, c3⟩ := HC.out w1 (by simpa using hb)
  have hb0 := HB.out.trans (hb.mono (by simp))
  clear HC HB hb
  go_wp2_with (go_at_call 50; refine (rname_any _ _ (by omega)).mono ?_; rintro e w' ⟨rfl, rfl⟩)
  all_goals
    go_ret
    refine ⟨ret_bool ?_, (by assumption)⟩
    unfold plainOf
    try simp only [ByteArray.toList_eq] at *
    clear hb0 c0 c1 c2 c3
    clear hargs
    first
      | grind [List.isEmpty_iff, namesOp]
      | (have e0 : (n == 0) = false := by simp; omega
         have e1 : (n == 1) = false := by simp; omega
         grind [List.isEmpty_iff, namesOp])
end Go.Proofs.YtnlikhjmmnaknaaGreatDoor
/-
  The walks of package tree's functions over expressions.
-/
namespace Go.Proofs.YtnlikhjmmnaknaaGreatDoor
open Go.RowKit

theorem maxTo_succ (f : Nat → Nat) (k : Nat) : maxTo f (k + 1) = max (maxTo f k) (f k) := rfl
theorem maxTo_le {f : Nat → Nat} {k j : Nat} (h : j ≤ k) : maxTo f j ≤ maxTo f k := by
  induction k with
  | zero => have : j = 0 := by omega
            subst this; exact Nat.le_refl _
  | succ k ih =>
    by_cases hj : j = k + 1
    · subst hj; exact Nat.le_refl _
    · exact Nat.le_trans (ih (by omega)) (by rw [maxTo_succ]; omega)
theorem le_maxTo {f : Nat → Nat} {k j : Nat} (h : j < k) : f j ≤ maxTo f k :=
  Nat.le_trans (by rw [maxTo_succ]; omega) (maxTo_le (f := f) (show j + 1 ≤ k by omega))

set_option maxHeartbeats 400000 in
theorem height_any (e : Ex) : ∀ (B : Nat) (A : Option Addr) (cap : Nat) (w : World), ExAt B w e A cap → B ≤ w.heap.size → e.height ≤ 1000000 →
    Calls Tryz.prog 67 #[e.val A cap] w fun r w' => r = .returned (.int .i64 e.height) ∧ Below w.heap.size w w' := by
  induction e with
  | junk => intro B A cap; intros; contradiction
  | mk op name n k arg l c ih =>
    intro B A cap w hE hB hh
    obtain ⟨⟨_, _, _, _, _, hk, hcap⟩, hargs⟩ := hE
    simp only [Ex.val, Ex.op, Ex.name, Ex.num, Ex.k, Ex.line, Ex.col]
    unfold maxLen at hcap
    have hmax : ∀ j, j ≤ k → maxTo (fun i => (arg i).height) j ≤ 999999 := fun j hj => by
      have := maxTo_le (f := fun i => (arg i).height) hj
      simp only [Ex.height] at hh; omega
    have hcap' : (k : Int) ≤ 9223372036854775807 := by omega
    go_enter Tryz.func67, Tryz.ntmps67
    go_wp2_with fail
    go_loopw [3, 9] (fun h i wr => ∃ j : Nat, j ≤ k ∧ i = .int .i64 j ∧ h = .int .i64 (maxTo (fun i => (arg i).height) j) ∧ Below w.heap.size w wr ∧ w.heap.size < wr.heap.size) (fun _ i _ => k - (intOf i).toNat)
    case atStart => exact ⟨0, by omega, rfl, rfl, (Below.refl _ _).alloc (Nat.le_refl _) _, by simp⟩
    case round =>
      obtain ⟨j, hj, rfl, rfl, hbel, hsz⟩ := hrel
      by_cases hlt : j < k
      · obtain ⟨b, o, A', cap', rfl, hb, hcells, hin⟩ := hargs j hlt
        have hc := hcells.keep (w' := wr) fun i => hbel.cell (p := ⟨b, i, none⟩) (by simp; omega)
        obtain ⟨c0, c1, c2, c3, c4, c5⟩ := hc
        clear hcells
        have hm := hmax (j + 1) (by omega)
        rw [maxTo_succ] at hm
        go_wp2_with fail
        refine (ih j B A' cap' _ (hin.below hB (hbel.alloc (by omega) _)) (by simp; omega) (by omega)).mono ?_
        rintro r w1 ⟨rfl, hb1⟩
        go_wp2_with fail
        go_roundw
        case rel =>
          refine ⟨j + 1, by omega, by go_num, ?_, (hbel.alloc (by omega) _).trans (hb1.mono (by simp; omega)), by have := hb1.size; simp at this; omega⟩
          rw [maxTo_succ]
          congr 1
          split <;> omega
        case measure => simp [intOf]; omega
      · have : j = k := by omega
        subst this
        have hm := hmax j (by omega)
        go_wp2_with fail
        go_ret
        exact ⟨ret_int (by simp [Ex.height]), hbel⟩
end Go.Proofs.YtnlikhjmmnaknaaGreatDoor
/-
  The walks over expressions: the reference's Height, the code's Size, room and Few.
-/
namespace Go.Proofs.YtnlikhjmmnaknaaGreatDoor
open Go.RowKit

set_option maxHeartbeats 400000 in
theorem rheight_any (e : Ex) : ∀ (B : Nat) (A : Option Addr) (cap : Nat) (w : World), ExAt B w e A cap → B ≤ w.heap.size → e.height ≤ 1000000 →
    Calls Tryz.prog 91 #[e.val A cap] w fun r w' => r = .returned (.int .i64 e.height) ∧ Below w.heap.size w w' := by
  induction e with
  | junk => intro B A cap; intros; contradiction
  | mk op name n k arg l c ih =>
    intro B A cap w hE hB hh
    obtain ⟨⟨_, _, _, _, _, hk, hcap⟩, hargs⟩ := hE
    simp only [Ex.val, Ex.op, Ex.name, Ex.num, Ex.k, Ex.line, Ex.col]
    unfold maxLen at hcap
    have hmax : ∀ j, j ≤ k → maxTo (fun i => (arg i).height) j ≤ 999999 := fun j hj => by
      have := maxTo_le (f := fun i => (arg i).height) hj
      simp only [Ex.height] at hh; omega
    have hcap' : (k : Int) ≤ 9223372036854775807 := by omega
    go_enter Tryz.func91, Tryz.ntmps91
    go_wp2_with fail
    go_loopw [3, 4, 5] (fun h i x wr => ∃ j : Nat, j ≤ k ∧ i = .int .i64 j ∧ h = .int .i64 (maxTo (fun i => (arg i).height) j) ∧ Below (w.heap.size + 1) (w.alloc (.cells #[.int .i64 op, .string name, .int .i64 n, .slice A k cap, .int .i64 l, .int .i64 c] 41)) wr) (fun _ i _ _ => k - (intOf i).toNat)
    case atStart => exact ⟨0, by omega, rfl, rfl, Below.refl _ _⟩
    case round =>
      obtain ⟨j, hj, rfl, rfl, hbel⟩ := hrel
      have hsl := boxed_cell hbel 3
      have hsz := boxed_size hbel
      have hw := boxed_below hbel
      by_cases hlt : j < k
      · obtain ⟨b, o, A', cap', rfl, hb, hcells, hin⟩ := hargs j hlt
        have hc := hcells.keep (w' := wr) fun i => hw.cell (p := ⟨b, i, none⟩) (by simp; omega)
        obtain ⟨c0, c1, c2, c3, c4, c5⟩ := hc
        clear hcells
        have hm := hmax (j + 1) (by omega)
        rw [maxTo_succ] at hm
        go_wp2_with fail
        refine (ih j B A' cap' _ (hin.below hB hw) (by omega) (by omega)).mono ?_
        rintro r w1 ⟨rfl, hb1⟩
        go_wp2_with fail
        all_goals
          go_roundw
          case rel =>
            refine ⟨j + 1, by omega, by go_num, ?_, hbel.trans (hb1.mono (by omega))⟩
            rw [maxTo_succ]
            congr 1
            omega
          case measure => simp [intOf]; omega
      · have : j = k := by omega
        subst this
        have hm := hmax j (by omega)
        go_wp2_with fail
        go_ret
        exact ⟨ret_int (by simp [Ex.height]), hw⟩

theorem sumTo_succ (f : Nat → Nat) (k : Nat) : sumTo f (k + 1) = sumTo f k + f k := rfl
theorem sumTo_le {f : Nat → Nat} {k j : Nat} (h : j ≤ k) : sumTo f j ≤ sumTo f k := by
  induction k with
  | zero => have : j = 0 := by omega
            subst this; exact Nat.le_refl _
  | succ k ih =>
    by_cases hj : j = k + 1
    · subst hj; exact Nat.le_refl _
    · exact Nat.le_trans (ih (by omega)) (by rw [sumTo_succ]; omega)

def roomTo (f : Nat → Int → Int) : Nat → Int → Int
  | 0, left => left
  | n + 1, left => if roomTo f n left < 0 then -1 else f n (roomTo f n left)
/-- how much room is left behind an expression -/
def Ex.room : Ex → Nat → Int → Int
  | .junk, _, _ => -1
  | .mk _ name _ k arg _ _, deep, left => if deep = 0 ∨ 30 < name.size then -1 else roomTo (fun i x => (arg i).room (deep - 1) x) k (left - 1)
/-- all names are short -/
def Ex.short : Ex → Prop
  | .junk => True
  | .mk _ name _ k arg _ _ => name.size ≤ 30 ∧ ∀ i, i < k → (arg i).short

theorem roomTo_bd {f : Nat → Int → Int} (hf : ∀ i x, 0 ≤ x → -1 ≤ f i x ∧ f i x ≤ x - 1) (left : Int) (h0 : -1 ≤ left) : ∀ n, -1 ≤ roomTo f n left ∧ roomTo f n left ≤ left := by
  intro n
  induction n with
  | zero => exact ⟨h0, Int.le_refl _⟩
  | succ n ih =>
    unfold roomTo
    split
    · omega
    · have := hf n (roomTo f n left) (by omega); omega
theorem room_bd : ∀ (e : Ex) (deep : Nat) (left : Int), 0 ≤ left → -1 ≤ e.room deep left ∧ e.room deep left ≤ left - 1 := by
  intro e
  induction e with
  | junk => intro deep left h; simp only [Ex.room]; omega
  | mk op name n k arg l c ih =>
    intro deep left h
    rw [Ex.room]
    split
    · omega
    · have := roomTo_bd (f := fun i x => (arg i).room (deep - 1) x) (fun i x hx => ih i _ x hx) (left - 1) (by omega) k
      omega
theorem roomTo_stop {f : Nat → Int → Int} {left : Int} {j : Nat} (h : roomTo f j left < 0) : ∀ k, j < k → roomTo f k left = -1 := by
  intro k
  induction k with
  | zero => intro h; omega
  | succ k ih =>
    intro hk
    unfold roomTo
    by_cases hj : j = k
    · subst hj; rw [if_pos h]
    · rw [ih (by omega), if_pos (by omega)]
theorem roomTo_sum {f : Nat → Int → Int} {g : Nat → Nat} {left : Int} (hf : ∀ i x, 0 ≤ f i x → f i x = x - g i) : ∀ k, 0 ≤ roomTo f k left → roomTo f k left = left - sumTo g k ∧ ∀ j, j ≤ k → 0 ≤ roomTo f j left := by
  intro k
  induction k with
  | zero => intro h; exact ⟨by simp [roomTo, sumTo], fun j hj => by have : j = 0 := by omega
                                                                    subst this; exact h⟩
  | succ k ih =>
    intro h
    unfold roomTo at h
    by_cases hn : roomTo f k left < 0
    · rw [if_pos hn] at h; omega
    · rw [if_neg hn] at h
      obtain ⟨h1, h2⟩ := ih (by omega)
      refine ⟨?_, fun j hj => ?_⟩
      · rw [roomTo, if_neg hn, hf _ _ h, h1, sumTo_succ]; omega
      · by_cases hjk : j = k + 1
        · subst hjk; rw [roomTo, if_neg hn]; exact h
        · exact h2 j (by omega)
/-- WHERE THERE IS ROOM: how much is taken; no higher than so; short names. -/
theorem room_fits : ∀ (e : Ex) (deep : Nat) (left : Int), 0 ≤ e.room deep left → e.room deep left = left - e.size ∧ e.height ≤ deep ∧ e.short := by
  intro e
  induction e with
  | junk => intro deep left h; simp only [Ex.room] at h; omega
  | mk op name n k arg l c ih =>
    intro deep left h
    rw [Ex.room] at h ⊢
    by_cases hc : deep = 0 ∨ 30 < name.size
    · rw [if_pos hc] at h; omega
    · rw [if_neg hc] at h ⊢
      obtain ⟨h1, h2⟩ := roomTo_sum (f := fun i x => (arg i).room (deep - 1) x) (g := fun i => (arg i).size) (fun i x hx => (ih i _ _ hx).1) k h
      have h3 : ∀ j, j < k → (arg j).height ≤ deep - 1 ∧ (arg j).short := fun j hj => by
        have := h2 (j + 1) (by omega)
        rw [roomTo, if_neg (by have := h2 j (by omega); omega)] at this
        exact (ih j _ _ this).2
      refine ⟨by rw [h1, Ex.size]; omega, ?_, by omega, fun i hi => (h3 i hi).2⟩
      have h4 : ∀ j, j ≤ k → maxTo (fun i => (arg i).height) j ≤ deep - 1 := by
        intro j
        induction j with
        | zero => intro _; simp [maxTo]
        | succ j ihj => intro hj; rw [maxTo_succ]; have := (h3 j (by omega)).1; have := ihj (by omega); omega
      have := h4 k (Nat.le_refl _)
      rw [Ex.height]; omega
end Go.Proofs.YtnlikhjmmnaknaaGreatDoor
/-
  The walks of room and Few: which expressions a statement speaks of.
-/
namespace Go.Proofs.YtnlikhjmmnaknaaGreatDoor
open Go.RowKit

set_option maxHeartbeats 400000 in
theorem room_any (e : Ex) : ∀ (B : Nat) (A : Option Addr) (cap : Nat) (left deep : Int) (w : World), ExAt B w e A cap → B ≤ w.heap.size → 0 ≤ left → left ≤ 1000000 → 0 ≤ deep → deep ≤ 1000000 →
    Calls Tryz.prog 34 #[e.val A cap, .int .i64 left, .int .i64 deep] w fun r w' => r = .returned (.int .i64 (e.room deep.toNat left)) ∧ Below w.heap.size w w' := by
  induction e with
  | junk => intro B A cap; intros; contradiction
  | mk op name n k arg l c ih =>
    intro B A cap left deep w hE hB h0 h1 h2 h3
    obtain ⟨⟨_, hns, _, _, _, hk, hcap⟩, hargs⟩ := hE
    simp only [Ex.val, Ex.op, Ex.name, Ex.num, Ex.k, Ex.line, Ex.col]
    unfold maxLen at hcap hns
    have hcap' : (k : Int) ≤ 9223372036854775807 := by omega
    by_cases hd : deep = 0 ∨ 30 < name.size
    · have hr : Hid ((Ex.mk op name n k arg l c).room deep.toNat left = -1) := by
        show _ = _
        rw [Ex.room, if_pos (by omega)]
      go_enter Tryz.func34, Tryz.ntmps34
      go_wp2_with fail
      all_goals first
        | (go_ret; exact ⟨by rw [hr.out]; rfl, (Below.refl _ _).alloc (Nat.le_refl _) _⟩)
        | (exfalso; omega)
    · have hd1 : 1 ≤ deep := by omega
      have hd2 : name.size ≤ 30 := by omega
      have hde : (deep == 0) = false := by simp; omega
      have hr : Hid ((Ex.mk op name n k arg l c).room deep.toNat left = roomTo (fun i x => (arg i).room (deep.toNat - 1) x) k (left - 1)) := by
        show _ = _
        rw [Ex.room, if_neg (by omega)]
      have hbd : Hid (∀ j, -1 ≤ roomTo (fun i x => (arg i).room (deep.toNat - 1) x) j (left - 1) ∧ roomTo (fun i x => (arg i).room (deep.toNat - 1) x) j (left - 1) ≤ left - 1) :=
        roomTo_bd (f := fun i x => (arg i).room (deep.toNat - 1) x) (fun i x hx => room_bd _ _ x hx) (left - 1) (by omega)
      clear hd
      go_enter Tryz.func34, Tryz.ntmps34
      go_wp2_with fail
      go_loopw [1, 22] (fun h i wr => ∃ j : Nat, j ≤ k ∧ i = .int .i64 j ∧ h = .int .i64 (roomTo (fun i x => (arg i).room (deep.toNat - 1) x) j (left - 1)) ∧ Below w.heap.size w wr ∧ w.heap.size < wr.heap.size) (fun _ i _ => k - (intOf i).toNat)
      case atStart => exact ⟨0, by omega, rfl, rfl, (Below.refl _ _).alloc (Nat.le_refl _) _, by simp⟩
      case round =>
        obtain ⟨j, hj, rfl, rfl, hbel, hsz⟩ := hrel
        have hbj := hbd.out j
        by_cases hlt : j < k
        · obtain ⟨b, o, A', cap', rfl, hb, hcells, hin⟩ := hargs j hlt
          have hc := hcells.keep (w' := wr) fun i => hbel.cell (p := ⟨b, i, none⟩) (by simp; omega)
          obtain ⟨c0, c1, c2, c3, c4, c5⟩ := hc
          clear hcells
          by_cases hneg : roomTo (fun i x => (arg i).room (deep.toNat - 1) x) j (left - 1) < 0
          · have hst := hid (roomTo_stop hneg k hlt)
            go_wp2_with fail
            go_ret
            exact ⟨by rw [hr.out, hst.out]; rfl, hbel.alloc (by omega) _⟩
          · have hst : Hid (roomTo (fun i x => (arg i).room (deep.toNat - 1) x) (j + 1) (left - 1) = (arg j).room (deep.toNat - 1) (roomTo (fun i x => (arg i).room (deep.toNat - 1) x) j (left - 1))) := by
              show _ = _
              rw [roomTo, if_neg hneg]
            generalize roomTo (fun i x => (arg i).room (deep.toNat - 1) x) j (left - 1) = x at *
            go_wp2_with fail
            refine (ih j B A' cap' x (deep - 1) _ (hin.below hB (hbel.alloc (by omega) _)) (by simp; omega) (by omega) (by omega) (by omega) (by omega)).mono ?_
            rintro r w1 ⟨rfl, hb1⟩
            go_wp2_with fail
            go_roundw
            case rel =>
              refine ⟨j + 1, by omega, by go_num, ?_, (hbel.alloc (by omega) _).trans (hb1.mono (by simp; omega)), by have := hb1.size; simp at this; omega⟩
              rw [hst.out]
            case measure => simp [intOf]; omega
        · have : j = k := by omega
          subst this
          go_wp2_with fail
          go_ret
          exact ⟨by rw [hr.out]; rfl, hbel⟩

/-- the expressions of which the statements speak -/
def Ex.few (e : Ex) : Bool := decide (0 ≤ e.room 50 200)
theorem Ex.few_fits {e : Ex} (h : e.few = true) : e.size ≤ 200 ∧ e.height ≤ 50 ∧ e.short := by
  have h0 : 0 ≤ e.room 50 200 := by simpa [Ex.few] using h
  obtain ⟨h1, h2, h3⟩ := room_fits e 50 200 h0
  exact ⟨by omega, h2, h3⟩

set_option maxHeartbeats 400000 in
theorem few_any (e : Ex) (B : Nat) (A : Option Addr) (cap : Nat) (w : World) (hE : ExAt B w e A cap) (hB : B ≤ w.heap.size) :
    Calls Tryz.prog 14 #[e.val A cap] w fun r w' => r = .returned (.bool e.few) ∧ Below w.heap.size w w' := by
  have hE1 : Hid (ExAt B (w.alloc (.cells #[.int .i64 e.op, .string e.name, .int .i64 e.num, .slice A e.k cap, .int .i64 e.line, .int .i64 e.col] 41)) e A cap) := hE.below hB ((Below.refl _ _).alloc (Nat.le_refl _) _)
  unfold Ex.val
  go_enter Tryz.func14, Tryz.ntmps14
  go_wp2_with fail
  refine (room_any e B A cap 200 50 _ hE1.out (by simp; omega) (by omega) (by omega) (by omega) (by omega)).mono ?_
  rintro r w1 ⟨rfl, hb1⟩
  go_wp2_with fail
  go_ret
  exact ⟨rfl, ((Below.refl _ _).alloc (Nat.le_refl _) _).trans (hb1.mono (by simp))⟩
end Go.Proofs.YtnlikhjmmnaknaaGreatDoor
/-
  The iterator over an expression and all within it: its contract.
-/
namespace Go.Proofs.YtnlikhjmmnaknaaGreatDoor
open Go.RowKit Go.Shelf
attribute [local go_sem] Oper.semAt_some

def flatTo {α : Type} (f : Nat → List α) : Nat → List α
  | 0 => []
  | n + 1 => flatTo f n ++ f n
theorem flatTo_succ {α : Type} (f : Nat → List α) (k : Nat) : flatTo f (k + 1) = flatTo f k ++ f k := rfl
theorem flatTo_prefix {α : Type} {f : Nat → List α} {k j : Nat} (h : j ≤ k) : flatTo f j <+: flatTo f k := by
  induction k with
  | zero => have : j = 0 := by omega
            subst this; exact List.prefix_refl _
  | succ k ih =>
    by_cases hj : j = k + 1
    · subst hj; exact List.prefix_refl _
    · exact (ih (by omega)).trans (by rw [flatTo_succ]; exact List.prefix_append _ _)
theorem flatTo_le {α : Type} {f : Nat → List α} {k j : Nat} (h : j ≤ k) : (flatTo f j).length ≤ (flatTo f k).length := (flatTo_prefix h).length_le
/-- an expression and all within it, in order -/
def Ex.pre : Ex → List Ex
  | .junk => []
  | .mk op name n k arg l c => .mk op name n k arg l c :: flatTo (fun i => (arg i).pre) k

/-- An expression that lies in a world, below a block. -/
def Loc (B : Nat) (w : World) : Type := { x : Ex × Option Addr × Nat // ExAt B w x.1 x.2.1 x.2.2 }
def Loc.e {B : Nat} {w : World} (x : Loc B w) : Ex := x.1.1
def Loc.val {B : Nat} {w : World} (x : Loc B w) : Value := x.1.1.val x.1.2.1 x.1.2.2

theorem room_none {F : Fence} (hd : F.depth = none) (k : Nat) : F.room k := fun d h => by rw [hd] at h; cases h
theorem round_any {F : Fence} (hd : F.depth = none) {m m' : Nat} {P : Program} {l : Nat} {f : FuncId} {tmps : Array Value} {assign body : Code} {w : World} {R : Ending → World → Prop}
    (h : RoundIn F m P l f tmps assign body w R) : RoundIn F m' P l f tmps assign body w R := ⟨h.1, fun c cs _ => h.2 c cs (room_none hd _)⟩
theorem yield_any {F : Fence} (hd : F.depth = none) {m : Nat} (m' : Nat) {P : Program} {l : Nat} {args : Array Value} {W : World} {R : Ending → World → Prop} (h : YieldAt F m P l args W R) : YieldAt F m' P l args W R := by
  obtain ⟨fn, tmps, assign, body, hy, hR⟩ := h
  exact ⟨fn, tmps, assign, body, hy, round_any hd hR⟩

/-- What a round keeps: what lies below a block; every block of expressions' cells. -/
structure KeepEx (B : Nat) (W W' : World) : Prop where
  below : Below B W W'
  ex : ∀ (k : Nat) (cs : Array Value), W.heap[k]? = some (.cells cs 41 (0, 0)) → W'.heap[k]? = some (.cells cs 41 (0, 0))
theorem KeepEx.refl (B : Nat) (W : World) : KeepEx B W W := ⟨Below.refl _ _, fun _ _ h => h⟩
theorem KeepEx.trans {B : Nat} {a b c : World} (h : KeepEx B a b) (k : KeepEx B b c) : KeepEx B a c := ⟨h.below.trans k.below, fun i cs hi => k.ex i cs (h.ex i cs hi)⟩
theorem KeepEx.alloc {B : Nat} {a w : World} (h : KeepEx B a w) (hB : B ≤ w.heap.size) (o : Obj) : KeepEx B a (w.alloc o) :=
  ⟨h.below.alloc hB o, fun i cs hi => by
    have h1 := h.ex i cs hi
    have hlt : i < w.heap.size := (Array.getElem?_eq_some_iff.1 h1).1
    exact (Below.heap_alloc w o i hlt).trans h1⟩
theorem KeepEx.boxed {B : Nat} {w wr : World} {cs : Array Value} (h : KeepEx B (w.alloc (.cells cs 41)) wr) (i : Nat) : wr.cell? ⟨w.heap.size, i, none⟩ = cs[i]? := by
  have := h.ex w.heap.size cs (World.alloc_heap_new w _)
  simp [World.cell?, this]
theorem keepEx_t {B : Nat} : ∀ {a b c : World}, KeepEx B a b → KeepEx B b c → KeepEx B a c := KeepEx.trans
theorem keepEx_b {B : Nat} {w : World} (hB : B ≤ w.heap.size) : ∀ (W : World) (l : Nat) (o o' : Obj), w.heap.size ≤ l → W.heap[l]? = some o → o.isCells = false → o.isWalk = false → KeepEx B W (W.putObj l o') := fun W l o o' hl ho hc hw =>
  ⟨belowK_b hB W l o o' hl ho hc hw, fun i cs hi => by
    have hne : i ≠ l := fun e => by subst e; rw [hi] at ho; cases ho; cases hc
    rw [World.putObj_heap_other hne]; exact hi⟩

/-- what the walk over an expression comes to -/
def Walked {B : Nat} {w0 : World} (J Jx : List (Loc B w0) → World → Prop) (e : Ex) (pre : List (Loc B w0)) (W : World) (r : Ending) (W' : World) : Prop :=
  (r = .returned (.bool true) ∧ ∃ ys : List (Loc B w0), ys.map (·.e) = e.pre ∧ J (pre ++ ys) W' ∧ KeepEx B W W') ∨
  (r = .returned (.bool false) ∧ ∃ ys : List (Loc B w0), ys.map (·.e) <+: e.pre ∧ Jx (pre ++ ys) W')

set_option maxRecDepth 100000 in
set_option maxHeartbeats 1000000 in
theorem treeWalk_any (B : Nat) (w0 : World) (hB0 : B ≤ w0.heap.size) (l N B0 : Nat) (J Jx : List (Loc B w0) → World → Prop) (hJ : AbidesFrom B0 J)
    (hY : ∀ m pre x W, J pre W → pre.length < N → YieldAt Fence.wide m Tryz.prog l #[x.val] W fun e W' =>
      (e = .returned (.bool true) ∧ J (pre ++ [x]) W' ∧ KeepEx B W W') ∨ (e = .returned (.bool false) ∧ Jx (pre ++ [x]) W')) (e : Ex) :
    ∀ (n : Nat) (A : Option Addr) (cap : Nat) (pre : List (Loc B w0)) (W : World), ExAt B w0 e A cap → Below B w0 W → J pre W → pre.length + e.pre.length ≤ N →
      CallsIn Fence.wide n Tryz.prog 98 #[e.val A cap, .func (.yield l) #[] #[]] W (Walked J Jx e pre W) := by
  induction e with
  | junk => intro n A cap pre W h; exact h.elim
  | mk op name nn k arg ll c ih =>
    intro n A cap pre W hE hBW hJp hN
    have hBs := Nat.le_trans hB0 hBW.size
    have hdd : ∀ k : Nat, (Fence.wide.depth.isSome = true → 1 ≤ k) := fun k h => by cases h
    have hx : ∃ x : Loc B w0, x.e = .mk op name nn k arg ll c ∧ x.val = (Ex.mk op name nn k arg ll c).val A cap := ⟨⟨(_, A, cap), hE⟩, rfl, rfl⟩
    obtain ⟨x, hxe, hxv⟩ := hx
    have hxe' := hid hxe
    clear hxe
    obtain ⟨⟨_, _, _, _, _, hk, hcap⟩, hargs⟩ := hE
    unfold maxLen at hcap
    simp only [Ex.val, Ex.op, Ex.name, Ex.num, Ex.k, Ex.line, Ex.col] at hxv ⊢
    have hJ1 : J pre (W.alloc (.cells #[.int .i64 op, .string name, .int .i64 nn, .slice A k cap, .int .i64 ll, .int .i64 c] 41)) := hJ pre W _ none hJp (World.grownBy_alloc W _ none) (fun r e => by cases e)
    obtain ⟨fn, tmps, assign, body, hy, hR⟩ := hY (n - 1) pre x _ hJ1 (by simp [Ex.pre] at hN; omega)
    rw [hxv] at hy
    clear hxv hY hJ1
    refine callsIn_of_wp Tryz.func98 rfl trivial ?_ rfl
    simp only [Tryz.ntmps98, List.size_toArray, List.length_cons, List.length_nil, Nat.reduceAdd, Nat.reduceSub, Array.replicate_succ, Array.replicate_zero, List.push_toArray, List.append_toArray, List.nil_append, List.cons_append]
    gi_wp2_with ((try refine ⟨hdd _, ?_⟩); refine hR.mono ?_; clear hR; rintro e W2 (⟨rfl, hJ2, hb2⟩ | ⟨rfl, hx2⟩); have hsl := hb2.boxed 3)
    · have hcap' : (k : Int) ≤ 9223372036854775807 := by omega
      gi_loopw [6, 14] (fun v i wr => ∃ (j : Nat) (ys : List (Loc B w0)), j ≤ k ∧ i = .int .i64 j ∧ Hid (ys.map (·.e) = flatTo (fun i => (arg i).pre) j) ∧ J (pre ++ x :: ys) wr ∧ KeepEx B W wr) (fun _ i _ => k - (intOf i).toNat)
      case atStart => exact ⟨0, [], by omega, rfl, rfl, hJ2, ((KeepEx.refl _ _).alloc hBs _).trans hb2⟩
      case round =>
        obtain ⟨j, ys, hj, rfl, hys, hJw, hkw⟩ := hrel
        have hbw := hBW.trans hkw.below
        by_cases hlt : j < k
        · obtain ⟨b, o, A', cap', rfl, hb, hcells, hin⟩ := hargs j hlt
          have hc := hcells.keep (w' := wr) fun i => hbw.cell (p := ⟨b, i, none⟩) (by simp; omega)
          obtain ⟨c0, c1, c2, c3, c4, c5⟩ := hc
          clear hcells
          have hBr := Nat.le_trans hBs hkw.below.size
          have hflat := flatTo_le (f := fun i => (arg i).pre) (show j + 1 ≤ k from hlt)
          have hlen : (pre ++ x :: ys).length + (arg j).pre.length ≤ N := by
            have h1 : ys.length = (flatTo (fun i => (arg i).pre) j).length := by rw [← hys.out, List.length_map]
            simp only [Ex.pre, List.length_cons] at hN
            rw [flatTo_succ, List.length_append] at hflat
            simp only [List.length_append, List.length_cons]
            omega
          clear hflat
          gi_wp2_with fail
          refine ⟨trivial, hdd _, ?_⟩
          refine (ih j (n - 1) A' cap' (pre ++ x :: ys) _ hin (hbw.alloc hBr _) (hJ _ wr _ none hJw (World.grownBy_alloc wr _ none) (fun r e => by cases e)) hlen).mono ?_
          rintro e W3 (⟨rfl, zs, hzs, hJ3, hk3⟩ | ⟨rfl, zs, hzs, hx3⟩)
          · gi_wp2
            go_roundw
            case rel =>
              refine ⟨j + 1, ys ++ zs, by omega, by go_num, ?_, by simpa using hJ3, (hkw.alloc hBr _).trans hk3⟩
              show _ = _
              rw [List.map_append, hys.out, hzs, flatTo_succ]
            case measure => simp [intOf]; omega
          · gi_wp2
            go_ret
            refine .inr ⟨rfl, x :: (ys ++ zs), ?_, by simpa using hx3⟩
            obtain ⟨t, ht⟩ := hzs
            obtain ⟨t', ht'⟩ := flatTo_prefix (f := fun i => (arg i).pre) (show j + 1 ≤ k from hlt)
            refine ⟨t ++ t', ?_⟩
            simp only [List.map_cons, List.map_append, hys.out, hxe'.out, Ex.pre, List.cons_append]
            rw [flatTo_succ] at ht'
            rw [← ht', ← ht]
            simp
        · have : j = k := by omega
          subst this
          gi_wp2
          go_ret
          exact .inl ⟨rfl, x :: ys, by simp [hys.out, hxe'.out, Ex.pre], hJw, hkw⟩
    · go_ret
      exact .inr ⟨rfl, [x], by simp [hxe'.out, Ex.pre], hx2⟩
end Go.Proofs.YtnlikhjmmnaknaaGreatDoor
/-
  The code's Right, a range over the iterator.
-/
namespace Go.Proofs.YtnlikhjmmnaknaaGreatDoor
open Go.RowKit Go.Shelf
attribute [local go_sem] Oper.semAt_some

set_option maxRecDepth 100000 in
set_option maxHeartbeats 1000000 in
/-- the function that All hands back -/
theorem all1_in (B : Nat) (w0 : World) (hB0 : B ≤ w0.heap.size) (n l Bt B0 : Nat) (e : Ex) (A : Option Addr) (cap : Nat) (J Jx : List (Loc B w0) → World → Prop) (hJ : AbidesFrom B0 J)
    (hY : ∀ pre x W, J pre W → pre.length < e.pre.length → YieldAt Fence.wide (n - 1) Tryz.prog l #[x.val] W fun r W' =>
      (r = .returned (.bool true) ∧ J (pre ++ [x]) W' ∧ KeepEx B W W') ∨ (r = .returned (.bool false) ∧ Jx (pre ++ [x]) W'))
    (W : World) (hBt : W.heap[Bt]? = some (.cells #[.int .i64 e.op, .string e.name, .int .i64 e.num, .slice A e.k cap, .int .i64 e.line, .int .i64 e.col] 41 (0, 0)))
    (hE : ExAt B w0 e A cap) (hBW : Below B w0 W) (h0 : J [] W) :
    CallsIn Fence.wide n Tryz.prog 97 #[.func (.yield l) #[] #[], .pointer (some ⟨Bt, 0, none⟩)] W fun r W' => (∃ v, r = .returned v) ∧
      ((∃ ys : List (Loc B w0), ys.map (·.e) = e.pre ∧ J ys W') ∨ (∃ ys : List (Loc B w0), ys.map (·.e) <+: e.pre ∧ Jx ys W')) := by
  have hdd : ∀ k : Nat, (Fence.wide.depth.isSome = true → 1 ≤ k) := fun k h => by cases h
  have hp := treeWalk_any B w0 hB0 l e.pre.length B0 J Jx hJ (fun m pre x W hj hl => yield_any rfl m (hY pre x W hj hl)) e (n - 1) A cap [] W hE hBW h0 (by simp)
  unfold Ex.val at hp
  have c0 : W.cell? ⟨Bt, 0, none⟩ = some (.int .i64 e.op) := by simp [World.cell?, hBt]
  have c1 : W.cell? ⟨Bt, 1, none⟩ = some (.string e.name) := by simp [World.cell?, hBt]
  have c2 : W.cell? ⟨Bt, 2, none⟩ = some (.int .i64 e.num) := by simp [World.cell?, hBt]
  have c3 : W.cell? ⟨Bt, 3, none⟩ = some (.slice A e.k cap) := by simp [World.cell?, hBt]
  have c4 : W.cell? ⟨Bt, 4, none⟩ = some (.int .i64 e.line) := by simp [World.cell?, hBt]
  have c5 : W.cell? ⟨Bt, 5, none⟩ = some (.int .i64 e.col) := by simp [World.cell?, hBt]
  clear hBt
  refine callsIn_of_wp Tryz.func97 rfl trivial ?_ rfl
  simp only [Tryz.ntmps97, List.size_toArray, List.length_cons, List.length_nil, Nat.reduceAdd, Nat.reduceSub, Array.replicate_succ, Array.replicate_zero, List.push_toArray, List.append_toArray, List.nil_append, List.cons_append]
  gi_wp2_with fail
  refine ⟨trivial, hdd _, ?_⟩
  refine hp.mono ?_
  rintro r W1 (⟨rfl, ys, hys, hJ1, _⟩ | ⟨rfl, ys, hys, hx⟩)
  · gi_wp2
    go_end0
    exact ⟨⟨_, rfl⟩, .inl ⟨ys, hys, by simpa using hJ1⟩⟩
  · gi_wp2
    go_end0
    exact ⟨⟨_, rfl⟩, .inr ⟨ys, hys, by simpa using hx⟩⟩

set_option maxHeartbeats 400000 in
theorem all_any (e : Ex) (A : Option Addr) (cap : Nat) (w : World) :
    Calls Tryz.prog 65 #[e.val A cap] w fun r w' => r = .returned (.func (.func 97) #[] #[.pointer (some ⟨w.heap.size, 0, none⟩)]) ∧
      w.alloc (.cells #[.int .i64 e.op, .string e.name, .int .i64 e.num, .slice A e.k cap, .int .i64 e.line, .int .i64 e.col] 41) = w' := by
  unfold Ex.val
  go_enter Tryz.func65, Tryz.ntmps65
  go_wp2_with fail
  go_ret
  exact ⟨rfl, rfl⟩

theorem all_stops (n B : Nat) (w0 : World) (hB0 : B ≤ w0.heap.size) (Bt : Nat) (e : Ex) (A : Option Addr) (cap : Nat) (w : World) (hBt : Bt < w.heap.size)
    (hc : w.heap[Bt]? = some (.cells #[.int .i64 e.op, .string e.name, .int .i64 e.num, .slice A e.k cap, .int .i64 e.line, .int .i64 e.col] 41 (0, 0)))
    (hE : ExAt B w0 e A cap) (hBW : Below B w0 w) :
    SeqStopsK Fence.wide n Tryz.prog 97 #[.pointer (some ⟨Bt, 0, none⟩)] (fun x : Loc B w0 => #[x.val]) (KeepEx B) (fun ys => ys.map (·.e) = e.pre) (fun ys => ys.map (·.e) <+: e.pre) e.pre.length w := fun l J Jx W hW hJ _ hY h0 =>
  all1_in B w0 hB0 n l Bt W.heap.size e A cap J Jx hJ hY W ((hW.block Bt hBt).trans hc) hE (hBW.trans (hW.mono (Nat.le_trans hB0 hBW.size))) h0

/-- what a quiet call keeps -/
theorem keepEx_of_below {B : Nat} {W W' : World} (h : Below W.heap.size W W') (hB : B ≤ W.heap.size) : KeepEx B W W' :=
  ⟨h.mono hB, fun k _ hk => (h.block k (Array.getElem?_eq_some_iff.1 hk).1).trans hk⟩
theorem keepsFrom_of_below {B : Nat} {W W' : World} (h : Below W.heap.size W W') : KeepsFrom B W W' :=
  ⟨h.size, fun k _ _ hk _ => (h.block k (Array.getElem?_eq_some_iff.1 hk).1).trans hk⟩
theorem ownFrom_keepEx {β : Type} {B B' : Nat} {w0 : World} (hn : B ≤ w0.heap.size) (hB : B ≤ B') : OwnFrom B' (fun (_ : β) W => KeepEx B w0 W) :=
  fun s X Y row hs hg hr => ⟨ownFrom_below (β := β) hn hB s X Y row hs.below hg hr, fun k cs hk => by
    have h1 := hs.ex k cs hk
    refine (hg.block k (Array.getElem?_eq_some_iff.1 h1).1 (fun e => ?_)).trans h1
    obtain ⟨_, o, ho, hc⟩ := hr k e.symm
    rw [h1] at ho; cases ho; cases hc⟩
/-- a loop variable's block of expression cells -/
def ExBox (W : World) (b : Nat) (e : Ex) (A : Option Addr) (cap : Nat) : Prop :=
  W.heap[b]? = some (.cells #[.int .i64 e.op, .string e.name, .int .i64 e.num, .slice A e.k cap, .int .i64 e.line, .int .i64 e.col] 41 (0, 0))
theorem ExBox.own {β : Type} (B b : Nat) (e : Ex) (A : Option Addr) (cap : Nat) : OwnFrom B (fun (_ : β) W => ExBox W b e A cap) :=
  fun s X Y row hs hg hr => by
    have h1 : X.heap[b]? = _ := hs
    refine (hg.block b (Array.getElem?_eq_some_iff.1 h1).1 (fun e => ?_)).trans h1
    obtain ⟨_, o, ho, hc⟩ := hr b e.symm
    rw [h1] at ho; cases ho; cases hc
theorem ExBox.keep {W W' : World} {B b : Nat} {e : Ex} {A : Option Addr} {cap : Nat} (h : ExBox W b e A cap) (hk : KeepEx B W W') : ExBox W' b e A cap := hk.ex _ _ h
theorem ExBox.cells {W : World} {b : Nat} {e : Ex} {A : Option Addr} {cap : Nat} (h : ExBox W b e A cap) :
    W.cell? ⟨b, 0, none⟩ = some (.int .i64 e.op) ∧ W.cell? ⟨b, 1, none⟩ = some (.string e.name) ∧ W.cell? ⟨b, 2, none⟩ = some (.int .i64 e.num) ∧ W.cell? ⟨b, 3, none⟩ = some (.slice A e.k cap) ∧
    W.cell? ⟨b, 4, none⟩ = some (.int .i64 e.line) ∧ W.cell? ⟨b, 5, none⟩ = some (.int .i64 e.col) := by
  unfold ExBox at h
  refine ⟨?_, ?_, ?_, ?_, ?_, ?_⟩ <;> simp [World.cell?, h]

theorem KeepEx.box {B b : Nat} {t : TypeId} {W : World} {v : Value} (h : Boxed W b t v) (hB : B ≤ b) (ht : t ≠ 41) (u : Value) : KeepEx B W (W.setCell ⟨b, 0, none⟩ u) :=
  ⟨(Below.refl _ _).setCell (p := ⟨b, 0, none⟩) hB u, fun k cs hk => by
    have hne : k ≠ b := fun e => by
      subst e
      rw [show W.heap[k]? = _ from h] at hk
      injection hk with hk; injection hk with _ hk; exact ht hk
    rw [Below.heap_setCell W ⟨b, 0, none⟩ u k hne]; exact hk⟩

def plainE (e : Ex) : Bool := plainOf e.op e.name e.num e.k
/-- is an expression right? -/
def Ex.right (e : Ex) : Bool := e.pre.all plainE && decide (e.height ≤ 30)

set_option maxRecDepth 100000 in
set_option maxHeartbeats 1000000 in
theorem right_any (e : Ex) (B : Nat) (A : Option Addr) (cap : Nat) (w : World) (hE : ExAt B w e A cap) (hB : B ≤ w.heap.size) (hh : e.height ≤ 1000000) :
    Calls Tryz.prog 35 #[e.val A cap] w fun r w' => r = .returned (.bool e.right) ∧ Below w.heap.size w w' := by
  have hE' := ExAt.more hB e A cap hE
  refine (callsIn_wide (n := 5)).1 ?_
  refine callsIn_of_wp_marks Tryz.func35 rfl trivial ?_ rfl
  simp only [Tryz.ntmps35, List.size_toArray, List.length_cons, List.length_nil, Nat.reduceAdd, Nat.reduceSub, Array.replicate_succ, Array.replicate_zero, List.push_toArray, List.append_toArray, List.nil_append, List.cons_append]
  simp only [Ex.val]
  gi_wp2_with fail
  refine ⟨trivial, ?_⟩
  refine (callsIn_wide.2 (all_any e A cap _)).mono ?_
  rintro r w' ⟨rfl, rfl⟩
  gi_wp2_with fail
  have hW : ∃ WL, WL = (((w.alloc (.cells #[.int .i64 e.op, .string e.name, .int .i64 e.num, .slice A e.k cap, .int .i64 e.line, .int .i64 e.col] 41)).alloc (.cells #[.bool false] 4)).alloc (.cells #[.int .i64 e.op, .string e.name, .int .i64 e.num, .slice A e.k cap, .int .i64 e.line, .int .i64 e.col] 41)) := ⟨_, rfl⟩
  obtain ⟨WL, hWL⟩ := hW
  rw [← hWL]
  have hsz : WL.heap.size = w.heap.size + 3 := by rw [hWL]; simp
  have hbL : Below w.heap.size w WL := by rw [hWL]; exact (((Below.refl _ _).alloc (Nat.le_refl _) _).alloc (by simp) _).alloc (by simp; omega) _
  have hx0 : ExBox WL w.heap.size e A cap := by
    rw [hWL]; unfold ExBox
    rw [Below.heap_alloc _ _ _ (by simp; omega), Below.heap_alloc _ _ _ (by simp)]; exact World.alloc_heap_new w _
  have hx2 : ExBox WL (w.heap.size + 1 + 1) e A cap := by
    rw [hWL]; unfold ExBox
    have := World.alloc_heap_new ((w.alloc (.cells #[.int .i64 e.op, .string e.name, .int .i64 e.num, .slice A e.k cap, .int .i64 e.line, .int .i64 e.col] 41)).alloc (.cells #[.bool false] 4)) (.cells #[.int .i64 e.op, .string e.name, .int .i64 e.num, .slice A e.k cap, .int .i64 e.line, .int .i64 e.col] 41)
    simpa only [World.size_alloc] using this
  have hr : Boxed WL (w.heap.size + 1) 4 (.bool false) := by
    rw [hWL]; unfold Boxed
    rw [Below.heap_alloc _ _ _ (by simp)]
    have := World.alloc_heap_new (w.alloc (.cells #[.int .i64 e.op, .string e.name, .int .i64 e.num, .slice A e.k cap, .int .i64 e.line, .int .i64 e.col] 41)) (.cells #[.bool false] 4)
    simpa only [World.size_alloc] using this
  clear hWL
  refine wpIn_rangeFunc_ownH rfl (by omega) (gf := 97) (lb := #[.pointer (some ⟨w.heap.size + 1 + 1, 0, none⟩)]) rfl trivial (enters_of Tryz.func97 (by kernel_rfl) rfl)
    (all_stops _ w.heap.size w (Nat.le_refl _) (w.heap.size + 1 + 1) e A cap WL (by omega) hx2 hE' hbL) keepEx_t (keepEx_b (by omega)) (Below.refl _ _) (fun _ => rfl)
    (fun pre W => ((∀ y ∈ pre, plainE y.e = true) ∧ Boxed W (w.heap.size + 1) 4 (.bool false)) ∧ KeepEx w.heap.size WL W)
    (fun c pre W => ((c = .ret ∧ ∃ y ∈ pre, plainE y.e = false) ∧ Boxed W (w.heap.size + 1) 4 (.bool false)) ∧ KeepEx w.heap.size WL W)
    (OwnFrom.and (OwnFrom.and (ownFrom_pure _ _) (Own.from (boxed_own _ _ _) _)) (ownFrom_keepEx (by omega) (by omega)))
    (fun c => OwnFrom.and (OwnFrom.and (ownFrom_pure _ _) (Own.from (boxed_own _ _ _) _)) (ownFrom_keepEx (by omega) (by omega)))
    ⟨⟨by simp, hr⟩, KeepEx.refl _ _⟩
    (fun x a' W => ∃ Bx, WL.heap.size ≤ Bx ∧ ExBox W Bx x.1.1 x.1.2.1 x.1.2.2 ∧ a' = { tmps := #[e.val A cap, .pointer (some ⟨w.heap.size, 0, none⟩), .pointer (some ⟨w.heap.size + 1, 0, none⟩), .pointer (some ⟨Bx, 0, none⟩), e.val A cap, .func (.func 97) #[] #[.pointer (some ⟨w.heap.size + 1 + 1, 0, none⟩)], x.val, undef, undef, undef, undef, undef, undef], defers := [] })
    (fun x a' s X Y row hs hg hr => by
      obtain ⟨Bx, h1, h2, h3⟩ := hs
      exact ⟨Bx, h1, ExBox.own (β := Unit) _ Bx _ _ _ () X Y row h2 hg hr, h3⟩)
    ?assign ?body ?done ?stop
  case assign =>
    rintro l pre x W K ⟨⟨hp, hb⟩, hk⟩ hK
    simp only [Loc.val, Ex.val] at hK ⊢
    gi_wp2
    exact hK _ _ ((KeepsOthers.alloc _ _).from _) ((KeepEx.refl _ W).alloc (by have := hk.below.size; omega) _) ⟨⟨hp, hb.alloc _⟩, hk.alloc (by have := hk.below.size; omega) _⟩ ⟨W.heap.size, hk.below.size, World.alloc_heap_new W _, rfl⟩
  case body =>
    rintro l pre x a' W hl hr ⟨⟨hp, hb⟩, hk⟩ ⟨Bx, hBx, hxb, rfl⟩ hlt
    obtain ⟨c0, c1, c2, c3, c4, c5⟩ := hxb.cells
    have hbW := hbL.trans hk.below
    have hxE : ExAt w.heap.size W x.1.1 x.1.2.1 x.1.2.2 := ExAt.below x.2 (Nat.le_refl _) hbW
    have hcr := hb.cell
    have hfr := hb.frozen
    have hpl := plain_any x.1.1 w.heap.size x.1.2.1 x.1.2.2 W hxE
    simp only [Ex.val] at hpl
    clear hxb hlt hr
    simp only [Loc.val, Ex.val]
    gi_wp2_with fail
    refine ⟨trivial, ?_⟩
    refine (CallsIn.inRound l (callsIn_wide.2 hpl)).mono ?_
    rintro r W1 ⟨rfl, hb1⟩
    have hb1' : Boxed W1 (w.heap.size + 1) 4 (.bool false) := (hb1.block _ hb.lt).trans hb
    have hcr1 := hb1'.cell
    have hfr1 := hb1'.frozen
    have hsz1 := hb1.size
    have hszk := hk.below.size
    have hke : KeepEx w.heap.size W W1 := keepEx_of_below hb1 (by omega)
    cases hpe : plainOf x.1.1.op x.1.1.name x.1.1.num x.1.1.k with
    | true =>
      gi_wp2
      refine ⟨keepsFrom_of_below hb1, hke, ⟨fun y hy => ?_, hb1'⟩, hk.trans hke⟩
      rcases List.mem_append.1 hy with hy | hy
      · exact hp y hy
      · simp at hy; subst hy; exact hpe
    | false =>
      gi_wp2
      refine ⟨(keepsFrom_of_below hb1).trans ((KeepsOthers.setCell _ _ _).from _), ⟨⟨rfl, x, by simp, hpe⟩, ?_⟩, hk.trans (hke.trans (KeepEx.box hb1' (by omega) (by decide) _))⟩
      exact hb1'.set _
  case done =>
    rintro D ys W hD hys ⟨⟨hp, hb⟩, hk⟩ hK
    have hxb := hx0.keep hk
    obtain ⟨c0, c1, c2, c3, c4, c5⟩ := hxb.cells
    have hbW := hbL.trans hk.below
    have hht := height_any e w.heap.size A cap W (hE'.below (Nat.le_refl _) hbW) hbW.size hh
    simp only [Ex.val] at hht
    gi_wp2_with fail
    refine ⟨trivial, ?_⟩
    refine (callsIn_wide.2 hht).mono ?_
    rintro r W1 ⟨rfl, hb1⟩
    have hb1' : Boxed W1 (w.heap.size + 1) 4 (.bool false) := (hb1.block _ hb.lt).trans hb
    have hcr1 := hb1'.cell
    have hfr1 := hb1'.frozen
    have hK1 : W1.heap[D]? = some (.deferred (some [])) := (hb1.block D (Array.getElem?_eq_some_iff.1 hK).1).trans hK
    gi_wp2
    have hK2 := (KeepsOthers.setCell W1 ⟨w.heap.size + 1, 0, none⟩ (.bool (decide ((e.height : Int) ≤ 30)))).same D _ hK1 rfl
    refine ⟨by simp, .inl ⟨_, _, rfl, run_takeDeferred hK2, ?_⟩⟩
    have hcr := cell_kept (hb1'.set (.bool (decide ((e.height : Int) ≤ 30)))).cell (grownBy_putObj' _ D (.deferred none)) (fun r e => by cases e; exact ⟨_, hK2, rfl⟩)
    refine ⟨.bool (decide ((e.height : Int) ≤ 30)), ?_, ?_, ((hbW.trans (hb1.mono hbW.size)).setCell (p := ⟨w.heap.size + 1, 0, none⟩) (by simp) _).trans (belowK_b (w := w) (Nat.le_refl _) _ D _ _ (by omega) hK2 rfl rfl)⟩
    · simp [results, Tryz.f35, go_sem, hcr]
    · refine ret_bool ?_
      have hall : e.pre.all plainE = true := by
        rw [List.all_eq_true, ← hys]
        intro z hz
        obtain ⟨y, hy, rfl⟩ := List.mem_map.1 hz
        exact hp y hy
      simp only [Ex.right, hall, Bool.true_and]
      rw [Bool.eq_iff_iff]; simp; omega
  case stop =>
    rintro D c pre W hD hpre ⟨⟨⟨rfl, hin⟩, hb⟩, hk⟩ hK
    gi_wp2
    refine ⟨by simp, .inl ⟨_, _, rfl, run_takeDeferred hK, ?_⟩⟩
    have hcr := cell_kept hb.cell (grownBy_putObj' _ D (.deferred none)) (fun r e => by cases e; exact ⟨_, hK, rfl⟩)
    have hbW := hbL.trans hk.below
    refine ⟨.bool false, ?_, ?_, hbW.trans (belowK_b (w := w) (Nat.le_refl _) W D _ _ (by omega) hK rfl rfl)⟩
    · simp [results, Tryz.f35, go_sem, hcr]
    · refine ret_bool ?_
      obtain ⟨y, hy, hyp⟩ := hin
      have hmem : y.e ∈ e.pre := hpre.subset (List.mem_map.2 ⟨y, hy, rfl⟩)
      simp only [Ex.right, Bool.false_eq, Bool.and_eq_false_iff]
      left
      rw [List.all_eq_false]
      exact ⟨_, hmem, by simp [hyp]⟩
end Go.Proofs.YtnlikhjmmnaknaaGreatDoor
/-
  The walk of the reference's List.
-/
namespace Go.Proofs.YtnlikhjmmnaknaaGreatDoor
open Go.RowKit

theorem Ex.info : (Tryz.prog.info? 41).map (fun i => (i.zero, i.size, i.bytes)) = some (some (.agg #[.int .i64 0, .string ⟨#[]⟩, .int .i64 0, .slice none 0 0, .int .i64 0, .int .i64 0]), 6, 72) := by kernel_rfl

/-- an expression's cells -/
def Loc.cells {B : Nat} {w : World} (x : Loc B w) : List Value := [.int .i64 x.1.1.op, .string x.1.1.name, .int .i64 x.1.1.num, .slice x.1.2.1 x.1.1.k x.1.2.2, .int .i64 x.1.1.line, .int .i64 x.1.1.col]

theorem flat_len {B : Nat} {w : World} (ys : List (Loc B w)) : (ys.flatMap Loc.cells).length = ys.length * 6 := by
  induction ys with
  | nil => rfl
  | cons y ys ih => simp only [List.flatMap_cons, List.length_append, ih, Loc.cells, List.length_cons, List.length_nil]; omega
theorem flat_one {B : Nat} {w : World} (ys : List (Loc B w)) : ∀ u ∈ ys.flatMap Loc.cells, u.oneCell' = true := by
  intro u hu
  obtain ⟨y, _, hy⟩ := List.mem_flatMap.1 hu
  simp only [Loc.cells, List.mem_cons, List.not_mem_nil, or_false] at hy
  rcases hy with rfl | rfl | rfl | rfl | rfl | rfl <;> rfl
theorem flatTo_sum {α : Type} (f : Nat → List α) (k : Nat) : (flatTo f k).length = sumTo (fun i => (f i).length) k := by
  induction k with
  | zero => rfl
  | succ k ih => rw [flatTo_succ, List.length_append, ih, sumTo_succ]
theorem sumTo_congr {f g : Nat → Nat} (k : Nat) (h : ∀ i, i < k → f i = g i) : sumTo f k = sumTo g k := by
  induction k with
  | zero => rfl
  | succ k ih => rw [sumTo_succ, sumTo_succ, ih (fun i hi => h i (by omega)), h k (by omega)]
theorem pre_len : ∀ e : Ex, e.pre.length = e.size := by
  intro e
  induction e with
  | junk => rfl
  | mk op name n k arg l c ih =>
    rw [Ex.pre, Ex.size, List.length_cons, flatTo_sum, sumTo_congr k (fun i _ => ih i)]; omega
theorem size_pos {B : Nat} {w : World} {e : Ex} {A : Option Addr} {cap : Nat} (h : ExAt B w e A cap) : 0 < e.size := by
  cases e with
  | junk => exact h.elim
  | mk op name n k arg l c => simp only [Ex.size]; omega
theorem grown_of_below {w w' : World} (h : Below w.heap.size w w') : w.grownBy w' none := ⟨h.os, h.tape, h.output, h.size, fun i hi _ => h.block i hi⟩

theorem own_base {w : World} {base base' : Nat} {e : TypeId} {size : Nat} {v : Value} {n : Nat} {xs : List Value} (h : w.ownsRow base e size v n xs) (hb : base' ≤ base) : w.ownsRow base' e size v n xs := by
  refine ⟨h.1, ?_⟩
  rcases h.2 with h0 | ⟨g, cap, cur, h1, h2, h3⟩
  · exact .inl h0
  · exact .inr ⟨g, cap, cur, h1, by omega, h3⟩

/-- what List comes to -/
def Listed {B : Nat} {w0 : World} (e : Ex) (w : World) (r : Ending) (w' : World) : Prop :=
  ∃ (ys : List (Loc B w0)) (g c : Nat), r = .returned (.slice (some ⟨g, 0, none⟩) ys.length c) ∧ ys.map (·.e) = e.pre ∧ w'.ownsRow w.heap.size 41 6 (.slice (some ⟨g, 0, none⟩) ys.length c) ys.length (ys.flatMap Loc.cells) ∧ Below w.heap.size w w'

set_option maxHeartbeats 1000000 in
theorem rlist_any (B : Nat) (w0 : World) (hB0 : B ≤ w0.heap.size) (e : Ex) : ∀ (A : Option Addr) (cap : Nat) (w : World), ExAt B w0 e A cap → Below B w0 w → e.size ≤ 1000000 →
    Calls Tryz.prog 89 #[e.val A cap] w (Listed (B := B) (w0 := w0) e w) := by
  induction e with
  | junk => intro A cap w h; exact h.elim
  | mk op name n k arg l c ih =>
    intro A cap w hE hBw hsize
    have hx : ∃ x : Loc B w0, x.e = .mk op name n k arg l c ∧ x.cells = [.int .i64 op, .string name, .int .i64 n, .slice A k cap, .int .i64 l, .int .i64 c] := ⟨⟨(_, A, cap), hE⟩, rfl, rfl⟩
    obtain ⟨x, hxe, hxc⟩ := hx
    have HXE := hid hxe
    have HXC := hid hxc
    clear hxe hxc
    obtain ⟨⟨_, _, _, _, _, hk, hcap⟩, hargs⟩ := hE
    simp only [Ex.val, Ex.op, Ex.name, Ex.num, Ex.k, Ex.line, Ex.col]
    unfold maxLen at hcap
    have hcap' : (k : Int) ≤ 9223372036854775807 := by omega
    have hBs := Nat.le_trans hB0 hBw.size
    obtain ⟨i0, hi, hz0, hz1, hz2⟩ := info_parts Ex.info
    go_enter Tryz.func89, Tryz.ntmps89
    go_wp2_with fail
    go_loopw [3, 4] (fun v i wr => ∃ (j : Nat) (ys : List (Loc B w0)) (g cp : Nat), j ≤ k ∧ i = .int .i64 j ∧ v = .slice (some ⟨g, 0, none⟩) (ys.length + 1) cp ∧ Hid (ys.map (·.e) = flatTo (fun i => (arg i).pre) j) ∧
      wr.ownsRow (w.heap.size + 1) 41 6 (.slice (some ⟨g, 0, none⟩) (ys.length + 1) cp) (ys.length + 1) ((x :: ys).flatMap Loc.cells) ∧ Below (w.heap.size + 1) (w.alloc (.cells #[.int .i64 op, .string name, .int .i64 n, .slice A k cap, .int .i64 l, .int .i64 c] 41)) wr) (fun _ i _ => k - (intOf i).toNat)
    case atStart =>
      refine ⟨0, [], w.heap.size + 1, 1, by omega, rfl, rfl, rfl, ?_, (Below.refl _ _).alloc (by simp) _⟩
      have h := World.ownsRow_lit (base := w.heap.size + 1) (e := 41) (size := 6) (w.alloc (.cells #[.int .i64 op, .string name, .int .i64 n, .slice A k cap, .int .i64 l, .int .i64 c] 41)) #[.int .i64 op, .string name, .int .i64 n, .slice A k cap, .int .i64 l, .int .i64 c] 1 (by simp) (by unfold maxLen; omega) rfl
      rw [World.size_alloc] at h
      simpa [HXC.out] using h
    case round =>
      obtain ⟨j, ys, g, cp, hj, rfl, rfl, hys, hown, hbel⟩ := hrel
      have hsl := boxed_cell hbel 3
      have hsz := boxed_size hbel
      have hw := boxed_below hbel
      have hwB := hBw.trans (hw.mono hBs)
      by_cases hlt : j < k
      · obtain ⟨b, o, A', cap', rfl, hb, hcells, hin⟩ := hargs j hlt
        have hc := hcells.keep (w' := wr) fun i => hwB.cell (p := ⟨b, i, none⟩) (by simp; omega)
        obtain ⟨c0, c1, c2, c3, c4, c5⟩ := hc
        clear hcells
        have hsum : Hid (ys.length + (arg j).pre.length < 1000000) := by
          have h1 : ys.length = (flatTo (fun i => (arg i).pre) j).length := by rw [← hys.out, List.length_map]
          have h2 := flatTo_le (f := fun i => (arg i).pre) (show j + 1 ≤ k from hlt)
          have h3 := pre_len (.mk op name n k arg l c)
          rw [Ex.pre, List.length_cons] at h3
          rw [flatTo_succ, List.length_append] at h2
          show _ < _
          omega
        have hsj : (arg j).size ≤ 1000000 := by have := hsum.out; rw [pre_len] at this; omega
        go_wp2_with fail
        refine (ih j A' cap' _ hin hwB hsj).mono ?_
        rintro r w1 ⟨zs, g1, c1', rfl, hzs, hown1, hb1⟩
        have hzl : zs.length = (arg j).pre.length := by rw [← hzs, List.length_map]
        have hzp : 0 < zs.length := by rw [hzl, pre_len]; exact size_pos hin
        have hsum' : ys.length + zs.length < 1000000 := by rw [hzl]; exact hsum.out
        have hownk := hown.kept (grown_of_below hb1) (.inr (by simp [Value.ownBlock]))
        have HZS := hid hzs
        clear hzs hzl hsum
        have hs1 := hb1.size
        go_wp2_with (at_builtin; refine wpList_append_lies _ rfl _ _ _ rfl (w.heap.size + 1) 41 i0 _ 6 72 Tryz.underlying39 hi hz0 hz1 hz2 rfl (by omega) _ _ _ (by rfl) hownk ⟨g1, 0, none⟩ zs.length c1' (zs.flatMap Loc.cells) (by rfl) (flat_len zs) (hown1.cells rfl) (flat_one zs) (by omega) (by unfold maxLen; omega) (by omega) (by omega) _ rfl ?_; intro g2 cap2 w2 hown2 hgrow2 hat2 hlt2)
        have hbw2 : Below (w.heap.size + 1) wr w2 := (hb1.mono (by omega)).grown hgrow2 (by omega) (fun k hk => by
          have := (hownk.lt k (by rw [← hk])).1
          exact this)
        go_roundw
        case rel =>
          refine ⟨j + 1, ys ++ zs, g2, cap2, by omega, by go_num, ?_, ?_, ?_, hbel.trans hbw2⟩
          · rw [show (ys ++ zs).length + 1 = ys.length + 1 + zs.length by rw [List.length_append]; omega]
          · show _ = _
            rw [List.map_append, hys.out, HZS.out, flatTo_succ]
          · have e1 : (ys ++ zs).length + 1 = ys.length + 1 + zs.length := by rw [List.length_append]; omega
            rw [e1]
            simpa using hown2
        case measure => simp [intOf]; omega
      · have : j = k := by omega
        subst this
        go_wp2_with fail
        go_ret
        refine ⟨x :: ys, g, cp, rfl, by simp [HXE.out, hys.out, Ex.pre], ?_, hw⟩
        exact own_base hown (by omega)
end Go.Proofs.YtnlikhjmmnaknaaGreatDoor
/-
  The walk of the reference's Right.
-/
namespace Go.Proofs.YtnlikhjmmnaknaaGreatDoor
open Go.RowKit

theorem flat_get {B : Nat} {w : World} (ys : List (Loc B w)) (j : Nat) (h : j < ys.length) (i : Nat) (hi : i < 6) : (ys.flatMap Loc.cells)[j * 6 + i]? = (ys[j]).cells[i]? := by
  induction ys generalizing j with
  | nil => simp at h
  | cons y ys ih =>
    have hl : y.cells.length = 6 := rfl
    cases j with
    | zero => rw [List.flatMap_cons, List.getElem?_append_left (by omega)]; simp
    | succ j =>
      rw [List.flatMap_cons, List.getElem?_append_right (by omega), show (j + 1) * 6 + i - y.cells.length = j * 6 + i by omega, ih j (by simpa using h)]
      simp

theorem row_cells {B : Nat} {w0 w : World} {base g n c : Nat} {ys : List (Loc B w0)} (h : w.ownsRow base 41 6 (.slice (some ⟨g, 0, none⟩) n c) n (ys.flatMap Loc.cells)) (hn : n = ys.length) (j : Nat) (hj : j < ys.length) :
    CellsAt w g (j * 6) (ys[j]).1.1 (ys[j]).1.2.1 (ys[j]).1.2.2 := by
  subst hn
  have hc : ∀ i, i < 6 → w.cell? ⟨g, j * 6 + i, none⟩ = (ys[j]).cells[i]? := fun i hi => by
    rw [h.cellAt (j * 6 + i) (by omega), flat_get ys j hj i hi]
  exact ⟨hc 0 (by omega), hc 1 (by omega), hc 2 (by omega), hc 3 (by omega), hc 4 (by omega), hc 5 (by omega)⟩

theorem short_pre : ∀ e : Ex, e.short → ∀ x ∈ e.pre, x.name.size ≤ 30 := by
  intro e
  induction e with
  | junk => intro _ x hx; simp [Ex.pre] at hx
  | mk op name n k arg l c ih =>
    rintro ⟨h0, h⟩ x hx
    rw [Ex.pre, List.mem_cons] at hx
    rcases hx with rfl | hx
    · exact h0
    · have : ∀ m, m ≤ k → x ∈ flatTo (fun i => (arg i).pre) m → ∃ i, i < m ∧ x ∈ (arg i).pre := by
        intro m
        induction m with
        | zero => intro _ h; simp [flatTo] at h
        | succ m ihm =>
          intro hm h
          rw [flatTo_succ, List.mem_append] at h
          rcases h with h | h
          · obtain ⟨i, hi, hx⟩ := ihm (by omega) h; exact ⟨i, by omega, hx⟩
          · exact ⟨m, by omega, h⟩
      obtain ⟨i, hi, hx⟩ := this k (Nat.le_refl _) hx
      exact ih i (h i hi) x hx

set_option maxHeartbeats 1000000 in
theorem rright_any (e : Ex) (B : Nat) (A : Option Addr) (cap : Nat) (w : World) (hE : ExAt B w e A cap) (hB : B ≤ w.heap.size) (hs : e.size ≤ 1000000) (hh : e.height ≤ 1000000) (hn : e.short) :
    Calls Tryz.prog 52 #[e.val A cap] w fun r w' => r = .returned (.bool e.right) ∧ Below w.heap.size w w' := by
  have hE' := ExAt.more hB e A cap hE
  have hb0 : Below w.heap.size w (w.alloc (.cells #[.int .i64 e.op, .string e.name, .int .i64 e.num, .slice A e.k cap, .int .i64 e.line, .int .i64 e.col] 41)) := (Below.refl _ _).alloc (Nat.le_refl _) _
  have hl := rlist_any w.heap.size w (Nat.le_refl _) e A cap _ hE' hb0 hs
  have hht := fun W (h : Below w.heap.size w W) => rheight_any e w.heap.size A cap W (hE'.below (Nat.le_refl _) h) h.size hh
  simp only [Ex.val] at hl hht ⊢
  go_enter Tryz.func52, Tryz.ntmps52
  go_wp2_with fail
  refine hl.mono ?_
  rintro r w1 ⟨ys, g, c, rfl, hys, hown, hb1⟩
  have hlen : ys.length ≤ 1000000 := by
    have : ys.length = e.pre.length := by rw [← hys, List.length_map]
    rw [this, pre_len]; exact hs
  have hshort : ∀ j (h : j < ys.length), (ys[j]).1.1.name.size ≤ 30 := fun j h => by
    refine short_pre e hn _ ?_
    rw [← hys]
    exact List.mem_map.2 ⟨ys[j], List.getElem_mem _, rfl⟩
  have HYS := hid hys
  have HL := hid hshort
  have HH := hid hht
  have hbx : Below (w.heap.size + 1) (w.alloc (.cells #[.int .i64 e.op, .string e.name, .int .i64 e.num, .slice A e.k cap, .int .i64 e.line, .int .i64 e.col] 41)) w1 := by simpa using hb1
  clear hys hl hht hshort hb1
  simp only [World.size_alloc] at hown
  go_wp2_with fail
  go_loopw [4] (fun i wr => ∃ j : Nat, j ≤ ys.length ∧ i = .int .i64 j ∧ Hid (∀ m (h : m < ys.length), m < j → plainE (ys[m]).e = true) ∧ Below w1.heap.size w1 wr) (fun i _ => ys.length - (intOf i).toNat)
  case atStart => exact ⟨0, by omega, rfl, fun m _ hm => absurd hm (by omega), Below.refl _ _⟩
  case round =>
    obtain ⟨j, hj, rfl, hpl, hbel⟩ := hrel
    have hbx2 := hbx.trans (hbel.mono (boxed_size hbx))
    have hbw := boxed_below hbx2
    by_cases hlt : j < ys.length
    · have hownr := hown.kept (grown_of_below hbel) (.inr (by simp [Value.ownBlock]))
      obtain ⟨c0, c1, c2, c3, c4, c5⟩ := row_cells hownr rfl j hlt
      have hpj := rplain_any (ys[j]).1.1 w.heap.size (ys[j]).1.2.1 (ys[j]).1.2.2 wr (ExAt.below (ys[j]).2 (Nat.le_refl _) hbw) (by have := HL.out j hlt; omega)
      simp only [Ex.val] at hpj
      cases hpe : plainOf (ys[j]).1.1.op (ys[j]).1.1.name (ys[j]).1.1.num (ys[j]).1.1.k with
      | true =>
        rw [hpe] at hpj
        clear hown hownr
        go_wp2_with fail
        refine hpj.mono ?_
        rintro r w2 ⟨rfl, hb2⟩
        go_wp2_with fail
        go_roundw
        case rel =>
          refine ⟨j + 1, by omega, by go_num, fun m hm hmj => ?_, hbel.trans (hb2.mono hbel.size)⟩
          by_cases hmj' : m = j
          · subst hmj'; exact hpe
          · exact hpl.out m hm (by omega)
        case measure => simp [intOf]; omega
      | false =>
        rw [hpe] at hpj
        clear hown hownr
        go_wp2_with fail
        refine hpj.mono ?_
        rintro r w2 ⟨rfl, hb2⟩
        go_wp2_with fail
        go_ret
        refine ⟨ret_bool ?_, hbw.trans (hb2.mono hbw.size)⟩
        simp only [Ex.right, Bool.false_eq, Bool.and_eq_false_iff]
        left
        rw [List.all_eq_false, ← HYS.out]
        exact ⟨_, List.mem_map.2 ⟨ys[j], List.getElem_mem _, rfl⟩, by simpa [plainE, Loc.e] using hpe⟩
    · have : j = ys.length := by omega
      subst this
      have hx0 := boxed_cell hbx2 0
      have hx1 := boxed_cell hbx2 1
      have hx2 := boxed_cell hbx2 2
      have hx3 := boxed_cell hbx2 3
      have hx4 := boxed_cell hbx2 4
      have hx5 := boxed_cell hbx2 5
      go_wp2_with fail
      refine (HH.out wr hbw).mono ?_
      rintro r w2 ⟨rfl, hb2⟩
      go_wp2_with fail
      go_ret
      refine ⟨ret_bool ?_, hbw.trans (hb2.mono hbw.size)⟩
      have hall : e.pre.all plainE = true := by
        rw [List.all_eq_true, ← HYS.out]
        intro z hz
        obtain ⟨y, hy, rfl⟩ := List.mem_map.1 hz
        obtain ⟨m, hm, rfl⟩ := List.getElem_of_mem hy
        exact hpl.out m hm hm
      simp only [Ex.right, hall, Bool.true_and]
      rw [Bool.eq_iff_iff]; simp; omega
end Go.Proofs.YtnlikhjmmnaknaaGreatDoor
