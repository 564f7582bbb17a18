/-
  The walks of room and Few: which expressions a statement speaks of.
-/
import Derived.Test.YtnlikhjmmnaknaaDoorTreeW2
namespace Go.Proofs.YtnlikhjmmnaknaaDoor
open Go.RowKit

set_option maxHeartbeats 400000 in
theorem room_any (e : Ex) : ∀ (B : Nat) (A : Option Addr) (cap : Nat) (left deep : Int) (w : World), ExAt B w e A cap → B ≤ w.heap.size → 0 ≤ left → left ≤ 1000000 → 0 ≤ deep → deep ≤ 1000000 →
    Calls Tryd.prog 17 #[e.val A cap, .int .i64 left, .int .i64 deep] w fun r w' => r = .returned (.int .i64 (e.room deep.toNat left)) ∧ Below w.heap.size w w' := by
  induction e with
  | junk => intro B A cap; intros; contradiction
  | mk op name n k arg l c ih =>
    intro B A cap left deep w hE hB h0 h1 h2 h3
    obtain ⟨⟨_, hns, _, _, _, hk, hcap⟩, hargs⟩ := hE
    simp only [Ex.val, Ex.op, Ex.name, Ex.num, Ex.k, Ex.line, Ex.col]
    unfold maxLen at hcap hns
    have hcap' : (k : Int) ≤ 9223372036854775807 := by omega
    by_cases hd : deep = 0 ∨ 30 < name.size
    · have hr : Hid ((Ex.mk op name n k arg l c).room deep.toNat left = -1) := by
        show _ = _
        rw [Ex.room, if_pos (by omega)]
      go_enter Tryd.func17, Tryd.ntmps17
      go_wp2_with fail
      all_goals first
        | (go_ret; exact ⟨by rw [hr.out]; rfl, (Below.refl _ _).alloc (Nat.le_refl _) _⟩)
        | (exfalso; omega)
    · have hd1 : 1 ≤ deep := by omega
      have hd2 : name.size ≤ 30 := by omega
      have hde : (deep == 0) = false := by simp; omega
      have hr : Hid ((Ex.mk op name n k arg l c).room deep.toNat left = roomTo (fun i x => (arg i).room (deep.toNat - 1) x) k (left - 1)) := by
        show _ = _
        rw [Ex.room, if_neg (by omega)]
      have hbd : Hid (∀ j, -1 ≤ roomTo (fun i x => (arg i).room (deep.toNat - 1) x) j (left - 1) ∧ roomTo (fun i x => (arg i).room (deep.toNat - 1) x) j (left - 1) ≤ left - 1) :=
        roomTo_bd (f := fun i x => (arg i).room (deep.toNat - 1) x) (fun i x hx => room_bd _ _ x hx) (left - 1) (by omega)
      clear hd
      go_enter Tryd.func17, Tryd.ntmps17
      go_wp2_with fail
      go_loopw [1, 22] (fun h i wr => ∃ j : Nat, j ≤ k ∧ i = .int .i64 j ∧ h = .int .i64 (roomTo (fun i x => (arg i).room (deep.toNat - 1) x) j (left - 1)) ∧ Below w.heap.size w wr ∧ w.heap.size < wr.heap.size) (fun _ i _ => k - (intOf i).toNat)
      case atStart => exact ⟨0, by omega, rfl, rfl, (Below.refl _ _).alloc (Nat.le_refl _) _, by simp⟩
      case round =>
        obtain ⟨j, hj, rfl, rfl, hbel, hsz⟩ := hrel
        have hbj := hbd.out j
        by_cases hlt : j < k
        · obtain ⟨b, o, A', cap', rfl, hb, hcells, hin⟩ := hargs j hlt
          have hc := hcells.keep (w' := wr) fun i => hbel.cell (p := ⟨b, i, none⟩) (by simp; omega)
          obtain ⟨c0, c1, c2, c3, c4, c5⟩ := hc
          clear hcells
          by_cases hneg : roomTo (fun i x => (arg i).room (deep.toNat - 1) x) j (left - 1) < 0
          · have hst := hid (roomTo_stop hneg k hlt)
            go_wp2_with fail
            go_ret
            exact ⟨by rw [hr.out, hst.out]; rfl, hbel.alloc (by omega) _⟩
          · have hst : Hid (roomTo (fun i x => (arg i).room (deep.toNat - 1) x) (j + 1) (left - 1) = (arg j).room (deep.toNat - 1) (roomTo (fun i x => (arg i).room (deep.toNat - 1) x) j (left - 1))) := by
              show _ = _
              rw [roomTo, if_neg hneg]
            generalize roomTo (fun i x => (arg i).room (deep.toNat - 1) x) j (left - 1) = x at *
            go_wp2_with fail
            refine (ih j B A' cap' x (deep - 1) _ (hin.below hB (hbel.alloc (by omega) _)) (by simp; omega) (by omega) (by omega) (by omega) (by omega)).mono ?_
            rintro r w1 ⟨rfl, hb1⟩
            go_wp2_with fail
            go_roundw
            case rel =>
              refine ⟨j + 1, by omega, by go_num, ?_, (hbel.alloc (by omega) _).trans (hb1.mono (by simp; omega)), by have := hb1.size; simp at this; omega⟩
              rw [hst.out]
            case measure => simp [intOf]; omega
        · have : j = k := by omega
          subst this
          go_wp2_with fail
          go_ret
          exact ⟨by rw [hr.out]; rfl, hbel⟩

/-- the expressions of which the statements speak -/
def Ex.few (e : Ex) : Bool := decide (0 ≤ e.room 50 200)
theorem Ex.few_fits {e : Ex} (h : e.few = true) : e.size ≤ 200 ∧ e.height ≤ 50 ∧ e.short := by
  have h0 : 0 ≤ e.room 50 200 := by simpa [Ex.few] using h
  obtain ⟨h1, h2, h3⟩ := room_fits e 50 200 h0
  exact ⟨by omega, h2, h3⟩

set_option maxHeartbeats 400000 in
theorem few_any (e : Ex) (B : Nat) (A : Option Addr) (cap : Nat) (w : World) (hE : ExAt B w e A cap) (hB : B ≤ w.heap.size) :
    Calls Tryd.prog 7 #[e.val A cap] w fun r w' => r = .returned (.bool e.few) ∧ Below w.heap.size w w' := by
  have hE1 : Hid (ExAt B (w.alloc (.cells #[.int .i64 e.op, .string e.name, .int .i64 e.num, .slice A e.k cap, .int .i64 e.line, .int .i64 e.col] 26)) e A cap) := hE.below hB ((Below.refl _ _).alloc (Nat.le_refl _) _)
  unfold Ex.val
  go_enter Tryd.func7, Tryd.ntmps7
  go_wp2_with fail
  refine (room_any e B A cap 200 50 _ hE1.out (by simp; omega) (by omega) (by omega) (by omega) (by omega)).mono ?_
  rintro r w1 ⟨rfl, hb1⟩
  go_wp2_with fail
  go_ret
  exact ⟨rfl, ((Below.refl _ _).alloc (Nat.le_refl _) _).trans (hb1.mono (by simp))⟩
end Go.Proofs.YtnlikhjmmnaknaaDoor
