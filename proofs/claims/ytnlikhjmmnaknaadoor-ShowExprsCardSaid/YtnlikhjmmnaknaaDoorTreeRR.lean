/-
  The walk of the reference's Right.
-/
import Derived.Test.YtnlikhjmmnaknaaDoorTreeL
namespace Go.Proofs.YtnlikhjmmnaknaaDoor
open Go.RowKit

theorem flat_get {B : Nat} {w : World} (ys : List (Loc B w)) (j : Nat) (h : j < ys.length) (i : Nat) (hi : i < 6) : (ys.flatMap Loc.cells)[j * 6 + i]? = (ys[j]).cells[i]? := by
  induction ys generalizing j with
  | nil => simp at h
  | cons y ys ih =>
    have hl : y.cells.length = 6 := rfl
    cases j with
    | zero => rw [List.flatMap_cons, List.getElem?_append_left (by omega)]; simp
    | succ j =>
      rw [List.flatMap_cons, List.getElem?_append_right (by omega), show (j + 1) * 6 + i - y.cells.length = j * 6 + i by omega, ih j (by simpa using h)]
      simp

theorem row_cells {B : Nat} {w0 w : World} {base g n c : Nat} {ys : List (Loc B w0)} (h : w.ownsRow base 26 6 (.slice (some ⟨g, 0, none⟩) n c) n (ys.flatMap Loc.cells)) (hn : n = ys.length) (j : Nat) (hj : j < ys.length) :
    CellsAt w g (j * 6) (ys[j]).1.1 (ys[j]).1.2.1 (ys[j]).1.2.2 := by
  subst hn
  have hc : ∀ i, i < 6 → w.cell? ⟨g, j * 6 + i, none⟩ = (ys[j]).cells[i]? := fun i hi => by
    rw [h.cellAt (j * 6 + i) (by omega), flat_get ys j hj i hi]
  exact ⟨hc 0 (by omega), hc 1 (by omega), hc 2 (by omega), hc 3 (by omega), hc 4 (by omega), hc 5 (by omega)⟩

theorem short_pre : ∀ e : Ex, e.short → ∀ x ∈ e.pre, x.name.size ≤ 30 := by
  intro e
  induction e with
  | junk => intro _ x hx; simp [Ex.pre] at hx
  | mk op name n k arg l c ih =>
    rintro ⟨h0, h⟩ x hx
    rw [Ex.pre, List.mem_cons] at hx
    rcases hx with rfl | hx
    · exact h0
    · have : ∀ m, m ≤ k → x ∈ flatTo (fun i => (arg i).pre) m → ∃ i, i < m ∧ x ∈ (arg i).pre := by
        intro m
        induction m with
        | zero => intro _ h; simp [flatTo] at h
        | succ m ihm =>
          intro hm h
          rw [flatTo_succ, List.mem_append] at h
          rcases h with h | h
          · obtain ⟨i, hi, hx⟩ := ihm (by omega) h; exact ⟨i, by omega, hx⟩
          · exact ⟨m, by omega, h⟩
      obtain ⟨i, hi, hx⟩ := this k (Nat.le_refl _) hx
      exact ih i (h i hi) x hx

set_option maxHeartbeats 1000000 in
theorem rright_any (e : Ex) (B : Nat) (A : Option Addr) (cap : Nat) (w : World) (hE : ExAt B w e A cap) (hB : B ≤ w.heap.size) (hs : e.size ≤ 1000000) (hh : e.height ≤ 1000000) (hn : e.short) :
    Calls Tryd.prog 11 #[e.val A cap] w fun r w' => r = .returned (.bool e.right) ∧ Below w.heap.size w w' := by
  have hE' := ExAt.more hB e A cap hE
  have hb0 : Below w.heap.size w (w.alloc (.cells #[.int .i64 e.op, .string e.name, .int .i64 e.num, .slice A e.k cap, .int .i64 e.line, .int .i64 e.col] 26)) := (Below.refl _ _).alloc (Nat.le_refl _) _
  have hl := rlist_any w.heap.size w (Nat.le_refl _) e A cap _ hE' hb0 hs
  have hht := fun W (h : Below w.heap.size w W) => rheight_any e w.heap.size A cap W (hE'.below (Nat.le_refl _) h) h.size hh
  simp only [Ex.val] at hl hht ⊢
  go_enter Tryd.func11, Tryd.ntmps11
  go_wp2_with fail
  refine hl.mono ?_
  rintro r w1 ⟨ys, g, c, rfl, hys, hown, hb1⟩
  have hlen : ys.length ≤ 1000000 := by
    have : ys.length = e.pre.length := by rw [← hys, List.length_map]
    rw [this, pre_len]; exact hs
  have hshort : ∀ j (h : j < ys.length), (ys[j]).1.1.name.size ≤ 30 := fun j h => by
    refine short_pre e hn _ ?_
    rw [← hys]
    exact List.mem_map.2 ⟨ys[j], List.getElem_mem _, rfl⟩
  have HYS := hid hys
  have HL := hid hshort
  have HH := hid hht
  have hbx : Below (w.heap.size + 1) (w.alloc (.cells #[.int .i64 e.op, .string e.name, .int .i64 e.num, .slice A e.k cap, .int .i64 e.line, .int .i64 e.col] 26)) w1 := by simpa using hb1
  clear hys hl hht hshort hb1
  simp only [World.size_alloc] at hown
  go_wp2_with fail
  go_loopw [4] (fun i wr => ∃ j : Nat, j ≤ ys.length ∧ i = .int .i64 j ∧ Hid (∀ m (h : m < ys.length), m < j → plainE (ys[m]).e = true) ∧ Below w1.heap.size w1 wr) (fun i _ => ys.length - (intOf i).toNat)
  case atStart => exact ⟨0, by omega, rfl, fun m _ hm => absurd hm (by omega), Below.refl _ _⟩
  case round =>
    obtain ⟨j, hj, rfl, hpl, hbel⟩ := hrel
    have hbx2 := hbx.trans (hbel.mono (boxed_size hbx))
    have hbw := boxed_below hbx2
    by_cases hlt : j < ys.length
    · have hownr := hown.kept (grown_of_below hbel) (.inr (by simp [Value.ownBlock]))
      obtain ⟨c0, c1, c2, c3, c4, c5⟩ := row_cells hownr rfl j hlt
      have hpj := rplain_any (ys[j]).1.1 w.heap.size (ys[j]).1.2.1 (ys[j]).1.2.2 wr (ExAt.below (ys[j]).2 (Nat.le_refl _) hbw) (by have := HL.out j hlt; omega)
      simp only [Ex.val] at hpj
      cases hpe : plainOf (ys[j]).1.1.op (ys[j]).1.1.name (ys[j]).1.1.num (ys[j]).1.1.k with
      | true =>
        rw [hpe] at hpj
        clear hown hownr
        go_wp2_with fail
        refine hpj.mono ?_
        rintro r w2 ⟨rfl, hb2⟩
        go_wp2_with fail
        go_roundw
        case rel =>
          refine ⟨j + 1, by omega, by go_num, fun m hm hmj => ?_, hbel.trans (hb2.mono hbel.size)⟩
          by_cases hmj' : m = j
          · subst hmj'; exact hpe
          · exact hpl.out m hm (by omega)
        case measure => simp [intOf]; omega
      | false =>
        rw [hpe] at hpj
        clear hown hownr
        go_wp2_with fail
        refine hpj.mono ?_
        rintro r w2 ⟨rfl, hb2⟩
        go_wp2_with fail
        go_ret
        refine ⟨ret_bool ?_, hbw.trans (hb2.mono hbw.size)⟩
        simp only [Ex.right, Bool.false_eq, Bool.and_eq_false_iff]
        left
        rw [List.all_eq_false, ← HYS.out]
        exact ⟨_, List.mem_map.2 ⟨ys[j], List.getElem_mem _, rfl⟩, by simpa [plainE, Loc.e] using hpe⟩
    · have : j = ys.length := by omega
      subst this
      have hx0 := boxed_cell hbx2 0
      have hx1 := boxed_cell hbx2 1
      have hx2 := boxed_cell hbx2 2
      have hx3 := boxed_cell hbx2 3
      have hx4 := boxed_cell hbx2 4
      have hx5 := boxed_cell hbx2 5
      go_wp2_with fail
      refine (HH.out wr hbw).mono ?_
      rintro r w2 ⟨rfl, hb2⟩
      go_wp2_with fail
      go_ret
      refine ⟨ret_bool ?_, hbw.trans (hb2.mono hbw.size)⟩
      have hall : e.pre.all plainE = true := by
        rw [List.all_eq_true, ← HYS.out]
        intro z hz
        obtain ⟨y, hy, rfl⟩ := List.mem_map.1 hz
        obtain ⟨m, hm, rfl⟩ := List.getElem_of_mem hy
        exact hpl.out m hm hm
      simp only [Ex.right, hall, Bool.true_and]
      rw [Bool.eq_iff_iff]; simp; omega
end Go.Proofs.YtnlikhjmmnaknaaDoor
