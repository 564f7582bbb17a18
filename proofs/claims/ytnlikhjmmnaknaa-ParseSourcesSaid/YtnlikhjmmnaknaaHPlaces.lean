/-
  The walk of the reference's Places, where both expressions are one.
-/
import Derived.Test.YtnlikhjmmnaknaaHParO
import Derived.Test.YtnlikhjmmnaknaaHTreeS2
import Derived.Test.YtnlikhjmmnaknaaGC
namespace Go.Proofs.Ytnlikhjmmnaknaa
open Go.RowKit

theorem same_self {B : Nat} {w : World} : ∀ (e : Ex) (A : Option Addr) (c : Nat), ExAt B w e A c → e.same e = true := by
  intro e
  induction e with
  | junk => intro A c h; exact h.elim
  | mk op name n k arg l c ih =>
    rintro A cap ⟨_, h⟩
    have hall : ∀ j, j ≤ k → allTo (fun i => (arg i).same (arg i)) j = true := by
      intro j
      induction j with
      | zero => intro _; rfl
      | succ j ihj =>
        intro hj
        obtain ⟨b, o, A', cap', _, _, _, hr⟩ := h j (by omega)
        rw [allTo_succ, ihj (by omega), ih j A' cap' hr]; rfl
    rw [Ex.same]
    simp only [Ex.op, Ex.name, Ex.num, Ex.k, Ex.arg, beq_self_eq_true, Bool.true_and]
    exact hall k (Nat.le_refl _)
/-- the cells of a row of expressions -/
theorem loc_cell {B b0 g c j : Nat} {w0 w : World} {ys : List (Loc B w0)} (h : w.ownsRow b0 27 6 (.slice (some ⟨g, 0, none⟩) ys.length c) ys.length (ys.flatMap Loc.cells)) (hj : j < ys.length) :
    w.cell? ⟨g, j * 6 + 4, none⟩ = some (.int .i64 (ys[j]).e.line) ∧ w.cell? ⟨g, j * 6 + 5, none⟩ = some (.int .i64 (ys[j]).e.col) := by
  refine ⟨?_, ?_⟩
  · rw [h.cellAt _ (by omega), rows_at Loc.cells 6 (fun _ => rfl) ys j hj 4 (by omega)]; rfl
  · rw [h.cellAt _ (by omega), rows_at Loc.cells 6 (fun _ => rfl) ys j hj 5 (by omega)]; rfl

set_option maxHeartbeats 4000000 in
set_option maxRecDepth 100000 in
theorem rplaces_same (e : Ex) (B : Nat) (A A' : Option Addr) (c c' : Nat) (w : World) (hE : ExAt B w e A c) (hE' : ExAt B w e A' c') (hB : B ≤ w.heap.size) (hz : e.size ≤ 1000000) :
    Calls Try.prog 8 #[e.val A c, e.val A' c'] w fun r w' => r = .returned (.bool true) ∧ Below w.heap.size w w' := by
  have hsame := fun W (h : Below w.heap.size w W) => rsame_any e e B A A' c c' W (hE.below hB h) (hE'.below hB h) (Nat.le_trans hB h.size)
  rw [same_self e A c hE] at hsame
  have hl1 := fun W (h : Below w.heap.size w W) => rlist_any B w hB e A c W hE (h.mono hB) hz
  have hl2 := fun W (h : Below w.heap.size w W) => rlist_any B w hB e A' c' W hE' (h.mono hB) hz
  have HS := hid hsame
  have HL := hid hl1
  have HM := hid hl2
  clear hsame hl1 hl2
  unfold Ex.val at HS HL HM ⊢
  go_enter Try.func8, Try.ntmps8
  have f_0 := Fr.start0 w
  go_wp2_with fail
  have f_1 := f_0.alloc (.cells #[.int .i64 e.op, .string e.name, .int .i64 e.num, .slice A e.k c, .int .i64 e.line, .int .i64 e.col] 27)
  have z_1 := alloc_size w (.cells #[.int .i64 e.op, .string e.name, .int .i64 e.num, .slice A e.k c, .int .i64 e.line, .int .i64 e.col] 27)
  clear f_0
  generalize hP : w.heap.size = P at *
  generalize w.alloc (.cells #[.int .i64 e.op, .string e.name, .int .i64 e.num, .slice A e.k c, .int .i64 e.line, .int .i64 e.col] 27) = W1 at *
  have f_2 := f_1.alloc (.cells #[.int .i64 e.op, .string e.name, .int .i64 e.num, .slice A' e.k c', .int .i64 e.line, .int .i64 e.col] 27)
  clear f_1
  rw [← z_1]
  clear z_1
  generalize W1.heap.size = Q at *
  generalize W1.alloc (.cells #[.int .i64 e.op, .string e.name, .int .i64 e.num, .slice A' e.k c', .int .i64 e.line, .int .i64 e.col] 27) = W2 at *
  subst hP
  refine (HS.out W2 f_2.low).mono ?_
  rintro r W3 ⟨rfl, hb⟩
  have f_3 := f_2.below hb
  clear hb f_2
  obtain ⟨p0, p1, p2, p3, p4, p5, -⟩ := blk6 f_3.rot1.blk
  go_wp2_with fail
  refine (HL.out W3 f_3.low).mono ?_
  rintro r W4 ⟨ys, g1, cp1, rfl, hys, hown, hb⟩
  have f_4 := f_3.addRow hb hown
  clear hb hown f_3 p0 p1 p2 p3 p4 p5
  obtain ⟨p0, p1, p2, p3, p4, p5, -⟩ := blk6 f_4.rot1.blk
  go_wp2_with fail
  refine (HM.out W4 f_4.low).mono ?_
  rintro r W5 ⟨zs, g2, cp2, rfl, hzs, hown, hb⟩
  have f_5 := f_4.addRow hb hown
  clear hb hown f_4 p0 p1 p2 p3 p4 p5
  have hlen : zs.length = ys.length := by
    have h1 : (zs.map (·.e)).length = (ys.map (·.e)).length := by rw [hys, hzs]
    simpa using h1
  have hel : ∀ j (h : j < ys.length) (h' : j < zs.length), (zs[j]).e = (ys[j]).e := fun j h h' => by
    have h1 : (zs.map (·.e))[j]? = (ys.map (·.e))[j]? := by rw [hys, hzs]
    rw [List.getElem?_map, List.getElem?_map, List.getElem?_eq_getElem h, List.getElem?_eq_getElem h'] at h1
    simpa using h1
  have hlm : (ys.length : Int) ≤ 9223372036854775807 := by
    have h1 := pre_len e
    rw [← hys, List.length_map] at h1
    omega
  have HEL := hid hel
  clear hel hys hzs HS HL HM
  go_wp2_with fail
  go_loopw [7] (fun i wr => ∃ j : Nat, j ≤ ys.length ∧ i = .int .i64 j ∧ Fr none (fun _ => True) w wr [rowK w 27 6 (.slice (some ⟨g2, 0, none⟩) zs.length cp2) zs.length (zs.flatMap Loc.cells), rowK w 27 6 (.slice (some ⟨g1, 0, none⟩) ys.length cp1) ys.length (ys.flatMap Loc.cells)]) (fun i _ => ys.length - (intOf i).toNat)
  case atStart =>
    exact ⟨0, by omega, rfl, f_5.sub (.cons_cons _ (.cons_cons _ (List.nil_sublist _)))⟩
  case round =>
    obtain ⟨j, hj, rfl, f_6⟩ := hrel
    clear f_5
    by_cases hlt : j < ys.length
    · have hlt2 : j < zs.length := by omega
      obtain ⟨a0, a1⟩ := loc_cell f_6.head.q hlt2
      obtain ⟨b0, b1⟩ := loc_cell f_6.rot1.head.q hlt
      rw [HEL.out j hlt hlt2] at a0 a1
      generalize (ys[j]).e.line = ln at *
      generalize (ys[j]).e.col = cl at *
      have hj0 : (0 : Int) ≤ (j : Int) := by omega
      have hj1 : (j : Int) < (ys.length : Int) := by omega
      have hj2 : (j : Int) < (zs.length : Int) := by omega
      go_wp2_with fail
      go_region
      go_wp2_with fail
      have f_7 := f_6.drew
      clear f_6
      go_roundw
      case rel => exact ⟨j + 1, by omega, by go_num, f_7⟩
      case measure => simp [intOf]; omega
    · have : j = ys.length := by omega
      subst this
      go_wp2_with fail
      go_ret
      exact ⟨rfl, f_6.low⟩
end Go.Proofs.Ytnlikhjmmnaknaa
