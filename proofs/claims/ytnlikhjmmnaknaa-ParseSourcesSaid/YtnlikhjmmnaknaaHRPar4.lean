/-
  The walk of the reference's Sign (printed by gen_p2.py).
-/
import Derived.Test.YtnlikhjmmnaknaaHRSgn
import Derived.Deep.CutRange
namespace Go.Proofs.Ytnlikhjmmnaknaa
open Go.RowKit


set_option maxHeartbeats 4000000 in
set_option maxRecDepth 100000 in
theorem rsign_m {s : ByteArray} {l : List Tk} {P g : Nat} {w : World} {m : Md} (h : Sm s l P g w m) {st : Int} (h3 : st ≠ 3) :
    Calls Try.prog 47 #[.pointer (some ⟨P, 0, none⟩), .int .i64 st] w fun r w' => r = .returned (.int .i64 (m.sgn l st)) ∧ Sm s l P g w' m ∧ w.grownBy w' (some P) := by
  go_enter Try.func47, Try.ntmps47
  have f_1 := PF.start h
  go_upto_region 2 with fail
  have f_2 := f_1.alloc (.cells #[.string ⟨#[45, 62]⟩, .string ⟨#[102, 98, 121]⟩, .string ⟨#[111, 114]⟩, .string ⟨#[120, 111, 114]⟩, .string ⟨#[97, 110, 100]⟩, .string ⟨#[61]⟩, .string ⟨#[60, 62]⟩, .string ⟨#[60]⟩, .string ⟨#[60, 61]⟩, .string ⟨#[62]⟩, .string ⟨#[62, 61]⟩, .string ⟨#[43]⟩, .string ⟨#[45]⟩, .string ⟨#[42]⟩, .string ⟨#[47]⟩, .string ⟨#[37]⟩] 9)
  have z_2 := alloc_size w (.cells #[.string ⟨#[45, 62]⟩, .string ⟨#[102, 98, 121]⟩, .string ⟨#[111, 114]⟩, .string ⟨#[120, 111, 114]⟩, .string ⟨#[97, 110, 100]⟩, .string ⟨#[61]⟩, .string ⟨#[60, 62]⟩, .string ⟨#[60]⟩, .string ⟨#[60, 61]⟩, .string ⟨#[62]⟩, .string ⟨#[62, 61]⟩, .string ⟨#[43]⟩, .string ⟨#[45]⟩, .string ⟨#[42]⟩, .string ⟨#[47]⟩, .string ⟨#[37]⟩] 9)
  clear f_1
  generalize w.heap.size = A1 at *
  generalize w.alloc (.cells #[.string ⟨#[45, 62]⟩, .string ⟨#[102, 98, 121]⟩, .string ⟨#[111, 114]⟩, .string ⟨#[120, 111, 114]⟩, .string ⟨#[97, 110, 100]⟩, .string ⟨#[61]⟩, .string ⟨#[60, 62]⟩, .string ⟨#[60]⟩, .string ⟨#[60, 61]⟩, .string ⟨#[62]⟩, .string ⟨#[62, 61]⟩, .string ⟨#[43]⟩, .string ⟨#[45]⟩, .string ⟨#[42]⟩, .string ⟨#[47]⟩, .string ⟨#[37]⟩] 9) = W2 at *
  go_upto_region 3 with fail
  have f_3 := f_2.alloc (.cells #[.int .i64 23, .int .i64 22, .int .i64 19, .int .i64 20, .int .i64 18, .int .i64 12, .int .i64 13, .int .i64 14, .int .i64 15, .int .i64 16, .int .i64 17, .int .i64 7, .int .i64 8, .int .i64 9, .int .i64 10, .int .i64 11] 3)
  have z_3 := alloc_size W2 (.cells #[.int .i64 23, .int .i64 22, .int .i64 19, .int .i64 20, .int .i64 18, .int .i64 12, .int .i64 13, .int .i64 14, .int .i64 15, .int .i64 16, .int .i64 17, .int .i64 7, .int .i64 8, .int .i64 9, .int .i64 10, .int .i64 11] 3)
  clear f_2
  generalize W2.heap.size = A2 at *
  generalize W2.alloc (.cells #[.int .i64 23, .int .i64 22, .int .i64 19, .int .i64 20, .int .i64 18, .int .i64 12, .int .i64 13, .int .i64 14, .int .i64 15, .int .i64 16, .int .i64 17, .int .i64 7, .int .i64 8, .int .i64 9, .int .i64 10, .int .i64 11] 3) = W3 at *
  rw [← z_2]
  clear z_2
  clear z_3
  go_upto_region 4 with fail
  have f_4 := f_3.alloc (.cells #[.int .i64 1, .int .i64 2, .int .i64 4, .int .i64 4, .int .i64 5, .int .i64 6, .int .i64 6, .int .i64 6, .int .i64 6, .int .i64 6, .int .i64 6, .int .i64 7, .int .i64 7, .int .i64 8, .int .i64 8, .int .i64 8] 3)
  have z_4 := alloc_size W3 (.cells #[.int .i64 1, .int .i64 2, .int .i64 4, .int .i64 4, .int .i64 5, .int .i64 6, .int .i64 6, .int .i64 6, .int .i64 6, .int .i64 6, .int .i64 6, .int .i64 7, .int .i64 7, .int .i64 8, .int .i64 8, .int .i64 8] 3)
  clear f_3
  generalize W3.heap.size = A3 at *
  generalize W3.alloc (.cells #[.int .i64 1, .int .i64 2, .int .i64 4, .int .i64 4, .int .i64 5, .int .i64 6, .int .i64 6, .int .i64 6, .int .i64 6, .int .i64 6, .int .i64 6, .int .i64 7, .int .i64 7, .int .i64 8, .int .i64 8, .int .i64 8] 3) = W4 at *
  clear z_4
  go_wp2_with fail
  have f_s : PF s l P g w m W4 (blkK A3 (.cells (stL.map (Value.int .i64)).toArray 3 (0, 0)) :: blkK A2 (.cells (opL.map (Value.int .i64)).toArray 3 (0, 0)) :: blkK A1 (.cells (sgL.map Value.string).toArray 9 (0, 0)) :: []) := f_4
  clear f_4
  go_loopw [8] (fun i wr => ∃ j : Nat, j ≤ 16 ∧ i = .int .i64 j ∧ PF s l P g w m wr (blkK A3 (.cells (stL.map (Value.int .i64)).toArray 3 (0, 0)) :: blkK A2 (.cells (opL.map (Value.int .i64)).toArray 3 (0, 0)) :: blkK A1 (.cells (sgL.map Value.string).toArray 9 (0, 0)) :: []) ∧ Hid (∀ k, k < j → stv k = st → m.is l (sgn k).data.toList = false)) (fun i _ => 16 - (intOf i).toNat)
  case atStart => exact ⟨0, by omega, rfl, f_s, fun k hk => absurd hk (by omega)⟩
  case round =>
    clear f_s
    obtain ⟨j, hj, rfl, f_0, hno⟩ := hrel
    by_cases hlt : j < 16
    · have hst2 := tab_bd j hlt
      have hsg := arr_cell f_0.rot2.blk (sg_get hlt)
      have hss := arr_cell f_0.blk (st_get hlt)
      obtain ⟨wd, hwd⟩ : ∃ x, x = sgn j := ⟨_, rfl⟩
      obtain ⟨sv, hsv⟩ : ∃ x, x = stv j := ⟨_, rfl⟩
      rw [← hwd] at hsg
      rw [← hsv] at hss hst2
      have hwdH := hid hwd
      have hsvH := hid hsv
      clear hwd hsv
      by_cases hs : sv = st
      · have hsi : (sv == st) = true := by simp [hs]
        have hsH := hid hs
        clear hs
        go_wp2_with fail
        clear hsg hss hsi
        refine (ris_m f_0.sm wd).mono ?_
        rintro r W5 ⟨rfl, t_5, q_5⟩
        have f_5 := f_0.turn t_5 q_5
        clear f_0 t_5 q_5
        by_cases hi : m.is l wd.data.toList = true
        · have hop := arr_cell f_5.rot1.blk (op_get hlt)
          have hres := hid (msgn_yes (m := m) hlt (hsvH.out.symm.trans hsH.out) (hwdH.out ▸ hi))
          obtain ⟨ov, hov⟩ : ∃ x, x = opv j := ⟨_, rfl⟩
          rw [← hov] at hop
          have hovH := hid hov
          clear hov
          rw [hi]
          clear hi
          go_wp2_with fail
          go_ret
          exact ⟨ret_int (hovH.out.trans hres.out.symm), f_5.sm, f_5.gr⟩
        · have hi2 : m.is l wd.data.toList = false := eq_false_of_ne_true hi
          have hiH := hid hi2
          rw [hi2]
          clear hi hi2
          go_wp2_with fail
          go_roundw
          case rel => exact ⟨j + 1, by omega, by go_num, f_5, fun k hk hk2 => by
            rcases Nat.lt_succ_iff_lt_or_eq.1 hk with h | rfl
            · exact hno.out k h hk2
            · rw [← hwdH.out]; exact hiH.out⟩
          case measure => simp [intOf]; omega
      · have hsi : (sv == st) = false := by simp [hs]
        have hsH := hid hs
        clear hs
        go_wp2_with fail
        go_roundw
        case rel => exact ⟨j + 1, by omega, by go_num, f_0, fun k hk hk2 => by
          rcases Nat.lt_succ_iff_lt_or_eq.1 hk with h | rfl
          · exact hno.out k h hk2
          · exact absurd (hsvH.out.trans hk2) hsH.out⟩
        case measure => simp [intOf]; omega
    · have hj2 : j = 16 := by omega
      subst hj2
      have hres := hid (msgn_no (l := l) (m := m) h3 hno.out)
      go_wp2_with fail
      go_ret
      exact ⟨ret_int hres.out.symm, f_0.sm, f_0.gr⟩
end Go.Proofs.Ytnlikhjmmnaknaa
