/-
  The walk of TokenMany.
-/
import Derived.Test.YtiencmbbkbicnaaPlus
import Derived.Deep.OwnRows
import Derived.Laws.IdiomStrings
namespace Go.Proofs.Ytiencmbbkbicnaa
open Go.RowKit

theorem info_byte : (Try.prog.info? 5).map (fun i => (i.zero, i.size, i.bytes)) = some (some (.int .u8 0), 1, 1) := by kernel_rfl

set_option maxRecDepth 100000 in
set_option maxHeartbeats 4000000 in
theorem many_any (n : Nat) (w : World) (hn : n < 65536) : Calls Try.prog 7 #[.int .u16 n] w fun r w' => r = .returned (.bool true) ∧ Below w.heap.size w w' := by
  obtain ⟨k, hk⟩ : ∃ k, k = n % 5000 := ⟨_, rfl⟩
  have hk5 : k < 5000 := by omega
  have hrem : (n : Int) % 5000 = (k : Int) := by omega
  have HREM := hid hrem
  have HK := hid hk
  clear hrem hk
  go_enter Try.func7, Try.ntmps7
  go_wp2_with fail
  refine (awake_any w).mono ?_
  rintro r w1 ⟨rfl, hb1⟩
  have hs1 := hb1.size
  obtain ⟨i0, hi0, hz0, hz1, hz2⟩ : ∃ i0, Try.prog.info? 5 = some i0 ∧ i0.zero = some (.int .u8 0) ∧ i0.size = 1 ∧ i0.bytes = 1 := by
    have hi := info_byte
    cases h : Try.prog.info? 5 with
    | none => rw [h] at hi; cases hi
    | some i0 => rw [h] at hi; simp only [Option.map_some, Option.some.injEq, Prod.mk.injEq] at hi; exact ⟨i0, rfl, hi.1, hi.2.1, hi.2.2⟩
  have HB := hid hz2
  clear hz2
  go_wp2_with (at_make; rw [HREM.out]; refine wpList_make_row _ rfl _ _ _ rfl 5 i0 (.int .u8 0) Try.underlying50 hi0 hz0 hz1 rfl .i64 .i64 k rfl rfl (by rw [HB.out]; omega) (by omega) ?_)
  have hrow := World.rowIs_made w1 (.int .u8 0) k 5
  have hb2 := hb1.alloc hb1.size (.cells (madeCells #[.int .u8 0] k) 5)
  go_loopg [17, 5] k (fun q v17 _ wr => ∃ i : Nat, v17 = .int .i64 (i : Int) ∧ i ≤ k ∧ k ≤ i + q ∧ wr.rowIs w1.heap.size 5 k (fun j => if j < i then .int .u8 43 else .int .u8 0) ∧ Below w.heap.size w wr)
  case atStart => exact ⟨0, rfl, by omega, by omega, hrow.congr (fun j _ => by simp), hb2⟩
  case round =>
    obtain ⟨i, rfl, hi, hq, hr, hb⟩ := hrel
    by_cases hlt : i < k
    · have hc := hr.cell hlt
      have hf := hr.frozen i
      have h0 : (0 : Int) ≤ (i : Int) := by omega
      have h1 : (i : Int) < (k : Int) := by omega
      simp only [Nat.lt_irrefl, if_false] at hc
      go_wp2_with fail
      go_roundg (gk - 1)
      case rel => exact ⟨i + 1, by go_num, by omega, by omega, (hr.set i _).congr (fun j hj => by split <;> rename_i h <;> (try subst h) <;> split <;> (try split) <;> first | rfl | omega), hb.setCell (by simpa using hs1) _⟩
      case measure => omega
    · have hik : i = k := by omega
      subst hik
      have hcv : (convert 50 9 (.slice (some ⟨w1.heap.size, 0, none⟩) i i)).run Try.prog wr = .ok (.string (plus i)) wr := by
        have := run_convert_bytes_back (P := Try.prog) wr 50 9 5 ⟨w1.heap.size, 0, none⟩ i (List.replicate i 43) Try.underlying50 Try.underlying5 Try.underlying9 (fun j hj => by
          rw [List.length_replicate] at hj
          have hc := hr.cell hj
          simp only [hj, if_true] at hc
          have e : (List.replicate i (43 : UInt8))[j]'(by simpa using hj) = 43 := by simp
          rw [e]
          have hadd : (⟨w1.heap.size, 0, none⟩ : Addr).add j = ⟨w1.heap.size, j, none⟩ := by unfold Addr.add; split <;> simp_all
          rw [hadd, hc]; rfl)
        rw [List.length_replicate] at this
        exact this
      obtain ⟨hp1, hp2⟩ := plus_scan i (by omega)
      have HP1 := hid hp1
      have HP2 := hid hp2
      clear hp1 hp2
      go_wp2_with fail
      refine (scan_any (plus i) wr (by rw [plus_size]; unfold maxLen; omega)).mono ?_
      rintro r w2 ⟨hb3, hr3⟩
      have hb4 := hb.trans (hb3.mono hb.size)
      by_cases h4 : i ≤ 4096
      · obtain ⟨m, hm, hml⟩ := HP1.out h4
        rw [hm] at hr3
        obtain ⟨g, c, rfl, hown⟩ := hr3
        rw [hml]
        clear hown hm hml
        have hd : decide ((4096 : Int) < (i : Int)) = false := by simp; omega
        go_wp2_with fail
        exact bodyPost_ret (v := .bool true) (by simp [results, Try.results7, go_sem]) rfl ⟨rfl, hb4.alloc hb4.size _⟩
      · have h5 := HP2.out (by omega)
        rw [h5] at hr3
        obtain rfl := hr3
        rw [plus_place 4096 (by omega)]
        have hd : (4096 : Int) < (i : Int) := by omega
        go_wp2_with fail
        exact bodyPost_ret (v := .bool true) (by simp [results, Try.results7, go_sem]) rfl ⟨rfl, hb4.alloc hb4.size _⟩
end Go.Proofs.Ytiencmbbkbicnaa
