/-
  awake of layer 11, and how a run of plus signs is scanned.
-/
import Derived.Test.YtiencmbbkbicnaaScan9
namespace Go.Proofs.Ytiencmbbkbicnaa
open Go.RowKit
theorem scan_awake : scanOf ⟨#[97, 60, 61, 49, 50, 32, 35, 32, 120]⟩ = .toks [⟨1, ⟨#[97]⟩, 0, 0⟩, ⟨3, ⟨#[60, 61]⟩, 0, 1⟩, ⟨2, ⟨#[49, 50]⟩, 12, 3⟩, ⟨5, ⟨#[]⟩, 0, 9⟩] := by kernel_rfl

set_option maxRecDepth 100000 in
set_option maxHeartbeats 4000000 in
theorem awake_any (w : World) : Calls Try.prog 27 #[] w fun r w' => r = .returned (.bool true) ∧ Below w.heap.size w w' := by
  go_enter Try.func27, Try.ntmps27
  go_wp2_with fail
  refine (scan_any _ _ (by decide)).mono ?_
  rintro r w1 ⟨hb1, hr1⟩
  rw [scan_awake] at hr1
  obtain ⟨g, c, rfl, hown⟩ := hr1
  have hal := hown.alloc (.cells #[.int .i64 0, .int .i64 0, .int .i64 0] 43)
  have k0 : (w1.alloc (.cells #[.int .i64 0, .int .i64 0, .int .i64 0] 43)).cell? ⟨g, 6, none⟩ = some (.string ⟨#[60, 61]⟩) := by simpa [Addr.add] using hal.cells rfl 6 _ rfl
  have k1 : (w1.alloc (.cells #[.int .i64 0, .int .i64 0, .int .i64 0] 43)).cell? ⟨g, 12, none⟩ = some (.int .i64 12) := by simpa [Addr.add] using hal.cells rfl 12 _ rfl
  have k2 : (w1.alloc (.cells #[.int .i64 0, .int .i64 0, .int .i64 0] 43)).cell? ⟨g, 15, none⟩ = some (.int .i64 5) := by simpa [Addr.add] using hal.cells rfl 15 _ rfl
  have hb2 := hb1.alloc hb1.size (.cells #[.int .i64 0, .int .i64 0, .int .i64 0] 43)
  clear hal hown
  have hw : isWord ((⟨#[102, 98, 121]⟩ : ByteArray).data.toList) = true := by kernel_rfl
  simp only [List.length_cons, List.length_nil]
  go_wp2_with (first | (go_at_call 34; refine (word_any _ _).mono ?_; rintro e w' ⟨rfl, hb⟩; rw [hw]))
  refine bodyPost_ret (v := .bool true) (by simp [results, Try.results27, go_sem]) rfl ⟨rfl, hb2.trans (hb.mono (by have := hb2.size; omega))⟩
end Go.Proofs.Ytiencmbbkbicnaa
