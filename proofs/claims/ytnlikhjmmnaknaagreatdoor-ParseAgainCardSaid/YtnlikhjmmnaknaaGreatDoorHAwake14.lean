/-
  awake of layer 14; parse.Expr at any text.
-/
import Derived.Test.YtnlikhjmmnaknaaGreatDoorHParQ
namespace Go.Proofs.YtnlikhjmmnaknaaGreatDoor
open Go.RowKit

theorem parse_any (s : ByteArray) (w : World) (hs : s.size ≤ maxLen) : Calls Tryz.prog 16 #[.string s] w (ExprPost s w) := by
  cases hsc : scanOf s with
  | bad e p => exact parse_none s w hs hsc
  | toks l => exact parse_some s w hs hsc

def awText : ByteArray := ⟨#[49, 32, 45, 62, 32, 112, 114, 101, 32, 120, 32, 43, 32, 49]⟩
def awPre : Ex := mkEx 21 ⟨#[]⟩ 0 [mkEx 3 ⟨#[120]⟩ 0 [] 1 10] 1 6
def awSum : Ex := mkEx 7 ⟨#[]⟩ 0 [awPre, mkEx 1 ⟨#[]⟩ 1 [] 1 14] 1 12
def awEx : Ex := mkEx 23 ⟨#[]⟩ 0 [mkEx 1 ⟨#[]⟩ 1 [] 1 1, awSum] 1 3
theorem parse_awake : parseOf awText = .ok awEx 6 := by kernel_rfl

set_option maxRecDepth 100000 in
set_option maxHeartbeats 4000000 in
theorem awake14_any (w : World) : Calls Tryz.prog 5 #[] w fun r w' => r = .returned (.bool true) ∧ Below w.heap.size w w' := by
  have hp := fun W => parse_any awText W (by decide)
  unfold ExprPost at hp
  rw [parse_awake] at hp
  unfold awText at hp
  have HP := hid hp
  clear hp
  go_enter Tryz.func5, Tryz.ntmps5
  have f_0 := Fr.start0 w
  go_wp2_with fail
  refine (HP.out w).mono ?_
  rintro r w1 ⟨hb, A, c, rfl, hin⟩
  have f_1 := f_0.below hb
  clear f_0 hb
  obtain ⟨-, hargs⟩ := hin
  obtain ⟨b, o, A1, cp1, rfl, -, hc1, hin1⟩ := hargs 1 (by decide)
  clear hargs
  obtain ⟨-, hargs⟩ := hin1
  obtain ⟨b2, o2, A2, cp2, rfl, -, hc2, -⟩ := hargs 0 (by decide)
  clear hargs
  have v3 : w1.cell? ⟨b, o + 1 * 6 + 3, none⟩ = some (.slice (some ⟨b2, o2, none⟩) 2 cp1) := hc1.c3
  have v5 : w1.cell? ⟨b, o + 1 * 6 + 5, none⟩ = some (.int .i64 12) := hc1.c5
  have u5 : w1.cell? ⟨b2, o2 + 0 * 6 + 5, none⟩ = some (.int .i64 6) := hc2.c5
  clear hc1 hc2
  rw [show awEx.val (some ⟨b, o, none⟩) c = .agg #[.int .i64 23, .string ⟨#[]⟩, .int .i64 0, .slice (some ⟨b, o, none⟩) 2 c, .int .i64 1, .int .i64 3] from rfl]
  go_upto_region 2 with fail
  have hb2 := ((Below.refl w1.heap.size w1).alloc (Nat.le_refl _) (.cells #[.int .i64 23, .string ⟨#[]⟩, .int .i64 0, .slice (some ⟨b, o, none⟩) 2 c, .int .i64 1, .int .i64 3] 41)).alloc (by simp) (.cells #[.int .i64 0, .int .i64 0, .int .i64 0] 30)
  have f_2 := (f_1.alloc (.cells #[.int .i64 23, .string ⟨#[]⟩, .int .i64 0, .slice (some ⟨b, o, none⟩) 2 c, .int .i64 1, .int .i64 3] 41)).alloc (.cells #[.int .i64 0, .int .i64 0, .int .i64 0] 30)
  have hk : ∀ bb oo v, w1.cell? ⟨bb, oo, none⟩ = some v → ((w1.alloc (.cells #[.int .i64 23, .string ⟨#[]⟩, .int .i64 0, .slice (some ⟨b, o, none⟩) 2 c, .int .i64 1, .int .i64 3] 41)).alloc (.cells #[.int .i64 0, .int .i64 0, .int .i64 0] 30)).cell? ⟨bb, oo, none⟩ = some v := fun bb oo v h => (hb2.cell (p := ⟨bb, oo, none⟩) (cell_lt h)).trans h
  have v3 := hk _ _ _ v3
  have v5 := hk _ _ _ v5
  have u5 := hk _ _ _ u5
  obtain ⟨p0, p1, p2, p3, p4, p5, -⟩ := blk6 f_2.rot1.blk
  obtain ⟨q0, q1, q2, -⟩ := blk3 f_2.blk
  clear hk hb2 f_1
  rw [World.size_alloc] at f_2 q0 q1 q2
  generalize (w1.alloc (.cells #[.int .i64 23, .string ⟨#[]⟩, .int .i64 0, .slice (some ⟨b, o, none⟩) 2 c, .int .i64 1, .int .i64 3] 41)).alloc (.cells #[.int .i64 0, .int .i64 0, .int .i64 0] 30) = W at *
  go_wp2_with fail
  go_ret
  exact ⟨rfl, f_2.low⟩
end Go.Proofs.YtnlikhjmmnaknaaGreatDoor
