/-
  The walk of layer 13's example.
-/
import Derived.Test.YtnlikhjmmnaknaaDoorShowX
namespace Go.Proofs.YtnlikhjmmnaknaaDoor
open Go.RowKit

def exV (c : UInt8) : Ex := .mk 3 ⟨#[c]⟩ 0 0 (fun _ => .junk) 0 0
def exOne : Ex := .mk 1 ⟨#[]⟩ 1 0 (fun _ => .junk) 0 0
def exSub2 : Ex := .mk 8 ⟨#[]⟩ 0 2 (fun i => if i = 0 then exV 121 else exOne) 0 0
def exSub1 : Ex := .mk 8 ⟨#[]⟩ 0 2 (fun i => if i = 0 then exV 120 else exSub2) 0 0
def exNot : Ex := .mk 6 ⟨#[]⟩ 0 1 (fun _ => exV 99) 0 0
def exFby : Ex := .mk 22 ⟨#[]⟩ 0 2 (fun i => if i = 0 then exSub1 else exNot) 0 0
def fbyT : List UInt8 := [120, 32, 45, 32, 40, 121, 32, 45, 32, 49, 41, 32, 102, 98, 121, 32, 110, 111, 116, 32, 99]

theorem exFby_right : exFby.right = true := by decide +kernel
theorem exFby_height : exFby.height = 4 := by decide
theorem exFby_txt : exFby.txt 0 = fbyT := by decide +kernel
theorem fby_fits : fitsT fbyT = true := by decide +kernel
theorem exFby_shown : shown exFby = (⟨fbyT.toArray⟩, 0) := by
  unfold shown
  rw [exFby_right, exFby_txt, fby_fits]
  rfl

theorem grow_cell {w : World} {os : Array Obj} {j : Nat} {cs : Array Value} {t : TypeId} {fr : Nat × Nat} (h : os[j]? = some (.cells cs t fr)) (i : Nat) : (Go.Sort.grow w os).cell? ⟨w.heap.size + j, i, none⟩ = cs[i]? := by
  have : (Go.Sort.grow w os).heap[w.heap.size + j]? = some (.cells cs t fr) := by
    show (w.heap ++ os)[w.heap.size + j]? = _
    rw [Array.getElem?_append_right (by omega), show w.heap.size + j - w.heap.size = j by omega]
    exact h
  simp [World.cell?, this]

/-- the blocks of the example, behind so many -/
def awObjs (N : Nat) : Array Obj := #[
  .cells #[.int .i64 3, .string ⟨#[120]⟩, .int .i64 0, .slice none 0 0, .int .i64 0, .int .i64 0] 26,
  .cells #[.int .i64 3, .string ⟨#[121]⟩, .int .i64 0, .slice none 0 0, .int .i64 0, .int .i64 0] 26,
  .cells #[.int .i64 1, .string ⟨#[]⟩, .int .i64 1, .slice none 0 0, .int .i64 0, .int .i64 0] 26,
  .cells #[.int .i64 3, .string ⟨#[121]⟩, .int .i64 0, .slice none 0 0, .int .i64 0, .int .i64 0, .int .i64 1, .string ⟨#[]⟩, .int .i64 1, .slice none 0 0, .int .i64 0, .int .i64 0] 26,
  .cells #[.int .i64 3, .string ⟨#[120]⟩, .int .i64 0, .slice none 0 0, .int .i64 0, .int .i64 0, .int .i64 8, .string ⟨#[]⟩, .int .i64 0, .slice (some ⟨N + 1 + 1 + 1, 0, none⟩) 2 2, .int .i64 0, .int .i64 0] 26,
  .cells #[.int .i64 8, .string ⟨#[]⟩, .int .i64 0, .slice (some ⟨N + 1 + 1 + 1 + 1, 0, none⟩) 2 2, .int .i64 0, .int .i64 0] 26,
  .cells #[.int .i64 3, .string ⟨#[99]⟩, .int .i64 0, .slice none 0 0, .int .i64 0, .int .i64 0] 26,
  .cells #[.int .i64 6, .string ⟨#[]⟩, .int .i64 0, .slice (some ⟨N + 1 + 1 + 1 + 1 + 1 + 1, 0, none⟩) 1 1, .int .i64 0, .int .i64 0] 26,
  .cells #[.int .i64 8, .string ⟨#[]⟩, .int .i64 0, .slice (some ⟨N + 1 + 1 + 1 + 1, 0, none⟩) 2 2, .int .i64 0, .int .i64 0, .int .i64 6, .string ⟨#[]⟩, .int .i64 0, .slice (some ⟨N + 1 + 1 + 1 + 1 + 1 + 1, 0, none⟩) 1 1, .int .i64 0, .int .i64 0] 26]

theorem exV_at (B : Nat) (w : World) (c : UInt8) : ExAt B w (exV c) none 0 := ⟨⟨by unfold I64; omega, by show (1 : Nat) ≤ maxLen; unfold maxLen; omega, by unfold I64; omega, by unfold I64; omega, by unfold I64; omega, by omega, by unfold maxLen; omega⟩, fun i hi => absurd hi (by omega)⟩
theorem exOne_at (B : Nat) (w : World) : ExAt B w exOne none 0 := ⟨by unfold I64 maxLen; decide, fun i hi => absurd hi (by omega)⟩
theorem exFby_at (w : World) : ExAt (w.heap.size + 9) (Go.Sort.grow w (awObjs w.heap.size)) exFby (some ⟨w.heap.size + 1 + 1 + 1 + 1 + 1 + 1 + 1 + 1, 0, none⟩) 2 := by
  have g3 := @grow_cell w (awObjs w.heap.size) 3 _ _ _ rfl
  have g4 := @grow_cell w (awObjs w.heap.size) 4 _ _ _ rfl
  have g6 := @grow_cell w (awObjs w.heap.size) 6 _ _ _ rfl
  have g8 := @grow_cell w (awObjs w.heap.size) 8 _ _ _ rfl
  generalize Go.Sort.grow w (awObjs w.heap.size) = W at *
  have h2 : ExAt (w.heap.size + 9) W exSub2 (some ⟨w.heap.size + 1 + 1 + 1, 0, none⟩) 2 := by
    refine ⟨by unfold I64 maxLen; decide, fun i hi => ?_⟩
    rcases (by omega : i = 0 ∨ i = 1) with rfl | rfl
    · exact ⟨_, _, none, 0, rfl, by omega, ⟨g3 0, g3 1, g3 2, g3 3, g3 4, g3 5⟩, exV_at _ _ _⟩
    · exact ⟨_, _, none, 0, rfl, by omega, ⟨g3 6, g3 7, g3 8, g3 9, g3 10, g3 11⟩, exOne_at _ _⟩
  have h1 : ExAt (w.heap.size + 9) W exSub1 (some ⟨w.heap.size + 1 + 1 + 1 + 1, 0, none⟩) 2 := by
    refine ⟨by unfold I64 maxLen; decide, fun i hi => ?_⟩
    rcases (by omega : i = 0 ∨ i = 1) with rfl | rfl
    · exact ⟨_, _, none, 0, rfl, by omega, ⟨g4 0, g4 1, g4 2, g4 3, g4 4, g4 5⟩, exV_at _ _ _⟩
    · exact ⟨_, _, _, _, rfl, by omega, ⟨g4 6, g4 7, g4 8, g4 9, g4 10, g4 11⟩, h2⟩
  have hn : ExAt (w.heap.size + 9) W exNot (some ⟨w.heap.size + 1 + 1 + 1 + 1 + 1 + 1, 0, none⟩) 1 := by
    refine ⟨by unfold I64 maxLen; decide, fun i hi => ?_⟩
    obtain rfl : i = 0 := by omega
    exact ⟨_, _, none, 0, rfl, by omega, ⟨g6 0, g6 1, g6 2, g6 3, g6 4, g6 5⟩, exV_at _ _ _⟩
  refine ⟨by unfold I64 maxLen; decide, fun i hi => ?_⟩
  rcases (by omega : i = 0 ∨ i = 1) with rfl | rfl
  · exact ⟨_, _, _, _, rfl, by omega, ⟨g8 0, g8 1, g8 2, g8 3, g8 4, g8 5⟩, h1⟩
  · exact ⟨_, _, _, _, rfl, by omega, ⟨g8 6, g8 7, g8 8, g8 9, g8 10, g8 11⟩, hn⟩

set_option maxHeartbeats 1000000 in
theorem awake13_any (w : World) (hT : Tab w) :
    Calls Tryd.prog 6 #[] w fun r w' => r = .returned (.bool true) ∧ Below w.heap.size w w' := by
  have hE := exFby_at w
  have hb0 : Below w.heap.size w (Go.Sort.grow w (awObjs w.heap.size)) := ⟨rfl, rfl, rfl, by simp [Go.Sort.grow], fun i hi => by
    show (w.heap ++ _)[i]? = w.heap[i]?
    rw [Array.getElem?_append_left hi]⟩
  have hz : w.heap.size + 9 ≤ (Go.Sort.grow w (awObjs w.heap.size)).heap.size := by simp [Go.Sort.grow, awObjs]
  have hC := showExpr_any exFby _ _ _ _ hE hz (hT.below hb0 hT.lt) (by rw [exFby_height]; omega) (fun _ => by rw [exFby_txt]; decide)
  rw [exFby_shown] at hC
  have HC := hid hC
  clear hE hC
  go_enter Tryd.func6, Tryd.ntmps6
  go_wp2_with fail
  simp only [Go.Sort.alloc_eq_grow, Go.Sort.grow_grow]
  refine Calls.mono (w := Go.Sort.grow w (awObjs w.heap.size)) HC.out ?_
  rintro r w1 ⟨rfl, hb1⟩
  go_wp2_with fail
  go_ret
  exact ⟨rfl, hb0.trans (hb1.mono (by omega))⟩
end Go.Proofs.YtnlikhjmmnaknaaDoor
