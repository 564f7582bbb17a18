/-
  The walk of the statement ParseSources.
-/
import Derived.Test.YtnlikhjmmnaknaaHAwake14
import Derived.Test.YtnlikhjmmnaknaaHSame14
import Derived.Test.YtnlikhjmmnaknaaHSpZ
import Derived.Test.YtnlikhjmmnaknaaHSqE
namespace Go.Proofs.Ytnlikhjmmnaknaa
open Go.RowKit

theorem source_any (s : ByteArray) (w : World) (hs : s.size ≤ maxLen) : Calls Try.prog 9 #[.string s] w (SrcPost s w) := by
  cases hsc : scanOf s with
  | bad e p => exact source_none s w hs hsc
  | toks l => exact source_some s w hs hsc
theorem rsrc_any (s : ByteArray) (w : World) (hs : s.size ≤ maxLen) : Calls Try.prog 10 #[.string s] w (SrcPost s w) := by
  cases hsc : scanOf s with
  | bad e p => exact rsource_none s w hs hsc
  | toks l => exact rsource_some s w hs hsc
theorem outS_post {s : ByteArray} {w w' : World} {r : Ending} (h : SrcPost s w r w') : Below w.heap.size w w' ∧ ∃ A c, r = .returned (.tuple #[.agg #[.slice A (outS s).1.length c], .agg #[.int .i64 (outS s).2.1, .int .i64 (outS s).2.2.1, .int .i64 (outS s).2.2.2]]) ∧ SrcIs w'.heap.size w' (outS s).1 ⟨A, c⟩ := by
  obtain ⟨hb, hp⟩ := h
  refine ⟨hb, ?_⟩
  unfold outS
  generalize sourceOf s = q at *
  obtain ⟨xs, m⟩ := q
  cases m with
  | ok i =>
    obtain ⟨S, rfl, hf, hn⟩ := hp
    exact ⟨S.A, S.cap, rfl, hf, hn.imp fun _ _ _ => NodeIn.at (fun n h => h.2)⟩
  | bad er ln cl =>
    obtain ⟨_, rfl⟩ := hp
    exact ⟨none, 0, rfl, ⟨Nat.le_refl _, Nat.zero_le _⟩, fun j hj => absurd hj (by simp)⟩

set_option maxRecDepth 100000 in
set_option maxHeartbeats 4000000 in
theorem parseSources_any (s : ByteArray) (w : World) (hs : s.size ≤ maxLen) :
    Calls Try.prog 4 #[.string s] w fun r w' => r = .returned (.bool true) ∧ Below w.heap.size w w' := by
  have hx := fun W => source_any s W hs
  have hy := fun W => rsrc_any s W hs
  have hz := outS_size s
  replace hx := hid hx
  replace hy := hid hy
  go_enter Try.func4, Try.ntmps4
  have f_0 := Fr.start0 w
  go_wp2_with fail
  refine (awake14_any _).mono ?_
  rintro r w1 ⟨rfl, hb⟩
  have f_1 := f_0.below hb
  clear hb f_0
  have hsl : (s.size : Int) ≤ 9223372036854775807 := by unfold maxLen at hs; omega
  by_cases hl : s.size ≤ 3000
  · go_wp2_with fail
    refine (hx.out w1).mono ?_
    intro r w2 hp
    obtain ⟨hb, A, c, rfl, hin⟩ := outS_post hp
    clear hp
    have f_2 := f_1.below hb
    clear f_1 hb
    generalize hout : outS s = q at *
    obtain ⟨xs, er, ln, cl⟩ := q
    dsimp only at hin hz ⊢
    obtain ⟨N, hN⟩ : ∃ N, xs.length = N := ⟨_, rfl⟩
    rw [hN]
    go_upto_region 6 with fail
    have f_3 := f_2.alloc (.cells #[.slice A N c] 37)
    have z_3 := alloc_size w2 (.cells #[.slice A N c] 37)
    have hin3 := hin.keep (same_below (Nat.le_refl _) ((Below.refl w2.heap.size w2).alloc (Nat.le_refl _) (.cells #[.slice A N c] 37)))
    clear f_2 hin
    generalize hX : w2.heap.size = X at *
    generalize w2.alloc (.cells #[.slice A N c] 37) = W3 at *
    have f_4 := f_3.alloc (.cells #[.int .i64 er, .int .i64 ln, .int .i64 cl] 30)
    have hin4 := hin3.keep (same_below (by omega) ((Below.refl W3.heap.size W3).alloc (Nat.le_refl _) (.cells #[.int .i64 er, .int .i64 ln, .int .i64 cl] 30)))
    have z_4 := alloc_size W3 (.cells #[.int .i64 er, .int .i64 ln, .int .i64 cl] 30)
    clear f_3 hin3
    rw [← z_3]
    replace z_3 := Nat.le_of_eq z_3.symm
    replace z_4 := Nat.le_of_eq z_4.symm
    generalize hF : W3.heap.size = F at *
    generalize W3.alloc (.cells #[.int .i64 er, .int .i64 ln, .int .i64 cl] 30) = W4 at *
    go_wp2_with fail
    refine (hy.out W4).mono ?_
    intro r w5 hp
    obtain ⟨hb, A', c', rfl, hin'⟩ := outS_post hp
    rw [hout] at hin' ⊢
    clear hp
    have f_5 := f_4.below hb
    have hin5 := hin4.keep (same_below (by omega) hb)
    have z_5 := hb.size
    clear f_4 hb hin4
    dsimp only at hin' ⊢
    rw [hN]
    go_upto_region 7 with fail
    have f_6 := f_5.alloc (.cells #[.slice A' N c'] 37)
    have z_6 := alloc_size w5 (.cells #[.slice A' N c'] 37)
    have hin6 := hin5.keep (same_below (by omega) ((Below.refl w5.heap.size w5).alloc (Nat.le_refl _) (.cells #[.slice A' N c'] 37)))
    have hin6' := hin'.keep (same_below (Nat.le_refl _) ((Below.refl w5.heap.size w5).alloc (Nat.le_refl _) (.cells #[.slice A' N c'] 37)))
    clear f_5 hin5 hin'
    generalize hY : w5.heap.size = Y at *
    generalize w5.alloc (.cells #[.slice A' N c'] 37) = W6 at *
    have f_7 := f_6.alloc (.cells #[.int .i64 er, .int .i64 ln, .int .i64 cl] 30)
    have hin7 := hin6.keep (same_below (by omega) ((Below.refl W6.heap.size W6).alloc (Nat.le_refl _) (.cells #[.int .i64 er, .int .i64 ln, .int .i64 cl] 30)))
    have hin7' := hin6'.keep (same_below (by omega) ((Below.refl W6.heap.size W6).alloc (Nat.le_refl _) (.cells #[.int .i64 er, .int .i64 ln, .int .i64 cl] 30)))
    have z_7 := alloc_size W6 (.cells #[.int .i64 er, .int .i64 ln, .int .i64 cl] 30)
    clear f_6 hin6 hin6'
    rw [← z_6]
    replace z_6 := Nat.le_of_eq z_6.symm
    replace z_7 := Nat.le_of_eq z_7.symm
    generalize hG : W6.heap.size = G at *
    generalize W6.alloc (.cells #[.int .i64 er, .int .i64 ln, .int .i64 cl] 30) = W7 at *
    have hpl := rsame14_any xs A A' c c' N hN Y W7 (hin7.more (by omega)) hin7' (by omega) hz
    replace hpl := hid hpl
    clear hin7 hin7'
    obtain ⟨x0, x1⟩ := blk1 f_7.rot3.blk
    obtain ⟨y0, y1⟩ := blk1 f_7.rot1.blk
    obtain ⟨u0, u1, u2, -⟩ := blk3 f_7.rot2.blk
    obtain ⟨v0, v1, v2, -⟩ := blk3 f_7.blk
    clear hX hF hY hG z_3 z_4 z_5 z_6 z_7 hout hz hN
    go_wp2_with fail
    refine hpl.out.mono ?_
    rintro r w8 ⟨rfl, hb⟩
    have f_8 := f_7.below hb
    go_wp2_with fail
    go_ret
    exact ⟨rfl, f_8.low⟩
  · go_wp2_with fail
    go_ret
    exact ⟨rfl, f_1.low⟩
end Go.Proofs.Ytnlikhjmmnaknaa
