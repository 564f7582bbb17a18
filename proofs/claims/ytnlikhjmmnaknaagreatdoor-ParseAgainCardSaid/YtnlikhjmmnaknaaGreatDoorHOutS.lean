/-
  What parse.Source ends in, as a value.
-/
import Derived.Test.YtnlikhjmmnaknaaGreatDoorGT
import Derived.Test.YtnlikhjmmnaknaaGreatDoorHSpZ
namespace Go.Proofs.YtnlikhjmmnaknaaGreatDoor
open Go.RowKit

theorem psource_any (s : ByteArray) (w : World) (hs : s.size ≤ maxLen) : Calls Tryz.prog 6 #[.string s] w (SrcPost s w) := by
  cases hsc : scanOf s with
  | bad e p => exact source_none s w hs hsc
  | toks l => exact source_some s w hs hsc
theorem outS_post {s : ByteArray} {w w' : World} {r : Ending} (h : SrcPost s w r w') : Below w.heap.size w w' ∧ ∃ A c, r = .returned (.tuple #[.agg #[.slice A (outS s).1.length c], .agg #[.int .i64 (outS s).2.1, .int .i64 (outS s).2.2.1, .int .i64 (outS s).2.2.2]]) ∧ SrcIs w'.heap.size w' (outS s).1 ⟨A, c⟩ := by
  obtain ⟨hb, hp⟩ := h
  refine ⟨hb, ?_⟩
  unfold outS
  generalize sourceOf s = q at *
  obtain ⟨xs, m⟩ := q
  cases m with
  | ok i =>
    obtain ⟨S, rfl, hf, hn⟩ := hp
    exact ⟨S.A, S.cap, rfl, hf, hn.imp fun _ _ _ => NodeIn.at (fun n h => h.2)⟩
  | bad er ln cl =>
    obtain ⟨_, rfl⟩ := hp
    exact ⟨none, 0, rfl, ⟨Nat.le_refl _, Nat.zero_le _⟩, fun j hj => absurd hj (by simp)⟩

end Go.Proofs.YtnlikhjmmnaknaaGreatDoor
