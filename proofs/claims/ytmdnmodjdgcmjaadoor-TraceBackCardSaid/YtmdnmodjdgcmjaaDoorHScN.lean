/-
  The walks of number, Number, Read and words.
-/
import Derived.Test.YtmdnmodjdgcmjaaDoorHScM
import Derived.Test.YtmdnmodjdgcmjaaDoorHTab
import Derived.Test.YtmdnmodjdgcmjaaDoorHDig
import Derived.Test.YtmdnmodjdgcmjaaDoorHShelf
namespace Go.Proofs.YtmdnmodjdgcmjaaDoor
open Go.RowKit

/-- the library's tables are as they are laid -/
def ErrIs (name : String) (w : World) : Prop := ∃ tp p, w.var? Tryd.prog name = some #[.iface tp p]
structure Tabs (w : World) : Prop where
  tab : Tab w
  syn : ErrIs "strconv.ErrSyntax" w
  rng : ErrIs "strconv.ErrRange" w
  lt : 1 < w.heap.size ∧ 2 < w.heap.size ∧ tabG < w.heap.size
theorem syn_at : Tryd.prog.globalNamed "strconv.ErrSyntax" = some 1 := by kernel_rfl
theorem rng_at : Tryd.prog.globalNamed "strconv.ErrRange" = some 2 := by kernel_rfl
theorem ErrIs.below {name : String} {g B : Nat} {w w' : World} (h : ErrIs name w) (hg : Tryd.prog.globalNamed name = some g) (hb : Below B w w') (hB : g < B) : ErrIs name w' := by
  obtain ⟨tp, p, h⟩ := h
  exact ⟨tp, p, var?_below hb hg hB h⟩
theorem Tabs.below {w w' : World} (h : Tabs w) (hb : Below w.heap.size w w') : Tabs w' :=
  ⟨h.tab.below hb h.lt.2.2, h.syn.below syn_at hb h.lt.1, h.rng.below rng_at hb h.lt.2.1, by have := h.lt; have := hb.size; omega⟩

theorem below_grown' (w : World) (k : Nat) (os : Array Obj) : Below w.heap.size w (Go.Sort.grow (w.drewN k) os) :=
  ⟨rfl, rfl, rfl, by simp [Go.Sort.grow, World.drewN], fun i hi => by
    show (w.heap ++ os)[i]? = w.heap[i]?
    rw [Array.getElem?_append_left hi]⟩
theorem itoa_any (n : Int) (hn : I64 n) (w : World) (hT : Tab w) : Calls Tryd.prog 55 #[.int .i64 n] w fun e w' => e = .returned (.string ⟨(Lib.itoa n).toArray⟩) ∧ Below w.heap.size w w' :=
  (Tryd.strconv_Itoa n hn.1 hn.2 w hT).mono fun _ _ ⟨h1, k, os, h2⟩ => ⟨h1, h2 ▸ below_grown' w k os⟩

set_option maxRecDepth 100000 in
set_option maxHeartbeats 2000000 in
theorem number_any (s : ByteArray) (w : World) (hs : s.size ≤ 20000000) (hT : Tabs w) :
    Calls Tryd.prog 74 #[.string s] w fun r w' => Below w.heap.size w w' ∧ ∃ v, I64 v ∧ r = .returned (.tuple #[.int .i64 v, .bool (numP s.data.toList).isSome]) ∧ ∀ x, numP s.data.toList = some x → v = x := by
  rcases h : Lib.atoiAll s.data.toList with v | _ | _
  · skip
    have hv := Lib.atoiAll_bounds h
    have hat := fun W => Tryd.strconv_Atoi_ok s (by omega) v h W
    have hit := fun W (h : Tab W) => itoa_any v hv W h
    have hnp : numP s.data.toList = if Lib.itoa v = s.data.toList then some v else none := by unfold numP; rw [h]
    replace hat := hid hat
    replace hit := hid hit
    replace hnp := hid hnp
    replace hT := hid hT
    clear h
    go_enter Tryd.func74, Tryd.ntmps74
    go_wp2_with fail
    refine (hat.out w).mono ?_
    rintro r w1 ⟨rfl, hw⟩
    have hb : Below w.heap.size w w1 := by
      rcases hw with rfl | ⟨t, rfl⟩
      · exact Below.refl _ _
      · exact Lib.bytesWorld_below _ _ _
    clear hw
    go_wp2_with fail
    refine (hit.out w1 (hT.out.below hb).tab).mono ?_
    rintro r w2 ⟨rfl, hb2⟩
    go_wp2_with fail
    go_ret2
    refine ⟨hb.trans (hb2.mono hb.size), v, hv, ?_, fun x hx => ?_⟩
    · rw [hnp.out]
      by_cases he : Lib.itoa v = s.data.toList
      · rw [if_pos he]; simp [ByteArray.toList_eq, he]
      · rw [if_neg he]
        have he' : ¬ (Lib.itoa v) = s.data.toList := he
        simp [ByteArray.toList_eq, he']
    · rw [hnp.out] at hx
      split at hx
      · injection hx
      · cases hx
  · skip
    obtain ⟨tp, p, hvar⟩ := hT.syn
    have hat := Tryd.strconv_Atoi_syntax_var s (by omega) h tp p w hvar
    have hnp : numP s.data.toList = none := by unfold numP; rw [h]
    replace hat := hid hat
    rw [hnp]
    clear h hvar hnp
    go_enter Tryd.func74, Tryd.ntmps74
    go_wp2_with fail
    refine hat.out.mono ?_
    rintro r w1 ⟨N, rfl, _, _, hb⟩
    go_wp2_with fail
    go_ret2
    exact ⟨hb, 0, (by unfold I64; omega), rfl, fun x hx => by cases hx⟩
  · skip
    obtain ⟨tp, p, hvar⟩ := hT.rng
    have hat := Tryd.strconv_Atoi_range_var s (by omega) h tp p w hvar
    have hnp : numP s.data.toList = none := by unfold numP; rw [h]
    have hsat := Lib.atoiSat_bounds s.data.toList
    replace hat := hid hat
    rw [hnp]
    clear h hvar hnp
    generalize Lib.atoiSat s.data.toList = q at *
    go_enter Tryd.func74, Tryd.ntmps74
    go_wp2_with fail
    refine hat.out.mono ?_
    rintro r w1 ⟨N, rfl, _, _, hb⟩
    go_wp2_with fail
    go_ret2
    exact ⟨hb, q, hsat, rfl, fun x hx => by cases hx⟩

/-! the reference's -/
set_option maxHeartbeats 1000000 in
theorem rnumber_any (n : Int) (hn : I64 n) (w : World) : Calls Tryd.prog 43 #[.int .i64 n] w fun e w' => e = .returned (.string ⟨(Lib.itoa n).toArray⟩) ∧ w = w' := by
  unfold I64 at hn
  by_cases h0 : n = -9223372036854775808
  · subst h0
    have hi : (⟨(Lib.itoa (-9223372036854775808)).toArray⟩ : ByteArray) = ⟨#[45, 57, 50, 50, 51, 51, 55, 50, 48, 51, 54, 56, 53, 52, 55, 55, 53, 56, 48, 56]⟩ := by decide +kernel
    rw [hi]
    go_enter Tryd.func43, Tryd.ntmps43
    go_wp2_with fail
    go_ret
    exact ⟨rfl, rfl⟩
  · by_cases h1 : n < 0
    · obtain ⟨u, rfl⟩ : ∃ u : Nat, n = -(u : Int) := ⟨n.natAbs, by omega⟩
      have hd := rdigits_any u u w (Nat.le_refl _) (by omega)
      have hi := Lib.itoa_neg u (by omega)
      have hl := dec_le (n := u) (by omega)
      have hneg : IntKind.i64.wrap (- -(u : Int)) = (u : Int) := by rw [Int.neg_neg]; exact wrap_r (by unfold R64; omega)
      have hwr : IntKind.i64.wrap (u : Int) = (u : Int) := wrap_r (by unfold R64; omega)
      rw [hi]
      replace hd := hid hd
      clear hi
      go_enter Tryd.func43, Tryd.ntmps43
      go_wp2_with fail
      refine hd.out.mono ?_
      rintro r w1 ⟨rfl, rfl⟩
      go_wp2_with fail
      go_ret
      exact ⟨congrArg (fun x => Ending.returned (.string x)) (str_append [45] (Lib.decDigits u)), rfl⟩
    · obtain ⟨u, rfl⟩ : ∃ u : Nat, n = (u : Int) := ⟨n.toNat, by omega⟩
      have hd := rdigits_any u u w (Nat.le_refl _) (by omega)
      rw [Lib.itoa_nonneg]
      replace hd := hid hd
      go_enter Tryd.func43, Tryd.ntmps43
      go_wp2_with fail
      refine hd.out.mono ?_
      rintro r w1 ⟨rfl, rfl⟩
      go_wp2_with fail
      go_ret
      exact ⟨rfl, rfl⟩
end Go.Proofs.YtmdnmodjdgcmjaaDoor
