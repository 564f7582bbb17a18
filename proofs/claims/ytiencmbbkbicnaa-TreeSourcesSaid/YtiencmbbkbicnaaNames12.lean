/-
  The walks of the reference's Names and of the code's.
-/
import Derived.Test.YtiencmbbkbicnaaStrs
namespace Go.Proofs.Ytiencmbbkbicnaa
open Go.RowKit Go.Shelf
attribute [local go_sem] Oper.semAt_some

theorem Str.info : (Try.prog.info? 9).map (fun i => (i.zero, i.size, i.bytes)) = some (some (.string ⟨#[]⟩), 1, 16) := by kernel_rfl
theorem strs_one (xs : List ByteArray) : ∀ u ∈ xs.map Value.string, u.oneCell' = true := by
  intro u hu
  obtain ⟨y, _, rfl⟩ := List.mem_map.1 hu
  rfl
theorem str_form {w : World} {base : Nat} {v : Value} {xs : List ByteArray} (h : w.ownsRow base 9 1 v xs.length (xs.map .string)) : ∃ (A : Option Addr) (c : Nat), v = .slice A xs.length c := by
  rcases h.2 with ⟨h1, h2⟩ | ⟨g, cap, cur, h1, _⟩
  · exact ⟨none, 0, by rw [h1, h2]⟩
  · exact ⟨_, cap, h1⟩

/-- what Names comes to -/
def Named (l : List Ex) (w : World) (r : Ending) (w' : World) : Prop :=
  ∃ (A : Option Addr) (c : Nat), r = .returned (.slice A (nmOf l).length c) ∧ w'.ownsRow w.heap.size 9 1 (.slice A (nmOf l).length c) (nmOf l).length ((nmOf l).map .string) ∧ Below w.heap.size w w'

def rnamesOp (op : Int) : Bool := op == 3 || (decide (24 ≤ op) && decide (op ≤ 26))
theorem rnamesOp_eq (op : Int) : rnamesOp op = namesOp op := by
  rw [Bool.eq_iff_iff]; simp [rnamesOp, namesOp]; omega

set_option maxRecDepth 100000 in
set_option maxHeartbeats 2000000 in
theorem rnames_any (e : Ex) (B : Nat) (A : Option Addr) (cap : Nat) (w : World) (hE : ExAt B w e A cap) (hB : B ≤ w.heap.size) (hs : e.size ≤ 1000000) :
    Calls Try.prog 25 #[e.val A cap] w (Named e.pre w) := by
  have hE' := ExAt.more hB e A cap hE
  have hb0 : Below w.heap.size w (w.alloc (.cells #[.int .i64 e.op, .string e.name, .int .i64 e.num, .slice A e.k cap, .int .i64 e.line, .int .i64 e.col] 26)) := (Below.refl _ _).alloc (Nat.le_refl _) _
  have hl := rlist_any w.heap.size w (Nat.le_refl _) e A cap _ hE' hb0 hs
  simp only [Ex.val] at hl ⊢
  obtain ⟨i0, hi0, hz0, hz1, hz2⟩ := info_parts Str.info
  go_enter Try.func25, Try.ntmps25
  go_wp2_with fail
  refine hl.mono ?_
  rintro r w1 ⟨ys, g, c, rfl, hys, hown, hb1⟩
  have hlen : ys.length ≤ 1000000 := by
    have : ys.length = e.pre.length := by rw [← hys, List.length_map]
    rw [this, pre_len]; exact hs
  have HYS := hid hys
  have hbx : Below w.heap.size w w1 := hb0.trans (hb1.mono hb0.size)
  clear hys hl hb1 hb0
  simp only [World.size_alloc] at hown
  go_wp2_with fail
  go_loopw [4, 5, 6] (fun v i _ wr => ∃ j : Nat, j ≤ ys.length ∧ i = .int .i64 j ∧ wr.ownsRow w1.heap.size 9 1 v (nmOf ((ys.take j).map (·.e))).length ((nmOf ((ys.take j).map (·.e))).map .string) ∧ Below w1.heap.size w1 wr) (fun _ i _ _ => ys.length - (intOf i).toNat)
  case atStart => exact ⟨0, by omega, rfl, World.ownsRow_nil _ _ _ _, Below.refl _ _⟩
  case round =>
    obtain ⟨j, hj, rfl, hrow, hbel⟩ := hrel
    by_cases hlt : j < ys.length
    · have hownr := hown.kept (grown_of_below hbel) (.inr (by simp [Value.ownBlock]))
      obtain ⟨c0, c1, c2, c3, c4, c5⟩ := row_cells hownr rfl j hlt
      have hnl := nmOf_len ((ys.take j).map (·.e))
      rw [List.length_map, List.length_take] at hnl
      have hsn : nmOf ((ys.take (j + 1)).map (·.e)) = nmStep (nmOf ((ys.take j).map (·.e))) (ys[j]).1.1 := by
        rw [List.take_succ_eq_append_getElem hlt, List.map_append, List.map_cons, List.map_nil, nmOf_snoc]; rfl
      unfold nmStep at hsn
      rw [← rnamesOp_eq] at hsn
      generalize hacc : nmOf ((ys.take j).map (·.e)) = acc at *
      have HSN := hid hsn
      clear hacc hsn hown hownr c2 c3 c4 c5
      obtain ⟨A', cp, rfl⟩ := str_form hrow
      have hat := strs_own hrow
      have hin := rin_any acc (ys[j]).1.1.name A' cp wr hat (by omega)
      have hbz := hbel.size
      have hnn : acc.length ≤ 1000000 := by omega
      clear hat hnl
      generalize (ys[j]).1.1.op = op at *
      generalize (ys[j]).1.1.name = nm at *
      cases hop : rnamesOp op with
      | false =>
        have hsn : Hid (nmOf ((ys.take (j + 1)).map (·.e)) = acc) := by show _ = _; rw [HSN.out, hop]; rfl
        simp only [rnamesOp, Bool.or_eq_false_iff] at hop
        obtain ⟨h3, h4⟩ := hop
        by_cases h24 : 24 ≤ op
        · have h26 : 26 < op := by simp at h4; omega
          clear h4 HSN hin
          go_wp2_with fail
          go_roundw
          case rel => exact ⟨j + 1, by omega, by go_num, by rw [hsn.out]; exact hrow, hbel⟩
          case measure => simp [intOf]; omega
        · clear h4 HSN hin
          go_wp2_with fail
          go_roundw
          case rel => exact ⟨j + 1, by omega, by go_num, by rw [hsn.out]; exact hrow, hbel⟩
          case measure => simp [intOf]; omega
      | true =>
        rw [hop, Bool.true_and] at HSN
        have h3 : op = 3 ∨ (¬ op = 3 ∧ 24 ≤ op ∧ op ≤ 26) := by simp [rnamesOp] at hop; omega
        clear hop
        cases hi : inB acc nm with
        | true =>
          have hsn : Hid (nmOf ((ys.take (j + 1)).map (·.e)) = acc) := by show _ = _; rw [HSN.out, hi]; rfl
          rw [hi] at hin
          clear HSN hi
          rcases h3 with rfl | ⟨h3, h4, h5⟩
          all_goals
            (try have h6 : (op == 3) = false := by simpa using h3)
            go_wp2_with (go_at_call 49; refine hin.mono ?_; rintro r w2 ⟨rfl, rfl⟩)
            go_roundw
            case rel => exact ⟨j + 1, by omega, by go_num, by rw [hsn.out]; exact hrow, hbel⟩
            case measure => simp [intOf]; omega
        | false =>
          have hsn : Hid (nmOf ((ys.take (j + 1)).map (·.e)) = acc ++ [nm]) := by show _ = _; rw [HSN.out, hi]; rfl
          rw [hi] at hin
          clear HSN hi
          rcases h3 with rfl | ⟨h3, h4, h5⟩
          all_goals
            (try have h6 : (op == 3) = false := by simpa using h3)
            go_wp2_with (first
              | (go_at_call 49; refine hin.mono ?_; rintro r w2 ⟨rfl, rfl⟩; clear hin)
              | (at_builtin; refine wpList_append_own _ rfl _ _ _ rfl w1.heap.size 9 i0 _ 1 16 Try.underlying34 hi0 hz0 hz1 hz2 rfl (by omega) (.slice A' acc.length cp) acc.length (acc.map .string) rfl (hrow.alloc _) ⟨wr.heap.size, 0, none⟩ 1 1 [.string nm] rfl rfl (World.news_of_block (World.alloc_heap_new _ _)) (by intro u hu; simp at hu; subst hu; rfl) (by unfold maxLen; omega) (by omega) (by rw [World.size_alloc]; omega) ?_; intro v3 w3 hown3 hgrow3 _))
            have hbel3 : Below w1.heap.size w1 w3 := (hbel.alloc hbz _).grown hgrow3 (by rw [World.size_alloc]; omega) (fun k hk => ((hrow.alloc (.cells #[.string nm] 9)).lt k (by rw [← hk])).1)
            go_roundw
            case rel => exact ⟨j + 1, by omega, by go_num, by rw [hsn.out]; simpa using hown3, hbel3⟩
            case measure => simp [intOf]; omega
    · have : j = ys.length := by omega
      subst this
      have hfin : Hid (nmOf ((ys.take ys.length).map (·.e)) = nmOf e.pre) := by show _ = _; rw [List.take_length, HYS.out]
      rw [hfin.out] at hrow
      obtain ⟨A', cp, rfl⟩ := str_form hrow
      go_wp2_with fail
      go_ret
      exact ⟨A', cp, rfl, own_base hrow hbx.size, hbx.trans (hbel.mono hbx.size)⟩
end Go.Proofs.Ytiencmbbkbicnaa
