/-
  The walk of the reference's List.
-/
import Derived.Deep.AppendLies
import Derived.Test.YtnlikhjmmnaknaaDoorTreeR2
namespace Go.Proofs.YtnlikhjmmnaknaaDoor
open Go.RowKit

theorem Ex.info : (Tryd.prog.info? 26).map (fun i => (i.zero, i.size, i.bytes)) = some (some (.agg #[.int .i64 0, .string ⟨#[]⟩, .int .i64 0, .slice none 0 0, .int .i64 0, .int .i64 0]), 6, 72) := by kernel_rfl

/-- an expression's cells -/
def Loc.cells {B : Nat} {w : World} (x : Loc B w) : List Value := [.int .i64 x.1.1.op, .string x.1.1.name, .int .i64 x.1.1.num, .slice x.1.2.1 x.1.1.k x.1.2.2, .int .i64 x.1.1.line, .int .i64 x.1.1.col]

theorem flat_len {B : Nat} {w : World} (ys : List (Loc B w)) : (ys.flatMap Loc.cells).length = ys.length * 6 := by
  induction ys with
  | nil => rfl
  | cons y ys ih => simp only [List.flatMap_cons, List.length_append, ih, Loc.cells, List.length_cons, List.length_nil]; omega
theorem flat_one {B : Nat} {w : World} (ys : List (Loc B w)) : ∀ u ∈ ys.flatMap Loc.cells, u.oneCell' = true := by
  intro u hu
  obtain ⟨y, _, hy⟩ := List.mem_flatMap.1 hu
  simp only [Loc.cells, List.mem_cons, List.not_mem_nil, or_false] at hy
  rcases hy with rfl | rfl | rfl | rfl | rfl | rfl <;> rfl
theorem flatTo_sum {α : Type} (f : Nat → List α) (k : Nat) : (flatTo f k).length = sumTo (fun i => (f i).length) k := by
  induction k with
  | zero => rfl
  | succ k ih => rw [flatTo_succ, List.length_append, ih, sumTo_succ]
theorem sumTo_congr {f g : Nat → Nat} (k : Nat) (h : ∀ i, i < k → f i = g i) : sumTo f k = sumTo g k := by
  induction k with
  | zero => rfl
  | succ k ih => rw [sumTo_succ, sumTo_succ, ih (fun i hi => h i (by omega)), h k (by omega)]
theorem pre_len : ∀ e : Ex, e.pre.length = e.size := by
  intro e
  induction e with
  | junk => rfl
  | mk op name n k arg l c ih =>
    rw [Ex.pre, Ex.size, List.length_cons, flatTo_sum, sumTo_congr k (fun i _ => ih i)]; omega
theorem size_pos {B : Nat} {w : World} {e : Ex} {A : Option Addr} {cap : Nat} (h : ExAt B w e A cap) : 0 < e.size := by
  cases e with
  | junk => exact h.elim
  | mk op name n k arg l c => simp only [Ex.size]; omega
theorem grown_of_below {w w' : World} (h : Below w.heap.size w w') : w.grownBy w' none := ⟨h.os, h.tape, h.output, h.size, fun i hi _ => h.block i hi⟩

theorem own_base {w : World} {base base' : Nat} {e : TypeId} {size : Nat} {v : Value} {n : Nat} {xs : List Value} (h : w.ownsRow base e size v n xs) (hb : base' ≤ base) : w.ownsRow base' e size v n xs := by
  refine ⟨h.1, ?_⟩
  rcases h.2 with h0 | ⟨g, cap, cur, h1, h2, h3⟩
  · exact .inl h0
  · exact .inr ⟨g, cap, cur, h1, by omega, h3⟩

/-- what List comes to -/
def Listed {B : Nat} {w0 : World} (e : Ex) (w : World) (r : Ending) (w' : World) : Prop :=
  ∃ (ys : List (Loc B w0)) (g c : Nat), r = .returned (.slice (some ⟨g, 0, none⟩) ys.length c) ∧ ys.map (·.e) = e.pre ∧ w'.ownsRow w.heap.size 26 6 (.slice (some ⟨g, 0, none⟩) ys.length c) ys.length (ys.flatMap Loc.cells) ∧ Below w.heap.size w w'

set_option maxHeartbeats 1000000 in
theorem rlist_any (B : Nat) (w0 : World) (hB0 : B ≤ w0.heap.size) (e : Ex) : ∀ (A : Option Addr) (cap : Nat) (w : World), ExAt B w0 e A cap → Below B w0 w → e.size ≤ 1000000 →
    Calls Tryd.prog 21 #[e.val A cap] w (Listed (B := B) (w0 := w0) e w) := by
  induction e with
  | junk => intro A cap w h; exact h.elim
  | mk op name n k arg l c ih =>
    intro A cap w hE hBw hsize
    have hx : ∃ x : Loc B w0, x.e = .mk op name n k arg l c ∧ x.cells = [.int .i64 op, .string name, .int .i64 n, .slice A k cap, .int .i64 l, .int .i64 c] := ⟨⟨(_, A, cap), hE⟩, rfl, rfl⟩
    obtain ⟨x, hxe, hxc⟩ := hx
    have HXE := hid hxe
    have HXC := hid hxc
    clear hxe hxc
    obtain ⟨⟨_, _, _, _, _, hk, hcap⟩, hargs⟩ := hE
    simp only [Ex.val, Ex.op, Ex.name, Ex.num, Ex.k, Ex.line, Ex.col]
    unfold maxLen at hcap
    have hcap' : (k : Int) ≤ 9223372036854775807 := by omega
    have hBs := Nat.le_trans hB0 hBw.size
    obtain ⟨i0, hi, hz0, hz1, hz2⟩ := info_parts Ex.info
    go_enter Tryd.func21, Tryd.ntmps21
    go_wp2_with fail
    go_loopw [3, 4] (fun v i wr => ∃ (j : Nat) (ys : List (Loc B w0)) (g cp : Nat), j ≤ k ∧ i = .int .i64 j ∧ v = .slice (some ⟨g, 0, none⟩) (ys.length + 1) cp ∧ Hid (ys.map (·.e) = flatTo (fun i => (arg i).pre) j) ∧
      wr.ownsRow (w.heap.size + 1) 26 6 (.slice (some ⟨g, 0, none⟩) (ys.length + 1) cp) (ys.length + 1) ((x :: ys).flatMap Loc.cells) ∧ Below (w.heap.size + 1) (w.alloc (.cells #[.int .i64 op, .string name, .int .i64 n, .slice A k cap, .int .i64 l, .int .i64 c] 26)) wr) (fun _ i _ => k - (intOf i).toNat)
    case atStart =>
      refine ⟨0, [], w.heap.size + 1, 1, by omega, rfl, rfl, rfl, ?_, (Below.refl _ _).alloc (by simp) _⟩
      have h := World.ownsRow_lit (base := w.heap.size + 1) (e := 26) (size := 6) (w.alloc (.cells #[.int .i64 op, .string name, .int .i64 n, .slice A k cap, .int .i64 l, .int .i64 c] 26)) #[.int .i64 op, .string name, .int .i64 n, .slice A k cap, .int .i64 l, .int .i64 c] 1 (by simp) (by unfold maxLen; omega) rfl
      rw [World.size_alloc] at h
      simpa [HXC.out] using h
    case round =>
      obtain ⟨j, ys, g, cp, hj, rfl, rfl, hys, hown, hbel⟩ := hrel
      have hsl := boxed_cell hbel 3
      have hsz := boxed_size hbel
      have hw := boxed_below hbel
      have hwB := hBw.trans (hw.mono hBs)
      by_cases hlt : j < k
      · obtain ⟨b, o, A', cap', rfl, hb, hcells, hin⟩ := hargs j hlt
        have hc := hcells.keep (w' := wr) fun i => hwB.cell (p := ⟨b, i, none⟩) (by simp; omega)
        obtain ⟨c0, c1, c2, c3, c4, c5⟩ := hc
        clear hcells
        have hsum : Hid (ys.length + (arg j).pre.length < 1000000) := by
          have h1 : ys.length = (flatTo (fun i => (arg i).pre) j).length := by rw [← hys.out, List.length_map]
          have h2 := flatTo_le (f := fun i => (arg i).pre) (show j + 1 ≤ k from hlt)
          have h3 := pre_len (.mk op name n k arg l c)
          rw [Ex.pre, List.length_cons] at h3
          rw [flatTo_succ, List.length_append] at h2
          show _ < _
          omega
        have hsj : (arg j).size ≤ 1000000 := by have := hsum.out; rw [pre_len] at this; omega
        go_wp2_with fail
        refine (ih j A' cap' _ hin hwB hsj).mono ?_
        rintro r w1 ⟨zs, g1, c1', rfl, hzs, hown1, hb1⟩
        have hzl : zs.length = (arg j).pre.length := by rw [← hzs, List.length_map]
        have hzp : 0 < zs.length := by rw [hzl, pre_len]; exact size_pos hin
        have hsum' : ys.length + zs.length < 1000000 := by rw [hzl]; exact hsum.out
        have hownk := hown.kept (grown_of_below hb1) (.inr (by simp [Value.ownBlock]))
        have HZS := hid hzs
        clear hzs hzl hsum
        have hs1 := hb1.size
        go_wp2_with (at_builtin; refine wpList_append_lies _ rfl _ _ _ rfl (w.heap.size + 1) 26 i0 _ 6 72 Tryd.underlying22 hi hz0 hz1 hz2 rfl (by omega) _ _ _ (by rfl) hownk ⟨g1, 0, none⟩ zs.length c1' (zs.flatMap Loc.cells) (by rfl) (flat_len zs) (hown1.cells rfl) (flat_one zs) (by omega) (by unfold maxLen; omega) (by omega) (by omega) _ rfl ?_; intro g2 cap2 w2 hown2 hgrow2 hat2 hlt2)
        have hbw2 : Below (w.heap.size + 1) wr w2 := (hb1.mono (by omega)).grown hgrow2 (by omega) (fun k hk => by
          have := (hownk.lt k (by rw [← hk])).1
          exact this)
        go_roundw
        case rel =>
          refine ⟨j + 1, ys ++ zs, g2, cap2, by omega, by go_num, ?_, ?_, ?_, hbel.trans hbw2⟩
          · rw [show (ys ++ zs).length + 1 = ys.length + 1 + zs.length by rw [List.length_append]; omega]
          · show _ = _
            rw [List.map_append, hys.out, HZS.out, flatTo_succ]
          · have e1 : (ys ++ zs).length + 1 = ys.length + 1 + zs.length := by rw [List.length_append]; omega
            rw [e1]
            simpa using hown2
        case measure => simp [intOf]; omega
      · have : j = k := by omega
        subst this
        go_wp2_with fail
        go_ret
        refine ⟨x :: ys, g, cp, rfl, by simp [HXE.out, hys.out, Ex.pre], ?_, hw⟩
        exact own_base hown (by omega)
end Go.Proofs.YtnlikhjmmnaknaaDoor
