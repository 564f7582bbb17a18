/-
  The walk of the statement TreeTells.
-/
import Derived.Deep.RegionHeld3
import Derived.Shelf.RegionOpen
import Derived.Test.YtiencmbbkbicnaaNames12b
import Derived.Test.YtiencmbbkbicnaaQuietRound
import Derived.Test.YtiencmbbkbicnaaLawSame
namespace Go.Proofs.Ytiencmbbkbicnaa
open Go.RowKit Go.Shelf Go.Sort
attribute [local go_sem] Oper.semAt_some

/-- a world behind another -/
def Hind (W0 W : World) : Prop := Below W0.heap.size W0 W
theorem Hind.refl (W : World) : Hind W W := Below.refl _ _
theorem Hind.then {W0 W W' : World} (h : Hind W0 W) (h' : Below W.heap.size W W') : Hind W0 W' := Below.trans h (h'.mono h.size)
theorem Hind.drew {W0 W : World} (h : Hind W0 W) : Hind W0 W.drew := Below.drew h
theorem Hind.drewN {W0 W : World} (h : Hind W0 W) (n : Nat) : Hind W0 (W.drewN n) := h.then ⟨rfl, rfl, rfl, Nat.le_refl _, fun _ _ => rfl⟩
theorem Hind.cell {W0 W : World} (h : Hind W0 W) {b : Nat} (hb : b < W0.heap.size) (k : Nat) : W.cell? ⟨b, k, none⟩ = W0.cell? ⟨b, k, none⟩ := Below.cell (p := ⟨b, k, none⟩) h hb
theorem Hind.block {W0 W : World} (h : Hind W0 W) {b : Nat} (hb : b < W0.heap.size) : W.heap[b]? = W0.heap[b]? := Below.block h b hb

theorem own_below {w w' : World} {base : Nat} {e : TypeId} {size : Nat} {v : Value} {n : Nat} {xs : List Value} (h : w.ownsRow base e size v n xs) (hb : Below w.heap.size w w') : w'.ownsRow base e size v n xs :=
  h.kept ⟨hb.os, hb.tape, hb.output, hb.size, fun i hi _ => hb.block i hi⟩ (row := none) (by cases v.ownBlock <;> simp)

set_option maxRecDepth 100000 in
set_option maxHeartbeats 4000000 in
theorem treeTells_any (e : Ex) (op : Int) (B : Nat) (A : Option Addr) (cap : Nat) (w : World) (hE : ExAt B w e A cap) (hB : B ≤ w.heap.size) :
    Calls Try.prog 5 #[e.val A cap, .int .i64 op] w fun r w' => r = .returned (.bool true) ∧ Below w.heap.size w w' := by
  have hE' := ExAt.more hB e A cap hE
  have hfw := fun W (h : Below w.heap.size w W) => few_any e w.heap.size A cap W (hE'.below (Nat.le_refl _) h) h.size
  simp only [Ex.val] at hfw
  have HF := hid hfw
  clear hfw hE
  refine (callsIn_wide (n := 5)).1 ?_
  refine callsIn_of_wp_marks Try.func5 rfl trivial ?_ rfl
  simp only [Try.ntmps5, List.size_toArray, List.length_cons, List.length_nil, Nat.reduceAdd, Nat.reduceSub, Array.replicate_succ, Array.replicate_zero, List.push_toArray, List.append_toArray, List.nil_append, List.cons_append]
  simp only [Ex.val]
  refine wpIn_wide.2 ?_
  go_wp2_with fail
  have hW : ∃ W0, W0 = ((w.alloc (.cells #[.int .i64 e.op, .string e.name, .int .i64 e.num, .slice A e.k cap, .int .i64 e.line, .int .i64 e.col] 26)).alloc (.cells #[.bool false] 4)) := ⟨_, rfl⟩
  obtain ⟨W0, hW0⟩ := hW
  rw [← hW0]
  have hsz0 : W0.heap.size = w.heap.size + 2 := by rw [hW0]; simp
  have hbL : Below w.heap.size w W0 := by rw [hW0]; exact ((Below.refl _ _).alloc (Nat.le_refl _) _).alloc (by simp) _
  have hx0 : ExBox W0 w.heap.size e A cap := by
    rw [hW0]; unfold ExBox
    rw [Below.heap_alloc _ _ _ (by simp)]; exact World.alloc_heap_new w _
  have hr0 : Boxed W0 (w.heap.size + 1) 4 (.bool false) := by
    rw [hW0]; unfold Boxed
    have := World.alloc_heap_new (w.alloc (.cells #[.int .i64 e.op, .string e.name, .int .i64 e.num, .slice A e.k cap, .int .i64 e.line, .int .i64 e.col] 26)) (.cells #[.bool false] 4)
    simpa only [World.size_alloc] using this
  have hz0 : w.heap.size < W0.heap.size := by omega
  have hz1 : w.heap.size + 1 < W0.heap.size := by omega
  have HX0 := hid hx0.cells
  have HR0 := hid hr0
  have hcs : Hid (∀ W, Hind W0 W → W.cell? ⟨w.heap.size, 0, none⟩ = some (.int .i64 e.op) ∧ W.cell? ⟨w.heap.size, 1, none⟩ = some (.string e.name) ∧ W.cell? ⟨w.heap.size, 2, none⟩ = some (.int .i64 e.num) ∧ W.cell? ⟨w.heap.size, 3, none⟩ = some (.slice A e.k cap) ∧
    W.cell? ⟨w.heap.size, 4, none⟩ = some (.int .i64 e.line) ∧ W.cell? ⟨w.heap.size, 5, none⟩ = some (.int .i64 e.col)) := fun W h => by
      obtain ⟨x0, x1, x2, x3, x4, x5⟩ := HX0.out
      exact ⟨(h.cell hz0 0).trans x0, (h.cell hz0 1).trans x1, (h.cell hz0 2).trans x2, (h.cell hz0 3).trans x3, (h.cell hz0 4).trans x4, (h.cell hz0 5).trans x5⟩
  have HSZ := hid hsz0
  clear hW0 hx0 hr0 hsz0
  refine (awake12_any W0).mono ?_
  rintro r w1 ⟨rfl, hb1⟩
  have hk1 : Hind W0 w1 := (Hind.refl W0).then hb1
  obtain ⟨x0, x1, x2, x3, x4, x5⟩ := hcs.out w1 hk1
  go_wp2_with fail
  refine (HF.out w1 (hbL.trans (hb1.mono hbL.size))).mono ?_
  rintro r w2 ⟨rfl, hb2⟩
  have hk2 := hk1.then hb2
  have hbw2 : Below w.heap.size w w2 := hbL.trans (Below.mono hk2 hbL.size)
  clear x0 x1 x2 x3 x4 x5 hb1 hk1
  obtain ⟨x0, x1, x2, x3, x4, x5⟩ := hcs.out w2 hk2
  cases hf : e.few with
  | false =>
    have hr2 : Boxed w2 (w.heap.size + 1) 4 (.bool false) := (hk2.block hz1).trans HR0.out
    have hc := hr2.cell
    have hfz := hr2.frozen
    go_wp2_with fail
    refine ⟨.bool true, ?_, rfl, hbw2.setCell (p := ⟨w.heap.size + 1, 0, none⟩) (by simp) _⟩
    have hc2 := (hr2.set (.bool true)).cell
    simp [results, Try.f5, go_sem, hc2]
  | true =>
    obtain ⟨hs, hh, hn⟩ := Ex.few_fits hf
    clear hf HF
    have hl := rlist_any w.heap.size w (Nat.le_refl _) e A cap w2 hE' hbw2 (by omega)
    simp only [Ex.val] at hl
    go_wp2_with fail
    refine hl.mono ?_
    rintro r w3 ⟨ys, g, c, rfl, hys, hown, hb3⟩
    have hlen : ys.length = e.size := by rw [← pre_len, ← hys, List.length_map]
    have HYS := hid hys
    have HLEN := hid hlen
    have hk3 := hk2.then hb3
    have hyl : ys.length ≤ 200 := by omega
    clear hl hys hlen x0 x1 x2 x3 x4 x5 hb2 hk2 hb3 hbw2
    go_wp2_with fail
    have hW : ∃ W4, W4 = w3.alloc (.cells #[.slice (some ⟨g, 0, none⟩) ys.length c] 22) := ⟨_, rfl⟩
    obtain ⟨W4, hW4⟩ := hW
    have hk4 : Hind W0 W4 := by rw [hW4]; exact hk3.then ((Below.refl _ _).alloc (Nat.le_refl _) _)
    have hl4 : Boxed W4 w3.heap.size 22 (.slice (some ⟨g, 0, none⟩) ys.length c) := by rw [hW4]; exact World.alloc_heap_new w3 _
    have ho4 : W4.ownsRow w2.heap.size 26 6 (.slice (some ⟨g, 0, none⟩) ys.length c) ys.length (ys.flatMap Loc.cells) := by rw [hW4]; exact hown.alloc _
    have hz4 : w3.heap.size < W4.heap.size := by rw [hW4]; simp
    rw [← hW4]
    have HL4 := hid hl4.cell
    have HO4 := hid ho4
    clear hW4 hown hl4 ho4
    generalize w3.heap.size = Lb at *
    have hbw4 : Below w.heap.size w W4 := hbL.trans (Below.mono hk4 hbL.size)
    have hcs4 : Hid (∀ W, Hind W4 W → W.cell? ⟨w.heap.size, 0, none⟩ = some (.int .i64 e.op) ∧ W.cell? ⟨w.heap.size, 1, none⟩ = some (.string e.name) ∧ W.cell? ⟨w.heap.size, 2, none⟩ = some (.int .i64 e.num) ∧ W.cell? ⟨w.heap.size, 3, none⟩ = some (.slice A e.k cap) ∧
      W.cell? ⟨w.heap.size, 4, none⟩ = some (.int .i64 e.line) ∧ W.cell? ⟨w.heap.size, 5, none⟩ = some (.int .i64 e.col) ∧ W.cell? ⟨Lb, 0, none⟩ = some (.slice (some ⟨g, 0, none⟩) ys.length c)) := fun W h => by
        have h0 : Hind W0 W := Below.trans hk4 (Below.mono h hk4.size)
        obtain ⟨x0, x1, x2, x3, x4, x5⟩ := hcs.out W h0
        exact ⟨x0, x1, x2, x3, x4, x5, (h.cell hz4 0).trans HL4.out⟩
    have hkz : W0.heap.size ≤ W4.heap.size := hk4.size
    have hz4' : w.heap.size < W4.heap.size := by omega
    have hEW : ∀ W, Hind W4 W → ExAt w.heap.size W e A cap ∧ w.heap.size ≤ W.heap.size := fun W h =>
      ⟨hE'.below (Nat.le_refl _) (hbw4.trans (Below.mono h (by omega))), by have := Below.size h; omega⟩
    have hA1 : ∀ W, Hind W4 W → Calls Try.prog 18 #[e.val A cap] W fun r w' => r = .returned (.int .i64 e.height) ∧ Hind W4 w' := fun W h =>
      (height_any e w.heap.size A cap W (hEW W h).1 (hEW W h).2 (by omega)).mono fun r w' ⟨h1, h2⟩ => ⟨h1, h.then h2⟩
    have hA2 : ∀ W, Hind W4 W → Calls Try.prog 19 #[e.val A cap] W fun r w' => r = .returned (.int .i64 e.height) ∧ Hind W4 w' := fun W h =>
      (rheight_any e w.heap.size A cap W (hEW W h).1 (hEW W h).2 (by omega)).mono fun r w' ⟨h1, h2⟩ => ⟨h1, h.then h2⟩
    have hA3 : ∀ W, Hind W4 W → Calls Try.prog 20 #[e.val A cap] W fun r w' => r = .returned (.int .i64 ys.length) ∧ Hind W4 w' := fun W h =>
      (size_any e w.heap.size A cap W (hEW W h).1 (hEW W h).2 (by omega)).mono fun r w' ⟨h1, h2⟩ => ⟨by rw [h1, HLEN.out], h.then h2⟩
    have hA4 : ∀ W, Hind W4 W → Calls Try.prog 21 #[.int .i64 op] W fun r w' => r = .returned (.int .i64 (partsOf op)) ∧ Hind W4 w' := fun W h =>
      (parts_any op W).mono fun r w' ⟨h1, h2⟩ => ⟨h1, by rw [← h2]; exact h⟩
    have hA5 : ∀ W, Hind W4 W → Calls Try.prog 22 #[.int .i64 op] W fun r w' => r = .returned (.int .i64 (partsOf op)) ∧ Hind W4 w' := fun W h =>
      (rparts_any op W).mono fun r w' ⟨h1, h2⟩ => ⟨h1, h.then h2⟩
    have hA6 : ∀ W, Hind W4 W → Calls Try.prog 24 #[e.val A cap] W (Named e.pre W) := fun W h => cnames_any e w.heap.size A cap W (hEW W h).1 (hEW W h).2 (by omega)
    have hA7 : ∀ W, Hind W4 W → Calls Try.prog 25 #[e.val A cap] W (Named e.pre W) := fun W h => rnames_any e w.heap.size A cap W (hEW W h).1 (hEW W h).2 (by omega)
    have hnml : (nmOf e.pre).length ≤ 1000 := by have := nmOf_len e.pre; rw [pre_len] at this; omega
    have hself := sameStrs_self (nmOf e.pre)
    simp only [Ex.val] at hA1 hA2 hA3 hA6 hA7
    have HA1 := hid hA1
    have HA2 := hid hA2
    have HA3 := hid hA3
    have HA4 := hid hA4
    have HA5 := hid hA5
    have HA6 := hid hA6
    have HA7 := hid hA7
    have HEW := hid hEW
    have HSELF := hid hself
    unfold Named at HA6 HA7
    clear hA1 hA2 hA3 hA4 hA5 hA6 hA7 hEW hself
    generalize hnm : nmOf e.pre = nm at *
    clear hnm
    have hd4 : Hind W4 W4.drew := (Hind.refl W4).drew
    obtain ⟨x0, x1, x2, x3, x4, x5, x6⟩ := hcs4.out W4 (Hind.refl W4)
    generalize e.height = hgt at *
    generalize partsOf op = pts at *
    go_wp2_with fail
    go_region_held3 (fun w' => w'.cell? ⟨w.heap.size, 0, none⟩ = some (.int .i64 e.op) ∧ w'.cell? ⟨w.heap.size, 1, none⟩ = some (.string e.name) ∧ w'.cell? ⟨w.heap.size, 2, none⟩ = some (.int .i64 e.num) ∧ w'.cell? ⟨w.heap.size, 3, none⟩ = some (.slice A e.k cap) ∧
        w'.cell? ⟨w.heap.size, 4, none⟩ = some (.int .i64 e.line) ∧ w'.cell? ⟨w.heap.size, 5, none⟩ = some (.int .i64 e.col) ∧ w'.cell? ⟨Lb, 0, none⟩ = some (.slice (some ⟨g, 0, none⟩) ys.length c))
      (first | exact hcs4.out _ (by with_reducible assumption) | go_keep)
      (first
        | (go_at_call 18; refine (HA1.out _ (by with_reducible assumption)).mono ?_; rintro r w5 ⟨rfl, k5⟩)
        | (go_at_call 19; refine (HA2.out _ (by with_reducible assumption)).mono ?_; rintro r w6 ⟨rfl, k6⟩)
        | (go_at_call 20; refine (HA3.out _ (by with_reducible assumption)).mono ?_; rintro r w7 ⟨rfl, k7⟩)
        | (go_at_call 21; refine (HA4.out _ (by with_reducible assumption)).mono ?_; rintro r w8 ⟨rfl, k8⟩)
        | (go_at_call 22; refine (HA5.out _ (by with_reducible assumption)).mono ?_; rintro r w9 ⟨rfl, k9⟩)
        | (go_at_call 24; refine (HA6.out _ (by with_reducible assumption)).mono ?_; rintro r w10 ⟨A1, c1, rfl, own1, b10⟩; have k10 := Hind.then k9 b10)
        | (go_at_call 25; refine (HA7.out _ (by with_reducible assumption)).mono ?_; rintro r w11 ⟨A2, c2, rfl, own2, b11⟩; have k11 := Hind.then k10 b11; have own1' := own_below own1 b11)
        | (go_at_call 23; refine (rtexts_any nm nm A1 A2 c1 c2 _ (strs_own own1') (strs_own own2) (by omega)).mono ?_; rintro r w12 ⟨rfl, n12, rfl⟩; rw [HSELF.out]; have k12 := Hind.drewN k11 n12))
    generalize w11.drewN n12 = w13 at k12 ⊢
    have hq : ∀ (b : Nat) (W : World), (binOp BinOp.eql 37 (.func (.func 50) #[] #[.pointer (some ⟨b, 0, none⟩)]) .nilFunc).run Try.prog W = .ok (.bool false) W := fun b W => by kernel_rfl
    have hal := all_any e A cap
    simp only [Ex.val] at hal
    have HAL := hid hal
    clear own1 own2 own1' k5 k6 k7 k8 k9 k10 k11 b10 b11 hd4 x0 x1 x2 x3 x4 x5 x6 hal
    obtain ⟨x0, x1, x2, x3, x4, x5, x6⟩ := hcs4.out _ k12
    have hz13 : w.heap.size < w13.heap.size := by have := Below.size k12; omega
    go_wp2_with (go_at_call 26; refine (HAL.out _).mono ?_; rintro r w14 ⟨rfl, rfl⟩)
    clear x0 x1 x2 x3 x4 x5 x6 hq HAL HA1 HA2 HA3 HA4 HA5 HA6 HA7 HSELF
    have hW : ∃ WL, WL = ((w13.alloc (.cells #[.int .i64 0] 3)).alloc (.cells #[.int .i64 e.op, .string e.name, .int .i64 e.num, .slice A e.k cap, .int .i64 e.line, .int .i64 e.col] 26)) := ⟨_, rfl⟩
    obtain ⟨WL, hWL⟩ := hW
    rw [← hWL]
    have hszL : WL.heap.size = w13.heap.size + 2 := by rw [hWL]; simp
    have hkL : Hind W4 WL := by rw [hWL]; exact k12.then (((Below.refl _ _).alloc (Nat.le_refl _) _).alloc (by simp) _)
    have hnb : Boxed WL w13.heap.size 3 (.int .i64 0) := by
      rw [hWL]; unfold Boxed
      rw [Below.heap_alloc _ _ _ (by simp)]; exact World.alloc_heap_new w13 _
    have hxL : ExBox WL (w13.heap.size + 1) e A cap := by
      rw [hWL]; unfold ExBox
      have := World.alloc_heap_new (w13.alloc (.cells #[.int .i64 0] 3)) (.cells #[.int .i64 e.op, .string e.name, .int .i64 e.num, .slice A e.k cap, .int .i64 e.line, .int .i64 e.col] 26)
      simpa only [World.size_alloc] using this
    have hz13' : W4.heap.size ≤ w13.heap.size := Below.size k12
    generalize w13.heap.size = NB at *
    clear hWL k12
    have hEL := (HEW.out W4 (Hind.refl W4)).1
    have hEL' := ExAt.more (B' := W4.heap.size) (by omega) e A cap hEL
    have hlp : e.pre.length = ys.length := by rw [← HYS.out, List.length_map]
    have hrb : ∀ W, Below W4.heap.size WL W → Boxed W (w.heap.size + 1) 4 (.bool false) := fun W h => by
      have h1 : Hind W4 W := Below.trans hkL h
      have h2 : W4.heap[w.heap.size + 1]? = _ := (hk4.block hz1).trans HR0.out
      exact (h1.block (b := w.heap.size + 1) (by omega)).trans h2
    have HRB := hid hrb
    have HYE : Hid (∀ j (h : j < ys.length), ExAt W4.heap.size W4 (ys[j]).1.1 (ys[j]).1.2.1 (ys[j]).1.2.2) := fun j h =>
      ExAt.more (by omega) _ _ _ (ExAt.below (ys[j]).2 (Nat.le_refl _) hbw4)
    clear hrb hEL
    refine (wpIn_wide (n := 5)).1 ?_
    refine wpIn_rangeFunc_ownH rfl (by omega) (gf := 50) (lb := #[.pointer (some ⟨NB + 1, 0, none⟩)]) rfl trivial (enters_of Try.func50 (by kernel_rfl) rfl)
      (all_stops _ W4.heap.size W4 (Nat.le_refl _) (NB + 1) e A cap WL (by omega) hxL hEL' hkL) keepEx_t (keepEx_b (by have := Below.size hkL; omega)) (Below.refl _ _) (fun _ => rfl)
      (fun pre W => Boxed W NB 3 (.int .i64 (pre.length : Nat)) ∧ KeepEx W4.heap.size WL W)
      (fun c pre W => c = .ret ∧ ¬ (pre.map (·.e) <+: e.pre))
      (OwnFrom.and (Own.from (boxed_own _ _ _) _) (ownFrom_keepEx (by omega) (by omega)))
      (fun c => ownFrom_pure _ _)
      ⟨hnb, KeepEx.refl _ _⟩
      (fun x a' W => ∃ Bx, WL.heap.size ≤ Bx ∧ ExBox W Bx x.1.1 x.1.2.1 x.1.2.2 ∧ a' = { tmps := #[e.val A cap, Value.int IntKind.i64 op, Value.pointer (some ⟨w.heap.size, 0, none⟩), undef, Value.pointer (some ⟨w.heap.size + 1, 0, none⟩), Value.pointer (some ⟨Lb, 0, none⟩), Value.pointer (some ⟨NB, 0, none⟩), Value.func (Fn.func 50) #[] #[Value.pointer (some ⟨NB + 1, 0, none⟩)], .pointer (some ⟨Bx, 0, none⟩), Value.bool true, Value.bool false, e.val A cap, Value.bool true, Value.bool false, e.val A cap, Value.slice (some ⟨g, 0, none⟩) ys.length c, e.val A cap, Value.int IntKind.i64 ↑hgt, e.val A cap, Value.int IntKind.i64 ↑hgt, Value.bool false, Value.bool false, e.val A cap, Value.int IntKind.i64 ↑ys.length, Value.slice (some ⟨g, 0, none⟩) ys.length c, Value.int IntKind.i64 ↑ys.length, Value.bool false, Value.bool false, Value.bool false, Value.int IntKind.i64 op, Value.int IntKind.i64 pts, Value.int IntKind.i64 op, Value.int IntKind.i64 pts, Value.bool false, Value.bool false, Value.bool false, e.val A cap, Value.slice A1 nm.length c1, e.val A cap, Value.slice A2 nm.length c2, Value.bool true, Value.bool false, Value.bool false, e.val A cap, Value.func (Fn.func 50) #[] #[Value.pointer (some ⟨NB + 1, 0, none⟩)], Value.func (Fn.func 50) #[] #[Value.pointer (some ⟨NB + 1, 0, none⟩)], Value.bool false, Value.func (Fn.func 50) #[] #[Value.pointer (some ⟨NB + 1, 0, none⟩)], x.val, undef, undef, undef, undef, undef, undef, undef, undef, undef, undef, undef, undef, undef, undef, undef, undef, undef, undef, undef, undef, undef, undef, undef, undef, undef, undef, undef, undef, undef], defers := [] })
      (fun x a' s X Y row hs hg hr => by
        obtain ⟨Bx, h1, h2, h3⟩ := hs
        exact ⟨Bx, h1, ExBox.own (β := Unit) _ Bx _ _ _ () X Y row h2 hg hr, h3⟩)
      ?assign ?body ?done ?stop
    case assign =>
      rintro l pre x W K ⟨hb, hk⟩ hK
      simp only [Loc.val, Ex.val] at hK ⊢
      have hsz := hk.below.size
      gi_wp2
      have hKX : KeepEx W4.heap.size W (W.alloc (.cells #[.int .i64 x.1.1.op, .string x.1.1.name, .int .i64 x.1.1.num, .slice x.1.2.1 x.1.1.k x.1.2.2, .int .i64 x.1.1.line, .int .i64 x.1.1.col] 26)) := (KeepEx.refl _ W).alloc (by omega) _
      have hEB : ExBox (W.alloc (.cells #[.int .i64 x.1.1.op, .string x.1.1.name, .int .i64 x.1.1.num, .slice x.1.2.1 x.1.1.k x.1.2.2, .int .i64 x.1.1.line, .int .i64 x.1.1.col] 26)) W.heap.size x.1.1 x.1.2.1 x.1.2.2 := World.alloc_heap_new W _
      generalize W.heap.size = Bx at *
      exact hK _ _ ((KeepsOthers.alloc _ _).from _) hKX ⟨hb.alloc _, hk.trans hKX⟩ ⟨Bx, hsz, hEB, rfl⟩
    case body =>
      rintro l pre x a' W hl hr' ⟨hb, hk⟩ ⟨Bx, hBx, hxb, rfl⟩ hlt
      rw [hlp] at hlt
      have hkk : Hind W4 W := Below.trans hkL hk.below
      have hszW := hk.below.size
      have hsz4 := Below.size hkk
      obtain ⟨d0, d1, d2, d3, d4, d5⟩ := hxb.cells
      have hxlt : Bx < W.heap.size := (Array.getElem?_eq_some_iff.1 hxb).1
      obtain ⟨c0, c1, c2, c3, c4, c5⟩ := row_cells (own_below HO4.out hkk) rfl pre.length hlt
      have hglt : g < W.heap.size := by have := (HO4.out.lt g rfl).2; omega
      have hnc := hb.cell
      have hlc : W.cell? ⟨Lb, 0, none⟩ = some (.slice (some ⟨g, 0, none⟩) ys.length c) := (hkk.cell hz4 0).trans HL4.out
      have hye := HYE.out pre.length hlt
      have hfacts : Hid ((pre ++ [x]).map (·.e) <+: e.pre → x.1.1.same (ys[pre.length]).1.1 = true ∧ x.1.1.line = (ys[pre.length]).1.1.line ∧ x.1.1.col = (ys[pre.length]).1.1.col) := fun hp => by
        have h1 := hp.getElem (i := pre.length) (by simp)
        have h2 : e.pre[pre.length]? = some (ys[pre.length]).1.1 := by
          rw [← HYS.out, List.getElem?_map, List.getElem?_eq_getElem hlt]; rfl
        have h3 : e.pre[pre.length]? = some x.1.1 := by
          rw [List.getElem?_eq_getElem (by rw [hlp]; exact hlt), ← h1]
          simp [Loc.e]
        have h4 : x.1.1 = (ys[pre.length]).1.1 := by rw [h2] at h3; injection h3 with h3; exact h3.symm
        rw [← h4]
        exact ⟨same_self _ (ExAt.ok _ _ _ x.2), rfl, rfl⟩
      have hsm := fun W' (h : Hind W W') => rsame_any x.1.1 (ys[pre.length]).1.1 W4.heap.size x.1.2.1 (ys[pre.length]).1.2.1 x.1.2.2 (ys[pre.length]).1.2.2 W'
        (ExAt.below x.2 (Nat.le_refl _) (Below.trans hkk (Below.mono h hsz4))) (ExAt.below hye (Nat.le_refl _) (Below.trans hkk (Below.mono h hsz4))) (by have := Below.size h; omega)
      simp only [Ex.val] at hsm
      have hcells : ∀ W', Hind W W' → W'.cell? ⟨NB, 0, none⟩ = some (.int .i64 (pre.length : Nat)) ∧ W'.cell? ⟨Lb, 0, none⟩ = some (.slice (some ⟨g, 0, none⟩) ys.length c) ∧ W'.cell? ⟨g, pre.length * 6 + 4, none⟩ = some (.int .i64 (ys[pre.length]).1.1.line) ∧ W'.cell? ⟨g, pre.length * 6 + 5, none⟩ = some (.int .i64 (ys[pre.length]).1.1.col) ∧
          W'.cell? ⟨Bx, 4, none⟩ = some (.int .i64 x.1.1.line) ∧ W'.cell? ⟨Bx, 5, none⟩ = some (.int .i64 x.1.1.col) := fun W' h =>
        ⟨(h.cell hb.lt 0).trans hnc, (h.cell (by omega) 0).trans hlc, (h.cell hglt _).trans c4, (h.cell hglt _).trans c5, (h.cell hxlt _).trans d4, (h.cell hxlt _).trans d5⟩
      have hend : Hid (∀ W', Hind W W' → Boxed W' NB 3 (.int .i64 (pre.length : Nat)) ∧ Boxed W' (w.heap.size + 1) 4 (.bool false) ∧ KeepEx W4.heap.size W W') := fun W' h =>
        ⟨(h.block hb.lt).trans hb, HRB.out W' (hk.below.trans (Below.mono h hsz4)), keepEx_of_below h hsz4⟩
      have HSM := hid hsm
      have HC := hid hcells
      have hfn : Fence.wide.fn 16 := trivial
      have hdep : 1 ≤ 5 - 1 - 1 := by omega
      have hmix : Try.prog.follows .mixedOrders = true := by kernel_rfl
      have hw0 : Hind W W.drew := (Hind.refl W).drew
      have HXX : Hid (x.1.1.same (ys[pre.length]).1.1 = x.1.1.same (ys[pre.length]).1.1) := rfl
      have hi0 : (0 : Int) ≤ (pre.length : Nat) := by omega
      have hi1 : ((pre.length : Nat) : Int) < (ys.length : Nat) := by omega
      clear hsm hcells hye hr' HXX
      have hk0 := hid hk
      have hpb : ((pre.length : Nat) : Int) ≤ 1000 := by omega
      have hnb4 : W4.heap.size ≤ NB := hz13'
      clear HX0 HR0 hcs hcs4 HL4 HO4 HEW HRB HYE HSZ hEL' hE' hxL hnb hk3 hk4 hbw4 hbL hz0 hz1 hz4 hz4' hkz hkL hkk hnml hs hyl hh hszL hz13' hxb hb hk hlp
      generalize e.val A cap = EV
      generalize Value.func (Fn.func 50) #[] #[Value.pointer (some ⟨NB + 1, 0, none⟩)] = FV
      generalize Value.slice A1 nm.length _ = SV
      generalize Value.slice A2 nm.length _ = SV2
      generalize Value.int IntKind.i64 (hgt : Int) = HV
      generalize Value.int IntKind.i64 op = OV
      generalize Value.int IntKind.i64 pts = PV
      simp only [Loc.val, Ex.val]
      generalize x.1.1.same (ys[pre.length]).1.1 = sm at *
      have m0 := cell_regrown hnc
      have m1 := cell_regrown hlc
      have m2 := cell_regrown c0
      have m3 := cell_regrown c1
      have m4 := cell_regrown c2
      have m5 := cell_regrown c3
      have m6 := cell_regrown c4
      have m7 := cell_regrown c5
      have m8 := cell_regrown d0
      have m9 := cell_regrown d1
      have m10 := cell_regrown d2
      have m11 := cell_regrown d3
      have m12 := cell_regrown d4
      have m13 := cell_regrown d5
      have cS := fun d os => CallsIn.inRound l (CallsIn.regrown_of ((callsIn_wide (n := 2)).2 (HSM.out _ (show Hind W (grow (redrawn W d) os) from below_regrown W d os))))
      clear hnc hlc c0 c1 c2 c3 c4 c5 d0 d1 d2 d3 d4 d5
      cases sm with
      | false =>
        have hnp : Hid (¬ (pre ++ [x]).map (·.e) <+: e.pre) := fun h => by have := (hfacts.out h).1; cases this
        gi_wp2_with fail
        refine round_region_below (by kernel_rfl) hmix (by kernel_rfl) ?_
        repeat (quiet_step_in (first | exact ⟨fun h => by cases h, cS _ _⟩ | exact cS _ _))
        refine wpQuietIn_nil ?_
        intro _ hw'
        obtain ⟨⟨dq, osq⟩, hw''⟩ := hw'
        subst hw''
        have hzz : Hind W (grow (redrawn W dq) osq) := below_regrown W dq osq
        generalize grow (redrawn W dq) osq = Wz at hzz ⊢
        obtain ⟨hbz, hrz, hkz⟩ := hend.out Wz hzz
        have hrc := hrz.cell
        have hrf := hrz.frozen
        gi_wp2
        exact ⟨(keepsFrom_of_below hzz).trans ((KeepsOthers.setCell _ _ _).from _), rfl, hnp.out⟩
      | true =>
        by_cases hl1 : x.1.1.line = (ys[pre.length]).1.1.line
        · by_cases hl2 : x.1.1.col = (ys[pre.length]).1.1.col
          · have e1 : (x.1.1.line == (ys[pre.length]).1.1.line) = true := by simpa using hl1
            have e2 : (x.1.1.col == (ys[pre.length]).1.1.col) = true := by simpa using hl2
            clear hl1 hl2
            gi_wp2_with fail
            refine round_region_below (by kernel_rfl) hmix (by kernel_rfl) ?_
            repeat (quiet_step_in (first | exact ⟨fun h => by cases h, cS _ _⟩ | exact cS _ _))
            refine wpQuietIn_nil ?_
            intro _ hw'
            obtain ⟨⟨dq, osq⟩, hw''⟩ := hw'
            subst hw''
            have hzz : Hind W (grow (redrawn W dq) osq) := below_regrown W dq osq
            generalize grow (redrawn W dq) osq = Wz at hzz ⊢
            obtain ⟨hbz, hrz, hkz⟩ := hend.out Wz hzz
            have hrc := hbz.cell
            have hrf := hbz.frozen
            gi_wp2
            have hkb : KeepEx W4.heap.size Wz (Wz.setCell ⟨NB, 0, none⟩ (.int .i64 ((pre.length : Nat) + 1))) := KeepEx.box hbz hnb4 (by decide) _
            refine ⟨(keepsFrom_of_below hzz).trans ((KeepsOthers.setCell _ _ _).from _), hkz.trans hkb, ?_, hk0.out.trans (hkz.trans hkb)⟩
            have hb9 := hbz.set (.int .i64 ((pre.length : Nat) + 1))
            rw [List.length_append]
            exact hb9
          · have e1 : (x.1.1.line == (ys[pre.length]).1.1.line) = true := by simpa using hl1
            have e2 : (x.1.1.col == (ys[pre.length]).1.1.col) = false := by simpa using hl2
            have hnp : Hid (¬ (pre ++ [x]).map (·.e) <+: e.pre) := fun h => hl2 (hfacts.out h).2.2
            clear hl1 hl2
            gi_wp2_with fail
            refine round_region_below (by kernel_rfl) hmix (by kernel_rfl) ?_
            repeat (quiet_step_in (first | exact ⟨fun h => by cases h, cS _ _⟩ | exact cS _ _))
            refine wpQuietIn_nil ?_
            intro _ hw'
            obtain ⟨⟨dq, osq⟩, hw''⟩ := hw'
            subst hw''
            have hzz : Hind W (grow (redrawn W dq) osq) := below_regrown W dq osq
            generalize grow (redrawn W dq) osq = Wz at hzz ⊢
            obtain ⟨hbz, hrz, hkz⟩ := hend.out Wz hzz
            have hrc := hrz.cell
            have hrf := hrz.frozen
            gi_wp2
            exact ⟨(keepsFrom_of_below hzz).trans ((KeepsOthers.setCell _ _ _).from _), rfl, hnp.out⟩
        · have e1 : (x.1.1.line == (ys[pre.length]).1.1.line) = false := by simpa using hl1
          have hnp : Hid (¬ (pre ++ [x]).map (·.e) <+: e.pre) := fun h => hl1 (hfacts.out h).2.1
          clear hl1
          gi_wp2_with fail
          refine round_region_below (by kernel_rfl) hmix (by kernel_rfl) ?_
          repeat (quiet_step_in (first | exact ⟨fun h => by cases h, cS _ _⟩ | exact cS _ _))
          refine wpQuietIn_nil ?_
          intro _ hw'
          obtain ⟨⟨dq, osq⟩, hw''⟩ := hw'
          subst hw''
          have hzz : Hind W (grow (redrawn W dq) osq) := below_regrown W dq osq
          generalize grow (redrawn W dq) osq = Wz at hzz ⊢
          obtain ⟨hbz, hrz, hkz⟩ := hend.out Wz hzz
          have hrc := hrz.cell
          have hrf := hrz.frozen
          gi_wp2
          exact ⟨(keepsFrom_of_below hzz).trans ((KeepsOthers.setCell _ _ _).from _), rfl, hnp.out⟩
    case done =>
      rintro D zs W hD hzs ⟨hb, hk⟩ hK
      have hzl : zs.length = ys.length := by rw [← hlp, ← hzs, List.length_map]
      rw [hzl] at hb
      have hkk : Hind W4 W := Below.trans hkL hk.below
      have hrz := HRB.out W hk.below
      have hnc := hb.cell
      have hlc : W.cell? ⟨Lb, 0, none⟩ = some (.slice (some ⟨g, 0, none⟩) ys.length c) := (hkk.cell hz4 0).trans HL4.out
      have hrc := hrz.cell
      have hrf := hrz.frozen
      clear HX0 HR0 hcs hcs4 HL4 HO4 HEW HRB HYE hEL' hE' hxL hnb
      go_wp2_with fail
      have hK2 := (KeepsOthers.setCell W ⟨w.heap.size + 1, 0, none⟩ (.bool true)).same D _ hK rfl
      refine ⟨by simp, .inl ⟨_, _, rfl, run_takeDeferred hK2, ?_⟩⟩
      have hcr := cell_kept (hrz.set (.bool true)).cell (grownBy_putObj' _ D (.deferred none)) (fun r e => by cases e; exact ⟨_, hK2, rfl⟩)
      have hbw : Below w.heap.size w W := hbw4.trans (Below.mono hkk (by omega))
      refine ⟨.bool true, ?_, rfl, (hbw.setCell (p := ⟨w.heap.size + 1, 0, none⟩) (by simp) _).trans (belowK_b (w := w) (Nat.le_refl _) _ D _ _ (by have := Below.size hkL; omega) hK2 rfl rfl)⟩
      simp [results, Try.f5, go_sem, hcr]
    case stop =>
      rintro D c pre W hD hpre ⟨_, hF⟩ hK
      exact absurd hpre hF
end Go.Proofs.Ytiencmbbkbicnaa
