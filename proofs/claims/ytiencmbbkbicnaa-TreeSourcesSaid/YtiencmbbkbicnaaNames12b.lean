/-
  The walk of the code's Names: a range over the iterator, with an append.
-/
import Derived.Test.YtiencmbbkbicnaaNames12
namespace Go.Proofs.Ytiencmbbkbicnaa
open Go.RowKit Go.Shelf
attribute [local go_sem] Oper.semAt_some

theorem KeepEx.appended {B Bx : Nat} {W w1 : World} {v v' : Value} {k : Nat} {xs : List Value} {tmp : Obj} (hv : Boxed W Bx 34 v) (hrow : W.ownsRow B 9 1 v k xs) (hgrow : (W.alloc tmp).grownBy w1 v.ownBlock)
    (hbel : Below B W (w1.setCell ⟨Bx, 0, none⟩ v')) : KeepEx B W (w1.setCell ⟨Bx, 0, none⟩ v') :=
  ⟨hbel, fun j cs hj => by
    have hlt : j < W.heap.size := (Array.getElem?_eq_some_iff.1 hj).1
    have h1 : (W.alloc tmp).heap[j]? = _ := (Below.heap_alloc W tmp j hlt).trans hj
    have hne : some j ≠ v.ownBlock := fun e => by
      rcases hrow.2 with ⟨rfl, _⟩ | ⟨g, cap, cur, rfl, _, hgb, _⟩
      · simp [Value.ownBlock] at e
      · obtain rfl : j = g := by simpa [Value.ownBlock] using e
        rw [hj] at hgb; injection hgb with h2; injection h2 with _ h3; exact absurd h3 (by decide)
    have hnb : j ≠ Bx := fun e => by
      subst e
      rw [show W.heap[j]? = _ from hv] at hj
      injection hj with hj; injection hj with _ hj; exact absurd hj (by decide)
    exact (Below.heap_setCell w1 ⟨Bx, 0, none⟩ v' j hnb).trans ((hgrow.block j (by simp; omega) hne).trans h1)⟩

set_option maxRecDepth 100000 in
set_option maxHeartbeats 2000000 in
theorem cnames_any (e : Ex) (B : Nat) (A : Option Addr) (cap : Nat) (w : World) (hE : ExAt B w e A cap) (hB : B ≤ w.heap.size) (hs : e.size ≤ 1000000) :
    Calls Try.prog 24 #[e.val A cap] w (Named e.pre w) := by
  have hE' := ExAt.more hB e A cap hE
  obtain ⟨i0, hi0, hz0, hz1, hz2⟩ := info_parts Str.info
  refine (callsIn_wide (n := 5)).1 ?_
  refine callsIn_of_wp_marks Try.func24 rfl trivial ?_ rfl
  simp only [Try.ntmps24, List.size_toArray, List.length_cons, List.length_nil, Nat.reduceAdd, Nat.reduceSub, Array.replicate_succ, Array.replicate_zero, List.push_toArray, List.append_toArray, List.nil_append, List.cons_append]
  simp only [Ex.val]
  gi_wp2_with fail
  refine ⟨trivial, ?_⟩
  refine (callsIn_wide.2 (all_any e A cap _)).mono ?_
  rintro r w' ⟨rfl, rfl⟩
  gi_wp2_with fail
  have hW : ∃ WL, WL = (((w.alloc (.cells #[.int .i64 e.op, .string e.name, .int .i64 e.num, .slice A e.k cap, .int .i64 e.line, .int .i64 e.col] 26)).alloc (.cells #[.slice none 0 0] 34)).alloc (.cells #[.int .i64 e.op, .string e.name, .int .i64 e.num, .slice A e.k cap, .int .i64 e.line, .int .i64 e.col] 26)) := ⟨_, rfl⟩
  obtain ⟨WL, hWL⟩ := hW
  rw [← hWL]
  have hsz : WL.heap.size = w.heap.size + 3 := by rw [hWL]; simp
  have hbL : Below w.heap.size w WL := by rw [hWL]; exact (((Below.refl _ _).alloc (Nat.le_refl _) _).alloc (by simp) _).alloc (by simp; omega) _
  have hx2 : ExBox WL (w.heap.size + 1 + 1) e A cap := by
    rw [hWL]; unfold ExBox
    have := World.alloc_heap_new ((w.alloc (.cells #[.int .i64 e.op, .string e.name, .int .i64 e.num, .slice A e.k cap, .int .i64 e.line, .int .i64 e.col] 26)).alloc (.cells #[.slice none 0 0] 34)) (.cells #[.int .i64 e.op, .string e.name, .int .i64 e.num, .slice A e.k cap, .int .i64 e.line, .int .i64 e.col] 26)
    simpa only [World.size_alloc] using this
  have hr : Boxed WL (w.heap.size + 1) 34 (.slice none 0 0) := by
    rw [hWL]; unfold Boxed
    rw [Below.heap_alloc _ _ _ (by simp)]
    have := World.alloc_heap_new (w.alloc (.cells #[.int .i64 e.op, .string e.name, .int .i64 e.num, .slice A e.k cap, .int .i64 e.line, .int .i64 e.col] 26)) (.cells #[.slice none 0 0] 34)
    simpa only [World.size_alloc] using this
  clear hWL
  have hpl : e.pre.length ≤ 1000000 := by rw [pre_len]; exact hs
  refine wpIn_rangeFunc_ownH rfl (by omega) (gf := 50) (lb := #[.pointer (some ⟨w.heap.size + 1 + 1, 0, none⟩)]) rfl trivial (enters_of Try.func50 (by kernel_rfl) rfl)
    (all_stops _ w.heap.size w (Nat.le_refl _) (w.heap.size + 1 + 1) e A cap WL (by omega) hx2 hE' hbL) keepEx_t (keepEx_b (by omega)) (Below.refl _ _) (fun _ => rfl)
    (fun pre W => (∃ v, Boxed W (w.heap.size + 1) 34 v ∧ W.ownsRow w.heap.size 9 1 v (nmOf (pre.map (·.e))).length ((nmOf (pre.map (·.e))).map .string) ∧ True) ∧ KeepEx w.heap.size WL W)
    (fun c pre W => False)
    (OwnFrom.and (Own.from (holdsRow_own _ _ _ _ _ _ _ (fun _ _ => True)) _) (ownFrom_keepEx (by omega) (by omega)))
    (fun c => ownFrom_pure _ (fun _ => False))
    ⟨⟨_, hr, World.ownsRow_nil _ _ _ _, trivial⟩, KeepEx.refl _ _⟩
    (fun x a' W => ∃ Bx, WL.heap.size ≤ Bx ∧ ExBox W Bx x.1.1 x.1.2.1 x.1.2.2 ∧ a' = { tmps := #[e.val A cap, .pointer (some ⟨w.heap.size, 0, none⟩), .slice none 0 0, .pointer (some ⟨w.heap.size + 1, 0, none⟩), .pointer (some ⟨Bx, 0, none⟩), e.val A cap, .func (.func 50) #[] #[.pointer (some ⟨w.heap.size + 1 + 1, 0, none⟩)], x.val, undef, undef, undef, undef, undef, undef, undef, undef, undef, undef, undef, undef, undef, undef, undef, undef], defers := [] })
    (fun x a' s X Y row hs hg hr => by
      obtain ⟨Bx, h1, h2, h3⟩ := hs
      exact ⟨Bx, h1, ExBox.own (β := Unit) _ Bx _ _ _ () X Y row h2 hg hr, h3⟩)
    ?assign ?body ?done ?stop
  case assign =>
    rintro l pre x W K ⟨⟨v, hb, ho, _⟩, hk⟩ hK
    simp only [Loc.val, Ex.val] at hK ⊢
    gi_wp2
    exact hK _ _ ((KeepsOthers.alloc _ _).from _) ((KeepEx.refl _ W).alloc (by have := hk.below.size; omega) _) ⟨⟨v, hb.alloc _, ho.alloc _, trivial⟩, hk.alloc (by have := hk.below.size; omega) _⟩ ⟨W.heap.size, hk.below.size, World.alloc_heap_new W _, rfl⟩
  case body =>
    rintro l pre x a' W hl hr' ⟨⟨v, hb, ho, _⟩, hk⟩ ⟨Bx, hBx, hxb, rfl⟩ hlt
    obtain ⟨c0, c1, c2, c3, c4, c5⟩ := hxb.cells
    obtain ⟨A1, cp, rfl⟩ := str_form ho
    have hcr := hb.cell
    have hfr := hb.frozen
    have hcn := nmOf_len (pre.map (·.e))
    rw [List.length_map] at hcn
    have hszk := hk.below.size
    have hsn : nmOf ((pre ++ [x]).map (·.e)) = nmStep (nmOf (pre.map (·.e))) x.1.1 := by rw [List.map_append, List.map_cons, List.map_nil, nmOf_snoc]; rfl
    unfold nmStep at hsn
    generalize hacc : nmOf (pre.map (·.e)) = acc at *
    have hal : acc.length ≤ 1000000 := by omega
    have hct := contains_any acc x.1.1.name A1 cp W (strs_own ho) (by omega)
    have HSN := hid hsn
    clear hacc hsn hcn hlt hr' c2 c3 c4 c5
    simp only [Loc.val, Ex.val]
    gi_wp2_with fail
    refine ⟨trivial, ?_⟩
    refine (CallsIn.inRound l (callsIn_wide.2 (names_any x.1.1.op W))).mono ?_
    rintro r W1 ⟨rfl, rfl⟩
    cases hop : namesOp x.1.1.op with
    | false =>
      rw [hop] at HSN
      gi_wp2
      refine ⟨trivial, ?_⟩
      gi_wp2
      refine ⟨KeepsFrom.refl _ _, KeepEx.refl _ _, ⟨_, hb, ?_, trivial⟩, hk⟩
      rw [HSN.out]; exact ho
    | true =>
      rw [hop, Bool.true_and] at HSN
      gi_wp2_with fail
      refine ⟨trivial, ?_⟩
      refine (CallsIn.inRound l (callsIn_wide.2 hct)).mono ?_
      rintro r W1 ⟨rfl, rfl⟩
      cases hi : inB acc x.1.1.name with
      | true =>
        rw [hi] at HSN
        gi_wp2
        refine ⟨KeepsFrom.refl _ _, KeepEx.refl _ _, ⟨_, hb, ?_, trivial⟩, hk⟩
        rw [HSN.out]; exact ho
      | false =>
        rw [hi] at HSN
        have hsn2 : Hid (nmOf ((pre ++ [x]).map (·.e)) = acc ++ [x.1.1.name]) := HSN.out
        clear HSN hct
        gi_wp2_with (gi_at_builtin; refine wpListIn_append_own _ rfl _ _ _ rfl w.heap.size 9 i0 _ 1 16 Try.underlying34 hi0 hz0 hz1 hz2 rfl (by omega) (.slice A1 acc.length cp) acc.length (acc.map .string) rfl (ho.alloc _) ⟨W.heap.size, 0, none⟩ 1 1 [.string x.1.1.name] rfl rfl (World.news_of_block (World.alloc_heap_new _ _)) (by intro u hu; simp at hu; subst hu; rfl) (by unfold maxLen; omega) (by omega) (by rw [World.size_alloc]; omega) ?_; intro v3 w3 hown3 hgrow3 _; obtain ⟨g3, cap3, rfl⟩ := ownsRow_succ hown3; obtain ⟨b1, b2, b3, b4, b5⟩ := hb.appended (by decide) ho (by omega) (by omega) hown3 hgrow3; have hcr3 := b1.cell; have hfr3 := b1.frozen)
        have hkx : KeepEx w.heap.size W (w3.setCell ⟨w.heap.size + 1, 0, none⟩ (.slice (some ⟨g3, 0, none⟩) (acc.length + 1) cap3)) := KeepEx.appended hb ho hgrow3 b5
        refine ⟨b4.from _, hkx, ⟨_, b2, ?_, trivial⟩, hk.trans hkx⟩
        rw [hsn2.out]
        simpa using b3
  case done =>
    rintro D ys W hD hys ⟨⟨v, hb, ho, _⟩, hk⟩ hK
    rw [hys] at ho
    obtain ⟨A1, cp, rfl⟩ := str_form ho
    have hcr := hb.cell
    gi_wp2
    refine ⟨by simp, .inl ⟨_, _, rfl, run_takeDeferred hK, ?_⟩⟩
    refine ⟨.slice A1 (nmOf e.pre).length cp, ?_, A1, cp, rfl, ownsRow_putObj ho _ hK rfl, (hbL.trans hk.below).trans (belowK_b (w := w) (Nat.le_refl _) W D _ _ (by omega) hK rfl rfl)⟩
    simp [results, Try.f24, go_sem]
  case stop =>
    rintro D c pre W hD hpre hF hK
    exact hF.elim
end Go.Proofs.Ytiencmbbkbicnaa
