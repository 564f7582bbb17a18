/-
  The code's Right, a range over the iterator.
-/
import Derived.Test.YtnlikhjmmnaknaaDoorTreeR
namespace Go.Proofs.YtnlikhjmmnaknaaDoor
open Go.RowKit Go.Shelf
attribute [local go_sem] Oper.semAt_some

set_option maxRecDepth 100000 in
set_option maxHeartbeats 1000000 in
/-- the function that All hands back -/
theorem all1_in (B : Nat) (w0 : World) (hB0 : B ≤ w0.heap.size) (n l Bt B0 : Nat) (e : Ex) (A : Option Addr) (cap : Nat) (J Jx : List (Loc B w0) → World → Prop) (hJ : AbidesFrom B0 J)
    (hY : ∀ pre x W, J pre W → pre.length < e.pre.length → YieldAt Fence.wide (n - 1) Tryd.prog l #[x.val] W fun r W' =>
      (r = .returned (.bool true) ∧ J (pre ++ [x]) W' ∧ KeepEx B W W') ∨ (r = .returned (.bool false) ∧ Jx (pre ++ [x]) W'))
    (W : World) (hBt : W.heap[Bt]? = some (.cells #[.int .i64 e.op, .string e.name, .int .i64 e.num, .slice A e.k cap, .int .i64 e.line, .int .i64 e.col] 26 (0, 0)))
    (hE : ExAt B w0 e A cap) (hBW : Below B w0 W) (h0 : J [] W) :
    CallsIn Fence.wide n Tryd.prog 51 #[.func (.yield l) #[] #[], .pointer (some ⟨Bt, 0, none⟩)] W fun r W' => (∃ v, r = .returned v) ∧
      ((∃ ys : List (Loc B w0), ys.map (·.e) = e.pre ∧ J ys W') ∨ (∃ ys : List (Loc B w0), ys.map (·.e) <+: e.pre ∧ Jx ys W')) := by
  have hdd : ∀ k : Nat, (Fence.wide.depth.isSome = true → 1 ≤ k) := fun k h => by cases h
  have hp := treeWalk_any B w0 hB0 l e.pre.length B0 J Jx hJ (fun m pre x W hj hl => yield_any rfl m (hY pre x W hj hl)) e (n - 1) A cap [] W hE hBW h0 (by simp)
  unfold Ex.val at hp
  have c0 : W.cell? ⟨Bt, 0, none⟩ = some (.int .i64 e.op) := by simp [World.cell?, hBt]
  have c1 : W.cell? ⟨Bt, 1, none⟩ = some (.string e.name) := by simp [World.cell?, hBt]
  have c2 : W.cell? ⟨Bt, 2, none⟩ = some (.int .i64 e.num) := by simp [World.cell?, hBt]
  have c3 : W.cell? ⟨Bt, 3, none⟩ = some (.slice A e.k cap) := by simp [World.cell?, hBt]
  have c4 : W.cell? ⟨Bt, 4, none⟩ = some (.int .i64 e.line) := by simp [World.cell?, hBt]
  have c5 : W.cell? ⟨Bt, 5, none⟩ = some (.int .i64 e.col) := by simp [World.cell?, hBt]
  clear hBt
  refine callsIn_of_wp Tryd.func51 rfl trivial ?_ rfl
  simp only [Tryd.ntmps51, List.size_toArray, List.length_cons, List.length_nil, Nat.reduceAdd, Nat.reduceSub, Array.replicate_succ, Array.replicate_zero, List.push_toArray, List.append_toArray, List.nil_append, List.cons_append]
  gi_wp2_with fail
  refine ⟨trivial, hdd _, ?_⟩
  refine hp.mono ?_
  rintro r W1 (⟨rfl, ys, hys, hJ1, _⟩ | ⟨rfl, ys, hys, hx⟩)
  · gi_wp2
    go_end0
    exact ⟨⟨_, rfl⟩, .inl ⟨ys, hys, by simpa using hJ1⟩⟩
  · gi_wp2
    go_end0
    exact ⟨⟨_, rfl⟩, .inr ⟨ys, hys, by simpa using hx⟩⟩

set_option maxHeartbeats 400000 in
theorem all_any (e : Ex) (A : Option Addr) (cap : Nat) (w : World) :
    Calls Tryd.prog 33 #[e.val A cap] w fun r w' => r = .returned (.func (.func 51) #[] #[.pointer (some ⟨w.heap.size, 0, none⟩)]) ∧
      w.alloc (.cells #[.int .i64 e.op, .string e.name, .int .i64 e.num, .slice A e.k cap, .int .i64 e.line, .int .i64 e.col] 26) = w' := by
  unfold Ex.val
  go_enter Tryd.func33, Tryd.ntmps33
  go_wp2_with fail
  go_ret
  exact ⟨rfl, rfl⟩

theorem all_stops (n B : Nat) (w0 : World) (hB0 : B ≤ w0.heap.size) (Bt : Nat) (e : Ex) (A : Option Addr) (cap : Nat) (w : World) (hBt : Bt < w.heap.size)
    (hc : w.heap[Bt]? = some (.cells #[.int .i64 e.op, .string e.name, .int .i64 e.num, .slice A e.k cap, .int .i64 e.line, .int .i64 e.col] 26 (0, 0)))
    (hE : ExAt B w0 e A cap) (hBW : Below B w0 w) :
    SeqStopsK Fence.wide n Tryd.prog 51 #[.pointer (some ⟨Bt, 0, none⟩)] (fun x : Loc B w0 => #[x.val]) (KeepEx B) (fun ys => ys.map (·.e) = e.pre) (fun ys => ys.map (·.e) <+: e.pre) e.pre.length w := fun l J Jx W hW hJ _ hY h0 =>
  all1_in B w0 hB0 n l Bt W.heap.size e A cap J Jx hJ hY W ((hW.block Bt hBt).trans hc) hE (hBW.trans (hW.mono (Nat.le_trans hB0 hBW.size))) h0

/-- what a quiet call keeps -/
theorem keepEx_of_below {B : Nat} {W W' : World} (h : Below W.heap.size W W') (hB : B ≤ W.heap.size) : KeepEx B W W' :=
  ⟨h.mono hB, fun k _ hk => (h.block k (Array.getElem?_eq_some_iff.1 hk).1).trans hk⟩
theorem keepsFrom_of_below {B : Nat} {W W' : World} (h : Below W.heap.size W W') : KeepsFrom B W W' :=
  ⟨h.size, fun k _ _ hk _ => (h.block k (Array.getElem?_eq_some_iff.1 hk).1).trans hk⟩
theorem ownFrom_keepEx {β : Type} {B B' : Nat} {w0 : World} (hn : B ≤ w0.heap.size) (hB : B ≤ B') : OwnFrom B' (fun (_ : β) W => KeepEx B w0 W) :=
  fun s X Y row hs hg hr => ⟨ownFrom_below (β := β) hn hB s X Y row hs.below hg hr, fun k cs hk => by
    have h1 := hs.ex k cs hk
    refine (hg.block k (Array.getElem?_eq_some_iff.1 h1).1 (fun e => ?_)).trans h1
    obtain ⟨_, o, ho, hc⟩ := hr k e.symm
    rw [h1] at ho; cases ho; cases hc⟩
/-- a loop variable's block of expression cells -/
def ExBox (W : World) (b : Nat) (e : Ex) (A : Option Addr) (cap : Nat) : Prop :=
  W.heap[b]? = some (.cells #[.int .i64 e.op, .string e.name, .int .i64 e.num, .slice A e.k cap, .int .i64 e.line, .int .i64 e.col] 26 (0, 0))
theorem ExBox.own {β : Type} (B b : Nat) (e : Ex) (A : Option Addr) (cap : Nat) : OwnFrom B (fun (_ : β) W => ExBox W b e A cap) :=
  fun s X Y row hs hg hr => by
    have h1 : X.heap[b]? = _ := hs
    refine (hg.block b (Array.getElem?_eq_some_iff.1 h1).1 (fun e => ?_)).trans h1
    obtain ⟨_, o, ho, hc⟩ := hr b e.symm
    rw [h1] at ho; cases ho; cases hc
theorem ExBox.keep {W W' : World} {B b : Nat} {e : Ex} {A : Option Addr} {cap : Nat} (h : ExBox W b e A cap) (hk : KeepEx B W W') : ExBox W' b e A cap := hk.ex _ _ h
theorem ExBox.cells {W : World} {b : Nat} {e : Ex} {A : Option Addr} {cap : Nat} (h : ExBox W b e A cap) :
    W.cell? ⟨b, 0, none⟩ = some (.int .i64 e.op) ∧ W.cell? ⟨b, 1, none⟩ = some (.string e.name) ∧ W.cell? ⟨b, 2, none⟩ = some (.int .i64 e.num) ∧ W.cell? ⟨b, 3, none⟩ = some (.slice A e.k cap) ∧
    W.cell? ⟨b, 4, none⟩ = some (.int .i64 e.line) ∧ W.cell? ⟨b, 5, none⟩ = some (.int .i64 e.col) := by
  unfold ExBox at h
  refine ⟨?_, ?_, ?_, ?_, ?_, ?_⟩ <;> simp [World.cell?, h]

theorem KeepEx.box {B b : Nat} {t : TypeId} {W : World} {v : Value} (h : Boxed W b t v) (hB : B ≤ b) (ht : t ≠ 26) (u : Value) : KeepEx B W (W.setCell ⟨b, 0, none⟩ u) :=
  ⟨(Below.refl _ _).setCell (p := ⟨b, 0, none⟩) hB u, fun k cs hk => by
    have hne : k ≠ b := fun e => by
      subst e
      rw [show W.heap[k]? = _ from h] at hk
      injection hk with hk; injection hk with _ hk; exact ht hk
    rw [Below.heap_setCell W ⟨b, 0, none⟩ u k hne]; exact hk⟩

def plainE (e : Ex) : Bool := plainOf e.op e.name e.num e.k
/-- is an expression right? -/
def Ex.right (e : Ex) : Bool := e.pre.all plainE && decide (e.height ≤ 30)

set_option maxRecDepth 100000 in
set_option maxHeartbeats 1000000 in
theorem right_any (e : Ex) (B : Nat) (A : Option Addr) (cap : Nat) (w : World) (hE : ExAt B w e A cap) (hB : B ≤ w.heap.size) (hh : e.height ≤ 1000000) :
    Calls Tryd.prog 18 #[e.val A cap] w fun r w' => r = .returned (.bool e.right) ∧ Below w.heap.size w w' := by
  have hE' := ExAt.more hB e A cap hE
  refine (callsIn_wide (n := 5)).1 ?_
  refine callsIn_of_wp_marks Tryd.func18 rfl trivial ?_ rfl
  simp only [Tryd.ntmps18, List.size_toArray, List.length_cons, List.length_nil, Nat.reduceAdd, Nat.reduceSub, Array.replicate_succ, Array.replicate_zero, List.push_toArray, List.append_toArray, List.nil_append, List.cons_append]
  simp only [Ex.val]
  gi_wp2_with fail
  refine ⟨trivial, ?_⟩
  refine (callsIn_wide.2 (all_any e A cap _)).mono ?_
  rintro r w' ⟨rfl, rfl⟩
  gi_wp2_with fail
  have hW : ∃ WL, WL = (((w.alloc (.cells #[.int .i64 e.op, .string e.name, .int .i64 e.num, .slice A e.k cap, .int .i64 e.line, .int .i64 e.col] 26)).alloc (.cells #[.bool false] 4)).alloc (.cells #[.int .i64 e.op, .string e.name, .int .i64 e.num, .slice A e.k cap, .int .i64 e.line, .int .i64 e.col] 26)) := ⟨_, rfl⟩
  obtain ⟨WL, hWL⟩ := hW
  rw [← hWL]
  have hsz : WL.heap.size = w.heap.size + 3 := by rw [hWL]; simp
  have hbL : Below w.heap.size w WL := by rw [hWL]; exact (((Below.refl _ _).alloc (Nat.le_refl _) _).alloc (by simp) _).alloc (by simp; omega) _
  have hx0 : ExBox WL w.heap.size e A cap := by
    rw [hWL]; unfold ExBox
    rw [Below.heap_alloc _ _ _ (by simp; omega), Below.heap_alloc _ _ _ (by simp)]; exact World.alloc_heap_new w _
  have hx2 : ExBox WL (w.heap.size + 1 + 1) e A cap := by
    rw [hWL]; unfold ExBox
    have := World.alloc_heap_new ((w.alloc (.cells #[.int .i64 e.op, .string e.name, .int .i64 e.num, .slice A e.k cap, .int .i64 e.line, .int .i64 e.col] 26)).alloc (.cells #[.bool false] 4)) (.cells #[.int .i64 e.op, .string e.name, .int .i64 e.num, .slice A e.k cap, .int .i64 e.line, .int .i64 e.col] 26)
    simpa only [World.size_alloc] using this
  have hr : Boxed WL (w.heap.size + 1) 4 (.bool false) := by
    rw [hWL]; unfold Boxed
    rw [Below.heap_alloc _ _ _ (by simp)]
    have := World.alloc_heap_new (w.alloc (.cells #[.int .i64 e.op, .string e.name, .int .i64 e.num, .slice A e.k cap, .int .i64 e.line, .int .i64 e.col] 26)) (.cells #[.bool false] 4)
    simpa only [World.size_alloc] using this
  clear hWL
  refine wpIn_rangeFunc_ownH rfl (by omega) (gf := 51) (lb := #[.pointer (some ⟨w.heap.size + 1 + 1, 0, none⟩)]) rfl trivial (enters_of Tryd.func51 (by kernel_rfl) rfl)
    (all_stops _ w.heap.size w (Nat.le_refl _) (w.heap.size + 1 + 1) e A cap WL (by omega) hx2 hE' hbL) keepEx_t (keepEx_b (by omega)) (Below.refl _ _) (fun _ => rfl)
    (fun pre W => ((∀ y ∈ pre, plainE y.e = true) ∧ Boxed W (w.heap.size + 1) 4 (.bool false)) ∧ KeepEx w.heap.size WL W)
    (fun c pre W => ((c = .ret ∧ ∃ y ∈ pre, plainE y.e = false) ∧ Boxed W (w.heap.size + 1) 4 (.bool false)) ∧ KeepEx w.heap.size WL W)
    (OwnFrom.and (OwnFrom.and (ownFrom_pure _ _) (Own.from (boxed_own _ _ _) _)) (ownFrom_keepEx (by omega) (by omega)))
    (fun c => OwnFrom.and (OwnFrom.and (ownFrom_pure _ _) (Own.from (boxed_own _ _ _) _)) (ownFrom_keepEx (by omega) (by omega)))
    ⟨⟨by simp, hr⟩, KeepEx.refl _ _⟩
    (fun x a' W => ∃ Bx, WL.heap.size ≤ Bx ∧ ExBox W Bx x.1.1 x.1.2.1 x.1.2.2 ∧ a' = { tmps := #[e.val A cap, .pointer (some ⟨w.heap.size, 0, none⟩), .pointer (some ⟨w.heap.size + 1, 0, none⟩), .pointer (some ⟨Bx, 0, none⟩), e.val A cap, .func (.func 51) #[] #[.pointer (some ⟨w.heap.size + 1 + 1, 0, none⟩)], x.val, undef, undef, undef, undef, undef, undef], defers := [] })
    (fun x a' s X Y row hs hg hr => by
      obtain ⟨Bx, h1, h2, h3⟩ := hs
      exact ⟨Bx, h1, ExBox.own (β := Unit) _ Bx _ _ _ () X Y row h2 hg hr, h3⟩)
    ?assign ?body ?done ?stop
  case assign =>
    rintro l pre x W K ⟨⟨hp, hb⟩, hk⟩ hK
    simp only [Loc.val, Ex.val] at hK ⊢
    gi_wp2
    exact hK _ _ ((KeepsOthers.alloc _ _).from _) ((KeepEx.refl _ W).alloc (by have := hk.below.size; omega) _) ⟨⟨hp, hb.alloc _⟩, hk.alloc (by have := hk.below.size; omega) _⟩ ⟨W.heap.size, hk.below.size, World.alloc_heap_new W _, rfl⟩
  case body =>
    rintro l pre x a' W hl hr ⟨⟨hp, hb⟩, hk⟩ ⟨Bx, hBx, hxb, rfl⟩ hlt
    obtain ⟨c0, c1, c2, c3, c4, c5⟩ := hxb.cells
    have hbW := hbL.trans hk.below
    have hxE : ExAt w.heap.size W x.1.1 x.1.2.1 x.1.2.2 := ExAt.below x.2 (Nat.le_refl _) hbW
    have hcr := hb.cell
    have hfr := hb.frozen
    have hpl := plain_any x.1.1 w.heap.size x.1.2.1 x.1.2.2 W hxE
    simp only [Ex.val] at hpl
    clear hxb hlt hr
    simp only [Loc.val, Ex.val]
    gi_wp2_with fail
    refine ⟨trivial, ?_⟩
    refine (CallsIn.inRound l (callsIn_wide.2 hpl)).mono ?_
    rintro r W1 ⟨rfl, hb1⟩
    have hb1' : Boxed W1 (w.heap.size + 1) 4 (.bool false) := (hb1.block _ hb.lt).trans hb
    have hcr1 := hb1'.cell
    have hfr1 := hb1'.frozen
    have hsz1 := hb1.size
    have hszk := hk.below.size
    have hke : KeepEx w.heap.size W W1 := keepEx_of_below hb1 (by omega)
    cases hpe : plainOf x.1.1.op x.1.1.name x.1.1.num x.1.1.k with
    | true =>
      gi_wp2
      refine ⟨keepsFrom_of_below hb1, hke, ⟨fun y hy => ?_, hb1'⟩, hk.trans hke⟩
      rcases List.mem_append.1 hy with hy | hy
      · exact hp y hy
      · simp at hy; subst hy; exact hpe
    | false =>
      gi_wp2
      refine ⟨(keepsFrom_of_below hb1).trans ((KeepsOthers.setCell _ _ _).from _), ⟨⟨rfl, x, by simp, hpe⟩, ?_⟩, hk.trans (hke.trans (KeepEx.box hb1' (by omega) (by decide) _))⟩
      exact hb1'.set _
  case done =>
    rintro D ys W hD hys ⟨⟨hp, hb⟩, hk⟩ hK
    have hxb := hx0.keep hk
    obtain ⟨c0, c1, c2, c3, c4, c5⟩ := hxb.cells
    have hbW := hbL.trans hk.below
    have hht := height_any e w.heap.size A cap W (hE'.below (Nat.le_refl _) hbW) hbW.size hh
    simp only [Ex.val] at hht
    gi_wp2_with fail
    refine ⟨trivial, ?_⟩
    refine (callsIn_wide.2 hht).mono ?_
    rintro r W1 ⟨rfl, hb1⟩
    have hb1' : Boxed W1 (w.heap.size + 1) 4 (.bool false) := (hb1.block _ hb.lt).trans hb
    have hcr1 := hb1'.cell
    have hfr1 := hb1'.frozen
    have hK1 : W1.heap[D]? = some (.deferred (some [])) := (hb1.block D (Array.getElem?_eq_some_iff.1 hK).1).trans hK
    gi_wp2
    have hK2 := (KeepsOthers.setCell W1 ⟨w.heap.size + 1, 0, none⟩ (.bool (decide ((e.height : Int) ≤ 30)))).same D _ hK1 rfl
    refine ⟨by simp, .inl ⟨_, _, rfl, run_takeDeferred hK2, ?_⟩⟩
    have hcr := cell_kept (hb1'.set (.bool (decide ((e.height : Int) ≤ 30)))).cell (grownBy_putObj' _ D (.deferred none)) (fun r e => by cases e; exact ⟨_, hK2, rfl⟩)
    refine ⟨.bool (decide ((e.height : Int) ≤ 30)), ?_, ?_, ((hbW.trans (hb1.mono hbW.size)).setCell (p := ⟨w.heap.size + 1, 0, none⟩) (by simp) _).trans (belowK_b (w := w) (Nat.le_refl _) _ D _ _ (by omega) hK2 rfl rfl)⟩
    · simp [results, Tryd.f18, go_sem, hcr]
    · refine ret_bool ?_
      have hall : e.pre.all plainE = true := by
        rw [List.all_eq_true, ← hys]
        intro z hz
        obtain ⟨y, hy, rfl⟩ := List.mem_map.1 hz
        exact hp y hy
      simp only [Ex.right, hall, Bool.true_and]
      rw [Bool.eq_iff_iff]; simp; omega
  case stop =>
    rintro D c pre W hD hpre ⟨⟨⟨rfl, hin⟩, hb⟩, hk⟩ hK
    gi_wp2
    refine ⟨by simp, .inl ⟨_, _, rfl, run_takeDeferred hK, ?_⟩⟩
    have hcr := cell_kept hb.cell (grownBy_putObj' _ D (.deferred none)) (fun r e => by cases e; exact ⟨_, hK, rfl⟩)
    have hbW := hbL.trans hk.below
    refine ⟨.bool false, ?_, ?_, hbW.trans (belowK_b (w := w) (Nat.le_refl _) W D _ _ (by omega) hK rfl rfl)⟩
    · simp [results, Tryd.f18, go_sem, hcr]
    · refine ret_bool ?_
      obtain ⟨y, hy, hyp⟩ := hin
      have hmem : y.e ∈ e.pre := hpre.subset (List.mem_map.2 ⟨y, hy, rfl⟩)
      simp only [Ex.right, Bool.false_eq, Bool.and_eq_false_iff]
      left
      rw [List.all_eq_false]
      exact ⟨_, hmem, by simp [hyp]⟩
end Go.Proofs.YtnlikhjmmnaknaaDoor
