/-
  Arguments of the trace's laws, opened; a claim's contract at a world that has its shape.
-/
import Derived.Test.YtmdnmodjdgcmjaaDoorHOpenEv
import Derived.Test.YtmdnmodjdgcmjaaDoorHTrL
import Derived.Test.YtmdnmodjdgcmjaaDoorHTrQ
import Derived.HandedShaped
import Derived.SevenTiedAt
namespace Go.Proofs.YtmdnmodjdgcmjaaDoor
open Go.ChangeShapes Go.WideShapes Go.ChangeAt Go.RowKit Go.Deep

section
variable {H : Type} {enc : TypeId × Value → H}
/-- the contract is told of the world's shape too -/
theorem lift_shaped {a : Assume} {C : Checked} {os : Os} {f : FuncId} {fn : Func} {s : ChangeSpec} {conds : List PathCond} {apart fresh handsOn again : Bool} {X : World → Array Value → Prop}
    (hX : ∀ (w w' : World) (args : Array Value), w.heap = w'.heap → X w args → X w' args)
    (own : ownKnob C.prog.godebug = none) (started : os.Started) (noInit : C.prog.inits.idxOf? f = none) (hfn : C.prog.funcs[f]? = some fn)
    (witness : ∃ (w : World) (tape : Tape) (i : Input), w.os = os ∧ (w.forCall tape i).Shaped C.prog ∧ i.vars = [] ∧ Input.okWide C.prog (w.forCall tape i) .any w.heap.size f i ∧
      ((s.pre enc C.prog fn conds apart (w.forCall tape i).memory i.args ∧ X (w.forCall tape i).memory i.args) ∧ sizedMet enc C.prog fn (OpenSpec.ofChange s) apart (w.forCall tape i).memory i.args) ∧ a.holds C.prog (lone (Frame.enter C.prog f i.args .normal) [] (w.forCall tape i)))
    (contract : ∀ (W : World) (base : Nat) (args : Array Value) (ds gs : List (DataW H)) (before : List MemPlace),
      (∀ (j : Nat) t v, fn.params[j]? = some t → args[j]? = some v → Value.okWide C.prog W .any base t v) →
      DataW.Whole enc C.prog fn.params.toList s.vars apart W args.toList ds gs before → X W args → W.ShapedOpen C.prog →
      Calls C.prog f args W fun e W' => ∃ v, e = .returned v ∧ s.post enc C.prog fn apart fresh handsOn again W args v W') :
    ReturnsInHanded a C os f .any (fun w args => (s.pre enc C.prog fn conds apart w args ∧ X w args) ∧ sizedMet enc C.prog fn (OpenSpec.ofChange s) apart w args) (s.post enc C.prog fn apart fresh handsOn again) := by
  refine returnsInHanded_of_calls own started noInit witness fun w tape i _ hsh _ hok hpre _ => ?_
  obtain ⟨_, _, _, fn', hfn', _, _, _, _, hval⟩ := hok
  obtain rfl : fn' = fn := Option.some.inj (hfn'.symm.trans hfn)
  obtain ⟨⟨⟨ds, gs, before, hw, -⟩, hx⟩, -⟩ := hpre
  refine (contract _ w.heap.size i.args ds gs before hval (DataW.Whole.of_heap (w' := w.forCall tape i) (by rfl) hw) (hX _ _ _ (by rfl) hx) hsh).mono fun e W' ⟨v, he, hp⟩ => ?_
  subst he
  exact ChangeSpec.post_blind hp
end
theorem mx_of_shaped {W : World} (h : W.ShapedOpen Tryd.prog) : MxC W := by
  obtain ⟨m, hm⟩ := Tryd.laysM145.s1_3 W h
  exact ⟨m, hm⟩
/-- an argument that is a slice of numbers -/
def IntsArg (w : World) (l : List Int) (S : Sl) : Prop := IntsAt w S.A l ∧ S.fits l.length ∧ ∀ v ∈ l, I64 v
set_option maxRecDepth 100000 in
theorem open_ints_val {H : Type} {enc : TypeId × Value → H} {w : World} {base b0 : Nat} {r : Reach} {spare : Nat → Bool} {held : Bool} {v : Value} {d : DataW H} {ps : List MemPlace}
    (hval : Value.okWide Tryd.prog w r b0 38 v) (h : DataW.Trod enc Tryd.prog w base spare held 38 v d ps) : ∃ (l : List Int) (S : Sl), v = S.v l.length ∧ IntsArg w l S := by
  obtain ⟨a, len, cap, rfl⟩ := okWide_slice Tryd.underlying38 hval
  obtain ⟨fuel, hf⟩ := h
  obtain ⟨S, l, hv, hfit, hs⟩ := open_sl (sz := 1) (fun es (y : Int) => es = [.int .i64 y] ∧ I64 y) Tryd.underlying38 cells_int (by omega) (fun _ _ _ h => open_i64 h) hf
  have hin : SlAt 1 (IntIn (· < w.heap.size) w) S.A l := hs.imp fun b o y ⟨hb, es, _, ⟨he, hi⟩, hc⟩ => by subst he; exact ⟨hb, hi, hc 0 (by omega)⟩
  refine ⟨l, S, by simpa [Value.cells] using hv, ints_at hin, hfit, fun v hv => ?_⟩
  obtain ⟨j, hj, rfl⟩ := List.getElem_of_mem hv
  obtain ⟨b, o, _, h1⟩ := hin j hj
  exact h1.2.1
theorem cells_prog : Tryd.prog.cellsOf 55 = 5 := by kernel_rfl
theorem cells_cells : Tryd.prog.cellsOf 52 = 1 := by kernel_rfl
theorem cells_code : Tryd.prog.cellsOf 53 = 1 := by kernel_rfl
theorem cells_rows : Tryd.prog.cellsOf 56 = 1 := by kernel_rfl
theorem cells_rows2 : Tryd.prog.cellsOf 57 = 2 := by kernel_rfl
structure PgV where
  ts : List Int
  us : List Int
  S1 : Sl
  S2 : Sl
  r : Int
  A3 : Option Addr
  n3 : Nat
  c3 : Nat
  A4 : Option Addr
  n4 : Nat
  c4 : Nat
def PgV.val (g : PgV) : Value := .agg #[g.S1.v g.ts.length, g.S2.v g.us.length, .int .i64 g.r, .slice g.A3 g.n3 g.c3, .slice g.A4 g.n4 g.c4]
def PgV.Is (w : World) (g : PgV) : Prop := IntsArg w g.ts g.S1 ∧ IntsArg w g.us g.S2
section
variable {H : Type} {enc : TypeId × Value → H} {w : World} {base : Nat} {spare : Nat → Bool} {held : Bool}
theorem open_shape {T E : TypeId} (ht : Tryd.prog.underlying T = some (.slice E)) {fuel : Nat} {cs : List Value} {x : DataW H × List MemPlace} (h : DataW.trod enc Tryd.prog w base spare held fuel T cs = some x) : ∃ A n c, cs = [.slice A n c] := by
  rcases DataW.trod_slice ht h with ⟨h0, _⟩ | ⟨a, len, cap, elems, rest, n2, _, h0, _⟩
  · exact ⟨none, 0, 0, h0⟩
  · exact ⟨some a, len, cap, h0⟩
theorem open_ints {fuel : Nat} {cs : List Value} {x : DataW H × List MemPlace} (h : DataW.trod enc Tryd.prog w base spare held fuel 38 cs = some x) : ∃ (l : List Int) (S : Sl), cs = [S.v l.length] ∧ IntsArg w l S := by
  obtain ⟨S, l, hv, hfit, hs⟩ := open_sl (sz := 1) (fun es (y : Int) => es = [.int .i64 y] ∧ I64 y) Tryd.underlying38 cells_int (by omega) (fun _ _ _ h => open_i64 h) h
  have hin : SlAt 1 (IntIn (· < w.heap.size) w) S.A l := hs.imp fun b o y ⟨hb, es, _, ⟨he, hi⟩, hc⟩ => by subst he; exact ⟨hb, hi, hc 0 (by omega)⟩
  refine ⟨l, S, hv, ints_at hin, hfit, fun v hv => ?_⟩
  obtain ⟨j, hj, rfl⟩ := List.getElem_of_mem hv
  obtain ⟨b, o, _, h1⟩ := hin j hj
  exact h1.2.1
def RowsArg (w : World) (rs : List Ro) (S : Sl) : Prop := RowsAt w S.A rs ∧ S.fits rs.length
theorem open_rows {fuel : Nat} {cs : List Value} {x : DataW H × List MemPlace} (h : DataW.trod enc Tryd.prog w base spare held fuel 56 cs = some x) : ∃ (rs : List Ro) (S : Sl), cs = [S.v rs.length] ∧ RowsArg w rs S := by
  haveI : Inhabited Ro := ⟨⟨[], ⟨none, 0⟩⟩⟩
  obtain ⟨S, rs, hv, hfit, hs⟩ := open_sl (sz := 1) (fun es (y : Ro) => es = [y.S.v y.l.length] ∧ IntsArg w y.l y.S) Tryd.underlying56 cells_ints (by omega) (fun _ _ _ h => by
    obtain ⟨l, S, h1, h2⟩ := open_ints h
    exact ⟨⟨l, S⟩, h1, h2⟩) h
  refine ⟨rs, S, hv, fun j hj => ?_, hfit⟩
  obtain ⟨b, o, hA, _, es, _, ⟨he, h1, h2, h3⟩, hc⟩ := hs j hj
  subst he
  have hc0 := hc 0 (by omega)
  refine ⟨b, o, hA, ?_, h1, Nat.le_trans h2.1 h2.2, h3⟩
  rw [Nat.mul_one, Nat.add_zero] at hc0
  exact hc0
set_option maxRecDepth 100000 in
theorem open_prog {fuel : Nat} {cs : List Value} {x : DataW H × List MemPlace} (h : DataW.trod enc Tryd.prog w base spare held fuel 55 cs = some x) : ∃ g : PgV, cs = [g.S1.v g.ts.length, g.S2.v g.us.length, .int .i64 g.r, .slice g.A3 g.n3 g.c3, .slice g.A4 g.n4 g.c4] ∧ g.Is w := by
  obtain ⟨xs, fuel, rfl, _, hcl, hxl, hf⟩ := DataW.trod_struct Tryd.underlying55 h
  rw [cells_prog] at hcl
  have hx : ∀ i, i < 5 → ∃ y, xs[i]? = some y := fun i hi => ⟨xs[i]'(by rw [hxl]; exact hi), List.getElem?_eq_getElem _⟩
  obtain ⟨y0, e0⟩ := hx 0 (by omega)
  obtain ⟨y1, e1⟩ := hx 1 (by omega)
  obtain ⟨y2, e2⟩ := hx 2 (by omega)
  obtain ⟨y3, e3⟩ := hx 3 (by omega)
  obtain ⟨y4, e4⟩ := hx 4 (by omega)
  have f0 : DataW.trod enc Tryd.prog w base spare held fuel 38 (List.take (Tryd.prog.cellsOf 38) (List.drop 0 cs)) = xs[0]? := hf 0 _ rfl
  have f1 : DataW.trod enc Tryd.prog w base spare held fuel 38 (List.take (Tryd.prog.cellsOf 38) (List.drop 1 cs)) = xs[1]? := hf 1 _ rfl
  have f2 : DataW.trod enc Tryd.prog w base spare held fuel 3 (List.take (Tryd.prog.cellsOf 3) (List.drop 2 cs)) = xs[2]? := hf 2 _ rfl
  have f3 : DataW.trod enc Tryd.prog w base spare held fuel 52 (List.take (Tryd.prog.cellsOf 52) (List.drop 3 cs)) = xs[3]? := hf 3 _ rfl
  have f4 : DataW.trod enc Tryd.prog w base spare held fuel 53 (List.take (Tryd.prog.cellsOf 53) (List.drop 4 cs)) = xs[4]? := hf 4 _ rfl
  rw [cells_ints, e0] at f0
  rw [cells_ints, e1] at f1
  rw [cells_int, e2] at f2
  rw [cells_cells, e3] at f3
  rw [cells_code, e4] at f4
  obtain ⟨ts, S1, c0, u0⟩ := open_ints f0
  obtain ⟨us, S2, c1, u1⟩ := open_ints f1
  obtain ⟨r, c2, u2⟩ := open_i64 f2
  obtain ⟨A3, n3, k3, c3⟩ := open_shape Tryd.underlying52 f3
  obtain ⟨A4, n4, k4, c4⟩ := open_shape Tryd.underlying53 f4
  match cs, hcl with
  | [a0, a1, a2, a3, a4], _ =>
    simp only [List.drop_zero, List.drop_succ_cons, List.take_succ_cons, List.take_zero, List.cons.injEq, and_true] at c0 c1 c2 c3 c4
    subst c0 c1 c2 c3 c4
    exact ⟨⟨ts, us, S1, S2, r, A3, n3, k3, A4, n4, k4⟩, rfl, u0, u1⟩
set_option maxRecDepth 100000 in
theorem open_rows2 {fuel : Nat} {cs : List Value} {x : DataW H × List MemPlace} (h : DataW.trod enc Tryd.prog w base spare held fuel 57 cs = some x) : ∃ (rs qs : List Ro) (S T : Sl), cs = [S.v rs.length, T.v qs.length] ∧ RowsArg w rs S ∧ RowsArg w qs T := by
  obtain ⟨xs, fuel, rfl, _, hcl, hxl, hf⟩ := DataW.trod_array Tryd.underlying57 h
  rw [cells_rows2] at hcl
  have hx : ∀ i, i < 2 → ∃ y, xs[i]? = some y := fun i hi => ⟨xs[i]'(by rw [hxl]; exact hi), List.getElem?_eq_getElem _⟩
  obtain ⟨y0, e0⟩ := hx 0 (by omega)
  obtain ⟨y1, e1⟩ := hx 1 (by omega)
  have f0 := hf 0 (by omega)
  have f1 := hf 1 (by omega)
  rw [cells_rows, e0] at f0
  rw [cells_rows, e1] at f1
  obtain ⟨rs, S, c0, u0⟩ := open_rows f0
  obtain ⟨qs, T, c1, u1⟩ := open_rows f1
  match cs, hcl with
  | [a0, a1], _ =>
    simp only [Nat.zero_mul, Nat.one_mul, List.drop_zero, List.drop_succ_cons, List.take_succ_cons, List.take_zero, List.cons.injEq, and_true] at c0 c1
    subst c0 c1
    exact ⟨rs, qs, S, T, rfl, u0, u1⟩
end
set_option maxRecDepth 100000 in
theorem open_prog_val {H : Type} {enc : TypeId × Value → H} {w : World} {base b0 : Nat} {r : Reach} {spare : Nat → Bool} {held : Bool} {v : Value} {d : DataW H} {ps : List MemPlace}
    (hval : Value.okWide Tryd.prog w r b0 55 v) (h : DataW.Trod enc Tryd.prog w base spare held 55 v d ps) : ∃ g : PgV, v = g.val ∧ g.Is w := by
  obtain ⟨cs, rfl, hcs⟩ := okWide_struct Tryd.underlying55 hval
  obtain ⟨fuel, hf⟩ := h
  obtain ⟨g, hv, hE⟩ := open_prog hf
  refine ⟨g, ?_, hE⟩
  have h1 : cs.toList = [g.S1.v g.ts.length, g.S2.v g.us.length, .int .i64 g.r, .slice g.A3 g.n3 g.c3, .slice g.A4 g.n4 g.c4] := by simpa [Value.cells] using hv
  unfold PgV.val
  rw [← Array.toArray_toList (xs := cs), h1]
theorem okWide_arr {P : Program} {w : World} {r : Reach} {base : Nat} {t : TypeId} {v : Value} {n : Nat} {e : TypeId} (ht : P.underlying t = some (.array n e)) (h : Value.okWide P w r base t v) : ∃ cs, v = .agg cs := by
  simp only [Value.okWide, ht] at h
  obtain ⟨cs, h1, _⟩ := h
  exact ⟨cs, h1⟩
set_option maxRecDepth 100000 in
theorem open_rows2_val {H : Type} {enc : TypeId × Value → H} {w : World} {base b0 : Nat} {r : Reach} {spare : Nat → Bool} {held : Bool} {v : Value} {d : DataW H} {ps : List MemPlace}
    (hval : Value.okWide Tryd.prog w r b0 57 v) (h : DataW.Trod enc Tryd.prog w base spare held 57 v d ps) : ∃ (rs qs : List Ro) (S T : Sl), v = .agg #[S.v rs.length, T.v qs.length] ∧ (RowsArg w rs S ∧ RowsArg w qs T) := by
  obtain ⟨cs, rfl⟩ := okWide_arr Tryd.underlying57 hval
  obtain ⟨fuel, hf⟩ := h
  obtain ⟨rs, qs, S, T, hv, hE⟩ := open_rows2 hf
  refine ⟨rs, qs, S, T, ?_, hE⟩
  have h1 : cs.toList = [S.v rs.length, T.v qs.length] := by simpa [Value.cells] using hv
  rw [← Array.toArray_toList (xs := cs), h1]
end Go.Proofs.YtmdnmodjdgcmjaaDoor
