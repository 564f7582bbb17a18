/-
  An argument that is a source, opened.
-/
import Derived.Test.YtiencmbbkbicnaaOpenEx
import Derived.Test.YtiencmbbkbicnaaSrc
namespace Go.Proofs.Ytiencmbbkbicnaa
open Go.ChangeShapes Go.WideShapes Go.ChangeAt Go.RowKit Go.Deep

theorem cells_bool : Try.prog.cellsOf 4 = 1 := by kernel_rfl
theorem cells_lit : Try.prog.cellsOf 99 = 2 := by kernel_rfl
theorem cells_lits : Try.prog.cellsOf 95 = 1 := by kernel_rfl
theorem cells_var : Try.prog.cellsOf 97 = 5 := by kernel_rfl
theorem cells_vars : Try.prog.cellsOf 58 = 1 := by kernel_rfl
theorem cells_strs : Try.prog.cellsOf 34 = 1 := by kernel_rfl
theorem cells_eq : Try.prog.cellsOf 81 = 9 := by kernel_rfl
theorem cells_eqs : Try.prog.cellsOf 59 = 1 := by kernel_rfl
theorem cells_node : Try.prog.cellsOf 61 = 7 := by kernel_rfl
theorem cells_nodes : Try.prog.cellsOf 54 = 1 := by kernel_rfl
theorem cells_src : Try.prog.cellsOf 56 = 1 := by kernel_rfl

section
variable {H : Type} {enc : TypeId × Value → H} {w : World} {base : Nat} {spare : Nat → Bool} {held : Bool}

/-- a slice whose elements open, opened -/
theorem open_sl {α : Type} [Inhabited α] (Q : List Value → α → Prop) {T E : TypeId} {sz : Nat} (ht : Try.prog.underlying T = some (.slice E)) (hc : Try.prog.cellsOf E = sz) (hsz : 0 < sz)
    (hQ : ∀ fuel cs x, DataW.trod enc Try.prog w base spare held fuel E cs = some x → ∃ y, Q cs y) {fuel : Nat} {cs : List Value} {x : DataW H × List MemPlace} (h : DataW.trod enc Try.prog w base spare held fuel T cs = some x) :
    ∃ (S : Sl) (xs : List α), cs = [S.v xs.length] ∧ S.fits xs.length ∧ SlAt sz (fun b o y => b < w.heap.size ∧ ∃ es : List Value, es.length = sz ∧ Q es y ∧ ∀ i, i < sz → w.cell? ⟨b, o + i, none⟩ = es[i]?) S.A xs := by
  rcases DataW.trod_slice ht h with ⟨h0, _⟩ | ⟨a, len, cap, elems, rest, n2, _, h0, _, _, hlc, hcm, hll, hel, _⟩
  · exact ⟨⟨none, 0⟩, [], h0, ⟨Nat.le_refl _, Nat.zero_le _⟩, fun j hj => absurd hj (Nat.not_lt_zero _)⟩
  · rw [hc] at hel
    have hspot : 0 < len → a.spot = none := fun h0 => by
      have h1 := hel 0 h0
      rw [List.getElem?_eq_getElem (by omega)] at h1
      obtain ⟨es, hcs, htr⟩ := Option.bind_eq_some_iff.1 h1
      obtain ⟨_, hlen, hcell⟩ := World.cells?_some hcs
      have c0 := hcell 0 hsz
      rw [List.getElem?_eq_getElem (by omega)] at c0
      simpa [Addr.add] using World.cell?_spot c0
    have hch : ∀ i, i < len → ∃ y : α, a.spot = none ∧ a.block < w.heap.size ∧ ∃ es : List Value, es.length = sz ∧ Q es y ∧ ∀ k, k < sz → w.cell? ((a.add (i * sz)).add k) = es[k]? := fun i hi => by
      have h1 := hel i hi
      rw [List.getElem?_eq_getElem (by omega)] at h1
      obtain ⟨es, hcs, htr⟩ := Option.bind_eq_some_iff.1 h1
      obtain ⟨_, hlen, hcell⟩ := World.cells?_some hcs
      obtain ⟨y, hy⟩ := hQ n2 es _ htr
      have c0 := hcell 0 hsz
      rw [List.getElem?_eq_getElem (by omega)] at c0
      have hbl := block_lt c0
      have h0 : a.spot = none := hspot (by omega)
      obtain ⟨ab, ao, sp⟩ := a
      simp only at h0; subst h0
      rw [Go.WideShapes.add_plain, Go.WideShapes.add_plain] at hbl
      exact ⟨y, rfl, hbl, es, hlen, hy, hcell⟩
    obtain ⟨f, hf⟩ := choose_lt (α := α) hch
    refine ⟨⟨some a, cap⟩, (List.range len).map f, by rw [h0]; simp [Sl.v], by simpa [Sl.fits] using ⟨hlc, hcm⟩, fun j hj => ?_⟩
    have hj' : j < len := by simpa using hj
    obtain ⟨h1, h2, es, h3, h4, h5⟩ := hf j hj'
    obtain ⟨ab, ao, sp⟩ := a
    simp only at h1 h2; subst h1
    refine ⟨ab, ao, rfl, h2, es, h3, by simpa using h4, fun i hi => ?_⟩
    rw [← h5 i hi, Go.WideShapes.add_plain, Go.WideShapes.add_plain]

theorem open_str {fuel : Nat} {cs : List Value} {x : DataW H × List MemPlace} (h : DataW.trod enc Try.prog w base spare held fuel 9 cs = some x) : ∃ y : ByteArray, cs = [.string y] ∧ y.size ≤ maxLen := by
  obtain ⟨s, h1, _, h2⟩ := DataW.trod_string Try.underlying9 h
  exact ⟨s, h1, h2⟩
set_option maxRecDepth 100000 in
theorem open_lit {fuel : Nat} {cs : List Value} {x : DataW H × List MemPlace} (h : DataW.trod enc Try.prog w base spare held fuel 99 cs = some x) : ∃ y : LitE, cs = [.string y.name, .bool y.neg] ∧ y.name.size ≤ maxLen := by
  obtain ⟨xs, fuel, rfl, _, hcl, hxl, hf⟩ := DataW.trod_struct Try.underlying99 h
  rw [cells_lit] at hcl
  have hx : ∀ i, i < 2 → ∃ y, xs[i]? = some y := fun i hi => ⟨xs[i]'(by rw [hxl]; exact hi), List.getElem?_eq_getElem _⟩
  obtain ⟨y0, e0⟩ := hx 0 (by omega)
  obtain ⟨y1, e1⟩ := hx 1 (by omega)
  have f0 : DataW.trod enc Try.prog w base spare held fuel 9 (List.take (Try.prog.cellsOf 9) (List.drop 0 cs)) = xs[0]? := hf 0 _ rfl
  have f1 : DataW.trod enc Try.prog w base spare held fuel 4 (List.take (Try.prog.cellsOf 4) (List.drop 1 cs)) = xs[1]? := hf 1 _ rfl
  rw [cells_string, e0] at f0
  rw [cells_bool, e1] at f1
  obtain ⟨name, c0, _, w0⟩ := DataW.trod_string Try.underlying9 f0
  obtain ⟨b, c1, _⟩ := DataW.trod_bool Try.underlying4 f1
  match cs, hcl with
  | [a0, a1], _ =>
    simp only [List.drop_zero, List.drop_succ_cons, List.take_succ_cons, List.take_zero, List.cons.injEq, and_true] at c0 c1
    subst c0 c1
    exact ⟨⟨name, b⟩, rfl, w0⟩
set_option maxRecDepth 100000 in
theorem open_pos {fuel : Nat} {cs : List Value} {x : DataW H × List MemPlace} (h : DataW.trod enc Try.prog w base spare held fuel 24 cs = some x) : ∃ l c : Int, cs = [.int .i64 l, .int .i64 c] ∧ I64 l ∧ I64 c := by
  obtain ⟨ps, m, _, _, hpl, hpx, hpf⟩ := DataW.trod_struct Try.underlying24 h
  rw [cells_pos] at hpl
  have hp : ∀ i, i < 2 → ∃ y, ps[i]? = some y := fun i hi => ⟨ps[i]'(by rw [hpx]; exact hi), List.getElem?_eq_getElem _⟩
  obtain ⟨z0, q0⟩ := hp 0 (by omega)
  obtain ⟨z1, q1⟩ := hp 1 (by omega)
  have g0 : DataW.trod enc Try.prog w base spare held m 3 (List.take (Try.prog.cellsOf 3) (List.drop 0 cs)) = ps[0]? := hpf 0 _ rfl
  have g1 : DataW.trod enc Try.prog w base spare held m 3 (List.take (Try.prog.cellsOf 3) (List.drop 1 cs)) = ps[1]? := hpf 1 _ rfl
  rw [cells_int, q0] at g0
  rw [cells_int, q1] at g1
  obtain ⟨ln, d0, _, u0⟩ := DataW.trod_int Try.underlying3 g0
  obtain ⟨cl, d1, _, u1⟩ := DataW.trod_int Try.underlying3 g1
  match cs, hpl with
  | [a0, a1], _ =>
    simp only [List.drop_zero, List.drop_succ_cons, List.take_succ_cons, List.take_zero, List.cons.injEq, and_true] at d0 d1
    subst d0 d1
    exact ⟨ln, cl, rfl, i64_of_wf u0, i64_of_wf u1⟩

theorem slat_str {A : Option Addr} {xs : List ByteArray} (h : SlAt 1 (fun b o y => b < w.heap.size ∧ ∃ es : List Value, es.length = 1 ∧ (es = [.string y] ∧ y.size ≤ maxLen) ∧ ∀ i, i < 1 → w.cell? ⟨b, o + i, none⟩ = es[i]?) A xs) : SlAt 1 (StrAt w.heap.size w) A xs :=
  h.imp fun b o y ⟨hb, es, _, ⟨he, hs⟩, hc⟩ => by subst he; exact ⟨hb, hs, hc 0 (by omega)⟩
theorem slat_lit {A : Option Addr} {xs : List LitE} (h : SlAt 2 (fun b o (y : LitE) => b < w.heap.size ∧ ∃ es : List Value, es.length = 2 ∧ (es = [.string y.name, .bool y.neg] ∧ y.name.size ≤ maxLen) ∧ ∀ i, i < 2 → w.cell? ⟨b, o + i, none⟩ = es[i]?) A xs) : SlAt 2 (LitAt w.heap.size w) A xs :=
  h.imp fun b o y ⟨hb, es, _, ⟨he, hs⟩, hc⟩ => by subst he; exact ⟨hb, hs, hc 0 (by omega), hc 1 (by omega)⟩

def VarQ (w : World) (es : List Value) (v : VarE) : Prop := ∃ S : Sl, es = [.string v.name, .int .i64 v.type, S.v v.clock.length, .int .i64 v.line, .int .i64 v.col] ∧ VarIs w.heap.size w v S
set_option maxRecDepth 100000 in
theorem open_var {fuel : Nat} {cs : List Value} {x : DataW H × List MemPlace} (h : DataW.trod enc Try.prog w base spare held fuel 97 cs = some x) : ∃ v : VarE, VarQ w cs v := by
  obtain ⟨xs, fuel, rfl, _, hcl, hxl, hf⟩ := DataW.trod_struct Try.underlying97 h
  rw [cells_var] at hcl
  have hx : ∀ i, i < 4 → ∃ y, xs[i]? = some y := fun i hi => ⟨xs[i]'(by rw [hxl]; exact hi), List.getElem?_eq_getElem _⟩
  obtain ⟨y0, e0⟩ := hx 0 (by omega)
  obtain ⟨y1, e1⟩ := hx 1 (by omega)
  obtain ⟨y2, e2⟩ := hx 2 (by omega)
  obtain ⟨y3, e3⟩ := hx 3 (by omega)
  have f0 : DataW.trod enc Try.prog w base spare held fuel 9 (List.take (Try.prog.cellsOf 9) (List.drop 0 cs)) = xs[0]? := hf 0 _ rfl
  have f1 : DataW.trod enc Try.prog w base spare held fuel 3 (List.take (Try.prog.cellsOf 3) (List.drop 1 cs)) = xs[1]? := hf 1 _ rfl
  have f2 : DataW.trod enc Try.prog w base spare held fuel 95 (List.take (Try.prog.cellsOf 95) (List.drop 2 cs)) = xs[2]? := hf 2 _ rfl
  have f3 : DataW.trod enc Try.prog w base spare held fuel 24 (List.take (Try.prog.cellsOf 24) (List.drop 3 cs)) = xs[3]? := hf 3 _ rfl
  rw [cells_string, e0] at f0
  rw [cells_int, e1] at f1
  rw [cells_lits, e2] at f2
  rw [cells_pos, e3] at f3
  obtain ⟨name, c0, _, w0⟩ := DataW.trod_string Try.underlying9 f0
  obtain ⟨type, c1, _, w1⟩ := DataW.trod_int Try.underlying3 f1
  haveI : Inhabited LitE := ⟨⟨⟨#[]⟩, false⟩⟩
  obtain ⟨S, l, c2, hfit, hsl⟩ := open_sl (sz := 2) (fun es (y : LitE) => es = [.string y.name, .bool y.neg] ∧ y.name.size ≤ maxLen) Try.underlying95 cells_lit (by omega) (fun _ _ _ h => open_lit h) f2
  obtain ⟨ln, cl, c3, u0, u1⟩ := open_pos f3
  match cs, hcl with
  | [a0, a1, a2, a3, a4], _ =>
    simp only [List.drop_zero, List.drop_succ_cons, List.take_succ_cons, List.take_zero, List.cons.injEq, and_true] at c0 c1 c2 c3
    obtain ⟨rfl, rfl⟩ := c3
    subst c0 c1 c2
    exact ⟨⟨name, type, l, ln, cl⟩, S, rfl, ⟨w0, i64_of_wf w1, u0, u1, hfit, slat_lit hsl⟩⟩
theorem slat_var {A : Option Addr} {xs : List VarE} (h : SlAt 5 (fun b o y => b < w.heap.size ∧ ∃ es : List Value, es.length = 5 ∧ VarQ w es y ∧ ∀ i, i < 5 → w.cell? ⟨b, o + i, none⟩ = es[i]?) A xs) : SlAt 5 (VarAt w.heap.size w) A xs :=
  h.imp fun b o y ⟨hb, es, _, ⟨S, he, hs⟩, hc⟩ => by subst he; exact ⟨hb, S, ⟨hc 0 (by omega), hc 1 (by omega), hc 2 (by omega), hc 3 (by omega), hc 4 (by omega)⟩, hs⟩

def EqQ (w : World) (es : List Value) (q : EqE) : Prop := ∃ (S : Sl) (A : Option Addr) (cap : Nat), es = [S.v q.left.length, .int .i64 q.right.op, .string q.right.name, .int .i64 q.right.num, .slice A q.right.k cap, .int .i64 q.right.line, .int .i64 q.right.col, .int .i64 q.line, .int .i64 q.col] ∧ EqIs w.heap.size w q S A cap
set_option maxRecDepth 100000 in
theorem open_eq {fuel : Nat} {cs : List Value} {x : DataW H × List MemPlace} (h : DataW.trod enc Try.prog w base spare held fuel 81 cs = some x) : ∃ q : EqE, EqQ w cs q := by
  obtain ⟨xs, fuel, rfl, _, hcl, hxl, hf⟩ := DataW.trod_struct Try.underlying81 h
  rw [cells_eq] at hcl
  have hx : ∀ i, i < 3 → ∃ y, xs[i]? = some y := fun i hi => ⟨xs[i]'(by rw [hxl]; exact hi), List.getElem?_eq_getElem _⟩
  obtain ⟨y0, e0⟩ := hx 0 (by omega)
  obtain ⟨y1, e1⟩ := hx 1 (by omega)
  obtain ⟨y2, e2⟩ := hx 2 (by omega)
  have f0 : DataW.trod enc Try.prog w base spare held fuel 34 (List.take (Try.prog.cellsOf 34) (List.drop 0 cs)) = xs[0]? := hf 0 _ rfl
  have f1 : DataW.trod enc Try.prog w base spare held fuel 26 (List.take (Try.prog.cellsOf 26) (List.drop 1 cs)) = xs[1]? := hf 1 _ rfl
  have f2 : DataW.trod enc Try.prog w base spare held fuel 24 (List.take (Try.prog.cellsOf 24) (List.drop 7 cs)) = xs[2]? := hf 2 _ rfl
  rw [cells_strs, e0] at f0
  rw [cells_expr, e1] at f1
  rw [cells_pos, e2] at f2
  haveI : Inhabited ByteArray := ⟨⟨#[]⟩⟩
  obtain ⟨S, l, c0, hfit, hsl⟩ := open_sl (sz := 1) (fun es (y : ByteArray) => es = [.string y] ∧ y.size ≤ maxLen) Try.underlying34 cells_string (by omega) (fun _ _ _ h => open_str h) f0
  obtain ⟨e, A, cap, c1, hE⟩ := open_ex _ _ _ f1
  obtain ⟨ln, cl, c2, u0, u1⟩ := open_pos f2
  match cs, hcl with
  | [a0, a1, a2, a3, a4, a5, a6, a7, a8], _ =>
    simp only [List.drop_zero, List.drop_succ_cons, List.take_succ_cons, List.take_zero, List.cons.injEq, and_true] at c0 c1 c2
    obtain ⟨rfl, rfl, rfl, rfl, rfl, rfl⟩ := c1
    obtain ⟨rfl, rfl⟩ := c2
    subst c0
    exact ⟨⟨l, e, ln, cl⟩, S, A, cap, rfl, ⟨u0, u1, hfit, slat_str hsl, hE⟩⟩
theorem slat_eq {A : Option Addr} {xs : List EqE} (h : SlAt 9 (fun b o y => b < w.heap.size ∧ ∃ es : List Value, es.length = 9 ∧ EqQ w es y ∧ ∀ i, i < 9 → w.cell? ⟨b, o + i, none⟩ = es[i]?) A xs) : SlAt 9 (EqAt w.heap.size w) A xs :=
  h.imp fun b o y ⟨hb, es, _, ⟨S, A, cap, he, hs⟩, hc⟩ => by subst he; exact ⟨hb, S, A, cap, ⟨hc 0 (by omega), hc 1 (by omega), hc 2 (by omega), hc 3 (by omega), hc 4 (by omega), hc 5 (by omega), hc 6 (by omega), hc 7 (by omega), hc 8 (by omega)⟩, hs⟩

def NodeQ (w : World) (es : List Value) (n : NodeE) : Prop := ∃ S : NSl, es = [.string n.name, S.i.v n.ins.length, S.o.v n.outs.length, S.v.v n.vars.length, S.e.v n.eqs.length, .int .i64 n.line, .int .i64 n.col] ∧ NodeIs w.heap.size w n S
set_option maxRecDepth 100000 in
theorem open_node {fuel : Nat} {cs : List Value} {x : DataW H × List MemPlace} (h : DataW.trod enc Try.prog w base spare held fuel 61 cs = some x) : ∃ n : NodeE, NodeQ w cs n := by
  obtain ⟨xs, fuel, rfl, _, hcl, hxl, hf⟩ := DataW.trod_struct Try.underlying61 h
  rw [cells_node] at hcl
  have hx : ∀ i, i < 6 → ∃ y, xs[i]? = some y := fun i hi => ⟨xs[i]'(by rw [hxl]; exact hi), List.getElem?_eq_getElem _⟩
  obtain ⟨y0, e0⟩ := hx 0 (by omega)
  obtain ⟨y1, e1⟩ := hx 1 (by omega)
  obtain ⟨y2, e2⟩ := hx 2 (by omega)
  obtain ⟨y3, e3⟩ := hx 3 (by omega)
  obtain ⟨y4, e4⟩ := hx 4 (by omega)
  obtain ⟨y5, e5⟩ := hx 5 (by omega)
  have f0 : DataW.trod enc Try.prog w base spare held fuel 9 (List.take (Try.prog.cellsOf 9) (List.drop 0 cs)) = xs[0]? := hf 0 _ rfl
  have f1 : DataW.trod enc Try.prog w base spare held fuel 58 (List.take (Try.prog.cellsOf 58) (List.drop 1 cs)) = xs[1]? := hf 1 _ rfl
  have f2 : DataW.trod enc Try.prog w base spare held fuel 58 (List.take (Try.prog.cellsOf 58) (List.drop 2 cs)) = xs[2]? := hf 2 _ rfl
  have f3 : DataW.trod enc Try.prog w base spare held fuel 58 (List.take (Try.prog.cellsOf 58) (List.drop 3 cs)) = xs[3]? := hf 3 _ rfl
  have f4 : DataW.trod enc Try.prog w base spare held fuel 59 (List.take (Try.prog.cellsOf 59) (List.drop 4 cs)) = xs[4]? := hf 4 _ rfl
  have f5 : DataW.trod enc Try.prog w base spare held fuel 24 (List.take (Try.prog.cellsOf 24) (List.drop 5 cs)) = xs[5]? := hf 5 _ rfl
  rw [cells_string, e0] at f0
  rw [cells_vars, e1] at f1
  rw [cells_vars, e2] at f2
  rw [cells_vars, e3] at f3
  rw [cells_eqs, e4] at f4
  rw [cells_pos, e5] at f5
  obtain ⟨name, c0, _, w0⟩ := DataW.trod_string Try.underlying9 f0
  haveI : Inhabited VarE := ⟨⟨⟨#[]⟩, 0, [], 0, 0⟩⟩
  haveI : Inhabited EqE := ⟨⟨[], .junk, 0, 0⟩⟩
  obtain ⟨S1, l1, c1, hf1, hs1⟩ := open_sl (sz := 5) (VarQ w) Try.underlying58 cells_var (by omega) (fun _ _ _ h => open_var h) f1
  obtain ⟨S2, l2, c2, hf2, hs2⟩ := open_sl (sz := 5) (VarQ w) Try.underlying58 cells_var (by omega) (fun _ _ _ h => open_var h) f2
  obtain ⟨S3, l3, c3, hf3, hs3⟩ := open_sl (sz := 5) (VarQ w) Try.underlying58 cells_var (by omega) (fun _ _ _ h => open_var h) f3
  obtain ⟨S4, l4, c4, hf4, hs4⟩ := open_sl (sz := 9) (EqQ w) Try.underlying59 cells_eq (by omega) (fun _ _ _ h => open_eq h) f4
  obtain ⟨ln, cl, c5, u0, u1⟩ := open_pos f5
  match cs, hcl with
  | [a0, a1, a2, a3, a4, a5, a6], _ =>
    simp only [List.drop_zero, List.drop_succ_cons, List.take_succ_cons, List.take_zero, List.cons.injEq, and_true] at c0 c1 c2 c3 c4 c5
    obtain ⟨rfl, rfl⟩ := c5
    subst c0 c1 c2 c3 c4
    exact ⟨⟨name, l1, l2, l3, l4, ln, cl⟩, ⟨S1, S2, S3, S4⟩, rfl, ⟨w0, u0, u1, hf1, hf2, hf3, hf4, slat_var hs1, slat_var hs2, slat_var hs3, slat_eq hs4⟩⟩
theorem slat_node {A : Option Addr} {xs : List NodeE} (h : SlAt 7 (fun b o y => b < w.heap.size ∧ ∃ es : List Value, es.length = 7 ∧ NodeQ w es y ∧ ∀ i, i < 7 → w.cell? ⟨b, o + i, none⟩ = es[i]?) A xs) : SlAt 7 (NodeAt w.heap.size w) A xs :=
  h.imp fun b o y ⟨hb, es, _, ⟨S, he, hs⟩, hc⟩ => by subst he; exact ⟨hb, S, ⟨hc 0 (by omega), hc 1 (by omega), hc 2 (by omega), hc 3 (by omega), hc 4 (by omega), hc 5 (by omega), hc 6 (by omega)⟩, hs⟩
set_option maxRecDepth 100000 in
theorem open_src {fuel : Nat} {cs : List Value} {x : DataW H × List MemPlace} (h : DataW.trod enc Try.prog w base spare held fuel 56 cs = some x) : ∃ (s : List NodeE) (S : Sl), cs = [S.v s.length] ∧ SrcIs w.heap.size w s S := by
  obtain ⟨xs, fuel, rfl, _, hcl, hxl, hf⟩ := DataW.trod_struct Try.underlying56 h
  rw [cells_src] at hcl
  have hx : ∀ i, i < 1 → ∃ y, xs[i]? = some y := fun i hi => ⟨xs[i]'(by rw [hxl]; exact hi), List.getElem?_eq_getElem _⟩
  obtain ⟨y0, e0⟩ := hx 0 (by omega)
  have f0 : DataW.trod enc Try.prog w base spare held fuel 54 (List.take (Try.prog.cellsOf 54) (List.drop 0 cs)) = xs[0]? := hf 0 _ rfl
  rw [cells_nodes, e0] at f0
  haveI : Inhabited NodeE := ⟨⟨⟨#[]⟩, [], [], [], [], 0, 0⟩⟩
  obtain ⟨S1, l1, c1, hf1, hs1⟩ := open_sl (sz := 7) (NodeQ w) Try.underlying54 cells_node (by omega) (fun _ _ _ h => open_node h) f0
  match cs, hcl with
  | [a0], _ =>
    simp only [List.drop_zero, List.take_succ_cons, List.take_zero, List.cons.injEq, and_true] at c1
    subst c1
    exact ⟨l1, S1, rfl, ⟨hf1, slat_node hs1⟩⟩
end

set_option maxRecDepth 100000 in
/-- An argument that is a source. -/
theorem open_src_val {H : Type} {enc : TypeId × Value → H} {w : World} {base b0 : Nat} {r : Reach} {spare : Nat → Bool} {held : Bool} {v : Value} {d : DataW H} {ps : List MemPlace}
    (hval : Value.okWide Try.prog w r b0 56 v) (h : DataW.Trod enc Try.prog w base spare held 56 v d ps) : ∃ (s : List NodeE) (S : Sl), v = srcVal s S ∧ SrcIs w.heap.size w s S := by
  obtain ⟨cs, rfl, hcs⟩ := okWide_struct Try.underlying56 hval
  obtain ⟨fuel, hf⟩ := h
  obtain ⟨s, S, hv, hE⟩ := open_src hf
  refine ⟨s, S, ?_, hE⟩
  have h1 : cs.toList = [S.v s.length] := by simpa [Value.cells] using hv
  have h2 : cs = #[S.v s.length] := by
    rw [← Array.toArray_toList (xs := cs), h1]
  rw [h2]; rfl
end Go.Proofs.Ytiencmbbkbicnaa
