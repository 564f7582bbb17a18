/-
  Texts of this claim, joined: OpenEx ClaimKit.
-/
import Derived.ProofKit
import Derived.Deep.Slices
import Derived.OpenShut
import Derived.Test.YtnlikhjmmnaknaaGA
/-
  An argument that is an expression, opened; and the row's last step for a call that leaves all old memory as it was.
-/
namespace Go.Proofs.Ytnlikhjmmnaknaa
open Go.ChangeShapes Go.WideShapes Go.ChangeAt Go.RowKit Go.Deep

theorem i64_of_wf {x : Int} (h : (Lit.int .i64 x).wf = true) : I64 x := by
  simpa [Lit.wf, IntKind.min, IntKind.max, IntKind.signed, IntKind.bits, I64] using h

theorem cells_int : Try.prog.cellsOf 3 = 1 := by kernel_rfl
theorem cells_string : Try.prog.cellsOf 9 = 1 := by kernel_rfl
theorem cells_exprs : Try.prog.cellsOf 23 = 1 := by kernel_rfl
theorem cells_pos : Try.prog.cellsOf 25 = 2 := by kernel_rfl
theorem cells_expr : Try.prog.cellsOf 27 = 6 := by kernel_rfl

theorem six {α : Type} {l : List α} (h : l.length = 6) : ∃ a b c d e f, l = [a, b, c, d, e, f] := by
  match l, h with
  | [a, b, c, d, e, f], _ => exact ⟨a, b, c, d, e, f, rfl⟩

theorem block_lt {w : World} {a : Addr} {v : Value} (h : w.cell? a = some v) : a.block < w.heap.size := by
  unfold World.cell? at h
  split at h
  · rename_i h1; exact (Array.getElem?_eq_some_iff.1 h1).1
  · cases h

section
variable {H : Type} {enc : TypeId × Value → H} {w : World} {base : Nat} {spare : Nat → Bool} {held : Bool}

theorem open_ex : ∀ (fuel : Nat) (cs : List Value) (x : DataW H × List MemPlace), DataW.trod enc Try.prog w base spare held fuel 27 cs = some x →
    ∃ (e : Ex) (A : Option Addr) (cap : Nat), cs = [.int .i64 e.op, .string e.name, .int .i64 e.num, .slice A e.k cap, .int .i64 e.line, .int .i64 e.col] ∧ ExAt w.heap.size w e A cap := by
  intro fuel
  induction fuel using Nat.strongRecOn with
  | ind fuel0 ih =>
    intro cs x h
    obtain ⟨xs, fuel, rfl, _, hcl, hxl, hf⟩ := DataW.trod_struct Try.underlying27 h
    rw [cells_expr] at hcl
    have hx : ∀ i, i < 5 → ∃ y, xs[i]? = some y := fun i hi => ⟨xs[i]'(by rw [hxl]; exact hi), List.getElem?_eq_getElem _⟩
    obtain ⟨y0, e0⟩ := hx 0 (by omega)
    obtain ⟨y1, e1⟩ := hx 1 (by omega)
    obtain ⟨y2, e2⟩ := hx 2 (by omega)
    obtain ⟨y3, e3⟩ := hx 3 (by omega)
    obtain ⟨y4, e4⟩ := hx 4 (by omega)
    have f0 : DataW.trod enc Try.prog w base spare held fuel 3 (List.take (Try.prog.cellsOf 3) (List.drop 0 cs)) = xs[0]? := hf 0 _ rfl
    have f1 : DataW.trod enc Try.prog w base spare held fuel 9 (List.take (Try.prog.cellsOf 9) (List.drop 1 cs)) = xs[1]? := hf 1 _ rfl
    have f2 : DataW.trod enc Try.prog w base spare held fuel 3 (List.take (Try.prog.cellsOf 3) (List.drop 2 cs)) = xs[2]? := hf 2 _ rfl
    have f3 : DataW.trod enc Try.prog w base spare held fuel 23 (List.take (Try.prog.cellsOf 23) (List.drop 3 cs)) = xs[3]? := hf 3 _ rfl
    have f4 : DataW.trod enc Try.prog w base spare held fuel 25 (List.take (Try.prog.cellsOf 25) (List.drop 4 cs)) = xs[4]? := hf 4 _ rfl
    rw [cells_int, e0] at f0
    rw [cells_string, e1] at f1
    rw [cells_int, e2] at f2
    rw [cells_exprs, e3] at f3
    rw [cells_pos, e4] at f4
    obtain ⟨op, c0, _, w0⟩ := DataW.trod_int Try.underlying3 f0
    obtain ⟨name, c1, _, w1⟩ := DataW.trod_string Try.underlying9 f1
    obtain ⟨num, c2, _, w2⟩ := DataW.trod_int Try.underlying3 f2
    obtain ⟨ps, m, _, _, hpl, hpx, hpf⟩ := DataW.trod_struct Try.underlying25 f4
    have hp : ∀ i, i < 2 → ∃ y, ps[i]? = some y := fun i hi => ⟨ps[i]'(by rw [hpx]; exact hi), List.getElem?_eq_getElem _⟩
    obtain ⟨z0, q0⟩ := hp 0 (by omega)
    obtain ⟨z1, q1⟩ := hp 1 (by omega)
    have g0 : DataW.trod enc Try.prog w base spare held m 3 (List.take (Try.prog.cellsOf 3) (List.drop 0 (List.take 2 (List.drop 4 cs)))) = ps[0]? := hpf 0 _ rfl
    have g1 : DataW.trod enc Try.prog w base spare held m 3 (List.take (Try.prog.cellsOf 3) (List.drop 1 (List.take 2 (List.drop 4 cs)))) = ps[1]? := hpf 1 _ rfl
    rw [cells_int, q0] at g0
    rw [cells_int, q1] at g1
    obtain ⟨ln, d0, _, u0⟩ := DataW.trod_int Try.underlying3 g0
    obtain ⟨cl, d1, _, u1⟩ := DataW.trod_int Try.underlying3 g1
    obtain ⟨a0, a1, a2, a3, a4, a5, rfl⟩ := six hcl
    simp only [List.drop_zero, List.drop_succ_cons, List.take_succ_cons, List.take_zero, List.cons.injEq, and_true] at c0 c1 c2 d0 d1 f3
    subst c0 c1 c2 d0 d1
    rcases DataW.trod_slice Try.underlying23 f3 with ⟨h0, _⟩ | ⟨a, len, cap, elems, rest, n2, rfl, h0, _, _, hlc, hcm, hll, hel, _⟩
    · simp only [List.cons.injEq, and_true] at h0
      subst h0
      refine ⟨.mk op name num 0 (fun _ => .junk) ln cl, none, 0, rfl, ⟨i64_of_wf w0, w1, i64_of_wf w2, i64_of_wf u0, i64_of_wf u1, Nat.le_refl _, Nat.zero_le _⟩, fun i hi => absurd hi (Nat.not_lt_zero _)⟩
    · simp only [List.cons.injEq, and_true] at h0
      subst h0
      rw [cells_expr] at hel
      have hspot : 0 < len → a.spot = none := fun h0 => by
        have h1 := hel 0 h0
        rw [List.getElem?_eq_getElem (by omega)] at h1
        obtain ⟨cs', hc, ht⟩ := Option.bind_eq_some_iff.1 h1
        obtain ⟨_, _, hcell⟩ := World.cells?_some hc
        obtain ⟨e, A, cp, hcs, hE⟩ := ih n2 (by omega) cs' _ ht
        subst hcs
        have c0 := hcell 0 (by omega)
        simpa [Addr.add] using World.cell?_spot c0
      have hch : ∀ i, i < len → ∃ y : Ex × Option Addr × Nat, CellsAt w a.block (a.off + i * 6) y.1 y.2.1 y.2.2 ∧ ExAt w.heap.size w y.1 y.2.1 y.2.2 ∧ a.spot = none ∧ a.block < w.heap.size := fun i hi => by
        have h1 := hel i hi
        rw [List.getElem?_eq_getElem (by omega)] at h1
        obtain ⟨cs', hc, ht⟩ := Option.bind_eq_some_iff.1 h1
        obtain ⟨_, _, hcell⟩ := World.cells?_some hc
        obtain ⟨e, A, cp, hcs, hE⟩ := ih n2 (by omega) cs' _ ht
        subst hcs
        have c0 := hcell 0 (by omega)
        have h0 : a.spot = none := hspot (by omega)
        have hadd : ∀ j, (a.add (i * 6)).add j = ⟨a.block, a.off + i * 6 + j, none⟩ := fun j => by
          obtain ⟨ab, ao, sp⟩ := a
          simp only at h0; subst h0
          rw [Go.WideShapes.add_plain, Go.WideShapes.add_plain]
        have hb := block_lt c0
        rw [hadd] at hb
        refine ⟨(e, A, cp), ⟨?_, ?_, ?_, ?_, ?_, ?_⟩, hE, h0, hb⟩
        · have := hcell 0 (by omega); rwa [hadd] at this
        · have := hcell 1 (by omega); rwa [hadd] at this
        · have := hcell 2 (by omega); rwa [hadd] at this
        · have := hcell 3 (by omega); rwa [hadd] at this
        · have := hcell 4 (by omega); rwa [hadd] at this
        · have := hcell 5 (by omega); rwa [hadd] at this
      haveI : Inhabited Ex := ⟨.junk⟩
      obtain ⟨f, hf'⟩ := choose_lt (α := Ex × Option Addr × Nat) hch
      refine ⟨.mk op name num len (fun i => (f i).1) ln cl, some a, cap, rfl, ⟨i64_of_wf w0, w1, i64_of_wf w2, i64_of_wf u0, i64_of_wf u1, hlc, hcm⟩, fun i hi => ?_⟩
      obtain ⟨h1, h2, h3, h4⟩ := hf' i hi
      obtain ⟨ab, ao, sp⟩ := a
      simp only at h3; subst h3
      exact ⟨ab, ao, (f i).2.1, (f i).2.2, rfl, h4, h1, h2⟩
end

/-- The row's last step where old memory is as it was. -/
theorem post_below {H : Type} {enc : TypeId × Value → H} {P : Program} {f : Func} {s : ChangeSpec} {apart fresh handsOn again : Bool} {W W' : World} {args : Array Value} {v : Value} {ds gs : List (DataW H)} {before : List MemPlace}
    (hW : DataW.Whole enc P f.params.toList s.vars apart W args.toList ds gs before)
    (hres : ∀ (b : Nat) (sp : Nat → Bool) (hd : Bool), DataW.TrodAll enc P W' b sp hd f.resultTypes.toList (v.resultList f.resultTypes.size) (s.fn H (ds ++ gs)).results [])
    (hargs : ∀ sp : Nat → Bool, (∀ p ∈ before, sp p.block = true) → DataW.TrodAll enc P W' 0 sp true f.params.toList args.toList (s.fn H (ds ++ gs)).args before)
    (hvars : ∀ sp : Nat → Bool, DataW.TrodVars enc P W' sp s.vars (s.fn H (ds ++ gs)).vars [])
    (hb : Below W.heap.size W W')
    (hok : ∀ (j : Nat) (t : TypeId) (r : Value), f.resultTypes[j]? = some t → (v.resultList f.resultTypes.size)[j]? = some r → Value.okWide P W' .any 0 t r) :
    s.post enc P f apart fresh handsOn again W args v W' := by
  have hold : ∀ p ∈ before, (fun b => decide (b < W.heap.size)) p.block = true := fun p hp => by simpa using hW.lt p hp
  refine ⟨ds, gs, before, [], before, [], hW, hres _ _ _, hargs _ hold, hvars _, World.keptBut_mono (fun p hp => ⟨hp, .inr (by simpa using hp)⟩) (hb.frame (· ∈ before)), fun _ => ?_⟩
  have hlt : ∀ p ∈ before, p.block < W.heap.size := fun p hp => hW.lt p hp
  obtain ⟨_, _, _, _, _, hz, hn⟩ := hW
  refine ⟨hok, _, _, ([] ++ before) ++ [], ⟨[] ++ before, [], trodAll_append (hargs _ (fun _ _ => rfl)) (hres _ _ _), hvars _, rfl, ?_, ?_⟩, ?_⟩
  · intro b off hp
    have hin : MemPlace.cell b off ∈ before := by simpa using hp
    rw [hb.frozen (hlt _ hin)]
    exact hz b off hin
  · intro ha
    simpa using hn ha
  · intro p hp _
    simpa using hp

/-- Arguments that are read again in a world in which nothing old has turned. -/
theorem args_again {H : Type} {enc : TypeId × Value → H} {W W' : World} (hl : laidOutB Try.prog = true) (hb : Below W.heap.size W W') :
    ∀ {ts : List TypeId} {vs : List Value} {ds : List (DataW H)} {ps : List MemPlace}, (∀ t ∈ ts, Try.prog.readableRec t = true ∧ t < Try.prog.types.size) →
      DataW.TrodAll enc Try.prog W 0 (fun _ => true) true ts vs ds ps → (∀ p ∈ ps, p.block < W.heap.size) → ∀ sp : Nat → Bool, (∀ p ∈ ps, sp p.block = true) → DataW.TrodAll enc Try.prog W' 0 sp true ts vs ds ps
  | [], [], [], _, _, h, _, _, _ => h
  | _ :: _, _ :: _, _ :: _, _, ht, ⟨p, q, h1, h2, e⟩, hlt, sp, hsp =>
    ⟨p, q, WideElems.Trod_stays hl (ht _ (by simp)).1 (ht _ (by simp)).2 h1 (fun x hx => hb.same (hlt x (by rw [e]; exact List.mem_append_left _ hx))) (fun x hx => hsp x (by rw [e]; exact List.mem_append_left _ hx)),
      args_again hl hb (fun t h => ht t (List.mem_cons_of_mem _ h)) h2 (fun x hx => hlt x (by rw [e]; exact List.mem_append_right _ hx)) sp (fun x hx => hsp x (by rw [e]; exact List.mem_append_right _ hx)), e⟩
end Go.Proofs.Ytnlikhjmmnaknaa
/-
  What the last step of every statement of this seat shares.
-/
namespace Go.Proofs.Ytnlikhjmmnaknaa
open Go.ChangeShapes Go.WideShapes Go.ChangeAt Go.RowKit

theorem kitOwn : ownKnob Try.prog.godebug = none := by kernel_rfl
theorem kitLaid : laidOutB Try.prog = true := by kernel_rfl
theorem kitExpr : Try.prog.readableRec 27 = true := by kernel_rfl
theorem kitExprLt : decide (27 < Try.prog.types.size) = true := by kernel_rfl
theorem kitInt : Try.prog.readableRec 3 = true := by kernel_rfl
theorem kitIntLt : decide (3 < Try.prog.types.size) = true := by kernel_rfl
theorem kitString : Try.prog.readableRec 9 = true := by kernel_rfl
theorem kitStringLt : decide (9 < Try.prog.types.size) = true := by kernel_rfl

set_option maxRecDepth 100000 in
/-- An argument that is an expression. -/
theorem open_ex_val {H : Type} {enc : TypeId × Value → H} {w : World} {base b0 : Nat} {r : Reach} {spare : Nat → Bool} {held : Bool} {v : Value} {d : DataW H} {ps : List MemPlace}
    (hval : Value.okWide Try.prog w r b0 27 v) (h : DataW.Trod enc Try.prog w base spare held 27 v d ps) : ∃ (e : Ex) (A : Option Addr) (cap : Nat), v = e.val A cap ∧ ExAt w.heap.size w e A cap := by
  obtain ⟨cs, rfl, hcs⟩ := okWide_struct Try.underlying27 hval
  obtain ⟨fuel, hf⟩ := h
  obtain ⟨e, A, cap, hv, hE⟩ := open_ex fuel _ _ hf
  refine ⟨e, A, cap, ?_, hE⟩
  have h1 : cs.toList = [.int .i64 e.op, .string e.name, .int .i64 e.num, .slice A e.k cap, .int .i64 e.line, .int .i64 e.col] := by simpa [Value.cells] using hv
  have h2 : cs = #[.int .i64 e.op, .string e.name, .int .i64 e.num, .slice A e.k cap, .int .i64 e.line, .int .i64 e.col] := by
    rw [← Array.toArray_toList (xs := cs), h1]
  rw [h2]; rfl
end Go.Proofs.Ytnlikhjmmnaknaa
