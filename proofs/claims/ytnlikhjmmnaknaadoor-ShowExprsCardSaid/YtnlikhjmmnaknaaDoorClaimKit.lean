/-
  What the last step of every statement of this seat shares.
-/
import Derived.Test.YtnlikhjmmnaknaaDoorOpenEx
namespace Go.Proofs.YtnlikhjmmnaknaaDoor
open Go.ChangeShapes Go.WideShapes Go.ChangeAt Go.RowKit

theorem kitOwn : ownKnob Tryd.prog.godebug = none := by kernel_rfl
theorem kitLaid : laidOutB Tryd.prog = true := by kernel_rfl
theorem kitExpr : Tryd.prog.readableRec 26 = true := by kernel_rfl
theorem kitExprLt : decide (26 < Tryd.prog.types.size) = true := by kernel_rfl
theorem kitInt : Tryd.prog.readableRec 3 = true := by kernel_rfl
theorem kitIntLt : decide (3 < Tryd.prog.types.size) = true := by kernel_rfl
theorem kitString : Tryd.prog.readableRec 9 = true := by kernel_rfl
theorem kitStringLt : decide (9 < Tryd.prog.types.size) = true := by kernel_rfl

set_option maxRecDepth 100000 in
/-- An argument that is an expression. -/
theorem open_ex_val {H : Type} {enc : TypeId × Value → H} {w : World} {base b0 : Nat} {r : Reach} {spare : Nat → Bool} {held : Bool} {v : Value} {d : DataW H} {ps : List MemPlace}
    (hval : Value.okWide Tryd.prog w r b0 26 v) (h : DataW.Trod enc Tryd.prog w base spare held 26 v d ps) : ∃ (e : Ex) (A : Option Addr) (cap : Nat), v = e.val A cap ∧ ExAt w.heap.size w e A cap := by
  obtain ⟨cs, rfl, hcs⟩ := okWide_struct Tryd.underlying26 hval
  obtain ⟨fuel, hf⟩ := h
  obtain ⟨e, A, cap, hv, hE⟩ := open_ex fuel _ _ hf
  refine ⟨e, A, cap, ?_, hE⟩
  have h1 : cs.toList = [.int .i64 e.op, .string e.name, .int .i64 e.num, .slice A e.k cap, .int .i64 e.line, .int .i64 e.col] := by simpa [Value.cells] using hv
  have h2 : cs = #[.int .i64 e.op, .string e.name, .int .i64 e.num, .slice A e.k cap, .int .i64 e.line, .int .i64 e.col] := by
    rw [← Array.toArray_toList (xs := cs), h1]
  rw [h2]; rfl
end Go.Proofs.YtnlikhjmmnaknaaDoor
