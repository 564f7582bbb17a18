/-
  The statement TreeRight, proved: for every expression the law returns true, and the expression reads behind the call as it read before. No condition.
-/
import Derived.Test.YtiencmbbkbicnaaOpenEx
import Derived.Test.YtiencmbbkbicnaaLawRight2
namespace Go.Proofs.Ytiencmbbkbicnaa
open Go.ChangeShapes Go.WideShapes Go.ChangeAt Go.RowKit

theorem own : ownKnob Try.prog.godebug = none := by kernel_rfl
theorem laidOut : laidOutB Try.prog = true := by kernel_rfl
theorem reads_expr : Try.prog.readableRec 26 = true := by kernel_rfl
theorem types_expr : decide (26 < Try.prog.types.size) = true := by kernel_rfl

set_option maxRecDepth 100000 in
theorem treeRight_lifted (os : Os) (started : os.Started) (H : Type) (enc : TypeId × Value → H) :
    ReturnsInHanded {} Try.checked os 3 .any (Rows.treeRightSpec.pre6 enc Try.prog Try.f3 Rows.treeRightRow.domain false) (Rows.treeRightSpec.post enc Try.prog Try.f3 false true false false) := by
  refine returnsInHanded_of_change (C := Try.checked) own started (by kernel_rfl) Try.func3
    (ChangeSpec.witness6 (enc := enc) (C := Try.checked) false ⟨#[], #[.agg #[.int .i64 0, .string ⟨#[]⟩, .int .i64 0, .slice none 0 0, .int .i64 0, .int .i64 0]], []⟩ 8 (by kernel_rfl) (by kernel_rfl) (by kernel_rfl) (by kernel_rfl)) ?_
  intro W base args ds gs before hval0 hW hcnd _
  have hval : ∀ (j : Nat) t v, Try.f3.params[j]? = some t → args[j]? = some v → Value.okWide Try.prog W .any base t v := hval0
  have hW' := hW
  obtain ⟨p, q, hA0, hV, rfl, hfz, hnd⟩ := hW
  have hA : DataW.TrodAll enc Try.prog W 0 (fun _ => true) true Try.f3.params.toList args.toList ds p := hA0
  rw [Try.params3] at hA hval
  have hAk := hA
  obtain ⟨v0, d0, rfl, rfl, h0⟩ := trodAll_one hA
  obtain ⟨rfl, rfl⟩ := trodVars_none hV
  obtain ⟨cs, rfl, hcs⟩ := okWide_struct Try.underlying26 (hval 0 26 v0 rfl rfl)
  obtain ⟨fuel, hf⟩ := h0
  obtain ⟨e, A, cap, hv, hE⟩ := open_ex fuel _ _ hf
  have hval1 : Value.agg cs = e.val A cap := by
    have : cs.toList = [.int .i64 e.op, .string e.name, .int .i64 e.num, .slice A e.k cap, .int .i64 e.line, .int .i64 e.col] := by simpa [Value.cells] using hv
    have h2 : cs = #[.int .i64 e.op, .string e.name, .int .i64 e.num, .slice A e.k cap, .int .i64 e.line, .int .i64 e.col] := by
      rw [← Array.toArray_toList (xs := cs), this]
    rw [h2]; rfl
  clear hA0 hval0 hA
  simp only [List.append_nil] at hW'
  have hlt : ∀ x ∈ p, x.block < W.heap.size := fun x hx => hW'.lt x (by simpa using hx)
  rw [hval1] at hW' hAk ⊢
  refine (treeRight_any e W.heap.size A cap W hE (Nat.le_refl _)).mono fun r W' ⟨he, hb⟩ => ?_
  subst he
  exact ⟨_, rfl, post_below hW' (fun _ _ _ => trodAll_mk1 (shut_bool Try.underlying4 _))
    (fun sp hsp => by rw [show Try.f3.params.toList = [26] from by rw [Try.params3]]; exact args_again laidOut hb (fun t ht => by simp at ht; subst ht; exact ⟨reads_expr, of_decide_eq_true types_expr⟩) hAk hlt sp hsp)
    (fun _ => rfl) hb (ok_one (by kernel_rfl) rfl (okWide_bool_mk Try.underlying4 _))⟩

theorem treeRight_holds : Rows.TreeRightSaid :=
  OpenClaim.holds_of_wide 3 Try.f3 rfl rfl rfl rfl rfl rfl rfl ⟨rfl, rfl, rfl, rfl, rfl⟩ rfl rfl rfl rfl rfl (by kernel_rfl) Try.func3 (by kernel_rfl)
    (of_decide_eq_true (by kernel_rfl)) (by unfold Func.isWrapper; first | (rw [if_pos (by decide +kernel)]; kernel_rfl) | (rw [if_neg (by decide +kernel)]; exact ⟨rfl, rfl⟩))
    (fun os started H enc _ => treeRight_lifted os started H enc)
#print axioms treeRight_holds
end Go.Proofs.Ytiencmbbkbicnaa
