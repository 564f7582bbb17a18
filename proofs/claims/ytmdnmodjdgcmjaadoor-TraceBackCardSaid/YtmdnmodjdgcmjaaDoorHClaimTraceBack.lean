/-
  The tied card of TraceBack, proved: for every program, every two rows of rows and every text the law returns true, and the arguments read behind the call as they read before, where the library's five listed variables hold what the program's text lays. No other condition.
-/
import Derived.Test.YtmdnmodjdgcmjaaDoorHOpenTr
import Derived.Test.YtmdnmodjdgcmjaaDoorHLawTrBack
import Derived.Test.YtmdnmodjdgcmjaaDoorCards
import Derived.Test.YtmdnmodjdgcmjaaDoorTie
import Derived.SevenTiedAt
namespace Go.Proofs.YtmdnmodjdgcmjaaDoor
open Go.ChangeShapes Go.WideShapes Go.ChangeAt Go.RowKit

set_option maxRecDepth 100000 in
theorem traceBack_lifted (os : Os) (started : os.Started) (H : Type) (enc : TypeId × Value → H) :
    ReturnsInHanded {} Tryd.checked os 9 .any (fun w args => (Rows.traceBackSpec.pre enc Tryd.prog Tryd.f9 [] false w args ∧ laidMetH Tryd.prog kitTabs w) ∧ sizedMet enc Tryd.prog Tryd.f9 (OpenSpec.ofChange Rows.traceBackSpec) false w args)
      (Rows.traceBackSpec.post enc Tryd.prog Tryd.f9 false true false false) := by
  refine lift_shaped (C := Tryd.checked) (X := fun w _ => laidMetH Tryd.prog kitTabs w) (fun _ _ _ hh h => h.of_heap hh) kitOwn started (by kernel_rfl) Tryd.func9
    (ChangeSpec.witness_shaped (enc := enc) (C := Tryd.checked) (os := os) (X := fun w _ => laidMetH Tryd.prog kitTabs w) false (World.doorLaid Tryd.prog 400 os) #[.agg #[.slice none 0 0, .slice none 0 0, .int .i64 0, .slice none 0 0, .slice none 0 0], .agg #[.slice none 0 0, .slice none 0 0], .string ⟨#[]⟩] 8 rfl (World.shaped_of_RefB (by kernel_rfl) (by kernel_rfl)) (by kernel_rfl) (by kernel_rfl) (by kernel_rfl) (kitDoor os _)) ?_
  intro W base args ds gs before hval0 hW hL hsh
  have hval : ∀ (j : Nat) t v, Tryd.f9.params[j]? = some t → args[j]? = some v → Value.okWide Tryd.prog W .any base t v := hval0
  have hW' := hW
  obtain ⟨p, q, hA0, hV, rfl, hfz, hnd⟩ := hW
  have hA : DataW.TrodAll enc Tryd.prog W 0 (fun _ => true) true Tryd.f9.params.toList args.toList ds p := hA0
  rw [Tryd.params9] at hA hval
  have hAk := hA
  obtain ⟨v0, v1, v2, d0, d1, d2, p0, p1, p2, rfl, rfl, rfl, h0, h1, h2⟩ := trodAll_three hA
  obtain ⟨rfl, rfl⟩ := trodVars_none hV
  obtain ⟨x0, hv0, hE0⟩ := open_prog_val (hval 0 55 v0 rfl rfl) h0
  obtain ⟨x1, y1, S1, T1, hv1, hE1⟩ := open_rows2_val (hval 1 57 v1 rfl rfl) h1
  obtain ⟨x2, hv2, _, _, hE2⟩ := Go.ChangeMaps.open_string Tryd.underlying9 (hval 2 9 v2 rfl rfl) h2
  clear hA0 hval0 hA
  simp only [List.append_nil] at hW'
  have hlt : ∀ x ∈ p0 ++ p1 ++ p2, x.block < W.heap.size := fun x hx => hW'.lt x (by simpa using hx)
  rw [hv0, hv1, hv2] at hW' hAk ⊢
  refine (traceBack_any x0.ts x0.us x1 y1 x0.S1.A x0.S2.A x0.A3 x0.A4 S1.A T1.A x0.S1.cap x0.S2.cap x0.n3 x0.c3 x0.n4 x0.c4 S1.cap T1.cap x0.r x2 W hE0.1.1 hE0.2.1 hE1.1.1 hE1.2.1 (Nat.le_trans hE0.1.2.1.1 hE0.1.2.1.2) (Nat.le_trans hE0.2.2.1.1 hE0.2.2.1.2) (Nat.le_trans hE1.1.2.1 hE1.1.2.2) (Nat.le_trans hE1.2.2.1 hE1.2.2.2) hE2 (kitTabs_tabs hL) (mx_of_shaped hsh)).mono fun r W' ⟨he, hb⟩ => ?_
  subst he
  exact ⟨_, rfl, post_below hW' (fun _ _ _ => trodAll_mk1 (shut_bool Tryd.underlying4 _))
    (fun sp hsp => by rw [show Tryd.f9.params.toList = [55, 57, 9] from by rw [Tryd.params9]]; exact args_again kitLaid hb (fun t ht => by simp at ht; rcases ht with rfl | rfl | rfl <;> exact ⟨by kernel_rfl, of_decide_eq_true (by kernel_rfl)⟩) hAk hlt sp hsp)
    (fun _ => rfl) hb (ok_one (by kernel_rfl) rfl (okWide_bool_mk Tryd.underlying4 _))⟩

theorem traceBack_row : Rows.TraceBackSaid :=
  OpenClaim.holds_of_wide 9 Tryd.f9 rfl rfl rfl rfl rfl rfl rfl ⟨rfl, rfl, rfl, rfl, rfl⟩ rfl rfl rfl rfl rfl (by kernel_rfl) Tryd.func9 (by kernel_rfl)
    (of_decide_eq_true (by kernel_rfl)) (by unfold Func.isWrapper; first | (rw [if_pos (by decide +kernel)]; kernel_rfl) | (rw [if_neg (by decide +kernel)]; exact ⟨rfl, rfl⟩))
    (fun os started H enc _ => traceBack_lifted os started H enc)

theorem traceBack_holds : Rows.TraceBackCardSaid :=
  Claim7.holds_tied_plain_at .later [] [.data, .data, .data, .sentinel, .sentinel] true _ true
    traceBack_row (fun _ h => by cases h) (by kernel_rfl) (fun _ h => by cases h) traceBack_row_tie rfl ⟨rfl, rfl⟩ (by kernel_rfl) rfl
    (fun f fn hf hfn => by
      obtain rfl : f = 9 := Option.some.inj ((show Tryd.prog.funcNamed "tompion/tompionlaw42.TraceBack" = some 9 by kernel_rfl).symm.trans hf) |>.symm
      obtain rfl : fn = Tryd.f9 := (Option.some.inj (Tryd.func9.symm.trans hfn)).symm
      exact ⟨by kernel_rfl, fun j t ht => by
        rw [Tryd.params9] at ht
        have hm : t ∈ [55, 57, 9] := by simpa using Array.mem_of_getElem? ht
        have hall : ([55, 57, 9].all fun u => !Tryd.prog.wantsStandIn u) = true := by kernel_rfl
        exact (show Tryd.prog.wantsStandIn t = false by simpa using List.all_eq_true.1 hall t hm)⟩)
    (by kernel_rfl)
#print axioms traceBack_holds
end Go.Proofs.YtmdnmodjdgcmjaaDoor
