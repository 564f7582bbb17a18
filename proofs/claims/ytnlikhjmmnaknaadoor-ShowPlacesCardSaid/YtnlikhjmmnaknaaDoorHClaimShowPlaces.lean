/-
  The tied card of ShowPlaces, proved: for every source and place the law returns true, and the source reads behind the call as it read before, where the library's three listed tables hold what the program's text lays. No other condition.
-/
import Derived.Test.YtnlikhjmmnaknaaDoorHCardKit
import Derived.Test.YtnlikhjmmnaknaaDoorHLawPlaces2
import Derived.Test.YtnlikhjmmnaknaaDoorGF
import Derived.Test.YtnlikhjmmnaknaaDoorCards
import Derived.Test.YtnlikhjmmnaknaaDoorTie
import Derived.SevenTiedAt
namespace Go.Proofs.YtnlikhjmmnaknaaDoor
open Go.ChangeShapes Go.WideShapes Go.ChangeAt Go.RowKit

set_option maxRecDepth 100000 in
theorem showPlaces_lifted (os : Os) (started : os.Started) (H : Type) (enc : TypeId × Value → H) :
    ReturnsInHanded {} Tryd.checked os 5 .any (fun w args => (Rows.showPlacesSpec.pre enc Tryd.prog Tryd.f5 [] false w args ∧ laidMetH Tryd.prog kitTabs w) ∧ sizedMet enc Tryd.prog Tryd.f5 (OpenSpec.ofChange Rows.showPlacesSpec) false w args)
      (Rows.showPlacesSpec.post enc Tryd.prog Tryd.f5 false true false false) := by
  refine returnsInHanded_of_change_and (C := Tryd.checked) (X := fun w _ => laidMetH Tryd.prog kitTabs w) (fun _ _ _ hh h => h.of_heap hh) kitOwn started (by kernel_rfl) Tryd.func5
    (ChangeSpec.witness_shaped (enc := enc) (C := Tryd.checked) (os := os) (X := fun w _ => laidMetH Tryd.prog kitTabs w) false (World.doorLaid Tryd.prog 400 os) #[.agg #[.slice none 0 0], .agg #[.int .i64 0, .int .i64 0]] 8 rfl (World.shaped_of_RefB (by kernel_rfl) (by kernel_rfl)) (by kernel_rfl) (by kernel_rfl) (by kernel_rfl) (kitDoor os _)) ?_
  intro W base args ds gs before hval0 hW _ _ hL _
  have hval : ∀ (j : Nat) t v, Tryd.f5.params[j]? = some t → args[j]? = some v → Value.okWide Tryd.prog W .any base t v := hval0
  have hW' := hW
  obtain ⟨p, q, hA0, hV, rfl, hfz, hnd⟩ := hW
  have hA : DataW.TrodAll enc Tryd.prog W 0 (fun _ => true) true Tryd.f5.params.toList args.toList ds p := hA0
  rw [Tryd.params5] at hA hval
  have hAk := hA
  obtain ⟨v0, v1, d0, d1, p0, p1, rfl, rfl, rfl, h0, h1⟩ := trodAll_two hA
  obtain ⟨rfl, rfl⟩ := trodVars_none hV
  obtain ⟨a, S, hv0, hE⟩ := open_src_val (hval 0 38 v0 rfl rfl) h0
  obtain ⟨pl, pc, hv1, hpl, hpc⟩ : ∃ pl pc : Int, v1 = .agg #[.int .i64 pl, .int .i64 pc] ∧ I64 pl ∧ I64 pc := by
    obtain ⟨cs, rfl, hcs⟩ := okWide_struct Tryd.underlying24 (hval 1 24 v1 rfl rfl)
    obtain ⟨fuel, hf⟩ := h1
    obtain ⟨l, c, he, u0, u1⟩ := open_pos hf
    refine ⟨l, c, ?_, u0, u1⟩
    have h1 : cs.toList = [.int .i64 l, .int .i64 c] := by simpa [Value.cells] using he
    rw [← Array.toArray_toList (xs := cs), h1]
  clear hA0 hval0 hA
  simp only [List.append_nil] at hW'
  have hlt : ∀ x ∈ p0 ++ p1, x.block < W.heap.size := fun x hx => hW'.lt x (by simpa using hx)
  rw [hv0, hv1] at hW' hAk ⊢
  refine (showPlaces_any a S pl pc W hE hpl hpc (kitTabs_tab hL)).mono fun r W' ⟨he, hb⟩ => ?_
  subst he
  exact ⟨_, rfl, post_below hW' (fun _ _ _ => trodAll_mk1 (shut_bool Tryd.underlying4 _))
    (fun sp hsp => by rw [show Tryd.f5.params.toList = [38, 24] from by rw [Tryd.params5]]; exact args_again kitLaid hb (fun t ht => by simp at ht; rcases ht with rfl | rfl <;> exact ⟨by kernel_rfl, of_decide_eq_true (by kernel_rfl)⟩) hAk hlt sp hsp)
    (fun _ => rfl) hb (ok_one (by kernel_rfl) rfl (okWide_bool_mk Tryd.underlying4 _))⟩

theorem showPlaces_row : Rows.ShowPlacesSaid :=
  OpenClaim.holds_of_wide 5 Tryd.f5 rfl rfl rfl rfl rfl rfl rfl ⟨rfl, rfl, rfl, rfl, rfl⟩ rfl rfl rfl rfl rfl (by kernel_rfl) Tryd.func5 (by kernel_rfl)
    (of_decide_eq_true (by kernel_rfl)) (by unfold Func.isWrapper; first | (rw [if_pos (by decide +kernel)]; kernel_rfl) | (rw [if_neg (by decide +kernel)]; exact ⟨rfl, rfl⟩))
    (fun os started H enc _ => showPlaces_lifted os started H enc)

theorem showPlaces_holds : Rows.ShowPlacesCardSaid :=
  Claim7.holds_tied_plain_at .later [] [.data, .data, .data] true _ false
    showPlaces_row (fun _ h => by cases h) (by kernel_rfl) (fun _ h => by cases h) showPlaces_row_tie rfl ⟨rfl, rfl⟩ (by kernel_rfl) rfl
    (fun f fn hf hfn => by
      obtain rfl : f = 5 := Option.some.inj ((show Tryd.prog.funcNamed "tompion/tompionlaw13.ShowPlaces" = some 5 by kernel_rfl).symm.trans hf) |>.symm
      obtain rfl : fn = Tryd.f5 := (Option.some.inj (Tryd.func5.symm.trans hfn)).symm
      exact ⟨by kernel_rfl, fun j t ht => by
        rw [Tryd.params5] at ht
        have hm : t ∈ [38, 24] := by simpa using Array.mem_of_getElem? ht
        have hall : ([38, 24].all fun u => !Tryd.prog.wantsStandIn u) = true := by kernel_rfl
        exact (show Tryd.prog.wantsStandIn t = false by simpa using List.all_eq_true.1 hall t hm)⟩)
    (by kernel_rfl)
#print axioms showPlaces_holds
end Go.Proofs.YtnlikhjmmnaknaaDoor
