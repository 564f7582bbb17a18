/-
  The walks of the reference's vars, Node and Source.
-/
import Derived.Test.YtiencmbbkbicnaaSrcC2
namespace Go.Proofs.Ytiencmbbkbicnaa
open Go.RowKit

def VarE.few (v : VarE) : Prop := v.name.size ≤ 1000 ∧ ∀ c ∈ v.clock, c.name.size ≤ 1000
def EqE.few (q : EqE) : Prop := q.right.size ≤ 1000 ∧ q.right.height ≤ 1000 ∧ q.right.short ∧ ∀ x ∈ q.left, x.size ≤ 1000
def NodeE.few (n : NodeE) : Prop := n.name.size ≤ 1000 ∧ (∀ v ∈ n.ins, v.few) ∧ (∀ v ∈ n.outs, v.few) ∧ (∀ v ∈ n.vars, v.few) ∧ ∀ q ∈ n.eqs, q.few

set_option maxHeartbeats 2000000 in
theorem rvars_any (l : List VarE) (least most : Nat) (S : Sl) (B : Nat) (w : World) (hf : S.fits l.length) (hv : SlAt 5 (VarAt B w) S.A l) (hB : B ≤ w.heap.size) (hfw : ∀ v ∈ l, v.few) :
    Calls Try.prog 63 #[S.v l.length, .int .i64 least, .int .i64 most] w fun r w' => r = .returned (.bool (manyB l least most)) ∧ Below w.heap.size w w' := by
  obtain ⟨A, cap⟩ := S
  obtain ⟨hf1, hf2⟩ := hf
  simp only [Sl.v] at *
  unfold maxLen at hf2
  have hcap' : (l.length : Int) ≤ 9223372036854775807 := by omega
  have HV := hid hv
  have HFW := hid hfw
  clear hv hf1 hf2 hfw
  go_enter Try.func63, Try.ntmps63
  go_wp2_with fail
  go_loopw [7, 8, 9] (fun i _ _ wr => ∃ j : Nat, j ≤ l.length ∧ i = .int .i64 j ∧ Hid (Upto varB l j) ∧ Below w.heap.size w wr) (fun i _ _ _ => l.length - (intOf i).toNat)
  case atStart => exact ⟨0, by omega, rfl, Upto.zero _ _, Below.refl _ _⟩
  case round =>
    obtain ⟨j, hj, rfl, hup, hbr⟩ := hrel
    have hsz := hbr.size
    by_cases hlt : j < l.length
    · obtain ⟨b, o, rfl, hl⟩ := HV.out j hlt
      obtain ⟨hb, ⟨A', cap'⟩, hc, hi⟩ := hl.keep (same_below hB hbr)
      obtain ⟨c0, c1, c2, c3, c4⟩ := hc
      have hi0 : (0 : Int) ≤ (j : Int) := by omega
      have hi1 : (j : Int) < (l.length : Int) := by omega
      obtain ⟨hfn, hfc⟩ := HFW.out l[j] (List.getElem_mem _)
      have hno : varB l[j] = false → Hid (manyB l least most = false) := fun hp => by show _ = _; unfold manyB; rw [all_hit hlt hp]; rfl
      have hyes : Hid (varB l[j] = true → Upto varB l (j + 1)) := fun hp => hup.out.succ hlt hp
      have HNO := hid hno
      clear hno hup
      obtain ⟨hn, _, _, _, ⟨hg1, hg2⟩, hcl⟩ := hi
      simp only [Sl.v] at *
      generalize l[j] = v at *
      obtain ⟨name, type, clock, line, col⟩ := v
      simp only at *
      have hw2 := hbr.alloc hsz (.cells #[.string name, .int .i64 type, .slice A' clock.length cap', .int .i64 line, .int .i64 col] 97)
      have hT := World.alloc_heap_new wr (.cells #[.string name, .int .i64 type, .slice A' clock.length cap', .int .i64 line, .int .i64 col] 97)
      have HCL := hid (SlAt.imp hcl fun _ _ _ => LitAt.keep (same_below (w' := wr.alloc (.cells #[.string name, .int .i64 type, .slice A' clock.length cap', .int .i64 line, .int .i64 col] 97)) (Nat.le_refl B) ((Below.refl B wr).alloc (by omega) _)))
      have HW2 := hid hw2
      have HT := hid hT
      have HFC := hid hfc
      unfold maxLen at hg2
      clear hcl hw2 hT hfc hn hl
      cases hp : isName name.data.toList
      · have HP := hid hp
        go_wp2_with (go_at_call 33; refine (rname_any name _ (by omega)).mono ?_; rintro r w2 ⟨rfl, rfl⟩; rw [HP.out])
        go_ret
        exact ⟨ret_bool ((HNO.out (by simp [varB, HP.out])).out).symm, HW2.out⟩
      · have HP := hid hp
        clear hp
        by_cases ht : type = 1 ∨ type = 2
        · by_cases h4 : clock.length ≤ 4
          · have hvb : Hid (varB ⟨name, type, clock, line, col⟩ = clock.all litB) := by
              show _ = _
              simp only [varB, HP.out]
              rcases ht with rfl | rfl <;> simp [h4]
            rcases ht with rfl | rfl
            all_goals
              go_wp2_with (go_at_call 33; refine (rname_any name _ (by omega)).mono ?_; rintro r w2 ⟨rfl, rfl⟩; rw [HP.out])
              clear c0 c1 c2 c3 c4
              have hW2 := HW2.out
              have hTT := HT.out
              have hHC := HCL.out
              have hlt2 : wr.heap.size < (wr.alloc (.cells #[.string name, .int .i64 _, .slice A' clock.length cap', .int .i64 line, .int .i64 col] 97)).heap.size := (Array.getElem?_eq_some_iff.1 hTT).1
              generalize wr.alloc (.cells #[.string name, .int .i64 _, .slice A' clock.length cap', .int .i64 line, .int .i64 col] 97) = V at *
              generalize wr.heap.size = T at *
              have d2 : V.cell? ⟨T, 2, none⟩ = some (.slice A' clock.length cap') := by simp [World.cell?, hTT]
              clear hTT HT
              go_loop [9] (fun i => ∃ k : Nat, k ≤ clock.length ∧ i = .int .i64 k ∧ Hid (Upto litB clock k)) (fun i => clock.length - (intOf i).toNat)
              case atStart => exact ⟨0, by omega, rfl, Upto.zero _ _⟩
              case round =>
                obtain ⟨k, hk, rfl, hupk⟩ := hrel
                by_cases hltk : k < clock.length
                · obtain ⟨b', o', rfl, hlk⟩ := hHC k hltk
                  obtain ⟨hbk, hnk, e0, e1⟩ := hlk
                  have hk0 : (0 : Int) ≤ (k : Int) := by omega
                  have hk1 : (k : Int) < (clock.length : Int) := by omega
                  have hnz := HFC.out clock[k] (List.getElem_mem _)
                  cases hq : litB clock[k]
                  · have hq' : isName (clock[k]).name.data.toList = false := hq
                    have HQ := hid hq'
                    have HS := hid (all_hit hltk hq)
                    clear hq hq'
                    go_wp2_with (go_at_call 33; refine (rname_any _ _ (by omega)).mono ?_; rintro r w2 ⟨rfl, rfl⟩; rw [HQ.out])
                    go_ret
                    exact ⟨ret_bool ((HNO.out (by rw [hvb.out, HS.out])).out).symm, hW2⟩
                  · have hq' : isName (clock[k]).name.data.toList = true := hq
                    have HQ := hid hq'
                    have HS := hid (hupk.out.succ hltk hq)
                    clear hq hq'
                    go_wp2_with (go_at_call 33; refine (rname_any _ _ (by omega)).mono ?_; rintro r w2 ⟨rfl, rfl⟩; rw [HQ.out])
                    go_round
                    case rel => exact ⟨k + 1, by omega, by go_num, HS⟩
                    case measure => simp [intOf]; omega
                · have : k = clock.length := by omega
                  subst this
                  have HS := hid hupk.out.all
                  clear hupk
                  go_wp2_with fail
                  go_roundw
                  case rel => exact ⟨j + 1, by omega, by go_num, hyes.out (by rw [hvb.out, HS.out]), hW2⟩
                  case measure => simp [intOf]; omega
          · have hvb : Hid (varB ⟨name, type, clock, line, col⟩ = false) := by show _ = _; simp [varB, h4]
            have h4' : (4 : Int) < (clock.length : Int) := by omega
            rcases ht with rfl | rfl
            all_goals
              go_wp2_with (go_at_call 33; refine (rname_any name _ (by omega)).mono ?_; rintro r w2 ⟨rfl, rfl⟩; rw [HP.out])
              go_ret
              exact ⟨ret_bool ((HNO.out hvb.out).out).symm, HW2.out⟩
        · have hvb : Hid (varB ⟨name, type, clock, line, col⟩ = false) := by
            show _ = _
            have h1 : (type == 1) = false := by simp; omega
            have h2 : (type == 2) = false := by simp; omega
            simp [varB, h1, h2]
          have h1 : (type != 1) = true := by simp; omega
          have h2 : (type != 2) = true := by simp; omega
          clear ht
          go_wp2_with (go_at_call 33; refine (rname_any name _ (by omega)).mono ?_; rintro r w2 ⟨rfl, rfl⟩; rw [HP.out])
          go_ret
          exact ⟨ret_bool ((HNO.out hvb.out).out).symm, HW2.out⟩
    · have : j = l.length := by omega
      subst this
      have HS := hid hup.out.all
      clear hup
      by_cases h1 : (least : Int) ≤ (l.length : Int)
      all_goals
        go_wp2_with fail
        go_ret
        refine ⟨ret_bool ?_, hbr⟩
        unfold manyB; rw [HS.out, Bool.eq_iff_iff]; simp; try omega
end Go.Proofs.Ytiencmbbkbicnaa
