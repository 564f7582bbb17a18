/-
  The walks of fewVars and FewNodes: of which sources the statements speak.
-/
import Derived.Test.YtiencmbbkbicnaaSrcR2
namespace Go.Proofs.Ytiencmbbkbicnaa
open Go.RowKit

/-- an answer that, where it is yes, says so much -/
def FewP (p : Prop) (w : World) (r : Ending) (w' : World) : Prop := ∃ b : Bool, r = .returned (.bool b) ∧ (b = true → p) ∧ Below w.heap.size w w'

set_option maxHeartbeats 1000000 in
theorem fewVars_any (l : List VarE) (S : Sl) (B : Nat) (w : World) (hf : S.fits l.length) (hv : SlAt 5 (VarAt B w) S.A l) (hB : B ≤ w.heap.size) :
    Calls Try.prog 60 #[S.v l.length] w (FewP (∀ v ∈ l, v.few) w) := by
  obtain ⟨A, cap⟩ := S
  obtain ⟨hf1, hf2⟩ := hf
  simp only [Sl.v] at *
  unfold maxLen at hf2
  have hcap' : (l.length : Int) ≤ 9223372036854775807 := by omega
  have HV := hid hv
  clear hv hf1 hf2
  go_enter Try.func60, Try.ntmps60
  go_wp2_with fail
  go_loopw [4, 6, 9, 26] (fun _ _ i _ wr => ∃ j : Nat, j ≤ l.length ∧ i = .int .i64 j ∧ Hid (∀ m (h : m < l.length), m < j → (l[m]).few) ∧ Below w.heap.size w wr) (fun _ _ i _ _ => l.length - (intOf i).toNat)
  case atStart => exact ⟨0, by omega, rfl, fun m _ h => absurd h (by omega), Below.refl _ _⟩
  case round =>
    obtain ⟨j, hj, rfl, hup, hbr⟩ := hrel
    have hsz := hbr.size
    by_cases hlt : j < l.length
    · obtain ⟨b, o, rfl, hl⟩ := HV.out j hlt
      obtain ⟨hb, ⟨A', cap'⟩, hc, hi⟩ := hl.keep (same_below hB hbr)
      obtain ⟨c0, c1, c2, c3, c4⟩ := hc
      have hi0 : (0 : Int) ≤ (j : Int) := by omega
      have hi1 : (j : Int) < (l.length : Int) := by omega
      have hlb : b < wr.heap.size := by omega
      have hyes : Hid ((l[j]).few → ∀ m (h : m < l.length), m < j + 1 → (l[m]).few) := fun hp m hm hmj => by
        by_cases he : m = j
        · subst he; exact hp
        · exact hup.out m hm (by omega)
      clear hup hl
      obtain ⟨_, _, _, _, ⟨hg1, hg2⟩, hcl⟩ := hi
      simp only [Sl.v] at *
      generalize l[j] = v at *
      obtain ⟨name, type, clock, line, col⟩ := v
      simp only at *
      unfold maxLen at hg2
      have hw2 := hbr.alloc hsz (.cells #[.string name, .int .i64 type, .slice A' clock.length cap', .int .i64 line, .int .i64 col] 97)
      by_cases h30 : name.size ≤ 30
      · by_cases h6 : clock.length ≤ 6
        · go_wp2_with fail
          have hT := World.alloc_heap_new wr (.cells #[.string name, .int .i64 type, .slice A' clock.length cap', .int .i64 line, .int .i64 col] 97)
          have hlt2 : wr.heap.size < (wr.alloc (.cells #[.string name, .int .i64 type, .slice A' clock.length cap', .int .i64 line, .int .i64 col] 97)).heap.size := by simp
          have hHC := SlAt.imp hcl fun _ _ _ => LitAt.keep (same_below (w' := wr.alloc (.cells #[.string name, .int .i64 type, .slice A' clock.length cap', .int .i64 line, .int .i64 col] 97)) (Nat.le_refl B) ((Below.refl B wr).alloc (by omega) _))
          clear c0 c1 c2 c3 c4 hcl
          generalize wr.alloc (.cells #[.string name, .int .i64 type, .slice A' clock.length cap', .int .i64 line, .int .i64 col] 97) = V at *
          generalize wr.heap.size = T at *
          have hBV : B ≤ V.heap.size := by omega
          have HHC := hid hHC
          clear hHC hT hbr
          go_loopw [6, 26] (fun _ i wr3 => ∃ k : Nat, k ≤ clock.length ∧ i = .int .i64 k ∧ Hid (∀ m (h : m < clock.length), m < k → (clock[m]).name.size ≤ 1000) ∧ Below V.heap.size V wr3) (fun _ i _ => clock.length - (intOf i).toNat)
          case atStart => exact ⟨0, by omega, rfl, fun m _ h => absurd h (by omega), Below.refl _ _⟩
          case round =>
            obtain ⟨k, hk, rfl, hupk, hb3⟩ := hrel
            have hz3 := hb3.size
            by_cases hltk : k < clock.length
            · obtain ⟨b', o', rfl, hlk⟩ := HHC.out k hltk
              obtain ⟨hbk, hnk, e0, e1⟩ := hlk.keep (same_below hBV hb3)
              have hk0 : (0 : Int) ≤ (k : Int) := by omega
              have hk1 : (k : Int) < (clock.length : Int) := by omega
              have hlbk : b' < wr.heap.size := by omega
              have hnew := hb3.alloc hz3 (.cells #[.string (clock[k]).name, .bool (clock[k]).neg] 99)
              by_cases h30k : (clock[k]).name.size ≤ 30
              · have HN : Hid (∀ m (h : m < clock.length), m < k + 1 → (clock[m]).name.size ≤ 1000) := fun m hm hmk => by
                  by_cases he : m = k
                  · subst he; omega
                  · exact hupk.out m hm (by omega)
                clear hupk
                go_wp2_with fail
                go_roundw
                case rel => exact ⟨k + 1, by omega, by go_num, HN, hnew⟩
                case measure => simp [intOf]; omega
              · clear hupk
                go_wp2_with fail
                go_ret
                exact ⟨false, rfl, (fun h => by cases h), hw2.trans (hnew.mono hw2.size)⟩
            · have : k = clock.length := by omega
              subst this
              have HC : Hid (∀ c ∈ clock, c.name.size ≤ 1000) := fun c hc => by
                obtain ⟨m, hm, rfl⟩ := List.getElem_of_mem hc
                exact hupk.out m hm hm
              clear hupk
              go_wp2_with fail
              go_roundw
              case rel => exact ⟨j + 1, by omega, by go_num, hyes.out ⟨show name.size ≤ 1000 by omega, HC.out⟩, hw2.trans (hb3.mono hw2.size)⟩
              case measure => simp [intOf]; omega
        · go_wp2_with fail
          go_ret
          exact ⟨false, rfl, (fun h => by cases h), hw2⟩
      · go_wp2_with fail
        go_ret
        exact ⟨false, rfl, (fun h => by cases h), hw2⟩
    · have : j = l.length := by omega
      subst this
      have HS : Hid (∀ v ∈ l, v.few) := fun v hv => by
        obtain ⟨m, hm, rfl⟩ := List.getElem_of_mem hv
        exact hup.out m hm hm
      clear hup
      go_wp2_with fail
      go_ret
      exact ⟨_, rfl, fun _ => HS.out, hbr⟩
end Go.Proofs.Ytiencmbbkbicnaa
