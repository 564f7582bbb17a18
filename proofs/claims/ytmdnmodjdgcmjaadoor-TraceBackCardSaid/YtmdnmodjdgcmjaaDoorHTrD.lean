/-
  The walks of read and words; an append within a fence.
-/
import Derived.Maps.OwnIn
import Derived.Test.YtmdnmodjdgcmjaaDoorHTrL
namespace Go.Proofs.YtmdnmodjdgcmjaaDoor
open Go.RowKit Go.Shelf

theorem Fr.wpAppIn {P : Option Nat} {S : World → Prop} {w0 w : World} {ks : List Kp} {F : Fence} {nF : Nat} {Pr : Program} {ops : Array Oper} {rest : List Oper} {o : Oper} {a : Act} {Q : Exit → Act → World → Prop} {B : Nat} {cs : Array Value} {te : TypeId} {fr : Nat × Nat} {e : TypeId} {i : TypeInfo} {z : Value} {size bytes n m c : Nat} {v : Value} {xs : List Value}
    (f : Fr P S w0 w (blkK B (.cells cs te fr) :: rowK w0 e size v n xs :: ks)) (hgd : o.guard = none) (s x : Operand) (t : TypeId)
    (ho : o.op = .call { callee := .builtin .append, args := #[s, x], argTypes := #[t, t] })
    (ht : Pr.underlying t = some (.slice e)) (hi : Pr.info? e = some i) (hz : i.zero = some z) (hsize : i.size = size) (hby : i.bytes = bytes) (hzs : z.cells.size = size) (hsz : 0 < size)
    (hs : a.eval s = v) (hx : a.eval x = .slice (some ⟨B, 0, none⟩) m c) (hl : cs.toList.length = m * size) (h1 : ∀ u ∈ cs.toList, u.oneCell' = true) (hm : 0 < m) (h63 : n + m ≤ maxLen) (hbytes : (n + m) * bytes ≤ 140737488355328)
    (h : ∀ G cap w', Fr P S w0 w' (rowK w0 e size (.slice (some ⟨G, 0, none⟩) (n + m) cap) (n + m) (xs ++ cs.toList) :: blkK B (.cells cs te fr) :: ks) → wpListIn F nF Pr ops Q rest (a.put o.dst (.slice (some ⟨G, 0, none⟩) (n + m) cap)) w') :
    wpListIn F nF Pr ops Q (o :: rest) a w :=
  wpListIn_append_own_at w hgd s x t ho w0.heap.size e i z size bytes ht hi hz hsize hby hzs hsz v n xs hs f.tail.head.q ⟨B, 0, none⟩ m c cs.toList hx hl (World.news_of_block f.blk) h1 h63 hbytes f.gr.size fun v' w' hown hg _ hat => by
    obtain ⟨G, cap, rfl⟩ : ∃ G cap, v' = .slice (some ⟨G, 0, none⟩) (n + m) cap := by
      rcases hown.2 with h1 | ⟨g, cap, cur, h1, _⟩
      · have := h1.2; omega
      · exact ⟨g, cap, h1⟩
    refine h G cap w' (f.rot1.app hown hg ?_ (hown.lt G rfl).2)
    rcases hat with hat | hat
    · exact .inl hat.symm
    · injection hat with hat
      exact .inr hat

/-- what read gives -/
def RdPost (o : Option Int) (w : World) (r : Ending) (w' : World) : Prop :=
  Below w.heap.size w w' ∧ ∃ v, I64 v ∧ r = .returned (.tuple #[.int .i64 v, .bool o.isSome]) ∧ ∀ x, o = some x → v = x
set_option maxRecDepth 100000 in
set_option maxHeartbeats 2000000 in
theorem tread_any (k : Int) (s : ByteArray) (w : World) (hs : s.size ≤ 20000000) (hT : Tabs w) : Calls Tryd.prog 53 #[.int .i64 k, .string s] w (RdPost (rdV k s.data.toList) w) := by
  by_cases hk : k = 2
  · subst hk
    by_cases h1 : s.data.toList = tT
    · have hx : (s.toList == [116, 114, 117, 101]) = true := by rw [ByteArray.toList_eq, h1]; rfl
      have hv : rdV 2 s.data.toList = some 1 := by unfold rdV; rw [if_pos rfl, if_pos h1]
      rw [hv]
      clear hv h1
      go_enter Tryd.func53, Tryd.ntmps53
      go_wp2_with fail
      go_ret2
      exact ⟨Below.refl _ _, 1, by unfold I64; omega, rfl, fun x h => by injection h⟩
    · have hx : (s.toList == [116, 114, 117, 101]) = false := by rw [ByteArray.toList_eq]; exact beq_eq_false_iff_ne.2 h1
      by_cases h2 : s.data.toList = fF
      · have hy : (s.toList == [102, 97, 108, 115, 101]) = true := by rw [ByteArray.toList_eq, h2]; rfl
        have hv : rdV 2 s.data.toList = some 0 := by unfold rdV; rw [if_pos rfl, if_neg h1, if_pos h2]
        rw [hv]
        clear hv h1 h2
        go_enter Tryd.func53, Tryd.ntmps53
        go_wp2_with fail
        go_ret2
        exact ⟨Below.refl _ _, 0, by unfold I64; omega, rfl, fun x h => by injection h⟩
      · have hy : (s.toList == [102, 97, 108, 115, 101]) = false := by rw [ByteArray.toList_eq]; exact beq_eq_false_iff_ne.2 h2
        have hv : rdV 2 s.data.toList = none := by unfold rdV; rw [if_pos rfl, if_neg h1, if_neg h2]
        rw [hv]
        clear hv h1 h2
        go_enter Tryd.func53, Tryd.ntmps53
        go_wp2_with fail
        go_ret2
        exact ⟨Below.refl _ _, 0, by unfold I64; omega, rfl, fun x h => by cases h⟩
  · have hkb := int_ne hk
    have hrv : rdV k s.data.toList = numP s.data.toList := by unfold rdV; rw [if_neg hk]
    rw [hrv]
    clear hrv
    rcases h : Lib.atoiAll s.data.toList with v | _ | _
    · skip
      have hv := Lib.atoiAll_bounds h
      have hat := fun W => Tryd.strconv_Atoi_ok s (by omega) v h W
      have hit := fun W (h : Tab W) => itoa_any v hv W h
      have hnp : numP s.data.toList = if Lib.itoa v = s.data.toList then some v else none := by unfold numP; rw [h]
      replace hat := hid hat
      replace hit := hid hit
      replace hnp := hid hnp
      replace hT := hid hT
      clear h
      go_enter Tryd.func53, Tryd.ntmps53
      go_wp2_with fail
      refine (hat.out w).mono ?_
      rintro r w1 ⟨rfl, hw⟩
      have hb : Below w.heap.size w w1 := by
        rcases hw with rfl | ⟨t, rfl⟩
        · exact Below.refl _ _
        · exact Lib.bytesWorld_below _ _ _
      clear hw
      go_wp2_with fail
      refine (hit.out w1 (hT.out.below hb).tab).mono ?_
      rintro r w2 ⟨rfl, hb2⟩
      go_wp2_with fail
      go_ret2
      refine ⟨hb.trans (hb2.mono hb.size), v, hv, ?_, fun x hx => ?_⟩
      · rw [hnp.out]
        by_cases he : Lib.itoa v = s.data.toList
        · rw [if_pos he]; simp [ByteArray.toList_eq, he]
        · rw [if_neg he]
          have he' : ¬ (Lib.itoa v) = s.data.toList := he
          simp [ByteArray.toList_eq, he']
      · rw [hnp.out] at hx
        split at hx
        · injection hx
        · cases hx
    · skip
      obtain ⟨tp, p, hvar⟩ := hT.syn
      have hat := Tryd.strconv_Atoi_syntax_var s (by omega) h tp p w hvar
      have hnp : numP s.data.toList = none := by unfold numP; rw [h]
      replace hat := hid hat
      rw [hnp]
      clear h hvar hnp
      go_enter Tryd.func53, Tryd.ntmps53
      go_wp2_with fail
      refine hat.out.mono ?_
      rintro r w1 ⟨N, rfl, _, _, hb⟩
      go_wp2_with fail
      go_ret2
      exact ⟨hb, 0, (by unfold I64; omega), rfl, fun x hx => by cases hx⟩
    · skip
      obtain ⟨tp, p, hvar⟩ := hT.rng
      have hat := Tryd.strconv_Atoi_range_var s (by omega) h tp p w hvar
      have hnp : numP s.data.toList = none := by unfold numP; rw [h]
      have hsat := Lib.atoiSat_bounds s.data.toList
      replace hat := hid hat
      rw [hnp]
      clear h hvar hnp
      generalize Lib.atoiSat s.data.toList = q at *
      go_enter Tryd.func53, Tryd.ntmps53
      go_wp2_with fail
      refine hat.out.mono ?_
      rintro r w1 ⟨N, rfl, _, _, hb⟩
      go_wp2_with fail
      go_ret2
      exact ⟨hb, q, hsat, rfl, fun x hx => by cases hx⟩
theorem words_make (s : ByteArray) (w : World) : Calls Tryd.prog 52 #[.string s] w fun r w' => r = .returned (.func (.func 69) #[] #[.pointer (some ⟨w.heap.size, 0, none⟩)]) ∧ w.alloc (.cells #[.string s] 9) = w' := by
  go_enter Tryd.func52, Tryd.ntmps52
  go_wp2_with fail
  go_ret
  exact ⟨rfl, rfl⟩
end Go.Proofs.YtmdnmodjdgcmjaaDoor
