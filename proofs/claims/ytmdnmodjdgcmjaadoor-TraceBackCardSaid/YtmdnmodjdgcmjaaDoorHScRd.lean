/-
  The walk of the reference's Read (printed by gen_scread.py).
-/
import Derived.Test.YtmdnmodjdgcmjaaDoorHScR
namespace Go.Proofs.YtmdnmodjdgcmjaaDoor
open Go.RowKit

theorem get_byte {s : ByteArray} {j : Nat} (h : j < s.size) : s[j] = s.data.toList[j]'(by rw [Array.length_toList]; exact h) := rfl
theorem size_L (s : ByteArray) : s.data.toList.length = s.size := by rw [Array.length_toList]; rfl
theorem fold_take (l : List UInt8) (j : Nat) (h : j < l.length) : foldR (l.take (j + 1)) = stepR (foldR (l.take j)) l[j] := by
  unfold foldR
  rw [List.take_succ_eq_append_getElem h, List.foldl_append]
  rfl
theorem digs_cons {s : ByteArray} (h0 : 0 < s.size) (h : s[0] = 45) : digsOf s.data.toList = (s.extract 1 s.size).data.toList ∧ (s.extract 1 s.size).size = s.size - 1 := by
  have hl := size_L s
  have hg := get_byte h0
  rw [h] at hg
  refine ⟨?_, by simp⟩
  rw [piece_extract]
  unfold Lib.pieceU
  cases hs : s.data.toList with
  | nil => rw [hs] at hl; simp at hl; omega
  | cons c t =>
    simp only [hs, List.getElem_cons_zero] at hg
    subst hg
    rw [hs] at hl
    simp only [digsOf, if_pos, List.drop_succ_cons, List.drop_zero]
    rw [List.take_of_length_le]
    simp at hl; omega
theorem digs_same {s : ByteArray} (h : ∀ h0 : 0 < s.size, s[0] ≠ 45) : digsOf s.data.toList = s.data.toList := by
  have hl := size_L s
  cases hs : s.data.toList with
  | nil => rfl
  | cons c t =>
    rw [hs] at hl
    have h0 : 0 < s.size := by simp at hl; omega
    have hg := get_byte h0
    simp only [hs, List.getElem_cons_zero] at hg
    have := h h0
    rw [hg] at this
    simp [digsOf, this]
theorem wrap_64 (x : Int) : IntKind.i64.wrap x = wrap64 x := by unfold wrap64; exact IntKind.wrap_i64 x
theorem wrap_in (x : Int) : R64 (IntKind.i64.wrap x) := by
  unfold R64
  simp [IntKind.wrap, IntKind.bits, IntKind.signed]
  omega
def ReadPost (s : ByteArray) (w : World) (r : Ending) (w' : World) : Prop := w = w' ∧ ∃ v, I64 v ∧ r = .returned (.tuple #[.int .i64 v, .bool (numP s.data.toList).isSome]) ∧ ∀ x, numP s.data.toList = some x → v = x

set_option maxRecDepth 100000 in
set_option maxHeartbeats 4000000 in
theorem rread_any (s : ByteArray) (w : World) (hs : s.size ≤ 20000000) : Calls Tryd.prog 54 #[.string s] w (ReadPost s w) := by
  have hz : I64 0 := by unfold I64; omega
  have hnum := fun n hn => rnumber_any n hn w
  replace hnum := hid hnum
  have hn0 := @read_none s.data.toList
  have hrs := read_some s.data.toList
  have hfb := fun l => fold_bd l
  replace hn0 := hid hn0
  replace hrs := hid hrs
  replace hfb := hid hfb
  obtain ⟨ds, hds, hdl, hdn⟩ : ∃ ds : ByteArray, ds = (if h0 : 0 < s.size then (if s[0] = 45 then s.extract 1 s.size else s) else s) ∧ digsOf s.data.toList = ds.data.toList ∧ (ds.size < s.size ↔ digsOf s.data.toList ≠ s.data.toList) := by
    refine ⟨_, rfl, ?_⟩
    have hl := size_L s
    by_cases h0 : 0 < s.size
    · rw [dif_pos h0]
      by_cases h45 : s[0] = 45
      · obtain ⟨h1, h2⟩ := digs_cons h0 h45
        rw [if_pos h45]
        refine ⟨h1, ⟨fun _ h => ?_, fun _ => by omega⟩⟩
        have := congrArg List.length h
        rw [h1, size_L] at this
        omega
      · have h1 := digs_same (s := s) fun _ => h45
        rw [if_neg h45]
        exact ⟨h1, ⟨fun h => absurd h (by omega), fun h => absurd h1 h⟩⟩
    · have h1 := digs_same (s := s) fun h => absurd h h0
      rw [dif_neg h0]
      exact ⟨h1, ⟨fun h => absurd h (by omega), fun h => absurd h1 h⟩⟩
  have hdz : ds.size ≤ 20000000 := by
    rw [hds]
    split
    · split
      · simp; omega
      · omega
    · omega
  replace hds := hid hds
  have hdlL := size_L ds
  replace hdl := hid hdl
  replace hdn := hid hdn
  go_enter Tryd.func54, Tryd.ntmps54
  have hcase : (∃ h0 : 0 < s.size, s[0] = 45 ∧ ds = s.extract 1 s.size) ∨ (¬ 0 < s.size ∧ ds = s) ∨ (∃ h0 : 0 < s.size, ((s[0].toNat : Nat) : Int) ≠ 45 ∧ ds = s) := by
    have hds2 := hds.out
    by_cases h0 : 0 < s.size
    · rw [dif_pos h0] at hds2
      by_cases h45 : s[0] = 45
      · rw [if_pos h45] at hds2
        exact .inl ⟨h0, h45, hds2⟩
      · rw [if_neg h45] at hds2
        refine .inr (.inr ⟨h0, fun h => h45 (UInt8.toNat_inj.1 ?_), hds2⟩)
        show s[0].toNat = 45
        omega
    · rw [dif_neg h0] at hds2
      exact .inr (.inl ⟨h0, hds2⟩)
  obtain ⟨b, hb1, hb2⟩ : ∃ b : Bool, (b = true → (0 < s.size ∧ ds = s.extract 1 s.size)) ∧ (b = false → ds = s) ∧ (b = true ↔ ∃ h0 : 0 < s.size, s[0] = 45) := by
    rcases hcase with ⟨h0, h45, hd⟩ | ⟨h0, hd⟩ | ⟨h0, h45, hd⟩
    · exact ⟨true, fun _ => ⟨h0, hd⟩, (fun h => by cases h), ⟨fun _ => ⟨h0, h45⟩, fun _ => rfl⟩⟩
    · exact ⟨false, (fun h => by cases h), fun _ => hd, ⟨(fun h => by cases h), fun ⟨h, _⟩ => absurd h h0⟩⟩
    · exact ⟨false, (fun h => by cases h), fun _ => hd, ⟨(fun h => by cases h), fun ⟨_, h⟩ => absurd (by rw [h]; rfl) h45⟩⟩
  replace hb1 := hid hb1
  replace hb2 := hid hb2
  go_upto_region 2 with fail
  go_cut [15] from 8 to 15 (fun d wx => d = .bool b ∧ wx = w)
  case first =>
    rcases hcase with ⟨h0, h45, hd⟩ | ⟨h0, hd⟩ | ⟨h0, h45, hd⟩
    · obtain rfl : b = true := hb2.out.2.2 ⟨h0, h45⟩
      clear hd hb1 hb2
      go_wp2_with fail
      go_meet
      case rel => exact ⟨rfl, rfl⟩
    · obtain rfl : b = false := by
        cases b with
        | false => rfl
        | true => exact absurd (hb2.out.2.1 rfl).1 h0
      clear hd hb1 hb2
      go_wp2_with fail
      go_meet
      case rel => exact ⟨rfl, rfl⟩
    · obtain rfl : b = false := by
        cases b with
        | false => rfl
        | true => obtain ⟨_, h⟩ := hb2.out.2.1 rfl; exact absurd (by rw [h]; rfl) h45
      clear hd hb1 hb2
      go_wp2_with fail
      go_meet
      case rel => exact ⟨congrArg Value.bool (beq_eq_false_iff_ne.2 h45), rfl⟩
  case rest =>
  obtain ⟨rfl, rfl⟩ := hcut
  clear hcase
  go_upto_if 15 with fail
  go_cut [4] from 16 to 17 (fun d wx => d = .string ds ∧ wx = wc)
  case first =>
    cases b with
    | true =>
      obtain ⟨h0, hd⟩ := hb1.out rfl
      replace hd := hid hd
      go_wp2_with fail
      go_meet
      case rel => exact ⟨by rw [hd.out], rfl⟩
    | false =>
      have hd := hid (hb2.out.1 rfl)
      go_wp2_with fail
      go_meet
      case rel => exact ⟨by rw [hd.out], rfl⟩
  case rest =>
  obtain ⟨rfl, rfl⟩ := hcut
  clear hb1 hb2 hds
  generalize hD : ds.data.toList = D at *
  rw [← hdlL] at hdz
  by_cases he : D.length = 0
  · have hn := hid (hn0.out (.inl (by rw [hdl.out]; exact he)))
    have he' : ds.size = 0 := by omega
    go_wp2_with fail
    go_ret2
    exact ⟨rfl, 0, hz, by rw [hn.out]; rfl, fun x hx => by rw [hn.out] at hx; cases hx⟩
  by_cases h19 : 19 < D.length
  · have hn := hid (hn0.out (.inr (.inl (by rw [hdl.out]; exact h19))))
    have he' : (19 : Int) < (ds.size : Int) := by omega
    have he0 : ¬ ds = ByteArray.empty := fun e => by rw [e] at he'; simp at he'
    go_wp2_with fail
    go_ret2
    exact ⟨rfl, 0, hz, by rw [hn.out]; rfl, fun x hx => by rw [hn.out] at hx; cases hx⟩
  have he1 : ¬ ds = ByteArray.empty := fun e => he (by rw [e] at hdlL; simpa using hdlL)
  have he2 : ¬ (19 : Int) < (ds.size : Int) := by omega
  have he3 : ((ds.size : Int) == 0) = false := beq_eq_false_iff_ne.2 (by omega)
  go_wp2_with fail
  go_loop [5, 6] (fun n i => ∃ j : Nat, j ≤ ds.size ∧ i = .int .i64 j ∧ Hid (∀ c ∈ D.take j, digB c) ∧ n = .int .i64 (foldR (D.take j))) (fun _ i => ds.size - (intOf i).toNat)
  case atStart => exact ⟨0, Nat.zero_le _, rfl, (fun c hc => by simp at hc), rfl⟩
  case round =>
    obtain ⟨j, hj, rfl, hall, rfl⟩ := hrel
    have hfj := hfb.out (D.take j)
    unfold R64 at hfj
    by_cases hlt : j < ds.size
    · have hDj : j < D.length := by omega
      have hsu := fold_take D j hDj
      have hcc : ds[j] = D[j] := by subst hD; rfl
      have hmem : ¬ digB D[j] → numP s.data.toList = none := fun h => hn0.out (.inr (.inr ⟨D[j], by rw [hdl.out]; exact List.getElem_mem hDj, h⟩))
      have hnext : digB D[j] → ∀ c ∈ D.take (j + 1), digB c := fun h c hc => by
        rw [List.take_succ_eq_append_getElem hDj] at hc
        rcases List.mem_append.1 hc with hc | hc
        · exact hall.out c hc
        · rw [List.mem_singleton.1 hc]; exact h
      rw [← hcc] at hsu hmem hnext
      replace hsu := hid hsu
      replace hmem := hid hmem
      replace hnext := hid hnext
      clear hcc
      have hb256 := (ds[j]).toNat_lt
      unfold stepR at hsu
      unfold digB at hmem hnext
      generalize foldR (D.take j) = f at *
      have hj0 : (0 : Int) ≤ (j : Int) := by omega
      have hj1 : (j : Int) < (ds.size : Int) := by omega
      by_cases hlo : (ds[j]).toNat < 48
      · have hn := hid (hmem.out (by omega))
        have hlo' : ((ds[j]).toNat : Int) < 48 := by omega
        clear hsu hmem hnext
        go_wp2_with fail
        go_ret2
        exact ⟨rfl, 0, hz, by rw [hn.out]; rfl, fun x hx => by rw [hn.out] at hx; cases hx⟩
      by_cases hhi : 57 < (ds[j]).toNat
      · have hn := hid (hmem.out (by omega))
        have hhi' : (57 : Int) < ((ds[j]).toNat : Int) := by omega
        have hlo' : ¬ ((ds[j]).toNat : Int) < 48 := by omega
        clear hsu hmem hnext
        go_wp2_with fail
        go_ret2
        exact ⟨rfl, 0, hz, by rw [hn.out]; rfl, fun x hx => by rw [hn.out] at hx; cases hx⟩
      have hlo' : ¬ ((ds[j]).toNat : Int) < 48 := by omega
      have hhi' : ¬ (57 : Int) < ((ds[j]).toNat : Int) := by omega
      have hd := hid (hnext.out (by omega))
      clear hmem hnext
      go_wp2_with fail
      go_round
      case rel =>
        refine ⟨j + 1, by omega, by go_num, hd.out, ?_⟩
        rw [hsu.out, wrap_64, wrap_64]
      case measure => simp [intOf]; omega
    · have hje : j = ds.size := by omega
      subst hje
      have hDj : D.take ds.size = D := List.take_of_length_le (by omega)
      rw [hDj] at hfj ⊢
      have hval : readV s.data.toList = if ds.size < s.size then foldR D else IntKind.i64.wrap (-foldR D) := by
        unfold readV
        rw [hdl.out]
        have hdn2 := hdn.out
        rw [hdl.out] at hdn2
        by_cases hc : ds.size < s.size
        · rw [if_pos hc, if_pos (hdn2.1 hc)]
        · rw [if_neg hc, if_neg fun h => hc (hdn2.2 h)]
      generalize foldR D = f at *
      by_cases hc : ds.size < s.size
      · have hc' : (ds.size : Int) < (s.size : Int) := by omega
        rw [if_pos hc] at hval
        replace hval := hid hval
        have hnf := hid (hnum.out f hfj)
        clear hall hDj
        go_wp2_with fail
        refine hnf.out.mono ?_
        rintro r w1 ⟨rfl, rfl⟩
        go_wp2_with fail
        go_ret2
        refine ⟨rfl, f, hfj, ?_, fun x hx => ?_⟩
        · rw [hrs.out, hval.out]
          by_cases he : Lib.itoa f = s.data.toList
          · rw [if_pos he]; simp [ByteArray.toList_eq, he]
          · rw [if_neg he]; simp [ByteArray.toList_eq, he]
        · rw [hrs.out, hval.out] at hx
          split at hx
          · injection hx
          · cases hx
      · have hc' : ¬ (ds.size : Int) < (s.size : Int) := by omega
        rw [if_neg hc] at hval
        replace hval := hid hval
        have hwf : I64 (IntKind.i64.wrap (-f)) := wrap_in _
        have hnf := hnum.out _ hwf
        rw [wrap_64] at hnf hwf
        rw [wrap_64] at hval
        replace hnf := hid hnf
        clear hall hDj
        generalize hq : wrap64 (-f) = q at *
        go_wp2_with fail
        refine hnf.out.mono ?_
        rintro r w1 ⟨rfl, rfl⟩
        go_wp2_with fail
        go_ret2
        refine ⟨rfl, q, hwf, ?_, fun x hx => ?_⟩
        · rw [hrs.out, hval.out]
          by_cases he : Lib.itoa q = s.data.toList
          · rw [if_pos he]; simp [ByteArray.toList_eq, he]
          · rw [if_neg he]; simp [ByteArray.toList_eq, he]
        · rw [hrs.out, hval.out] at hx
          split at hx
          · injection hx
          · cases hx

end Go.Proofs.YtmdnmodjdgcmjaaDoor
