/-
  The walks of value and Row, and of the reference's Row.
-/
import Derived.Test.YtmdnmodjdgcmjaaDoorHTrR
import Derived.Test.YtmdnmodjdgcmjaaDoorHScV
namespace Go.Proofs.YtmdnmodjdgcmjaaDoor
open Go.RowKit

theorem valT_30 {t v : Int} (h : I64 v) : (valT t v).length ≤ 30 := by
  unfold valT
  split
  · split <;> decide
  · exact itoa_30 h
theorem value_any (t v : Int) (hv : I64 v) (w : World) (hT : Tab w) : Calls Tryd.prog 50 #[.int .i64 t, .int .i64 v] w fun e w' => e = .returned (.string ⟨(valT t v).toArray⟩) ∧ Below w.heap.size w w' := by
  have hfb := hid (fun b => Tryd.strconv_FormatBool b w)
  have hit := hid (itoa_any v hv w hT)
  by_cases ht : t = 2
  · subst ht
    by_cases h1 : v = 1
    · subst h1
      go_enter Tryd.func50, Tryd.ntmps50
      go_wp2_with fail
      refine (hfb.out true).mono ?_
      rintro r w1 ⟨rfl, rfl⟩
      go_wp2_with fail
      go_ret
      exact ⟨rfl, Below.refl _ _⟩
    · have hb := int_ne h1
      have hval : valT 2 v = fF := by unfold valT; rw [if_pos rfl, if_neg h1]
      rw [hval]
      go_enter Tryd.func50, Tryd.ntmps50
      go_wp2_with fail
      refine (hfb.out false).mono ?_
      rintro r w1 ⟨rfl, rfl⟩
      go_wp2_with fail
      go_ret
      exact ⟨rfl, Below.refl _ _⟩
  · have hb := int_ne ht
    have hval : valT t v = Lib.itoa v := by unfold valT; rw [if_neg ht]
    rw [hval]
    go_enter Tryd.func50, Tryd.ntmps50
    go_wp2_with fail
    refine hit.out.mono ?_
    rintro r w1 ⟨rfl, hw⟩
    go_wp2_with fail
    go_ret
    exact ⟨rfl, hw⟩
def zipV (ts l : List Int) : List (List UInt8) := List.zipWith valT ts l
theorem zipV_get {ts l : List Int} {j : Nat} (hz : j < (zipV ts l).length) (h1 : j < ts.length) (h2 : j < l.length) : (zipV ts l)[j] = valT ts[j] l[j] := List.getElem_zipWith ..
theorem zipV_len {ts l : List Int} (h : l.length = ts.length) : (zipV ts l).length = ts.length := by unfold zipV; rw [List.length_zipWith]; omega
theorem zipV_30 {ts l : List Int} (h : ∀ v ∈ l, I64 v) : ∀ x ∈ zipV ts l, x.length ≤ 30 := by
  intro x hx
  obtain ⟨j, hj, rfl⟩ := List.getElem_of_mem hx
  have hj2 := hj
  unfold zipV at hj2
  rw [List.length_zipWith] at hj2
  rw [zipV_get hj (by omega) (by omega)]
  exact valT_30 (h _ (List.getElem_mem _))
theorem zipV_more {ts l : List Int} {j : Nat} (h1 : j < ts.length) (h2 : j < l.length) : (zipV ts l).take (j + 1) = (zipV ts l).take j ++ [valT ts[j] l[j]] := by
  have hz : j < (zipV ts l).length := by unfold zipV; rw [List.length_zipWith]; omega
  rw [List.take_succ_eq_append_getElem hz, zipV_get hz h1 h2]
theorem rowT_len {ts l : List Int} (h : ∀ v ∈ l, I64 v) (hr : fitsT ts l = true) : (rowT ts l).length ≤ 248 := by
  obtain ⟨h1, h2, -⟩ := fits_cons hr
  have h3 := (right_cons h1).2.1
  have h4 := join_len (zipV_30 (ts := ts) h)
  rw [zipV_len h2] at h4
  unfold rowT zipV at *
  omega
theorem own_some {w : World} {b0 n c : Nat} {t : TypeId} {A : Option Addr} {xs : List Value} (h : w.ownsRow b0 t 1 (.slice A n c) n xs) (hn : 0 < n) : ∃ G, A = some ⟨G, 0, none⟩ := by
  rcases h.2 with ⟨h1, h2, _⟩ | ⟨g, cap, cur, h1, _⟩
  · omega
  · injection h1 with h1
    exact ⟨g, h1⟩
/-- what Row gives -/
def rowW (ts l : List Int) : List UInt8 × Int := if rightT ts = false then ([], 2) else if fitsT ts l = false then ([], 41) else (rowT ts l, 0)
def RowPost (p : List UInt8 × Int) (w : World) (e : Ending) (w' : World) : Prop := e = .returned (.tuple #[.string ⟨p.1.toArray⟩, .int .i64 p.2]) ∧ Below w.heap.size w w'

set_option maxRecDepth 100000 in
set_option maxHeartbeats 2000000 in
theorem row_any (ts l : List Int) (A B : Option Addr) (c d : Nat) (w : World) (hx : IntsAt w A ts) (hy : IntsAt w B l) (hI : ∀ v ∈ l, I64 v) (hn : ts.length ≤ maxLen) (hm : l.length ≤ maxLen) (hT : Tabs w) :
    Calls Tryd.prog 21 #[.slice A ts.length c, .slice B l.length d] w (RowPost (rowW ts l) w) := by
  obtain ⟨i0, z0, hi0, hz0, hs0, hb0, hc0⟩ := info_string
  have hX := hid (fun W (h : Below w.heap.size w W) => hx.keep h)
  have hY := hid (fun W (h : Below w.heap.size w W) => hy.keep h)
  have hTW := hid (fun W (h : Below w.heap.size w W) => (hT.below h).tab)
  have hr := hid (right_t ts A c w hx hn)
  have hft := hid (fun W (h : Below w.heap.size w W) => fits_t ts l A B c d W (hx.keep h) (hy.keep h) hn hm)
  have hv30 := zipV_30 (ts := ts) hI
  unfold maxLen at hn hm
  have hx1 : (ts.length : Int) ≤ 9223372036854775807 := by omega
  have hy1 : (l.length : Int) ≤ 9223372036854775807 := by omega
  clear hx hy hT
  generalize hp : rowW ts l = p
  replace hp := hid hp
  replace hI := hid hI
  go_enter Tryd.func21, Tryd.ntmps21
  go_wp2_with fail
  refine hr.out.mono ?_
  rintro r w1 ⟨rfl, h1⟩
  clear hr
  cases hR : rightT ts with
  | false =>
    obtain rfl : ([], 2) = p := by rw [← hp.out]; unfold rowW; rw [if_pos hR]
    go_wp2_with fail
    go_ret2
    exact ⟨rfl, h1⟩
  | true =>
    go_wp2_with fail
    refine (hft.out w1 h1).mono ?_
    rintro r w2 ⟨rfl, h2⟩
    have h3 := h1.trans (h2.mono h1.size)
    clear h1 h2 hft
    cases hF : fitsT ts l with
    | false =>
      obtain rfl : ([], 41) = p := by rw [← hp.out]; unfold rowW; rw [if_neg (by rw [hR]; decide), if_pos hF]
      go_wp2_with fail
      go_ret2
      exact ⟨rfl, h3⟩
    | true =>
      obtain rfl : (rowT ts l, 0) = p := by rw [← hp.out]; unfold rowW; rw [if_neg (by rw [hR]; decide), if_neg (by rw [hF]; decide)]
      obtain ⟨-, hl, -⟩ := fits_cons hF
      obtain ⟨h1n, h8, -⟩ := right_cons hR
      obtain ⟨n, hn⟩ : ∃ n, n = ts.length := ⟨_, rfl⟩
      have hzl := zipV_len hl
      have hln : l.length = n := by omega
      rw [← hn] at hzl hx1 ⊢
      rw [hln]
      have hn1 : 1 ≤ n := by omega
      have hn8 : n ≤ 8 := by omega
      replace hn := hid hn
      replace hln := hid hln
      replace hzl := hid hzl
      clear hR hF hy1 hl h1n h8
      have f_0 := ((Fr.start0 w).below h3).nilRow 9 1
      clear h3
      go_wp2_with fail
      go_loopw [6, 20] (fun o i wr => ∃ (j : Nat) (G : Option Addr) (e : Nat), j ≤ n ∧ o = .slice G j e ∧ i = .int .i64 j ∧ Fr none (fun _ => True) w wr [rowK w 9 1 (.slice G j e) j ((strL' ((zipV ts l).take j)).flatMap strC)]) (fun _ i _ => n - (intOf i).toNat)
      case atStart => exact ⟨0, none, 0, Nat.zero_le _, rfl, rfl, f_0⟩
      case round =>
        clear f_0
        obtain ⟨j, G, e, hj, rfl, rfl, f⟩ := hrel
        by_cases hlt : j < n
        · have hjl : j < ts.length := by rw [← hn.out]; exact hlt
          have hjm : j < l.length := by rw [hln.out]; exact hlt
          obtain ⟨b, o, rfl, hc⟩ := hX.out wr f.low j hjl
          obtain ⟨b2, o2, rfl, hd⟩ := hY.out wr f.low j hjm
          have hmo := hid (zipV_more hjl hjm)
          have hva := hid (value_any ts[j] l[j] (hI.out _ (List.getElem_mem hjm)) wr (hTW.out wr f.low))
          generalize ts[j] = t at *
          generalize l[j] = v at *
          have hj0 : (0 : Int) ≤ (j : Int) := by omega
          have hj1 : (j : Int) < (n : Int) := by omega
          go_wp2_with fail
          refine hva.out.mono ?_
          rintro r w2 ⟨rfl, h2⟩
          have f_2 := (f.below h2).alloc (.cells #[.string ⟨(valT t v).toArray⟩] 9)
          go_wp2_with (at_builtin; refine Fr.wpApp f_2 rfl _ _ _ rfl Tryd.underlying68 hi0 hz0 hs0 hb0 hc0 (by decide) rfl rfl rfl str_one (by decide) (by unfold maxLen; omega) (by omega) ?_; intro G2 cap w3 f_3)
          have f_4 := f_3.sub (List.Sublist.cons_cons _ (List.sublist_cons_self _ _))
          go_roundw
          case rel => exact ⟨j + 1, _, _, by omega, rfl, by go_num, by rw [hmo.out, str_push']; exact f_4⟩
          case measure => simp [intOf]; omega
        · have hje : j = n := by omega
          subst hje
          obtain ⟨G2, rfl⟩ := own_some f.head.q (by omega)
          have hjo := hid (join_own (ws := (zipV ts l).take j) f.head.q (by rw [List.length_take, hzl.out]; omega) (fun x hx => hv30 x (List.mem_of_mem_take hx)) (by omega))
          rw [show (zipV ts l).take j = zipV ts l by rw [← hzl.out, List.take_length]] at hjo
          go_wp2_with fail
          refine hjo.out.mono ?_
          rintro r w2 ⟨rfl, h2⟩
          go_wp2_with fail
          go_ret2
          exact ⟨rfl, (f.below h2).low⟩

theorem join_snoc (ws : List (List UInt8)) (x : List UInt8) : Lib.join (ws ++ [x]) [32] = if ws = [] then x else Lib.join ws [32] ++ (32 :: x) := by
  cases ws with
  | nil => rw [if_pos rfl]; exact Lib.join_one _ _
  | cons a t =>
    rw [if_neg (by simp), List.cons_append, Lib.join_cons, Lib.join_cons]
    simp [Lib.joinTail]
set_option maxRecDepth 100000 in
set_option maxHeartbeats 2000000 in
theorem rrow_any (ts l : List Int) (A B : Option Addr) (c d : Nat) (w : World) (hx : IntsAt w A ts) (hy : IntsAt w B l) (hI : ∀ v ∈ l, I64 v) (hl : l.length = ts.length) (hk : ∀ t ∈ ts, t = 1 ∨ t = 2) (hm : l.length ≤ 100) :
    Calls Tryd.prog 25 #[.slice A ts.length c, .slice B l.length d] w fun e w' => e = .returned (.string ⟨(rowT ts l).toArray⟩) ∧ w = w' := by
  have hX := hid hx
  have hY := hid hy
  have hv30 := zipV_30 (ts := ts) hI
  have hx1 : (ts.length : Int) ≤ 9223372036854775807 := by omega
  have hzl := zipV_len hl
  obtain ⟨n, hn⟩ : ∃ n, n = ts.length := ⟨_, rfl⟩
  have hln : l.length = n := by omega
  rw [← hn] at hzl hx1 ⊢
  rw [hln]
  replace hn := hid hn
  replace hln := hid hln
  replace hzl := hid hzl
  replace hI := hid hI
  replace hk := hid hk
  clear hx hy hl
  go_enter Tryd.func25, Tryd.ntmps25
  go_wp2_with fail
  go_loopw [5, 6] (fun o i wr => ∃ (j : Nat), j ≤ n ∧ o = .string ⟨(Lib.join ((zipV ts l).take j) [32]).toArray⟩ ∧ i = .int .i64 j ∧ Hid (wr = w)) (fun _ i _ => n - (intOf i).toNat)
  case atStart => exact ⟨0, Nat.zero_le _, rfl, rfl, rfl⟩
  case round =>
    obtain ⟨j, hj, rfl, rfl, hdr⟩ := hrel
    by_cases hlt : j < n
    · have hjl : j < ts.length := by rw [← hn.out]; exact hlt
      have hjm : j < l.length := by rw [hln.out]; exact hlt
      have hsame : ∀ p, wr.cell? p = w.cell? p := by
        rw [hdr.out]
        exact fun p => rfl
      obtain ⟨b, o, rfl, hc⟩ := hX.out j hjl
      obtain ⟨b2, o2, rfl, hd⟩ := hY.out j hjm
      rw [← hsame] at hc hd
      clear hsame
      have hmo := zipV_more hjl hjm
      have hnz : ((zipV ts l).take j = []) ↔ j = 0 := by
        constructor
        · intro h
          have := congrArg List.length h
          rw [List.length_take, hzl.out] at this
          simp at this; omega
        · rintro rfl; rfl
      have hsn := join_snoc ((zipV ts l).take j) (valT ts[j] l[j])
      rw [← hmo] at hsn
      have hnu := hid (rnumber_any l[j] (hI.out _ (List.getElem_mem hjm)) wr)
      have hkt := hk.out _ (List.getElem_mem hjl)
      have hJl : (Lib.join ((zipV ts l).take j) [32]).length ≤ 3100 := by
        have := join_len (fun x hx => hv30 x (List.mem_of_mem_take (i := j) hx))
        rw [List.length_take] at this
        omega
      have hIl := itoa_30 (hI.out _ (List.getElem_mem hjm))
      generalize ts[j] = t at *
      generalize l[j] = v at *
      generalize hZ1 : (zipV ts l).take (j + 1) = Z1 at *
      replace hZ1 := hid hZ1
      generalize (zipV ts l).take j = Z0 at *
      have hj0 : (0 : Int) ≤ (j : Int) := by omega
      have hj1 : (j : Int) < (n : Int) := by omega
      have hpl : (if j = 0 then ([] : List UInt8) else Lib.join Z0 [32] ++ [32]).length ≤ 3101 := by
        split
        · simp
        · simp; omega
      obtain ⟨pre, hpe⟩ : ∃ pre, pre = if j = 0 then [] else Lib.join Z0 [32] ++ [32] := ⟨_, rfl⟩
      have hpre : Lib.join Z1 [32] = pre ++ valT t v := by
        rw [hsn, hpe]
        by_cases h0 : j = 0
        · rw [if_pos (hnz.2 h0), if_pos h0]; rfl
        · rw [if_neg (fun e => h0 (hnz.1 e)), if_neg h0]; simp
      have hz0 : j = 0 → Z0 = [] := hnz.2
      rw [← hpe] at hpl
      replace hpe := hid hpe
      replace hpre := hid hpre
      replace hz0 := hid hz0
      clear hnz hsn hmo
      go_upto_if 14 with fail
      go_cut [5] from 14 to 16 (fun u wx => u = .string ⟨pre.toArray⟩ ∧ wx = wr)
      case first =>
        by_cases h0 : j = 0
        · have hz := hz0.out h0
          have hi : ¬ (0 : Int) < (j : Int) := by omega
          have hq : pre = [] := by rw [hpe.out, if_pos h0]
          subst hq hz
          replace h0 := hid h0
          go_wp2_with fail
          go_meet
          case rel => exact ⟨rfl, rfl⟩
        · have hi : (0 : Int) < (j : Int) := by omega
          have hq : pre = Lib.join Z0 [32] ++ [32] := by rw [hpe.out, if_neg h0]
          replace hq := hid hq
          generalize Lib.join Z0 [32] = J0 at *
          go_wp2_with fail
          go_meet
          case rel => exact ⟨by rw [hq.out, ← str_append], rfl⟩
      case rest =>
      obtain ⟨rfl, rfl⟩ := hcut
      by_cases h1 : t = 1
      · subst h1
        have hva : Lib.join Z1 [32] = pre ++ Lib.itoa v := hpre.out
        replace hva := hid hva
        go_wp2_with fail
        refine hnu.out.mono ?_
        rintro r w2 ⟨rfl, rfl⟩
        generalize Lib.itoa v = I at *
        go_wp2_with fail
        go_roundw
        case rel => exact ⟨j + 1, by omega, by rw [hZ1.out, hva.out, ← str_append], by go_num, hdr.out⟩
        case measure => simp [intOf]; omega
      · have ht2 : t = 2 := by omega
        subst ht2
        by_cases hv1 : v = 1
        · subst hv1
          go_wp2_with fail
          go_roundw
          case rel => exact ⟨j + 1, by omega, by rw [hZ1.out, hpre.out, ← str_append]; rfl, by go_num, hdr.out⟩
          case measure => simp [intOf]; omega
        · have hb := int_ne hv1
          have hva : Lib.join Z1 [32] = pre ++ fF := by rw [hpre.out]; unfold valT; rw [if_pos rfl, if_neg hv1]
          replace hva := hid hva
          go_wp2_with fail
          go_roundw
          case rel => exact ⟨j + 1, by omega, by rw [hZ1.out, hva.out, ← str_append]; rfl, by go_num, hdr.out⟩
          case measure => simp [intOf]; omega
    · have hje : j = n := by omega
      subst hje
      rw [show (zipV ts l).take j = zipV ts l by rw [← hzl.out, List.take_length]]
      go_wp2_with fail
      go_ret
      exact ⟨rfl, hdr.out.symm⟩
end Go.Proofs.YtmdnmodjdgcmjaaDoor
