/-
  The walks of Right and Fits of rows, of both (printed by gen_tr.py).
-/
import Derived.Test.YtmdnmodjdgcmjaaDoorHTrP
import Derived.Test.YtmdnmodjdgcmjaaDoorHScT
namespace Go.Proofs.YtmdnmodjdgcmjaaDoor
open Go.RowKit

theorem int_ne {a b : Int} (h : ¬ a = b) : (a == b) = false := beq_eq_false_iff_ne.2 h

set_option maxRecDepth 100000 in
set_option maxHeartbeats 1000000 in
theorem right_t (l : List Int) (A : Option Addr) (c : Nat) (w : World) (hx : IntsAt w A l) (hn : l.length ≤ maxLen) :
    Calls Tryd.prog 48 #[.slice A l.length c] w fun e w' => e = .returned (.bool (rightT l)) ∧ Below w.heap.size w w' := by
  have hX := hid (fun W (h : Below w.heap.size w W) => hx.keep h)
  unfold maxLen at hn
  have hx1 : (l.length : Int) ≤ 9223372036854775807 := by omega
  generalize hp : rightT l = p at *
  have hbad := hid (fun j (hj : j < l.length) (h : kindB l[j] = false) => show p = false by
    rw [← hp]; unfold rightT
    rw [show l.all kindB = false from List.all_eq_false.2 ⟨_, List.getElem_mem hj, by rw [h]; simp⟩]; rfl)
  have hend := hid (fun (h : (l.take l.length).all kindB = true) => show p = (decide (1 ≤ l.length) && decide (l.length ≤ 8)) by
    rw [List.take_length] at h; rw [← hp]; unfold rightT; rw [h]; rfl)
  clear hp hx
  obtain ⟨n, hn⟩ : ∃ n, n = l.length := ⟨_, rfl⟩
  rw [← hn] at hx1 ⊢
  replace hn := hid hn
  go_enter Tryd.func48, Tryd.ntmps48
  go_wp2_with fail
  go_loopw [7] (fun i wr => ∃ j : Nat, j ≤ n ∧ i = .int .i64 j ∧ Hid ((l.take j).all kindB = true) ∧ Below w.heap.size w wr) (fun i _ => n - (intOf i).toNat)
  case atStart => exact ⟨0, Nat.zero_le _, rfl, rfl, Below.refl _ _⟩
  case round =>
    obtain ⟨j, hj, rfl, hall, hbr⟩ := hrel
    by_cases hlt : j < n
    · have hjl : j < l.length := by rw [← hn.out]; exact hlt
      obtain ⟨b, o, rfl, hc⟩ := hX.out wr hbr j hjl
      have hbd := hid (hbad.out j hjl)
      have hmo := hid (show kindB l[j] = true → (l.take (j + 1)).all kindB = true from fun h => by
        rw [List.take_succ_eq_append_getElem hjl, List.all_append, hall.out]; simp [h])
      generalize l[j] = t at *
      have hj0 : (0 : Int) ≤ (j : Int) := by omega
      have hj1 : (j : Int) < (n : Int) := by omega
      by_cases h1 : t = 1
      · subst h1
        have hok := hid (hmo.out (by decide))
        go_wp2_with fail
        go_roundw
        case rel => exact ⟨j + 1, by omega, by go_num, hok.out, hbr⟩
        case measure => simp [intOf]; omega
      · by_cases h2 : t = 2
        · subst h2
          have hok := hid (hmo.out (by decide))
          go_wp2_with fail
          go_roundw
          case rel => exact ⟨j + 1, by omega, by go_num, hok.out, hbr⟩
          case measure => simp [intOf]; omega
        · have hb1 := int_ne h1
          have hb2 := int_ne h2
          have hq1 : (t != 1) = true := by simp [bne, hb1]
          have hq2 : (t != 2) = true := by simp [bne, hb2]
          obtain rfl := hbd.out (by unfold kindB; rw [hb1, hb2]; rfl)
          go_wp2_with fail
          go_ret
          exact ⟨rfl, hbr⟩
    · have hje : j = n := by omega
      subst hje
      have he := hend.out (by rw [← hn.out]; exact hall.out)
      rw [← hn.out] at he
      subst he
      have hj0 : (0 : Int) ≤ (j : Int) := by omega
      by_cases h1 : 1 ≤ j
      · have hi1 : (1 : Int) ≤ (j : Int) := by omega
        have hi2 : (0 : Int) < (j : Int) := by omega
        by_cases h8 : j ≤ 8
        · have hi3 : (j : Int) ≤ 8 := by omega
          have hi4 : (j : Int) < 9 := by omega
          go_wp2_with fail
          go_ret
          exact ⟨by first | (simp; done) | (simp; omega), hbr⟩
        · have hi3 : ¬ (j : Int) ≤ 8 := by omega
          have hi4 : ¬ (j : Int) < 9 := by omega
          go_wp2_with fail
          go_ret
          exact ⟨by first | (simp; done) | (simp; omega), hbr⟩
      · have hi1 : ¬ (1 : Int) ≤ (j : Int) := by omega
        have hi2 : ¬ (0 : Int) < (j : Int) := by omega
        go_wp2_with fail
        go_ret
        exact ⟨by first | (simp; done) | (simp; omega), hbr⟩

set_option maxRecDepth 100000 in
set_option maxHeartbeats 1000000 in
theorem rright_t (l : List Int) (A : Option Addr) (c : Nat) (w : World) (hx : IntsAt w A l) (hn : l.length ≤ maxLen) :
    Calls Tryd.prog 23 #[.slice A l.length c] w fun e w' => e = .returned (.bool (rightT l)) ∧ w = w' := by
  have hX := hid (fun W (h : W = w) => (by rw [h]; exact hx : IntsAt W A l))
  unfold maxLen at hn
  have hx1 : (l.length : Int) ≤ 9223372036854775807 := by omega
  generalize hp : rightT l = p at *
  have hbad := hid (fun j (hj : j < l.length) (h : kindB l[j] = false) => show p = false by
    rw [← hp]; unfold rightT
    rw [show l.all kindB = false from List.all_eq_false.2 ⟨_, List.getElem_mem hj, by rw [h]; simp⟩]; rfl)
  have hend := hid (fun (h : (l.take l.length).all kindB = true) => show p = (decide (1 ≤ l.length) && decide (l.length ≤ 8)) by
    rw [List.take_length] at h; rw [← hp]; unfold rightT; rw [h]; rfl)
  clear hp hx
  obtain ⟨n, hn⟩ : ∃ n, n = l.length := ⟨_, rfl⟩
  rw [← hn] at hx1 ⊢
  replace hn := hid hn
  go_enter Tryd.func23, Tryd.ntmps23
  go_wp2_with fail
  go_loopw [3] (fun i wr => ∃ j : Nat, j ≤ n ∧ i = .int .i64 j ∧ Hid ((l.take j).all kindB = true) ∧ Hid (wr = w)) (fun i _ => n - (intOf i).toNat)
  case atStart => exact ⟨0, Nat.zero_le _, rfl, rfl, rfl⟩
  case round =>
    obtain ⟨j, hj, rfl, hall, hbr⟩ := hrel
    by_cases hlt : j < n
    · have hjl : j < l.length := by rw [← hn.out]; exact hlt
      obtain ⟨b, o, rfl, hc⟩ := hX.out wr hbr.out j hjl
      have hbd := hid (hbad.out j hjl)
      have hmo := hid (show kindB l[j] = true → (l.take (j + 1)).all kindB = true from fun h => by
        rw [List.take_succ_eq_append_getElem hjl, List.all_append, hall.out]; simp [h])
      generalize l[j] = t at *
      have hj0 : (0 : Int) ≤ (j : Int) := by omega
      have hj1 : (j : Int) < (n : Int) := by omega
      by_cases h1 : t = 1
      · subst h1
        have hok := hid (hmo.out (by decide))
        go_wp2_with fail
        go_roundw
        case rel => exact ⟨j + 1, by omega, by go_num, hok.out, hbr⟩
        case measure => simp [intOf]; omega
      · by_cases h2 : t = 2
        · subst h2
          have hok := hid (hmo.out (by decide))
          go_wp2_with fail
          go_roundw
          case rel => exact ⟨j + 1, by omega, by go_num, hok.out, hbr⟩
          case measure => simp [intOf]; omega
        · have hb1 := int_ne h1
          have hb2 := int_ne h2
          have hq1 : (t != 1) = true := by simp [bne, hb1]
          have hq2 : (t != 2) = true := by simp [bne, hb2]
          obtain rfl := hbd.out (by unfold kindB; rw [hb1, hb2]; rfl)
          go_wp2_with fail
          go_ret
          exact ⟨rfl, hbr.out.symm⟩
    · have hje : j = n := by omega
      subst hje
      have he := hend.out (by rw [← hn.out]; exact hall.out)
      rw [← hn.out] at he
      subst he
      have hj0 : (0 : Int) ≤ (j : Int) := by omega
      by_cases h1 : 1 ≤ j
      · have hi1 : (1 : Int) ≤ (j : Int) := by omega
        have hi2 : (0 : Int) < (j : Int) := by omega
        by_cases h8 : j ≤ 8
        · have hi3 : (j : Int) ≤ 8 := by omega
          have hi4 : (j : Int) < 9 := by omega
          go_wp2_with fail
          go_ret
          exact ⟨by first | (simp; done) | (simp; omega), hbr.out.symm⟩
        · have hi3 : ¬ (j : Int) ≤ 8 := by omega
          have hi4 : ¬ (j : Int) < 9 := by omega
          go_wp2_with fail
          go_ret
          exact ⟨by first | (simp; done) | (simp; omega), hbr.out.symm⟩
      · have hi1 : ¬ (1 : Int) ≤ (j : Int) := by omega
        have hi2 : ¬ (0 : Int) < (j : Int) := by omega
        go_wp2_with fail
        go_ret
        exact ⟨by first | (simp; done) | (simp; omega), hbr.out.symm⟩

theorem truth_any (n : Int) (w : World) : Calls Tryd.prog 66 #[.int .i64 n] w fun e w' => e = .returned (.bool (n == 0 || n == 1)) ∧ w' = w := by
  go_enter Tryd.func66, Tryd.ntmps66
  by_cases h0 : n = 0
  · subst h0
    go_wp2_with fail
    go_ret
    exact ⟨rfl, rfl⟩
  · have hb0 := int_ne h0
    by_cases h1 : n = 1
    · subst h1
      go_wp2_with fail
      go_ret
      exact ⟨rfl, rfl⟩
    · have hb1 := int_ne h1
      go_wp2_with fail
      go_ret
      exact ⟨by simp [hb0, hb1], rfl⟩
theorem fitsZ_get {ts l : List Int} {j : Nat} (hz : j < (fitsZ ts l).length) (h1 : j < ts.length) (h2 : j < l.length) : (fitsZ ts l)[j] = fitB ts[j] l[j] := List.getElem_zipWith ..
theorem fits_bad {ts l : List Int} {j : Nat} (h1 : j < ts.length) (h2 : j < l.length) (hf : fitB ts[j] l[j] = false) : fitsT ts l = false := by
  have hz : j < (fitsZ ts l).length := by unfold fitsZ; rw [List.length_zipWith]; omega
  have : (fitsZ ts l).all id = false := List.all_eq_false.2 ⟨_, List.getElem_mem hz, by rw [fitsZ_get hz h1 h2, hf]; simp⟩
  unfold fitsT; rw [this]; simp
theorem fits_more {ts l : List Int} {j : Nat} (h1 : j < ts.length) (h2 : j < l.length) (hf : fitB ts[j] l[j] = true) (h : ((fitsZ ts l).take j).all id = true) : ((fitsZ ts l).take (j + 1)).all id = true := by
  have hz : j < (fitsZ ts l).length := by unfold fitsZ; rw [List.length_zipWith]; omega
  rw [List.take_succ_eq_append_getElem hz, List.all_append, h]
  have : (fitsZ ts l)[j] = true := by rw [fitsZ_get hz h1 h2, hf]
  simp [this]
theorem fits_end {ts l : List Int} {n : Nat} (hr : rightT ts = true) (hl : l.length = ts.length) (hn : n = ts.length) (h : ((fitsZ ts l).take n).all id = true) : fitsT ts l = true := by
  rw [List.take_of_length_le (by unfold fitsZ; rw [List.length_zipWith]; omega)] at h
  unfold fitsT; rw [hr, h, hl]; simp

set_option maxRecDepth 100000 in
set_option maxHeartbeats 1000000 in
theorem fits_t (ts l : List Int) (A B : Option Addr) (c d : Nat) (w : World) (hx : IntsAt w A ts) (hy : IntsAt w B l) (hn : ts.length ≤ maxLen) (hm : l.length ≤ maxLen) :
    Calls Tryd.prog 49 #[.slice A ts.length c, .slice B l.length d] w fun e w' => e = .returned (.bool (fitsT ts l)) ∧ Below w.heap.size w w' := by
  have hX := hid (fun W (h : Below w.heap.size w W) => hx.keep h)
  have hY := hid (fun W (h : Below w.heap.size w W) => hy.keep h)
  have hr := hid (right_t ts A c w hx hn)
  unfold maxLen at hn hm
  have hx1 : (ts.length : Int) ≤ 9223372036854775807 := by omega
  have hy1 : (l.length : Int) ≤ 9223372036854775807 := by omega
  clear hx hy
  generalize hp : fitsT ts l = p
  replace hp := hid hp
  go_enter Tryd.func49, Tryd.ntmps49
  go_wp2_with fail
  refine hr.out.mono ?_
  rintro r w1 ⟨rfl, h1⟩
  clear hr
  cases hR : rightT ts with
  | false =>
    obtain rfl : false = p := by rw [← hp.out]; unfold fitsT; rw [hR]; rfl
    go_wp2_with fail
    go_ret
    exact ⟨rfl, h1⟩
  | true =>
    by_cases hl : l.length = ts.length
    case neg =>
      obtain rfl : false = p := by rw [← hp.out]; unfold fitsT; rw [show (l.length == ts.length) = false from beq_eq_false_iff_ne.2 hl]; simp
      have hb := int_ne (a := (l.length : Int)) (b := (ts.length : Int)) (by omega)
      have hq : ((l.length : Int) != (ts.length : Int)) = true := by simp [bne, hb]
      go_wp2_with fail
      go_ret
      exact ⟨rfl, h1⟩
    case pos =>
    have hR2 := hid hR
    have hl2 := hid hl
    obtain ⟨n, hn⟩ : ∃ n, n = ts.length := ⟨_, rfl⟩
    have hln : l.length = n := by omega
    rw [hln]
    rw [← hn] at hx1 ⊢
    replace hn := hid hn
    replace hln := hid hln
    clear hl hR hy1
    have hbad := hid (fun j (a : j < ts.length) (b : j < l.length) (h : fitB ts[j] l[j] = false) => show p = false from by rw [← hp.out]; exact fits_bad a b h)
    have hend := hid (fun (h : ((fitsZ ts l).take n).all id = true) => show p = true from by rw [← hp.out]; exact fits_end hR2.out hl2.out hn.out h)
    clear hp
    go_wp2_with fail
    go_loopw [19] (fun i wr => ∃ j : Nat, j ≤ n ∧ i = .int .i64 j ∧ Hid (((fitsZ ts l).take j).all id = true) ∧ Below w.heap.size w wr) (fun i _ => n - (intOf i).toNat)
    case atStart => exact ⟨0, Nat.zero_le _, rfl, rfl, h1⟩
    case round =>
      clear h1
      obtain ⟨j, hj, rfl, hall, hbr⟩ := hrel
      by_cases hlt : j < n
      · have hjl : j < ts.length := by rw [← hn.out]; exact hlt
        have hjm : j < l.length := by rw [hln.out]; exact hlt
        obtain ⟨b, o, rfl, hc⟩ := hX.out wr hbr j hjl
        obtain ⟨b2, o2, rfl, hd⟩ := hY.out wr hbr j hjm
        have hbd := hid (hbad.out j hjl hjm)
        have hmo := hid (fun h => fits_more hjl hjm h hall.out)
        generalize ts[j] = t at *
        generalize l[j] = v at *
        have hj0 : (0 : Int) ≤ (j : Int) := by omega
        have hj1 : (j : Int) < (n : Int) := by omega
        by_cases h2 : t = 2
        · subst h2
          by_cases h0 : v = 0
          · subst h0
            have hok := hid (hmo.out (by decide))
            go_wp2_with fail
            refine (truth_any (0) wr).mono ?_
            rintro r w2 ⟨rfl, rfl⟩
            go_wp2_with fail
            go_roundw
            case rel => exact ⟨j + 1, by omega, by go_num, hok.out, hbr⟩
            case measure => simp [intOf]; omega
          · have hb0 := int_ne h0
            have hq0 : (v != 0) = true := by simp [bne, hb0]
            by_cases hv1 : v = 1
            · subst hv1
              have hok := hid (hmo.out (by decide))
              go_wp2_with fail
              refine (truth_any (1) wr).mono ?_
              rintro r w2 ⟨rfl, rfl⟩
              go_wp2_with fail
              go_roundw
              case rel => exact ⟨j + 1, by omega, by go_num, hok.out, hbr⟩
              case measure => simp [intOf]; omega
            · have hb1 := int_ne hv1
              have hq1 : (v != 1) = true := by simp [bne, hb1]
              obtain rfl := hbd.out (by unfold fitB; simp [hb0, hb1])
              go_wp2_with fail
              refine (truth_any (v) wr).mono ?_
              rintro r w2 ⟨rfl, rfl⟩
              rw [hb0, hb1]
              go_wp2_with fail
              go_ret
              exact ⟨rfl, hbr⟩
        · have hb2 := int_ne h2
          have hok := hid (hmo.out (by unfold fitB; simp [hb2]))
          go_wp2_with fail
          go_roundw
          case rel => exact ⟨j + 1, by omega, by go_num, hok.out, hbr⟩
          case measure => simp [intOf]; omega
      · have hje : j = n := by omega
        subst hje
        obtain rfl := hend.out hall.out
        go_wp2_with fail
        go_ret
        exact ⟨rfl, hbr⟩

set_option maxRecDepth 100000 in
set_option maxHeartbeats 1000000 in
theorem rfits_t (ts l : List Int) (A B : Option Addr) (c d : Nat) (w : World) (hx : IntsAt w A ts) (hy : IntsAt w B l) (hn : ts.length ≤ maxLen) (hm : l.length ≤ maxLen) :
    Calls Tryd.prog 24 #[.slice A ts.length c, .slice B l.length d] w fun e w' => e = .returned (.bool (fitsT ts l)) ∧ w = w' := by
  have hX := hid (fun W (h : W = w) => (by rw [h]; exact hx : IntsAt W A ts))
  have hY := hid (fun W (h : W = w) => (by rw [h]; exact hy : IntsAt W B l))
  have hr := hid (rright_t ts A c w hx hn)
  unfold maxLen at hn hm
  have hx1 : (ts.length : Int) ≤ 9223372036854775807 := by omega
  have hy1 : (l.length : Int) ≤ 9223372036854775807 := by omega
  clear hx hy
  generalize hp : fitsT ts l = p
  replace hp := hid hp
  go_enter Tryd.func24, Tryd.ntmps24
  go_wp2_with fail
  refine hr.out.mono ?_
  rintro r w1 ⟨rfl, rfl⟩
  clear hr
  cases hR : rightT ts with
  | false =>
    obtain rfl : false = p := by rw [← hp.out]; unfold fitsT; rw [hR]; rfl
    go_wp2_with fail
    go_ret
    exact ⟨rfl, rfl⟩
  | true =>
    by_cases hl : l.length = ts.length
    case neg =>
      obtain rfl : false = p := by rw [← hp.out]; unfold fitsT; rw [show (l.length == ts.length) = false from beq_eq_false_iff_ne.2 hl]; simp
      have hb := int_ne (a := (l.length : Int)) (b := (ts.length : Int)) (by omega)
      have hq : ((l.length : Int) != (ts.length : Int)) = true := by simp [bne, hb]
      go_wp2_with fail
      go_ret
      exact ⟨rfl, rfl⟩
    case pos =>
    have hR2 := hid hR
    have hl2 := hid hl
    obtain ⟨n, hn⟩ : ∃ n, n = ts.length := ⟨_, rfl⟩
    have hln : l.length = n := by omega
    rw [hln]
    rw [← hn] at hx1 ⊢
    replace hn := hid hn
    replace hln := hid hln
    clear hl hR hy1
    have hbad := hid (fun j (a : j < ts.length) (b : j < l.length) (h : fitB ts[j] l[j] = false) => show p = false from by rw [← hp.out]; exact fits_bad a b h)
    have hend := hid (fun (h : ((fitsZ ts l).take n).all id = true) => show p = true from by rw [← hp.out]; exact fits_end hR2.out hl2.out hn.out h)
    clear hp
    go_wp2_with fail
    go_loopw [5] (fun i wr => ∃ j : Nat, j ≤ n ∧ i = .int .i64 j ∧ Hid (((fitsZ ts l).take j).all id = true) ∧ Hid (wr = w)) (fun i _ => n - (intOf i).toNat)
    case atStart => exact ⟨0, Nat.zero_le _, rfl, rfl, rfl⟩
    case round =>
      obtain ⟨j, hj, rfl, hall, hbr⟩ := hrel
      by_cases hlt : j < n
      · have hjl : j < ts.length := by rw [← hn.out]; exact hlt
        have hjm : j < l.length := by rw [hln.out]; exact hlt
        obtain ⟨b, o, rfl, hc⟩ := hX.out wr hbr.out j hjl
        obtain ⟨b2, o2, rfl, hd⟩ := hY.out wr hbr.out j hjm
        have hbd := hid (hbad.out j hjl hjm)
        have hmo := hid (fun h => fits_more hjl hjm h hall.out)
        generalize ts[j] = t at *
        generalize l[j] = v at *
        have hj0 : (0 : Int) ≤ (j : Int) := by omega
        have hj1 : (j : Int) < (n : Int) := by omega
        by_cases h2 : t = 2
        · subst h2
          by_cases h0 : v = 0
          · subst h0
            have hok := hid (hmo.out (by decide))
            go_wp2_with fail
            go_roundw
            case rel => exact ⟨j + 1, by omega, by go_num, hok.out, hbr⟩
            case measure => simp [intOf]; omega
          · have hb0 := int_ne h0
            have hq0 : (v != 0) = true := by simp [bne, hb0]
            by_cases hv1 : v = 1
            · subst hv1
              have hok := hid (hmo.out (by decide))
              go_wp2_with fail
              go_roundw
              case rel => exact ⟨j + 1, by omega, by go_num, hok.out, hbr⟩
              case measure => simp [intOf]; omega
            · have hb1 := int_ne hv1
              have hq1 : (v != 1) = true := by simp [bne, hb1]
              obtain rfl := hbd.out (by unfold fitB; simp [hb0, hb1])
              go_wp2_with fail
              go_ret
              exact ⟨rfl, hbr.out.symm⟩
        · have hb2 := int_ne h2
          have hok := hid (hmo.out (by unfold fitB; simp [hb2]))
          go_wp2_with fail
          go_roundw
          case rel => exact ⟨j + 1, by omega, by go_num, hok.out, hbr⟩
          case measure => simp [intOf]; omega
      · have hje : j = n := by omega
        subst hje
        obtain rfl := hend.out hall.out
        go_wp2_with fail
        go_ret
        exact ⟨rfl, hbr.out.symm⟩

end Go.Proofs.YtmdnmodjdgcmjaaDoor
