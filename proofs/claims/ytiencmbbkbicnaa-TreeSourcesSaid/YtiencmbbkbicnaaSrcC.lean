/-
  The walks of package tree's functions over sources: variable, many, equation, Node, Source.
-/
import Derived.Test.YtiencmbbkbicnaaSrc
namespace Go.Proofs.Ytiencmbbkbicnaa
open Go.RowKit

def litB (c : LitE) : Bool := isName c.name.data.toList
/-- is a variable right? -/
def varB (v : VarE) : Bool := v.clock.all litB && isName v.name.data.toList && (v.type == 1 || v.type == 2) && decide (v.clock.length ≤ 4)
def manyB (l : List VarE) (least most : Nat) : Bool := l.all varB && decide (least ≤ l.length) && decide (l.length ≤ most)
def strB (x : ByteArray) : Bool := isName x.data.toList
def eqB (q : EqE) : Bool := q.left.all strB && decide (1 ≤ q.left.length) && decide (q.left.length ≤ 8) && q.right.right
def nodeB (n : NodeE) : Bool := n.eqs.all eqB && isName n.name.data.toList && decide (1 ≤ n.eqs.length) && decide (n.eqs.length ≤ 48) && manyB n.ins 1 8 && manyB n.outs 1 8 && manyB n.vars 0 40
def srcB (s : List NodeE) : Bool := s.all nodeB && decide (1 ≤ s.length) && decide (s.length ≤ 16)

theorem boxed_all {w wr : World} {cs : Array Value} {t : TypeId} (h : Below (w.heap.size + 1) (w.alloc (.cells cs t)) wr) : ∀ i, wr.cell? ⟨w.heap.size, i, none⟩ = cs[i]? := boxed_cell h
theorem boxed_then {w wr w' : World} {o : Obj} (h : Below (w.heap.size + 1) (w.alloc o) wr) (hb : Below wr.heap.size wr w') : Below (w.heap.size + 1) (w.alloc o) w' := h.trans (hb.mono (boxed_size h))

set_option maxHeartbeats 1000000 in
theorem variable_any (v : VarE) (S : Sl) (B : Nat) (w : World) (hv : VarIs B w v S) (hB : B ≤ w.heap.size) :
    Calls Try.prog 79 #[v.val S] w fun r w' => r = .returned (.bool (varB v)) ∧ Below w.heap.size w w' := by
  obtain ⟨A, cap⟩ := S
  obtain ⟨name, type, clock, line, col⟩ := v
  obtain ⟨hn, _, _, _, ⟨hf1, hf2⟩, hcl⟩ := hv
  simp only [VarE.val, Sl.v] at *
  unfold maxLen at hf2
  have hcap' : (clock.length : Int) ≤ 9223372036854775807 := by omega
  have HCL := hid hcl
  have hb0 : Below (w.heap.size + 1) (w.alloc (.cells #[.string name, .int .i64 type, .slice A clock.length cap, .int .i64 line, .int .i64 col] 97)) (w.alloc (.cells #[.string name, .int .i64 type, .slice A clock.length cap, .int .i64 line, .int .i64 col] 97)) := Below.refl _ _
  have HB0 := hid hb0
  clear hcl hb0 hf1 hf2
  go_enter Try.func79, Try.ntmps79
  go_wp2_with fail
  go_loopw [4, 8] (fun _ i wr => ∃ j : Nat, j ≤ clock.length ∧ i = .int .i64 j ∧ Hid (Upto litB clock j) ∧ Below (w.heap.size + 1) (w.alloc (.cells #[.string name, .int .i64 type, .slice A clock.length cap, .int .i64 line, .int .i64 col] 97)) wr) (fun _ i _ => clock.length - (intOf i).toNat)
  case atStart => exact ⟨0, by omega, rfl, Upto.zero _ _, HB0.out⟩
  case round =>
    obtain ⟨j, hj, rfl, hup, hbr⟩ := hrel
    have hsz := boxed_size hbr
    have hbw := boxed_below hbr
    by_cases hlt : j < clock.length
    · obtain ⟨b, o, rfl, hl⟩ := HCL.out j hlt
      obtain ⟨hb, hnl, c0, c1⟩ := hl.keep (same_below hB hbw)
      have hi0 : (0 : Int) ≤ (j : Int) := by omega
      have hi1 : (j : Int) < (clock.length : Int) := by omega
      have hw2 := hbr.alloc (show w.heap.size + 1 ≤ wr.heap.size by omega) (.cells #[.string (clock[j]).name, .bool (clock[j]).neg] 99)
      have hnm := name_any (clock[j]).name (wr.alloc (.cells #[.string (clock[j]).name, .bool (clock[j]).neg] 99)) hnl
      cases hp : litB clock[j]
      · have hp' : isName (clock[j]).name.data.toList = false := hp
        have HS := hid (all_hit hlt hp)
        rw [hp'] at hnm
        clear hp hp' hup
        go_wp2_with (go_at_call 32; refine hnm.mono ?_; rintro r w2 ⟨rfl, hb2⟩)
        go_ret
        refine ⟨ret_bool ?_, boxed_below (boxed_then hw2 hb2)⟩
        unfold varB; rw [HS.out]; rfl
      · have hp' : isName (clock[j]).name.data.toList = true := hp
        have HS := hid (hup.out.succ hlt hp)
        rw [hp'] at hnm
        clear hp hp' hup
        go_wp2_with (go_at_call 32; refine hnm.mono ?_; rintro r w2 ⟨rfl, hb2⟩)
        go_roundw
        case rel => exact ⟨j + 1, by omega, by go_num, HS, boxed_then hw2 hb2⟩
        case measure => simp [intOf]; omega
    · have : j = clock.length := by omega
      subst this
      have HS := hid hup.out.all
      obtain ⟨y0, y1, y2, y3, y4⟩ : wr.cell? ⟨w.heap.size, 0, none⟩ = some (.string name) ∧ wr.cell? ⟨w.heap.size, 1, none⟩ = some (.int .i64 type) ∧ wr.cell? ⟨w.heap.size, 2, none⟩ = some (.slice A clock.length cap) ∧ wr.cell? ⟨w.heap.size, 3, none⟩ = some (.int .i64 line) ∧ wr.cell? ⟨w.heap.size, 4, none⟩ = some (.int .i64 col) :=
        ⟨boxed_cell hbr 0, boxed_cell hbr 1, boxed_cell hbr 2, boxed_cell hbr 3, boxed_cell hbr 4⟩
      have hnm := name_any name wr hn
      cases hp : isName name.data.toList
      · rw [hp] at hnm
        have HP := hid hp
        clear hp hup
        go_wp2_with (go_at_call 32; refine hnm.mono ?_; rintro r w2 ⟨rfl, hb2⟩)
        go_ret
        refine ⟨ret_bool ?_, boxed_below (boxed_then hbr hb2)⟩
        unfold varB; simp [HS.out, HP.out]
      · rw [hp] at hnm
        have HP := hid hp
        clear hp hup
        go_wp2_with (go_at_call 32; refine hnm.mono ?_; rintro r w2 ⟨rfl, hb2⟩; have hbx := boxed_then hbr hb2; have z1 := boxed_cell hbx 1; have z2 := boxed_cell hbx 2)
        all_goals
          go_ret
          refine ⟨ret_bool ?_, boxed_below hbx⟩
          unfold varB; simp only [HS.out, HP.out, Bool.true_and]
          first | (simp_all; done) | (simp_all; omega)

set_option maxHeartbeats 1000000 in
theorem manyv_any (l : List VarE) (least most : Nat) (S : Sl) (B : Nat) (w : World) (hf : S.fits l.length) (hv : SlAt 5 (VarAt B w) S.A l) (hB : B ≤ w.heap.size) :
    Calls Try.prog 62 #[S.v l.length, .int .i64 least, .int .i64 most] w fun r w' => r = .returned (.bool (manyB l least most)) ∧ Below w.heap.size w w' := by
  obtain ⟨A, cap⟩ := S
  obtain ⟨hf1, hf2⟩ := hf
  simp only [Sl.v] at *
  unfold maxLen at hf2
  have hcap' : (l.length : Int) ≤ 9223372036854775807 := by omega
  have HV := hid hv
  clear hv hf1 hf2
  go_enter Try.func62, Try.ntmps62
  go_wp2_with fail
  go_loopw [8, 11] (fun _ i wr => ∃ j : Nat, j ≤ l.length ∧ i = .int .i64 j ∧ Hid (Upto varB l j) ∧ Below w.heap.size w wr) (fun _ i _ => l.length - (intOf i).toNat)
  case atStart => exact ⟨0, by omega, rfl, Upto.zero _ _, Below.refl _ _⟩
  case round =>
    obtain ⟨j, hj, rfl, hup, hbr⟩ := hrel
    have hsz := hbr.size
    by_cases hlt : j < l.length
    · obtain ⟨b, o, rfl, hl⟩ := HV.out j hlt
      obtain ⟨hb, ⟨A', cap'⟩, hc, hi⟩ := hl.keep (same_below hB hbr)
      obtain ⟨c0, c1, c2, c3, c4⟩ := hc
      have hi0 : (0 : Int) ≤ (j : Int) := by omega
      have hi1 : (j : Int) < (l.length : Int) := by omega
      have hw2 := hbr.alloc hsz (.cells #[.string (l[j]).name, .int .i64 (l[j]).type, .slice A' (l[j]).clock.length cap', .int .i64 (l[j]).line, .int .i64 (l[j]).col] 97)
      have hvr := variable_any l[j] ⟨A', cap'⟩ B (wr.alloc (.cells #[.string (l[j]).name, .int .i64 (l[j]).type, .slice A' (l[j]).clock.length cap', .int .i64 (l[j]).line, .int .i64 (l[j]).col] 97)) (hi.keep (same_below (Nat.le_refl B) ((Below.refl B wr).alloc (by omega) _))) (by simp; omega)
      simp only [VarE.val, Sl.v] at hvr c2
      cases hp : varB l[j]
      · have HS := hid (all_hit hlt hp)
        rw [hp] at hvr
        clear hp hup hi
        go_wp2_with (go_at_call 79; refine hvr.mono ?_; rintro r w2 ⟨rfl, hb2⟩)
        go_ret
        refine ⟨ret_bool ?_, hw2.trans (hb2.mono hw2.size)⟩
        unfold manyB; rw [HS.out]; rfl
      · have HS := hid (hup.out.succ hlt hp)
        rw [hp] at hvr
        clear hp hup hi
        go_wp2_with (go_at_call 79; refine hvr.mono ?_; rintro r w2 ⟨rfl, hb2⟩)
        go_roundw
        case rel => exact ⟨j + 1, by omega, by go_num, HS, hw2.trans (hb2.mono hw2.size)⟩
        case measure => simp [intOf]; omega
    · have : j = l.length := by omega
      subst this
      have HS := hid hup.out.all
      clear hup
      by_cases h1 : (least : Int) ≤ (l.length : Int)
      all_goals
        go_wp2_with fail
        go_ret
        refine ⟨ret_bool ?_, hbr⟩
        unfold manyB; rw [HS.out, Bool.eq_iff_iff]; simp; try omega

set_option maxHeartbeats 1000000 in
theorem equation_any (q : EqE) (S : Sl) (A' : Option Addr) (cap' : Nat) (B : Nat) (w : World) (hq : EqIs B w q S A' cap') (hB : B ≤ w.heap.size) (hh : q.right.height ≤ 1000000) :
    Calls Try.prog 61 #[q.val S A' cap'] w fun r w' => r = .returned (.bool (eqB q)) ∧ Below w.heap.size w w' := by
  obtain ⟨A, cap⟩ := S
  obtain ⟨left, right, line, col⟩ := q
  obtain ⟨_, _, ⟨hf1, hf2⟩, hcl, hr⟩ := hq
  simp only [EqE.val, Sl.v] at *
  unfold maxLen at hf2
  have hcap' : (left.length : Int) ≤ 9223372036854775807 := by omega
  have HCL := hid hcl
  obtain ⟨bx, hbx⟩ : ∃ bx : Array Value, bx = #[.slice A left.length cap, .int .i64 right.op, .string right.name, .int .i64 right.num, .slice A' right.k cap', .int .i64 right.line, .int .i64 right.col, .int .i64 line, .int .i64 col] := ⟨_, rfl⟩
  have hb0 : Below (w.heap.size + 1) (w.alloc (.cells bx 81)) (w.alloc (.cells bx 81)) := Below.refl _ _
  have HB0 := hid hb0
  have HBX := hid hbx
  clear hcl hb0 hf1 hf2
  go_enter Try.func61, Try.ntmps61
  go_wp2_with fail
  rw [← hbx]
  clear hbx
  go_loopw [4, 8] (fun _ i wr => ∃ j : Nat, j ≤ left.length ∧ i = .int .i64 j ∧ Hid (Upto strB left j) ∧ Below (w.heap.size + 1) (w.alloc (.cells bx 81)) wr) (fun _ i _ => left.length - (intOf i).toNat)
  case atStart => exact ⟨0, by omega, rfl, Upto.zero _ _, HB0.out⟩
  case round =>
    obtain ⟨j, hj, rfl, hup, hbr⟩ := hrel
    have hsz := boxed_size hbr
    have hbw := boxed_below hbr
    by_cases hlt : j < left.length
    · obtain ⟨b, o, rfl, hl⟩ := HCL.out j hlt
      obtain ⟨hb, hnl, c0⟩ := hl.keep (same_below hB hbw)
      simp only [Nat.mul_one] at c0
      have hi0 : (0 : Int) ≤ (j : Int) := by omega
      have hi1 : (j : Int) < (left.length : Int) := by omega
      have hnm := name_any left[j] wr hnl
      cases hp : strB left[j]
      · have hp' : isName (left[j]).data.toList = false := hp
        have HS := hid (all_hit hlt hp)
        rw [hp'] at hnm
        clear hp hp' hup
        go_wp2_with (go_at_call 32; refine hnm.mono ?_; rintro r w2 ⟨rfl, hb2⟩)
        go_ret
        refine ⟨ret_bool ?_, boxed_below (boxed_then hbr hb2)⟩
        unfold eqB; rw [HS.out]; rfl
      · have hp' : isName (left[j]).data.toList = true := hp
        have HS := hid (hup.out.succ hlt hp)
        rw [hp'] at hnm
        clear hp hp' hup
        go_wp2_with (go_at_call 32; refine hnm.mono ?_; rintro r w2 ⟨rfl, hb2⟩)
        go_roundw
        case rel => exact ⟨j + 1, by omega, by go_num, HS, boxed_then hbr hb2⟩
        case measure => simp [intOf]; omega
    · have : j = left.length := by omega
      subst this
      have HS := hid hup.out.all
      have hca := boxed_all hbr
      rw [HBX.out] at hca
      have y0 := hca 0
      have y1 := hca 1
      have y2 := hca 2
      have y3 := hca 3
      have y4 := hca 4
      have y5 := hca 5
      have y6 := hca 6
      simp only [List.getElem?_toArray, List.getElem?_cons_zero, List.getElem?_cons_succ] at y0 y1 y2 y3 y4 y5 y6
      have hrr := right_any right B A' cap' wr (ExAt.below hr hB hbw) (by omega) hh
      simp only [Ex.val] at hrr
      clear hup hca
      by_cases h1 : (1 : Int) ≤ (left.length : Int)
      · by_cases h2 : (left.length : Int) ≤ 8
        · go_wp2_with (go_at_call 13; refine hrr.mono ?_; rintro r w2 ⟨rfl, hb2⟩)
          go_ret
          refine ⟨ret_bool ?_, boxed_below (boxed_then hbr hb2)⟩
          unfold eqB; simp only [HS.out]
          rw [decide_eq_true (show 1 ≤ left.length by omega), decide_eq_true (show left.length ≤ 8 by omega)]; rfl
        · go_wp2_with fail
          go_ret
          refine ⟨ret_bool ?_, hbw⟩
          unfold eqB
          rw [decide_eq_false (show ¬ left.length ≤ 8 by omega)]; simp
      · go_wp2_with fail
        go_ret
        refine ⟨ret_bool ?_, hbw⟩
        unfold eqB
        rw [decide_eq_false (show ¬ 1 ≤ left.length by omega)]; simp
end Go.Proofs.Ytiencmbbkbicnaa
