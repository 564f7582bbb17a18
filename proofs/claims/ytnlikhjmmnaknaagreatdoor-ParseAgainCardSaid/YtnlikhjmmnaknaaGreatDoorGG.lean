/-
  Texts of this claim, joined: TxtS ShowV ShowN ShowNode ShowS.
-/
import Derived.Test.YtnlikhjmmnaknaaGreatDoorGD
import Derived.Test.YtnlikhjmmnaknaaGreatDoorGF
import Derived.Lib.Join
/-
  The text of a source, in plain Lean.
-/
namespace Go.Proofs.YtnlikhjmmnaknaaGreatDoor
open Go.RowKit

/-- the first so many, with something between -/
def sepTo (sep : List UInt8) (f : Nat → List UInt8) : Nat → List UInt8
  | 0 => []
  | n + 1 => sepTo sep f n ++ ((if n = 0 then [] else sep) ++ f n)
/-- what stands at a place of a list -/
def atL {α : Type} (f : α → List UInt8) (xs : List α) (i : Nat) : List UInt8 := match xs[i]? with | some x => f x | none => []
theorem atL_lt {α : Type} (f : α → List UInt8) {xs : List α} {i : Nat} (h : i < xs.length) : atL f xs i = f xs[i] := by unfold atL; rw [List.getElem?_eq_getElem h]
theorem sepTo_zero (sep : List UInt8) (f : Nat → List UInt8) : sepTo sep f 0 = [] := rfl
theorem sepTo_succ (sep : List UInt8) (f : Nat → List UInt8) (n : Nat) : sepTo sep f (n + 1) = sepTo sep f n ++ ((if n = 0 then [] else sep) ++ f n) := rfl
theorem sepTo_one (sep : List UInt8) (f : Nat → List UInt8) : sepTo sep f 1 = f 0 := by simp [sepTo]
theorem sepTo_more (sep : List UInt8) (f : Nat → List UInt8) {n : Nat} (h : 0 < n) : sepTo sep f (n + 1) = sepTo sep f n ++ (sep ++ f n) := by rw [sepTo_succ, if_neg (by omega)]
theorem sepTo_flat (f : Nat → List UInt8) (n : Nat) : sepTo [] f (n + 1) = sepTo [] f n ++ f n := by rw [sepTo_succ]; split <;> simp
theorem sepTo_mono (sep : List UInt8) (f : Nat → List UInt8) {j k : Nat} (h : j ≤ k) : (sepTo sep f j).length ≤ (sepTo sep f k).length := by
  induction k with
  | zero => obtain rfl : j = 0 := by omega
            exact Nat.le_refl _
  | succ k ih =>
    by_cases e : j = k + 1
    · subst e; exact Nat.le_refl _
    · have := ih (by omega)
      rw [sepTo_succ, List.length_append]; omega
/-- one more of a list -/
theorem sepL_more {α : Type} (sep : List UInt8) (f : α → List UInt8) {xs : List α} {j : Nat} (h : j < xs.length) (h0 : 0 < j) : sepTo sep (atL f xs) (j + 1) = sepTo sep (atL f xs) j ++ (sep ++ f xs[j]) := by rw [sepTo_more _ _ h0, atL_lt f h]
theorem sepL_one {α : Type} (sep : List UInt8) (f : α → List UInt8) {xs : List α} (h : 0 < xs.length) : sepTo sep (atL f xs) 1 = f xs[0] := by rw [sepTo_one, atL_lt f h]
theorem sepL_flat {α : Type} (f : α → List UInt8) {xs : List α} {j : Nat} (h : j < xs.length) : sepTo [] (atL f xs) (j + 1) = sepTo [] (atL f xs) j ++ f xs[j] := by rw [sepTo_flat, atL_lt f h]

def litTxt (c : LitE) : List UInt8 := [32, 119, 104, 101, 110, 32] ++ ((if c.neg = true then [110, 111, 116, 32] else []) ++ c.name.data.toList)
def varTxt (v : VarE) : List UInt8 := v.name.data.toList ++ ([58, 32] ++ ((if v.type = 1 then [105, 110, 116] else [98, 111, 111, 108]) ++ sepTo [] (atL litTxt v.clock) v.clock.length))
def varsTxt (l : List VarE) : List UInt8 := sepTo [59, 32] (atL varTxt l) l.length
def lineTxt (v : VarE) : List UInt8 := [32, 32] ++ (varTxt v ++ [59, 10])
def namesTxt (l : List ByteArray) : List UInt8 := sepTo [44, 32] (atL (fun x : ByteArray => x.data.toList) l) l.length
def leftTxt (l : List ByteArray) : List UInt8 := if 1 < l.length then 40 :: (namesTxt l ++ [41]) else namesTxt l
def eqTxt (q : EqE) : List UInt8 := [32, 32] ++ (leftTxt q.left ++ ([32, 61, 32] ++ (q.right.txt 0 ++ [59, 10])))
def nodeHead (n : NodeE) : List UInt8 := [110, 111, 100, 101, 32] ++ (n.name.data.toList ++ ([40] ++ (varsTxt n.ins ++ ([41, 32, 114, 101, 116, 117, 114, 110, 115, 32, 40] ++ (varsTxt n.outs ++ [41, 59, 10])))))
def nodeVars (n : NodeE) : List UInt8 := (if 0 < n.vars.length then [118, 97, 114, 10] else []) ++ sepTo [] (atL lineTxt n.vars) n.vars.length
def nodeTxt (n : NodeE) : List UInt8 := nodeHead n ++ (nodeVars n ++ ([108, 101, 116, 10] ++ (sepTo [] (atL eqTxt n.eqs) n.eqs.length ++ [116, 101, 108, 10])))
/-- the text of a source -/
def srcTxt (s : List NodeE) : List UInt8 := sepTo [10] (atL nodeTxt s) s.length

theorem sepTo_tail (sep : List UInt8) (f : Nat → List UInt8) : ∀ n, sepTo sep f (n + 1) = f 0 ++ ((List.range n).map fun i => sep ++ f (i + 1)).flatten := by
  intro n
  induction n with
  | zero => simp [sepTo]
  | succ n ih =>
    rw [sepTo_more _ _ (by omega), ih, List.range_succ, List.map_append, List.flatten_append]
    simp
theorem join_names (l : List ByteArray) : Lib.join (l.map (·.data.toList)) [44, 32] = namesTxt l := by
  unfold namesTxt
  cases l with
  | nil => rfl
  | cons x r =>
    rw [List.map_cons, Lib.join_cons, List.length_cons, sepTo_tail]
    have h0 : atL (fun x : ByteArray => x.data.toList) (x :: r) 0 = x.data.toList := rfl
    rw [h0]
    unfold Lib.joinTail
    congr 2
    apply List.ext_getElem
    · simp
    · intro i h1 h2
      simp only [List.length_map] at h1
      simp [atL, List.getElem?_eq_getElem h1]

/-! parts are no longer than the whole -/
theorem vars_part (l : List VarE) {j : Nat} (h : j ≤ l.length) : (sepTo [59, 32] (atL varTxt l) j).length ≤ (varsTxt l).length := sepTo_mono _ _ h
end Go.Proofs.YtnlikhjmmnaknaaGreatDoor
/-
  The walks of show's writer over variables.
-/
namespace Go.Proofs.YtnlikhjmmnaknaaGreatDoor
open Go.RowKit

theorem joinB_nil1 (a : List UInt8) : joinB [⟨a.toArray⟩] = a := by simp [joinB]
theorem joinB_1 (s : ByteArray) : joinB [s] = s.data.toList := by simp [joinB]
theorem joinB_2 (s t : ByteArray) : joinB [s, t] = s.data.toList ++ t.data.toList := by simp [joinB]
theorem joinB_3 (s t u : ByteArray) : joinB [s, t, u] = s.data.toList ++ (t.data.toList ++ u.data.toList) := by simp [joinB]
theorem sep_le {α : Type} (sep : List UInt8) (f : α → List UInt8) (xs : List α) {j : Nat} (h : j < xs.length) : (sepTo sep (atL f xs) j).length + (f xs[j]).length ≤ (sepTo sep (atL f xs) xs.length).length := by
  have h1 := sepTo_mono sep (atL f xs) (show j + 1 ≤ xs.length by omega)
  rw [sepTo_succ, List.length_append, List.length_append, atL_lt f h] at h1
  omega
theorem sep_le2 {α : Type} (sep : List UInt8) (f : α → List UInt8) (xs : List α) {j : Nat} (h : j < xs.length) (h0 : 0 < j) : (sepTo sep (atL f xs) j).length + (sep.length + (f xs[j]).length) ≤ (sepTo sep (atL f xs) xs.length).length := by
  have h1 := sepTo_mono sep (atL f xs) (show j + 1 ≤ xs.length by omega)
  rw [sepTo_more _ _ h0, List.length_append, List.length_append, atL_lt f h] at h1
  omega

set_option maxHeartbeats 4000000 in
theorem variable_wr (v : VarE) (S : Sl) (B b : Nat) (l : List UInt8) (w : World) (hv : VarIs B w v S) (hW : Wr B b l w) (hlen : l.length + (varTxt v).length ≤ 140737488355328) :
    Calls Tryz.prog 55 #[.pointer (some ⟨b, 0, none⟩), v.val S] w (Writes B b l (varTxt v) w) := by
  obtain ⟨A, cap⟩ := S
  have hltb := hW.lt
  have hleb := hW.le
  have hcl : ((v.clock.length : Nat) : Int) ≤ 9223372036854775807 := by have := hv.fits; unfold Sl.fits maxLen at this; omega
  have HV := hid hv
  have HW := hid hW
  have hX0 : (w.alloc (.cells #[.string v.name, .int .i64 v.type, .slice A v.clock.length cap, .int .i64 v.line, .int .i64 v.col] 103)).heap[w.heap.size]? = some (.cells #[.string v.name, .int .i64 v.type, .slice A v.clock.length cap, .int .i64 v.line, .int .i64 v.col] 103 (0, 0)) := World.alloc_heap_new w _
  have hK0 : Wkeep B b w (w.alloc (.cells #[.string v.name, .int .i64 v.type, .slice A v.clock.length cap, .int .i64 v.line, .int .i64 v.col] 103)) := (Wkeep.refl _ _ _).alloc (by omega) _
  have hW0 := hW.alloc (.cells #[.string v.name, .int .i64 v.type, .slice A v.clock.length cap, .int .i64 v.line, .int .i64 v.col] 103)
  have hlt1 : l.length + (v.name.data.toList.length + (6 + (sepTo [] (atL litTxt v.clock) v.clock.length).length)) ≤ 140737488355328 + (if v.type = 1 then 1 else 0) := by
    unfold varTxt at hlen
    simp only [List.length_append, List.length_cons, List.length_nil] at hlen
    split at hlen <;> (simp only [List.length_cons, List.length_nil] at hlen; split <;> omega)
  clear hv hW hlen
  unfold VarE.val Sl.v
  simp only
  by_cases ht : v.type = 1
  · have hq : (v.type == 1) = true := by simpa using ht
    have hlen2 : l.length + (v.name.data.toList.length + (5 + (sepTo [] (atL litTxt v.clock) v.clock.length).length)) ≤ 140737488355328 := by rw [if_pos ht] at hlt1; omega
    have HT : Hid (varTxt v = v.name.data.toList ++ ([58, 32] ++ ([105, 110, 116] ++ sepTo [] (atL litTxt v.clock) v.clock.length))) := by show _ = _; unfold varTxt; rw [if_pos ht]
    clear hlt1 ht
    go_enter Tryz.func55, Tryz.ntmps55
    go_wp2_with fail
    generalize hV : w.alloc (.cells #[.string v.name, .int .i64 v.type, .slice A v.clock.length cap, .int .i64 v.line, .int .i64 v.col] 103) = V at *
    have hV0 : w.heap.size + 1 = V.heap.size := by rw [← hV]; simp
    have HVV := hid hV
    clear hV
    refine (all_new B b l [v.name, ⟨#[58, 32]⟩] _ _ _ _ V hW0 hV0 (by rfl) (by rfl) (by rw [joinB_2]; simp only [List.length_append, List.length_cons, List.length_nil]; omega) (by simp)).mono ?_
    rintro r w1 ⟨rfl, hW1, hK1⟩
    have hX1 := hK1.other _ _ _ _ (by omega) (by decide) hX0
    have c1 : w1.cell? ⟨w.heap.size, 1, none⟩ = some (.int .i64 v.type) := Lib.cell_of_heap hX1 1
    go_wp2_with fail
    refine (all_new B b _ [⟨#[105, 110, 116]⟩] _ _ _ _ w1 hW1 (by rfl) (by rfl) (by rfl) (by rw [joinB_1, joinB_2]; simp only [List.length_append, List.length_cons, List.length_nil]; omega) (by simp)).mono ?_
    clear c1
    rintro r w2 ⟨rfl, hW2, hK2⟩
    have hX2 := hK2.other _ _ _ _ (by omega) (by decide) hX1
    have c2 : w2.cell? ⟨w.heap.size, 2, none⟩ = some (.slice A v.clock.length cap) := Lib.cell_of_heap hX2 2
    have hK2' := hK0.trans (hK1.trans hK2)
    have hw : Wr B b (l ++ (v.name.data.toList ++ ([58, 32] ++ [105, 110, 116]))) w2 := by rw [joinB_1, joinB_2] at hW2; simpa using hW2
    clear hX0 hK0 hW0 hX1 hX2 hK1 hK2 hW1 hW2 hV0 hq
    go_wp2_with fail
    clear c2
    go_loopw [23] (fun i wr => ∃ j : Nat, j ≤ v.clock.length ∧ i = .int .i64 j ∧ Wr B b (l ++ (v.name.data.toList ++ ([58, 32] ++ [105, 110, 116])) ++ sepTo [] (atL litTxt v.clock) j) wr ∧ Wkeep B b w wr) (fun i _ => v.clock.length - (intOf i).toNat)
    case atStart => exact ⟨0, by omega, rfl, by rw [sepTo_zero, List.append_nil]; exact hw, hK2'⟩
    case round =>
      obtain ⟨j, hj, rfl, hWr, hK⟩ := hrel
      by_cases hlt : j < v.clock.length
      · obtain ⟨b', o, hA, hcell⟩ := HV.out.clock j hlt
        simp only at hA
        subst hA
        have hcell' := hcell.keep (same_below (Nat.le_refl _) hK.below)
        have d0 := hcell'.c0
        have d1 := hcell'.c1
        have hle := sep_le [] litTxt v.clock hlt
        have hltr := hWr.lt
        have hsl := sepL_flat litTxt hlt
        have HS := hid hsl
        have hY0 : (wr.alloc (.cells #[.string v.clock[j].name, .bool v.clock[j].neg] 115)).heap[wr.heap.size]? = some (.cells #[.string v.clock[j].name, .bool v.clock[j].neg] 115 (0, 0)) := World.alloc_heap_new wr _
        have hJ0 : Wkeep B b wr (wr.alloc (.cells #[.string v.clock[j].name, .bool v.clock[j].neg] 115)) := (Wkeep.refl _ _ _).alloc (by omega) _
        have hU0 := hWr.alloc (.cells #[.string v.clock[j].name, .bool v.clock[j].neg] 115)
        clear hcell hcell' hsl
        go_wp2_with fail
        generalize hV1g : wr.alloc (.cells #[.string v.clock[j].name, .bool v.clock[j].neg] 115) = V1 at *
        have hV1 : wr.heap.size + 1 = V1.heap.size := by rw [← hV1g]; simp
        have HV1 := hid hV1g
        clear hV1g d0 d1
        cases hneg : v.clock[j].neg
        · have HL : Hid (litTxt v.clock[j] = [32, 119, 104, 101, 110, 32] ++ ([] ++ v.clock[j].name.data.toList)) := by show _ = _; unfold litTxt; rw [hneg]; rfl
          have hle2 : l.length + (v.name.data.toList.length + (5 + ((sepTo [] (atL litTxt v.clock) j).length + (6 + v.clock[j].name.data.toList.length)))) ≤ 140737488355328 := by
            rw [HL.out] at hle
            simp only [List.length_append, List.length_cons, List.length_nil] at hle
            omega
          clear hle
          have hng := hid hneg
          clear hneg
          refine (all_new B b _ [⟨#[32, 119, 104, 101, 110, 32]⟩] _ _ _ _ V1 hU0 hV1 (by rfl) (by rfl) (by rw [joinB_1]; simp only [List.length_append, List.length_cons, List.length_nil]; omega) (by simp)).mono ?_
          rintro r w3 ⟨rfl, hW3, hK3⟩
          have hY3 := hK3.other _ _ _ _ (by omega) (by decide) hY0
          have f1 : w3.cell? ⟨wr.heap.size, 1, none⟩ = some (.bool v.clock[j].neg) := Lib.cell_of_heap hY3 1
          have f0 : w3.cell? ⟨wr.heap.size, 0, none⟩ = some (.string v.clock[j].name) := Lib.cell_of_heap hY3 0
          rw [hng.out] at f1
          go_wp2_with fail
          refine (all_new B b _ [v.clock[j].name] _ _ _ _ w3 hW3 (by rfl) (by rfl) (by rfl) (by rw [joinB_1, joinB_1]; simp only [List.length_append, List.length_cons, List.length_nil]; omega) (by simp)).mono ?_
          clear f0 f1
          rintro r w5 ⟨rfl, hW5, hK5⟩
          go_wp2_with fail
          go_roundw
          case rel => exact ⟨j + 1, by omega, by go_num, by rw [HS.out, HL.out]; rw [joinB_1, joinB_1] at hW5; simpa using hW5, hK.trans (hJ0.trans (hK3.trans hK5))⟩
          case measure => simp [intOf]; omega
        · have HL : Hid (litTxt v.clock[j] = [32, 119, 104, 101, 110, 32] ++ ([110, 111, 116, 32] ++ v.clock[j].name.data.toList)) := by show _ = _; unfold litTxt; rw [hneg]; rfl
          have hle2 : l.length + (v.name.data.toList.length + (5 + ((sepTo [] (atL litTxt v.clock) j).length + (10 + v.clock[j].name.data.toList.length)))) ≤ 140737488355328 := by
            rw [HL.out] at hle
            simp only [List.length_append, List.length_cons, List.length_nil] at hle
            omega
          clear hle
          have hng := hid hneg
          clear hneg
          refine (all_new B b _ [⟨#[32, 119, 104, 101, 110, 32]⟩] _ _ _ _ V1 hU0 hV1 (by rfl) (by rfl) (by rw [joinB_1]; simp only [List.length_append, List.length_cons, List.length_nil]; omega) (by simp)).mono ?_
          rintro r w3 ⟨rfl, hW3, hK3⟩
          have hY3 := hK3.other _ _ _ _ (by omega) (by decide) hY0
          have f1 : w3.cell? ⟨wr.heap.size, 1, none⟩ = some (.bool v.clock[j].neg) := Lib.cell_of_heap hY3 1
          have f0 : w3.cell? ⟨wr.heap.size, 0, none⟩ = some (.string v.clock[j].name) := Lib.cell_of_heap hY3 0
          rw [hng.out] at f1
          go_wp2_with fail
          refine (all_new B b _ [⟨#[110, 111, 116, 32]⟩] _ _ _ _ w3 hW3 (by rfl) (by rfl) (by rfl) (by rw [joinB_1, joinB_1]; simp only [List.length_append, List.length_cons, List.length_nil]; omega) (by simp)).mono ?_
          clear f0 f1
          rintro r w4 ⟨rfl, hW4, hK4⟩
          have hY4 := hK4.other _ _ _ _ (by omega) (by decide) hY3
          have f0 : w4.cell? ⟨wr.heap.size, 0, none⟩ = some (.string v.clock[j].name) := Lib.cell_of_heap hY4 0
          go_wp2_with fail
          refine (all_new B b _ [v.clock[j].name] _ _ _ _ w4 hW4 (by rfl) (by rfl) (by rfl) (by rw [joinB_1, joinB_1, joinB_1]; simp only [List.length_append, List.length_cons, List.length_nil]; omega) (by simp)).mono ?_
          clear f0
          rintro r w5 ⟨rfl, hW5, hK5⟩
          go_wp2_with fail
          go_roundw
          case rel => exact ⟨j + 1, by omega, by go_num, by rw [HS.out, HL.out]; rw [joinB_1, joinB_1, joinB_1] at hW5; simpa using hW5, hK.trans (hJ0.trans (hK3.trans (hK4.trans hK5)))⟩
          case measure => simp [intOf]; omega
      · have : j = v.clock.length := by omega
        subst this
        go_wp2_with fail
        go_end0
        refine ⟨rfl, ?_, hK⟩
        rw [HT.out]
        simpa using hWr
  · have hq : (v.type == 1) = false := by simpa using ht
    have hlen2 : l.length + (v.name.data.toList.length + (6 + (sepTo [] (atL litTxt v.clock) v.clock.length).length)) ≤ 140737488355328 := by rw [if_neg ht] at hlt1; omega
    have HT : Hid (varTxt v = v.name.data.toList ++ ([58, 32] ++ ([98, 111, 111, 108] ++ sepTo [] (atL litTxt v.clock) v.clock.length))) := by show _ = _; unfold varTxt; rw [if_neg ht]
    clear hlt1 ht
    go_enter Tryz.func55, Tryz.ntmps55
    go_wp2_with fail
    generalize hV : w.alloc (.cells #[.string v.name, .int .i64 v.type, .slice A v.clock.length cap, .int .i64 v.line, .int .i64 v.col] 103) = V at *
    have hV0 : w.heap.size + 1 = V.heap.size := by rw [← hV]; simp
    have HVV := hid hV
    clear hV
    refine (all_new B b l [v.name, ⟨#[58, 32]⟩] _ _ _ _ V hW0 hV0 (by rfl) (by rfl) (by rw [joinB_2]; simp only [List.length_append, List.length_cons, List.length_nil]; omega) (by simp)).mono ?_
    rintro r w1 ⟨rfl, hW1, hK1⟩
    have hX1 := hK1.other _ _ _ _ (by omega) (by decide) hX0
    have c1 : w1.cell? ⟨w.heap.size, 1, none⟩ = some (.int .i64 v.type) := Lib.cell_of_heap hX1 1
    go_wp2_with fail
    refine (all_new B b _ [⟨#[98, 111, 111, 108]⟩] _ _ _ _ w1 hW1 (by rfl) (by rfl) (by rfl) (by rw [joinB_1, joinB_2]; simp only [List.length_append, List.length_cons, List.length_nil]; omega) (by simp)).mono ?_
    clear c1
    rintro r w2 ⟨rfl, hW2, hK2⟩
    have hX2 := hK2.other _ _ _ _ (by omega) (by decide) hX1
    have c2 : w2.cell? ⟨w.heap.size, 2, none⟩ = some (.slice A v.clock.length cap) := Lib.cell_of_heap hX2 2
    have hK2' := hK0.trans (hK1.trans hK2)
    have hw : Wr B b (l ++ (v.name.data.toList ++ ([58, 32] ++ [98, 111, 111, 108]))) w2 := by rw [joinB_1, joinB_2] at hW2; simpa using hW2
    clear hX0 hK0 hW0 hX1 hX2 hK1 hK2 hW1 hW2 hV0 hq
    go_wp2_with fail
    clear c2
    go_loopw [23] (fun i wr => ∃ j : Nat, j ≤ v.clock.length ∧ i = .int .i64 j ∧ Wr B b (l ++ (v.name.data.toList ++ ([58, 32] ++ [98, 111, 111, 108])) ++ sepTo [] (atL litTxt v.clock) j) wr ∧ Wkeep B b w wr) (fun i _ => v.clock.length - (intOf i).toNat)
    case atStart => exact ⟨0, by omega, rfl, by rw [sepTo_zero, List.append_nil]; exact hw, hK2'⟩
    case round =>
      obtain ⟨j, hj, rfl, hWr, hK⟩ := hrel
      by_cases hlt : j < v.clock.length
      · obtain ⟨b', o, hA, hcell⟩ := HV.out.clock j hlt
        simp only at hA
        subst hA
        have hcell' := hcell.keep (same_below (Nat.le_refl _) hK.below)
        have d0 := hcell'.c0
        have d1 := hcell'.c1
        have hle := sep_le [] litTxt v.clock hlt
        have hltr := hWr.lt
        have hsl := sepL_flat litTxt hlt
        have HS := hid hsl
        have hY0 : (wr.alloc (.cells #[.string v.clock[j].name, .bool v.clock[j].neg] 115)).heap[wr.heap.size]? = some (.cells #[.string v.clock[j].name, .bool v.clock[j].neg] 115 (0, 0)) := World.alloc_heap_new wr _
        have hJ0 : Wkeep B b wr (wr.alloc (.cells #[.string v.clock[j].name, .bool v.clock[j].neg] 115)) := (Wkeep.refl _ _ _).alloc (by omega) _
        have hU0 := hWr.alloc (.cells #[.string v.clock[j].name, .bool v.clock[j].neg] 115)
        clear hcell hcell' hsl
        go_wp2_with fail
        generalize hV1g : wr.alloc (.cells #[.string v.clock[j].name, .bool v.clock[j].neg] 115) = V1 at *
        have hV1 : wr.heap.size + 1 = V1.heap.size := by rw [← hV1g]; simp
        have HV1 := hid hV1g
        clear hV1g d0 d1
        cases hneg : v.clock[j].neg
        · have HL : Hid (litTxt v.clock[j] = [32, 119, 104, 101, 110, 32] ++ ([] ++ v.clock[j].name.data.toList)) := by show _ = _; unfold litTxt; rw [hneg]; rfl
          have hle2 : l.length + (v.name.data.toList.length + (6 + ((sepTo [] (atL litTxt v.clock) j).length + (6 + v.clock[j].name.data.toList.length)))) ≤ 140737488355328 := by
            rw [HL.out] at hle
            simp only [List.length_append, List.length_cons, List.length_nil] at hle
            omega
          clear hle
          have hng := hid hneg
          clear hneg
          refine (all_new B b _ [⟨#[32, 119, 104, 101, 110, 32]⟩] _ _ _ _ V1 hU0 hV1 (by rfl) (by rfl) (by rw [joinB_1]; simp only [List.length_append, List.length_cons, List.length_nil]; omega) (by simp)).mono ?_
          rintro r w3 ⟨rfl, hW3, hK3⟩
          have hY3 := hK3.other _ _ _ _ (by omega) (by decide) hY0
          have f1 : w3.cell? ⟨wr.heap.size, 1, none⟩ = some (.bool v.clock[j].neg) := Lib.cell_of_heap hY3 1
          have f0 : w3.cell? ⟨wr.heap.size, 0, none⟩ = some (.string v.clock[j].name) := Lib.cell_of_heap hY3 0
          rw [hng.out] at f1
          go_wp2_with fail
          refine (all_new B b _ [v.clock[j].name] _ _ _ _ w3 hW3 (by rfl) (by rfl) (by rfl) (by rw [joinB_1, joinB_1]; simp only [List.length_append, List.length_cons, List.length_nil]; omega) (by simp)).mono ?_
          clear f0 f1
          rintro r w5 ⟨rfl, hW5, hK5⟩
          go_wp2_with fail
          go_roundw
          case rel => exact ⟨j + 1, by omega, by go_num, by rw [HS.out, HL.out]; rw [joinB_1, joinB_1] at hW5; simpa using hW5, hK.trans (hJ0.trans (hK3.trans hK5))⟩
          case measure => simp [intOf]; omega
        · have HL : Hid (litTxt v.clock[j] = [32, 119, 104, 101, 110, 32] ++ ([110, 111, 116, 32] ++ v.clock[j].name.data.toList)) := by show _ = _; unfold litTxt; rw [hneg]; rfl
          have hle2 : l.length + (v.name.data.toList.length + (6 + ((sepTo [] (atL litTxt v.clock) j).length + (10 + v.clock[j].name.data.toList.length)))) ≤ 140737488355328 := by
            rw [HL.out] at hle
            simp only [List.length_append, List.length_cons, List.length_nil] at hle
            omega
          clear hle
          have hng := hid hneg
          clear hneg
          refine (all_new B b _ [⟨#[32, 119, 104, 101, 110, 32]⟩] _ _ _ _ V1 hU0 hV1 (by rfl) (by rfl) (by rw [joinB_1]; simp only [List.length_append, List.length_cons, List.length_nil]; omega) (by simp)).mono ?_
          rintro r w3 ⟨rfl, hW3, hK3⟩
          have hY3 := hK3.other _ _ _ _ (by omega) (by decide) hY0
          have f1 : w3.cell? ⟨wr.heap.size, 1, none⟩ = some (.bool v.clock[j].neg) := Lib.cell_of_heap hY3 1
          have f0 : w3.cell? ⟨wr.heap.size, 0, none⟩ = some (.string v.clock[j].name) := Lib.cell_of_heap hY3 0
          rw [hng.out] at f1
          go_wp2_with fail
          refine (all_new B b _ [⟨#[110, 111, 116, 32]⟩] _ _ _ _ w3 hW3 (by rfl) (by rfl) (by rfl) (by rw [joinB_1, joinB_1]; simp only [List.length_append, List.length_cons, List.length_nil]; omega) (by simp)).mono ?_
          clear f0 f1
          rintro r w4 ⟨rfl, hW4, hK4⟩
          have hY4 := hK4.other _ _ _ _ (by omega) (by decide) hY3
          have f0 : w4.cell? ⟨wr.heap.size, 0, none⟩ = some (.string v.clock[j].name) := Lib.cell_of_heap hY4 0
          go_wp2_with fail
          refine (all_new B b _ [v.clock[j].name] _ _ _ _ w4 hW4 (by rfl) (by rfl) (by rfl) (by rw [joinB_1, joinB_1, joinB_1]; simp only [List.length_append, List.length_cons, List.length_nil]; omega) (by simp)).mono ?_
          clear f0
          rintro r w5 ⟨rfl, hW5, hK5⟩
          go_wp2_with fail
          go_roundw
          case rel => exact ⟨j + 1, by omega, by go_num, by rw [HS.out, HL.out]; rw [joinB_1, joinB_1, joinB_1] at hW5; simpa using hW5, hK.trans (hJ0.trans (hK3.trans (hK4.trans hK5)))⟩
          case measure => simp [intOf]; omega
      · have : j = v.clock.length := by omega
        subst this
        go_wp2_with fail
        go_end0
        refine ⟨rfl, ?_, hK⟩
        rw [HT.out]
        simpa using hWr
end Go.Proofs.YtnlikhjmmnaknaaGreatDoor
/-
  The walks of show's writer over variables side by side, and over an equation's left side.
-/
namespace Go.Proofs.YtnlikhjmmnaknaaGreatDoor
open Go.RowKit

set_option maxHeartbeats 2000000 in
theorem variables_wr (xs : List VarE) (A : Option Addr) (cap : Nat) (B b : Nat) (l : List UInt8) (w : World) (hf : xs.length ≤ 1000000) (hv : SlAt 5 (VarAt B w) A xs) (hW : Wr B b l w) (hlen : l.length + (varsTxt xs).length ≤ 140737488355328) :
    Calls Tryz.prog 54 #[.pointer (some ⟨b, 0, none⟩), .slice A xs.length cap] w (Writes B b l (varsTxt xs) w) := by
  have HV := hid hv
  clear hv
  go_enter Tryz.func54, Tryz.ntmps54
  go_wp2_with fail
  go_loopw [8] (fun i wr => ∃ j : Nat, j ≤ xs.length ∧ i = .int .i64 j ∧ Wr B b (l ++ sepTo [59, 32] (atL varTxt xs) j) wr ∧ Wkeep B b w wr) (fun i _ => xs.length - (intOf i).toNat)
  case atStart => exact ⟨0, by omega, rfl, by rw [sepTo_zero, List.append_nil]; exact hW, Wkeep.refl _ _ _⟩
  case round =>
    obtain ⟨j, hj, rfl, hWr, hK⟩ := hrel
    by_cases hlt : j < xs.length
    · obtain ⟨b', o, hA, hb', S, hcells, hin⟩ := HV.out j hlt
      subst hA
      obtain ⟨sA, sc⟩ := S
      have hcells' := hcells.keep (w' := wr) fun i => hK.below.cell (p := ⟨b', i, none⟩) (by simp; omega)
      have hin' := hin.keep (same_below (Nat.le_refl _) hK.below)
      obtain ⟨c0, c1, c2, c3, c4⟩ := hcells'
      have hle := sep_le [59, 32] varTxt xs hlt
      unfold varsTxt at hlen
      have hltr := hWr.lt
      have hler := hWr.le
      have hY0 : (wr.alloc (.cells #[.string xs[j].name, .int .i64 xs[j].type, .slice sA xs[j].clock.length sc, .int .i64 xs[j].line, .int .i64 xs[j].col] 103)).heap[wr.heap.size]? = some (.cells #[.string xs[j].name, .int .i64 xs[j].type, .slice sA xs[j].clock.length sc, .int .i64 xs[j].line, .int .i64 xs[j].col] 103 (0, 0)) := World.alloc_heap_new wr _
      have hJ0 : Wkeep B b wr (wr.alloc (.cells #[.string xs[j].name, .int .i64 xs[j].type, .slice sA xs[j].clock.length sc, .int .i64 xs[j].line, .int .i64 xs[j].col] 103)) := (Wkeep.refl _ _ _).alloc (by omega) _
      have hU0 := hWr.alloc (.cells #[.string xs[j].name, .int .i64 xs[j].type, .slice sA xs[j].clock.length sc, .int .i64 xs[j].line, .int .i64 xs[j].col] 103)
      clear hcells hin
      have hcv := fun W (h : Below B wr W) l' (hw : Wr B b l' W) (hl : l'.length + (varTxt xs[j]).length ≤ 140737488355328) => variable_wr xs[j] ⟨sA, sc⟩ B b l' W (hin'.keep (same_below (Nat.le_refl _) h)) hw hl
      unfold VarE.val Sl.v at hcv
      have HCV := hid hcv
      clear hcv
      unfold Sl.v at c2
      by_cases h0 : 0 < j
      · have hle2 := sep_le2 [59, 32] varTxt xs hlt h0
        simp only [List.length_cons, List.length_nil] at hle2
        have hsl := sepL_more [59, 32] varTxt hlt h0
        have HS := hid hsl
        clear hsl hle
        go_wp2_with fail
        generalize hV : wr.alloc (.cells #[.string xs[j].name, .int .i64 xs[j].type, .slice sA xs[j].clock.length sc, .int .i64 xs[j].line, .int .i64 xs[j].col] 103) = V at *
        have hV0 : wr.heap.size + 1 = V.heap.size := by rw [← hV]; simp
        have HVV := hid hV
        clear hV c0 c1 c2 c3 c4
        refine (all_new B b _ [⟨#[59, 32]⟩] _ _ _ _ V hU0 hV0 (by rfl) (by rfl) (by rw [joinB_1]; simp only [List.length_append, List.length_cons, List.length_nil]; omega) (by simp)).mono ?_
        rintro r w1 ⟨rfl, hW1, hK1⟩
        have hY1 := hK1.other _ _ _ _ (by omega) (by decide) hY0
        have f0 : w1.cell? ⟨wr.heap.size, 0, none⟩ = some (.string xs[j].name) := Lib.cell_of_heap hY1 0
        have f1 : w1.cell? ⟨wr.heap.size, 1, none⟩ = some (.int .i64 xs[j].type) := Lib.cell_of_heap hY1 1
        have f2 : w1.cell? ⟨wr.heap.size, 2, none⟩ = some (.slice sA xs[j].clock.length sc) := Lib.cell_of_heap hY1 2
        have f3 : w1.cell? ⟨wr.heap.size, 3, none⟩ = some (.int .i64 xs[j].line) := Lib.cell_of_heap hY1 3
        have f4 : w1.cell? ⟨wr.heap.size, 4, none⟩ = some (.int .i64 xs[j].col) := Lib.cell_of_heap hY1 4
        go_wp2_with fail
        clear f0 f1 f2 f3 f4
        refine (HCV.out w1 (hJ0.trans hK1).below _ hW1 (by rw [joinB_1]; simp only [List.length_append, List.length_cons, List.length_nil]; omega)).mono ?_
        rintro r w2 ⟨rfl, hW2, hK2⟩
        go_wp2_with fail
        go_roundw
        case rel => exact ⟨j + 1, by omega, by go_num, by rw [HS.out]; rw [joinB_1] at hW2; simpa using hW2, hK.trans (hJ0.trans (hK1.trans hK2))⟩
        case measure => simp [intOf]; omega
      · obtain rfl : j = 0 := by omega
        have hsl := sepL_one [59, 32] varTxt hlt
        have HS := hid hsl
        clear hsl
        rw [sepTo_zero] at hle
        simp only [List.length_nil] at hle
        simp only [Nat.zero_mul, Nat.add_zero] at c0 c1 c2 c3 c4
        have f0 : (wr.alloc (.cells #[.string xs[0].name, .int .i64 xs[0].type, .slice sA xs[0].clock.length sc, .int .i64 xs[0].line, .int .i64 xs[0].col] 103)).cell? ⟨wr.heap.size, 0, none⟩ = some (.string xs[0].name) := Lib.cell_of_heap hY0 0
        have f1 : (wr.alloc (.cells #[.string xs[0].name, .int .i64 xs[0].type, .slice sA xs[0].clock.length sc, .int .i64 xs[0].line, .int .i64 xs[0].col] 103)).cell? ⟨wr.heap.size, 1, none⟩ = some (.int .i64 xs[0].type) := Lib.cell_of_heap hY0 1
        go_wp2_with fail
        clear c0 c1 c2 c3 c4
        refine (HCV.out _ hJ0.below _ hU0 (by rw [sepTo_zero, List.append_nil]; omega)).mono ?_
        rintro r w2 ⟨rfl, hW2, hK2⟩
        go_wp2_with fail
        go_roundw
        case rel => exact ⟨1, by omega, by go_num, by rw [HS.out]; rw [sepTo_zero, List.append_nil] at hW2; exact hW2, hK.trans (hJ0.trans hK2)⟩
        case measure => simp [intOf]; omega
    · have : j = xs.length := by omega
      subst this
      go_wp2_with fail
      go_end0
      exact ⟨rfl, hWr, hK⟩
end Go.Proofs.YtnlikhjmmnaknaaGreatDoor
/-
  The walk of show's writer over a node.
-/
namespace Go.Proofs.YtnlikhjmmnaknaaGreatDoor
open Go.RowKit

theorem node_len (n : NodeE) : (nodeTxt n).length = (5 + (n.name.data.toList.length + (1 + ((varsTxt n.ins).length + (11 + ((varsTxt n.outs).length + 3)))))) + ((nodeVars n).length + (4 + ((sepTo [] (atL eqTxt n.eqs) n.eqs.length).length + 4))) := by
  unfold nodeTxt nodeHead
  simp only [List.length_append, List.length_cons, List.length_nil]
theorem lineTxt_eq (v : VarE) : lineTxt v = [32, 32] ++ (varTxt v ++ [59, 10]) := rfl
theorem eqTxt_eq (q : EqE) : eqTxt q = [32, 32] ++ (leftTxt q.left ++ ([32, 61, 32] ++ (q.right.txt 0 ++ [59, 10]))) := rfl
theorem left_len (l : List ByteArray) : (namesTxt l).length ≤ (leftTxt l).length := by
  unfold leftTxt
  split
  · simp only [List.length_cons, List.length_append]; omega
  · exact Nat.le_refl _

set_option maxRecDepth 100000 in
set_option maxHeartbeats 16000000 in
theorem node_wr (n : NodeE) (S : NSl) (B b : Nat) (l : List UInt8) (w : World) (hn : NodeIs B w n S) (hok : nodeB n = true) (hW : Wr B b l w) (hT : Tab w) (hB3 : tabG < B) (hlen : l.length + (nodeTxt n).length ≤ 140737488355328) :
    Calls Tryz.prog 27 #[.pointer (some ⟨b, 0, none⟩), n.val S] w (Writes B b l (nodeTxt n) w) := by
  obtain ⟨⟨iA, ic⟩, ⟨oA, oc⟩, ⟨vA, vc⟩, ⟨eA, ec⟩⟩ := S
  have hltb := hW.lt
  have hleb := hW.le
  unfold nodeB manyB at hok
  simp only [Bool.and_eq_true, decide_eq_true_eq] at hok
  obtain ⟨⟨⟨⟨⟨⟨hq, _⟩, hq1⟩, hq48⟩, hi⟩, ho⟩, hv⟩ := hok
  have hi8 : n.ins.length ≤ 8 := hi.2
  have ho8 : n.outs.length ≤ 8 := ho.2
  have hv40 : n.vars.length ≤ 40 := hv.2
  rw [node_len] at hlen
  have HQ := hid (fun j (h : j < n.eqs.length) => all_at hq j h)
  have HN := hid hn
  have hX0 : (w.alloc (.cells #[.string n.name, .slice iA n.ins.length ic, .slice oA n.outs.length oc, .slice vA n.vars.length vc, .slice eA n.eqs.length ec, .int .i64 n.line, .int .i64 n.col] 61)).heap[w.heap.size]? = some (.cells #[.string n.name, .slice iA n.ins.length ic, .slice oA n.outs.length oc, .slice vA n.vars.length vc, .slice eA n.eqs.length ec, .int .i64 n.line, .int .i64 n.col] 61 (0, 0)) := World.alloc_heap_new w _
  have hK0 : Wkeep B b w (w.alloc (.cells #[.string n.name, .slice iA n.ins.length ic, .slice oA n.outs.length oc, .slice vA n.vars.length vc, .slice eA n.eqs.length ec, .int .i64 n.line, .int .i64 n.col] 61)) := (Wkeep.refl _ _ _).alloc (by omega) _
  have hW0 := hW.alloc (.cells #[.string n.name, .slice iA n.ins.length ic, .slice oA n.outs.length oc, .slice vA n.vars.length vc, .slice eA n.eqs.length ec, .int .i64 n.line, .int .i64 n.col] 61)
  clear hn hq hi ho hv
  unfold NodeE.val Sl.v
  simp only
  have hvt : ∀ W, Below B w W → ∀ (xs : List VarE) A c l', SlAt 5 (VarAt B w) A xs → xs.length ≤ 1000000 → Wr B b l' W → l'.length + (varsTxt xs).length ≤ 140737488355328 → Calls Tryz.prog 54 #[.pointer (some ⟨b, 0, none⟩), .slice A xs.length c] W (Writes B b l' (varsTxt xs) W) := fun W h xs A c l' hs hx hw hl => variables_wr xs A c B b l' W hx (hs.imp fun _ _ _ => VarAt.keep (same_below (Nat.le_refl _) h)) hw hl
  have HVT := hid hvt
  clear hvt
  by_cases hv0 : 0 < n.vars.length
  · have hnv : (nodeVars n).length = 4 + (sepTo [] (atL lineTxt n.vars) n.vars.length).length := by unfold nodeVars; rw [if_pos hv0]; simp only [List.length_append, List.length_cons, List.length_nil]
    rw [hnv] at hlen
    go_enter Tryz.func27, Tryz.ntmps27
    go_wp2_with fail
    generalize hVg : w.alloc (.cells #[.string n.name, .slice iA n.ins.length ic, .slice oA n.outs.length oc, .slice vA n.vars.length vc, .slice eA n.eqs.length ec, .int .i64 n.line, .int .i64 n.col] 61) = V at *
    have hV0 : w.heap.size + 1 = V.heap.size := by rw [← hVg]; simp
    have HVV := hid hVg
    clear hVg
    refine (all_new B b l [⟨#[110, 111, 100, 101, 32]⟩, n.name, ⟨#[40]⟩] _ _ _ _ V hW0 hV0 (by rfl) (by rfl) (by rw [joinB_3]; simp only [List.length_append, List.length_cons, List.length_nil]; omega) (by simp)).mono ?_
    rintro r w1 ⟨rfl, hW1, hK1⟩
    rw [joinB_3] at hW1
    have hX1 := hK1.other _ _ _ _ (by omega) (by decide) hX0
    have hK1' := hK0.trans hK1
    have hne : w.heap.size ≠ b := by omega
    clear hX0 hK0 hW0 hK1 hV0
    have c1 : w1.cell? ⟨w.heap.size, 1, none⟩ = some (.slice iA n.ins.length ic) := Lib.cell_of_heap hX1 1
    go_wp2_with fail
    clear c1
    refine (HVT.out w1 hK1'.below n.ins iA ic _ HN.out.ins (by omega) hW1 (by simp only [List.length_append, List.length_cons, List.length_nil]; omega)).mono ?_
    rintro r w2 ⟨rfl, hW2, hK2⟩
    have hX2 := hK2.other _ _ _ _ hne (by decide) hX1
    have hK2' := hK1'.trans hK2
    clear hX1 hK1' hK2 hW1
    go_wp2_with fail
    refine (all_new B b _ [⟨#[41, 32, 114, 101, 116, 117, 114, 110, 115, 32, 40]⟩] _ _ _ _ w2 hW2 (by rfl) (by rfl) (by rfl) (by rw [joinB_1]; simp only [List.length_append, List.length_cons, List.length_nil]; omega) (by simp)).mono ?_
    rintro r w3 ⟨rfl, hW3, hK3⟩
    rw [joinB_1] at hW3
    have hX3 := hK3.other _ _ _ _ hne (by decide) hX2
    have hK3' := hK2'.trans hK3
    clear hX2 hK2' hK3 hW2
    have c2 : w3.cell? ⟨w.heap.size, 2, none⟩ = some (.slice oA n.outs.length oc) := Lib.cell_of_heap hX3 2
    go_wp2_with fail
    clear c2
    refine (HVT.out w3 hK3'.below n.outs oA oc _ HN.out.outs (by omega) hW3 (by simp only [List.length_append, List.length_cons, List.length_nil]; omega)).mono ?_
    rintro r w4 ⟨rfl, hW4, hK4⟩
    have hX4 := hK4.other _ _ _ _ hne (by decide) hX3
    have hK4' := hK3'.trans hK4
    clear hX3 hK3' hK4 hW3
    go_wp2_with fail
    refine (all_new B b _ [⟨#[41, 59, 10]⟩] _ _ _ _ w4 hW4 (by rfl) (by rfl) (by rfl) (by rw [joinB_1]; simp only [List.length_append, List.length_cons, List.length_nil]; omega) (by simp)).mono ?_
    rintro r w5 ⟨rfl, hW5, hK5⟩
    rw [joinB_1] at hW5
    have hX5 := hK5.other _ _ _ _ hne (by decide) hX4
    have hK5' := hK4'.trans hK5
    have hH : Wr B b (l ++ nodeHead n) w5 := by unfold nodeHead; simpa using hW5
    have hHl : (nodeHead n).length = 5 + (n.name.data.toList.length + (1 + ((varsTxt n.ins).length + (11 + ((varsTxt n.outs).length + 3))))) := by unfold nodeHead; simp only [List.length_append, List.length_cons, List.length_nil]
    clear hX4 hK4' hK5 hW4 hW5
    have c3 : w5.cell? ⟨w.heap.size, 3, none⟩ = some (.slice vA n.vars.length vc) := Lib.cell_of_heap hX5 3
    go_wp2_with fail
    clear c3
    refine (all_new B b _ [⟨#[118, 97, 114, 10]⟩] _ _ _ _ w5 hH (by rfl) (by rfl) (by rfl) (by rw [joinB_1]; simp only [List.length_append, List.length_cons, List.length_nil]; omega) (by simp)).mono ?_
    rintro r w6 ⟨rfl, hW6, hK6⟩
    rw [joinB_1] at hW6
    have hX6 := hK6.other _ _ _ _ hne (by decide) hX5
    have hK6' := hK5'.trans hK6
    clear hX5 hK5' hK6 hH
    have c3 : w6.cell? ⟨w.heap.size, 3, none⟩ = some (.slice vA n.vars.length vc) := Lib.cell_of_heap hX6 3
    go_wp2_with fail
    clear c3
    go_loopw [38] (fun i wr => ∃ j : Nat, j ≤ n.vars.length ∧ i = .int .i64 j ∧ Wr B b (l ++ nodeHead n ++ [118, 97, 114, 10] ++ sepTo [] (atL lineTxt n.vars) j) wr ∧ Wkeep B b w wr ∧ wr.heap[w.heap.size]? = some (.cells #[.string n.name, .slice iA n.ins.length ic, .slice oA n.outs.length oc, .slice vA n.vars.length vc, .slice eA n.eqs.length ec, .int .i64 n.line, .int .i64 n.col] 61 (0, 0))) (fun i _ => n.vars.length - (intOf i).toNat)
    case atStart => exact ⟨0, by omega, rfl, by simpa [sepTo_zero] using hW6, hK6', hX6⟩
    case round =>
      clear hW6 hK6' hX6
      obtain ⟨j, hj, rfl, hWr, hK, hX⟩ := hrel
      by_cases hlt : j < n.vars.length
      · obtain ⟨b', o, hA, hb', S, hcells, hin⟩ := HN.out.vars j hlt
        simp only at hA
        subst hA
        obtain ⟨sA, sc⟩ := S
        have hcells' := hcells.keep (w' := wr) fun i => hK.below.cell (p := ⟨b', i, none⟩) (by simp; omega)
        have hin' := hin.keep (same_below (Nat.le_refl _) hK.below)
        obtain ⟨c0, c1, c2, c3, c4⟩ := hcells'
        have hle := sep_le [] lineTxt n.vars hlt
        have hll : (lineTxt n.vars[j]).length = (varTxt n.vars[j]).length + 4 := by unfold lineTxt; simp only [List.length_append, List.length_cons, List.length_nil]; omega
        rw [hll] at hle
        have hltr := hWr.lt
        have hler := hWr.le
        have hY0 : (wr.alloc (.cells #[.string n.vars[j].name, .int .i64 n.vars[j].type, .slice sA n.vars[j].clock.length sc, .int .i64 n.vars[j].line, .int .i64 n.vars[j].col] 103)).heap[wr.heap.size]? = some (.cells #[.string n.vars[j].name, .int .i64 n.vars[j].type, .slice sA n.vars[j].clock.length sc, .int .i64 n.vars[j].line, .int .i64 n.vars[j].col] 103 (0, 0)) := World.alloc_heap_new wr _
        have hJ0 : Wkeep B b wr (wr.alloc (.cells #[.string n.vars[j].name, .int .i64 n.vars[j].type, .slice sA n.vars[j].clock.length sc, .int .i64 n.vars[j].line, .int .i64 n.vars[j].col] 103)) := (Wkeep.refl _ _ _).alloc (by omega) _
        have hU0 := hWr.alloc (.cells #[.string n.vars[j].name, .int .i64 n.vars[j].type, .slice sA n.vars[j].clock.length sc, .int .i64 n.vars[j].line, .int .i64 n.vars[j].col] 103)
        clear hcells hin hll
        have hcv := fun W (h : Below B wr W) l' (hw : Wr B b l' W) (hl : l'.length + (varTxt n.vars[j]).length ≤ 140737488355328) => variable_wr n.vars[j] ⟨sA, sc⟩ B b l' W (hin'.keep (same_below (Nat.le_refl _) h)) hw hl
        unfold VarE.val Sl.v at hcv
        have HCV := hid hcv
        have hsl := sepL_flat lineTxt hlt
        have HS := hid hsl
        clear hcv hsl
        unfold Sl.v at c2
        go_wp2_with fail
        generalize hVg : wr.alloc (.cells #[.string n.vars[j].name, .int .i64 n.vars[j].type, .slice sA n.vars[j].clock.length sc, .int .i64 n.vars[j].line, .int .i64 n.vars[j].col] 103) = V1 at *
        have hV1 : wr.heap.size + 1 = V1.heap.size := by rw [← hVg]; simp
        have HVV1 := hid hVg
        clear hVg c0 c1 c2 c3 c4
        refine (all_new B b _ [⟨#[32, 32]⟩] _ _ _ _ V1 hU0 hV1 (by rfl) (by rfl) (by rw [joinB_1]; simp only [List.length_append, List.length_cons, List.length_nil]; omega) (by simp)).mono ?_
        rintro r w7 ⟨rfl, hW7, hK7⟩
        rw [joinB_1] at hW7
        have hY7 := hK7.other _ _ _ _ (by omega) (by decide) hY0
        have f0 : w7.cell? ⟨wr.heap.size, 0, none⟩ = some (.string n.vars[j].name) := Lib.cell_of_heap hY7 0
        have f1 : w7.cell? ⟨wr.heap.size, 1, none⟩ = some (.int .i64 n.vars[j].type) := Lib.cell_of_heap hY7 1
        have f2 : w7.cell? ⟨wr.heap.size, 2, none⟩ = some (.slice sA n.vars[j].clock.length sc) := Lib.cell_of_heap hY7 2
        have f3 : w7.cell? ⟨wr.heap.size, 3, none⟩ = some (.int .i64 n.vars[j].line) := Lib.cell_of_heap hY7 3
        have f4 : w7.cell? ⟨wr.heap.size, 4, none⟩ = some (.int .i64 n.vars[j].col) := Lib.cell_of_heap hY7 4
        go_wp2_with fail
        clear f0 f1 f2 f3 f4
        refine (HCV.out w7 (hJ0.trans hK7).below _ hW7 (by simp only [List.length_append, List.length_cons, List.length_nil]; omega)).mono ?_
        rintro r w8 ⟨rfl, hW8, hK8⟩
        go_wp2_with fail
        refine (all_new B b _ [⟨#[59, 10]⟩] _ _ _ _ w8 hW8 (by rfl) (by rfl) (by rfl) (by rw [joinB_1]; simp only [List.length_append, List.length_cons, List.length_nil]; omega) (by simp)).mono ?_
        rintro r w9 ⟨rfl, hW9, hK9⟩
        rw [joinB_1] at hW9
        have hKK := hJ0.trans (hK7.trans (hK8.trans hK9))
        go_wp2_with fail
        go_roundw
        case rel => exact ⟨j + 1, by omega, by go_num, by rw [HS.out, lineTxt_eq]; simpa using hW9, hK.trans hKK, hKK.other _ _ _ _ hne (by decide) hX⟩
        case measure => simp [intOf]; omega
      · have : j = n.vars.length := by omega
        subst this
        have hWv : Wr B b (l ++ nodeHead n ++ nodeVars n) wr := by unfold nodeVars; rw [if_pos hv0]; simpa using hWr
        clear hWr
        go_wp2_with fail
        refine (all_new B b _ [⟨#[108, 101, 116, 10]⟩] _ _ _ _ wr hWv (by rfl) (by rfl) (by rfl) (by rw [joinB_1]; simp only [List.length_append, List.length_cons, List.length_nil]; omega) (by simp)).mono ?_
        rintro r u1 ⟨rfl, hWu, hKu⟩
        rw [joinB_1] at hWu
        have hXu := hKu.other _ _ _ _ hne (by decide) hX
        have hKu' := hK.trans hKu
        clear hX hK hKu hWv
        have c4 : u1.cell? ⟨w.heap.size, 4, none⟩ = some (.slice eA n.eqs.length ec) := Lib.cell_of_heap hXu 4
        go_wp2_with fail
        clear c4
        obtain ⟨T0, hT0⟩ : ∃ T0, T0 = l ++ nodeHead n ++ nodeVars n ++ [108, 101, 116, 10] := ⟨_, rfl⟩
        rw [← hT0] at hWu
        have hT0l : T0.length + ((sepTo [] (atL eqTxt n.eqs) n.eqs.length).length + 4) ≤ 140737488355328 := by rw [hT0]; simp only [List.length_append, List.length_cons, List.length_nil]; omega
        have HT0 := hid hT0
        clear hT0 hlen hHl
        go_loopw [7, 8, 58] (fun _ _ i wq => ∃ j : Nat, j ≤ n.eqs.length ∧ i = .int .i64 j ∧ Wr B b (T0 ++ sepTo [] (atL eqTxt n.eqs) j) wq ∧ Wkeep B b w wq) (fun _ _ i _ => n.eqs.length - (intOf i).toNat)
        case atStart => exact ⟨0, by omega, rfl, by simpa [sepTo_zero] using hWu, hKu'⟩
        case round =>
          clear hWu hKu' hXu
          obtain ⟨j, hj, rfl, hWr, hK⟩ := hrel
          by_cases hlt : j < n.eqs.length
          · obtain ⟨b', o, hA, hb', S, rA, rc, hcells, hin⟩ := HN.out.eqs j hlt
            simp only at hA
            subst hA
            obtain ⟨sA, sc⟩ := S
            have hcells' := hcells.keep (w' := wr) fun i => hK.below.cell (p := ⟨b', i, none⟩) (by simp; omega)
            have hin' := hin.keep (same_below (Nat.le_refl _) hK.below)
            obtain ⟨c0, c1, c2, c3, c4, c5, c6, c7, c8⟩ := hcells'
            have hqj := HQ.out j hlt
            unfold eqB at hqj
            simp only [Bool.and_eq_true, decide_eq_true_eq] at hqj
            obtain ⟨⟨⟨_, hl1⟩, hl8⟩, hrr⟩ := hqj
            have hrok := ok_of_right hin'.right hrr
            have hle := sep_le [] eqTxt n.eqs hlt
            have hll : (eqTxt n.eqs[j]).length = (leftTxt n.eqs[j].left).length + (n.eqs[j].right.txt 0).length + 7 := by unfold eqTxt; simp only [List.length_append, List.length_cons, List.length_nil]; omega
            rw [hll] at hle
            have hnl := left_len n.eqs[j].left
            have hltr := hWr.lt
            have hler := hWr.le
            obtain ⟨lb, lo, hlA, hl0⟩ := hin'.left 0 (by omega)
            simp only at hlA
            subst hlA
            have hlb : lb < B := hl0.1
            have hjc : ∀ W, Below B wr W → ∀ (i : Nat) x, n.eqs[j].left[i]? = some x → W.cell? ⟨lb, lo + i, none⟩ = some (.string x) := fun W h i x hx => by
              obtain ⟨hi, hxe⟩ := List.getElem?_eq_some_iff.1 hx
              obtain ⟨b2, o2, hA2, hs2⟩ := hin'.left i hi
              injection hA2 with hA2
              injection hA2 with e1 e2
              subst e1 e2
              rw [← hxe, h.cell (p := ⟨lb, lo + i, none⟩) hlb]
              simpa using hs2.2.2
            have hjn := fun W (h : Below B wr W) => Tryz.strings_Join lb lo sc n.eqs[j].left ⟨#[44, 32]⟩ W (hjc W h) (by have := h.size; omega) (by omega) (by have := hin'.fits.1; simpa using this) (by rw [show (⟨#[44, 32]⟩ : ByteArray).data.toList = [44, 32] from rfl, join_names]; omega)
            rw [show (⟨#[44, 32]⟩ : ByteArray).data.toList = [44, 32] from rfl, join_names] at hjn
            have HJN := hid hjn
            have hY0 : (wr.alloc (.cells #[.slice (some ⟨lb, lo, none⟩) n.eqs[j].left.length sc, .int .i64 n.eqs[j].right.op, .string n.eqs[j].right.name, .int .i64 n.eqs[j].right.num, .slice rA n.eqs[j].right.k rc, .int .i64 n.eqs[j].right.line, .int .i64 n.eqs[j].right.col, .int .i64 n.eqs[j].line, .int .i64 n.eqs[j].col] 79)).heap[wr.heap.size]? = some (.cells #[.slice (some ⟨lb, lo, none⟩) n.eqs[j].left.length sc, .int .i64 n.eqs[j].right.op, .string n.eqs[j].right.name, .int .i64 n.eqs[j].right.num, .slice rA n.eqs[j].right.k rc, .int .i64 n.eqs[j].right.line, .int .i64 n.eqs[j].right.col, .int .i64 n.eqs[j].line, .int .i64 n.eqs[j].col] 79 (0, 0)) := World.alloc_heap_new wr _
            have hJ0 : Wkeep B b wr (wr.alloc (.cells #[.slice (some ⟨lb, lo, none⟩) n.eqs[j].left.length sc, .int .i64 n.eqs[j].right.op, .string n.eqs[j].right.name, .int .i64 n.eqs[j].right.num, .slice rA n.eqs[j].right.k rc, .int .i64 n.eqs[j].right.line, .int .i64 n.eqs[j].right.col, .int .i64 n.eqs[j].line, .int .i64 n.eqs[j].col] 79)) := (Wkeep.refl _ _ _).alloc (by omega) _
            have hU0 := hWr.alloc (.cells #[.slice (some ⟨lb, lo, none⟩) n.eqs[j].left.length sc, .int .i64 n.eqs[j].right.op, .string n.eqs[j].right.name, .int .i64 n.eqs[j].right.num, .slice rA n.eqs[j].right.k rc, .int .i64 n.eqs[j].right.line, .int .i64 n.eqs[j].right.col, .int .i64 n.eqs[j].line, .int .i64 n.eqs[j].col] 79)
            have hxw := fun W (h : Below B wr W) l' (hw : Wr B b l' W) (hl : l'.length + (n.eqs[j].right.txt 0).length ≤ 140737488355328) => expr_wr n.eqs[j].right hrok B b l' rA rc 0 W (ExAt.keep (same_below (Nat.le_refl _) h) _ _ _ hin'.right) hrok hw ((hT.below hK.below hB3).below h hB3) hB3 hl
            unfold Ex.val at hxw
            have HXW := hid hxw
            have hsl := sepL_flat eqTxt hlt
            have HS := hid hsl
            clear hcells hin hll hjc hjn hxw hsl hl0 hrr hrok
            unfold Sl.v at c0
            have g0 : (wr.alloc (.cells #[.slice (some ⟨lb, lo, none⟩) n.eqs[j].left.length sc, .int .i64 n.eqs[j].right.op, .string n.eqs[j].right.name, .int .i64 n.eqs[j].right.num, .slice rA n.eqs[j].right.k rc, .int .i64 n.eqs[j].right.line, .int .i64 n.eqs[j].right.col, .int .i64 n.eqs[j].line, .int .i64 n.eqs[j].col] 79)).cell? ⟨wr.heap.size, 0, none⟩ = some (.slice (some ⟨lb, lo, none⟩) n.eqs[j].left.length sc) := Lib.cell_of_heap hY0 0
            go_wp2_with fail
            clear c0 c1 c2 c3 c4 c5 c6 c7 c8
            refine (HJN.out _ hJ0.below).mono ?_
            rintro r q1 ⟨rfl, hbq⟩
            have hzq := hU0.lt
            have hKq : Wkeep B b (wr.alloc (.cells #[.slice (some ⟨lb, lo, none⟩) n.eqs[j].left.length sc, .int .i64 n.eqs[j].right.op, .string n.eqs[j].right.name, .int .i64 n.eqs[j].right.num, .slice rA n.eqs[j].right.k rc, .int .i64 n.eqs[j].right.line, .int .i64 n.eqs[j].right.col, .int .i64 n.eqs[j].line, .int .i64 n.eqs[j].col] 79)) q1 := Wkeep.of_below hbq (by omega)
            have hWq := hU0.below hbq
            have hYq := hKq.other _ _ _ _ (by omega) (by decide) hY0
            have hJq := hJ0.trans hKq
            clear g0 hY0 hJ0 hU0 hbq hKq hzq
            have g0 : q1.cell? ⟨wr.heap.size, 0, none⟩ = some (.slice (some ⟨lb, lo, none⟩) n.eqs[j].left.length sc) := Lib.cell_of_heap hYq 0
            by_cases hmany : 1 < n.eqs[j].left.length
            · have HL : Hid (leftTxt n.eqs[j].left = ((⟨#[40]⟩ ++ ⟨(namesTxt n.eqs[j].left).toArray⟩ ++ ⟨#[41]⟩ : ByteArray)).data.toList) := by show _ = _; unfold leftTxt; rw [if_pos hmany]; simp
              have hLl : (((⟨#[40]⟩ ++ ⟨(namesTxt n.eqs[j].left).toArray⟩ ++ ⟨#[41]⟩ : ByteArray)).data.toList).length = (leftTxt n.eqs[j].left).length := by rw [HL.out]
              have hns : (⟨(namesTxt n.eqs[j].left).toArray⟩ : ByteArray).size = (namesTxt n.eqs[j].left).length := rfl
              go_wp2_with fail
              clear g0
              refine (all_new B b _ [⟨#[32, 32]⟩, ⟨#[40]⟩ ++ ⟨(namesTxt n.eqs[j].left).toArray⟩ ++ ⟨#[41]⟩, ⟨#[32, 61, 32]⟩] _ _ _ _ q1 hWq (by rfl) (by rfl) (by rfl) (by rw [joinB_3, List.length_append, List.length_append, List.length_append, hLl]; simp only [List.length_cons, List.length_nil]; omega) (by simp)).mono ?_
              rintro r q2 ⟨rfl, hW2, hK2⟩
              rw [joinB_3, ← HL.out] at hW2
              have hY2 := hK2.other _ _ _ _ (by omega) (by decide) hYq
              have f1 : q2.cell? ⟨wr.heap.size, 1, none⟩ = some (.int .i64 n.eqs[j].right.op) := Lib.cell_of_heap hY2 1
              have f2 : q2.cell? ⟨wr.heap.size, 2, none⟩ = some (.string n.eqs[j].right.name) := Lib.cell_of_heap hY2 2
              have f3 : q2.cell? ⟨wr.heap.size, 3, none⟩ = some (.int .i64 n.eqs[j].right.num) := Lib.cell_of_heap hY2 3
              have f4 : q2.cell? ⟨wr.heap.size, 4, none⟩ = some (.slice rA n.eqs[j].right.k rc) := Lib.cell_of_heap hY2 4
              have f5 : q2.cell? ⟨wr.heap.size, 5, none⟩ = some (.int .i64 n.eqs[j].right.line) := Lib.cell_of_heap hY2 5
              have f6 : q2.cell? ⟨wr.heap.size, 6, none⟩ = some (.int .i64 n.eqs[j].right.col) := Lib.cell_of_heap hY2 6
              go_wp2_with fail
              clear f1 f2 f3 f4 f5 f6
              refine (HXW.out q2 (hJq.trans hK2).below _ hW2 (by simp only [List.length_append, List.length_cons, List.length_nil]; omega)).mono ?_
              rintro r q3 ⟨rfl, hW3, hK3⟩
              go_wp2_with fail
              refine (all_new B b _ [⟨#[59, 10]⟩] _ _ _ _ q3 hW3 (by rfl) (by rfl) (by rfl) (by rw [joinB_1]; simp only [List.length_append, List.length_cons, List.length_nil]; omega) (by simp)).mono ?_
              rintro r q4 ⟨rfl, hW4, hK4⟩
              rw [joinB_1] at hW4
              go_wp2_with fail
              go_roundw
              case rel => exact ⟨j + 1, by omega, by go_num, by rw [HS.out, eqTxt_eq]; simpa using hW4, hK.trans (hJq.trans (hK2.trans (hK3.trans hK4)))⟩
              case measure => simp [intOf]; omega
            · have HL : Hid (leftTxt n.eqs[j].left = ((⟨(namesTxt n.eqs[j].left).toArray⟩ : ByteArray)).data.toList) := by show _ = _; unfold leftTxt; rw [if_neg hmany]
              have hLl : (((⟨(namesTxt n.eqs[j].left).toArray⟩ : ByteArray)).data.toList).length = (leftTxt n.eqs[j].left).length := by rw [HL.out]
              have hns : (⟨(namesTxt n.eqs[j].left).toArray⟩ : ByteArray).size = (namesTxt n.eqs[j].left).length := rfl
              go_wp2_with fail
              clear g0
              refine (all_new B b _ [⟨#[32, 32]⟩, ⟨(namesTxt n.eqs[j].left).toArray⟩, ⟨#[32, 61, 32]⟩] _ _ _ _ q1 hWq (by rfl) (by rfl) (by rfl) (by rw [joinB_3, List.length_append, List.length_append, List.length_append, hLl]; simp only [List.length_cons, List.length_nil]; omega) (by simp)).mono ?_
              rintro r q2 ⟨rfl, hW2, hK2⟩
              rw [joinB_3, ← HL.out] at hW2
              have hY2 := hK2.other _ _ _ _ (by omega) (by decide) hYq
              have f1 : q2.cell? ⟨wr.heap.size, 1, none⟩ = some (.int .i64 n.eqs[j].right.op) := Lib.cell_of_heap hY2 1
              have f2 : q2.cell? ⟨wr.heap.size, 2, none⟩ = some (.string n.eqs[j].right.name) := Lib.cell_of_heap hY2 2
              have f3 : q2.cell? ⟨wr.heap.size, 3, none⟩ = some (.int .i64 n.eqs[j].right.num) := Lib.cell_of_heap hY2 3
              have f4 : q2.cell? ⟨wr.heap.size, 4, none⟩ = some (.slice rA n.eqs[j].right.k rc) := Lib.cell_of_heap hY2 4
              have f5 : q2.cell? ⟨wr.heap.size, 5, none⟩ = some (.int .i64 n.eqs[j].right.line) := Lib.cell_of_heap hY2 5
              have f6 : q2.cell? ⟨wr.heap.size, 6, none⟩ = some (.int .i64 n.eqs[j].right.col) := Lib.cell_of_heap hY2 6
              go_wp2_with fail
              clear f1 f2 f3 f4 f5 f6
              refine (HXW.out q2 (hJq.trans hK2).below _ hW2 (by simp only [List.length_append, List.length_cons, List.length_nil]; omega)).mono ?_
              rintro r q3 ⟨rfl, hW3, hK3⟩
              go_wp2_with fail
              refine (all_new B b _ [⟨#[59, 10]⟩] _ _ _ _ q3 hW3 (by rfl) (by rfl) (by rfl) (by rw [joinB_1]; simp only [List.length_append, List.length_cons, List.length_nil]; omega) (by simp)).mono ?_
              rintro r q4 ⟨rfl, hW4, hK4⟩
              rw [joinB_1] at hW4
              go_wp2_with fail
              go_roundw
              case rel => exact ⟨j + 1, by omega, by go_num, by rw [HS.out, eqTxt_eq]; simpa using hW4, hK.trans (hJq.trans (hK2.trans (hK3.trans hK4)))⟩
              case measure => simp [intOf]; omega
          · have : j = n.eqs.length := by omega
            subst this
            go_wp2_with fail
            refine (all_new B b _ [⟨#[116, 101, 108, 10]⟩] _ _ _ _ wr hWr (by rfl) (by rfl) (by rfl) (by rw [joinB_1]; simp only [List.length_append, List.length_cons, List.length_nil]; omega) (by simp)).mono ?_
            rintro r z1 ⟨rfl, hWz, hKz⟩
            rw [joinB_1] at hWz
            go_wp2_with fail
            go_end0
            refine ⟨rfl, ?_, hK.trans hKz⟩
            rw [HT0.out] at hWz
            unfold nodeTxt
            simpa using hWz
  · have hnv : (nodeVars n).length = (sepTo [] (atL lineTxt n.vars) n.vars.length).length := by unfold nodeVars; rw [if_neg hv0]; rfl
    rw [hnv] at hlen
    go_enter Tryz.func27, Tryz.ntmps27
    go_wp2_with fail
    generalize hVg : w.alloc (.cells #[.string n.name, .slice iA n.ins.length ic, .slice oA n.outs.length oc, .slice vA n.vars.length vc, .slice eA n.eqs.length ec, .int .i64 n.line, .int .i64 n.col] 61) = V at *
    have hV0 : w.heap.size + 1 = V.heap.size := by rw [← hVg]; simp
    have HVV := hid hVg
    clear hVg
    refine (all_new B b l [⟨#[110, 111, 100, 101, 32]⟩, n.name, ⟨#[40]⟩] _ _ _ _ V hW0 hV0 (by rfl) (by rfl) (by rw [joinB_3]; simp only [List.length_append, List.length_cons, List.length_nil]; omega) (by simp)).mono ?_
    rintro r w1 ⟨rfl, hW1, hK1⟩
    rw [joinB_3] at hW1
    have hX1 := hK1.other _ _ _ _ (by omega) (by decide) hX0
    have hK1' := hK0.trans hK1
    have hne : w.heap.size ≠ b := by omega
    clear hX0 hK0 hW0 hK1 hV0
    have c1 : w1.cell? ⟨w.heap.size, 1, none⟩ = some (.slice iA n.ins.length ic) := Lib.cell_of_heap hX1 1
    go_wp2_with fail
    clear c1
    refine (HVT.out w1 hK1'.below n.ins iA ic _ HN.out.ins (by omega) hW1 (by simp only [List.length_append, List.length_cons, List.length_nil]; omega)).mono ?_
    rintro r w2 ⟨rfl, hW2, hK2⟩
    have hX2 := hK2.other _ _ _ _ hne (by decide) hX1
    have hK2' := hK1'.trans hK2
    clear hX1 hK1' hK2 hW1
    go_wp2_with fail
    refine (all_new B b _ [⟨#[41, 32, 114, 101, 116, 117, 114, 110, 115, 32, 40]⟩] _ _ _ _ w2 hW2 (by rfl) (by rfl) (by rfl) (by rw [joinB_1]; simp only [List.length_append, List.length_cons, List.length_nil]; omega) (by simp)).mono ?_
    rintro r w3 ⟨rfl, hW3, hK3⟩
    rw [joinB_1] at hW3
    have hX3 := hK3.other _ _ _ _ hne (by decide) hX2
    have hK3' := hK2'.trans hK3
    clear hX2 hK2' hK3 hW2
    have c2 : w3.cell? ⟨w.heap.size, 2, none⟩ = some (.slice oA n.outs.length oc) := Lib.cell_of_heap hX3 2
    go_wp2_with fail
    clear c2
    refine (HVT.out w3 hK3'.below n.outs oA oc _ HN.out.outs (by omega) hW3 (by simp only [List.length_append, List.length_cons, List.length_nil]; omega)).mono ?_
    rintro r w4 ⟨rfl, hW4, hK4⟩
    have hX4 := hK4.other _ _ _ _ hne (by decide) hX3
    have hK4' := hK3'.trans hK4
    clear hX3 hK3' hK4 hW3
    go_wp2_with fail
    refine (all_new B b _ [⟨#[41, 59, 10]⟩] _ _ _ _ w4 hW4 (by rfl) (by rfl) (by rfl) (by rw [joinB_1]; simp only [List.length_append, List.length_cons, List.length_nil]; omega) (by simp)).mono ?_
    rintro r w5 ⟨rfl, hW5, hK5⟩
    rw [joinB_1] at hW5
    have hX5 := hK5.other _ _ _ _ hne (by decide) hX4
    have hK5' := hK4'.trans hK5
    have hH : Wr B b (l ++ nodeHead n) w5 := by unfold nodeHead; simpa using hW5
    have hHl : (nodeHead n).length = 5 + (n.name.data.toList.length + (1 + ((varsTxt n.ins).length + (11 + ((varsTxt n.outs).length + 3))))) := by unfold nodeHead; simp only [List.length_append, List.length_cons, List.length_nil]
    clear hX4 hK4' hK5 hW4 hW5
    have c3 : w5.cell? ⟨w.heap.size, 3, none⟩ = some (.slice vA n.vars.length vc) := Lib.cell_of_heap hX5 3
    go_wp2_with fail
    clear c3
    go_loopw [38] (fun i wr => ∃ j : Nat, j ≤ n.vars.length ∧ i = .int .i64 j ∧ Wr B b (l ++ nodeHead n ++ ([] : List UInt8) ++ sepTo [] (atL lineTxt n.vars) j) wr ∧ Wkeep B b w wr ∧ wr.heap[w.heap.size]? = some (.cells #[.string n.name, .slice iA n.ins.length ic, .slice oA n.outs.length oc, .slice vA n.vars.length vc, .slice eA n.eqs.length ec, .int .i64 n.line, .int .i64 n.col] 61 (0, 0))) (fun i _ => n.vars.length - (intOf i).toNat)
    case atStart => exact ⟨0, by omega, rfl, by simpa [sepTo_zero] using hH, hK5', hX5⟩
    case round =>
      clear hH hK5' hX5
      obtain ⟨j, hj, rfl, hWr, hK, hX⟩ := hrel
      by_cases hlt : j < n.vars.length
      · exfalso; omega
      · have : j = n.vars.length := by omega
        subst this
        have hWv : Wr B b (l ++ nodeHead n ++ nodeVars n) wr := by unfold nodeVars; rw [if_neg hv0]; simpa using hWr
        clear hWr
        go_wp2_with fail
        refine (all_new B b _ [⟨#[108, 101, 116, 10]⟩] _ _ _ _ wr hWv (by rfl) (by rfl) (by rfl) (by rw [joinB_1]; simp only [List.length_append, List.length_cons, List.length_nil]; omega) (by simp)).mono ?_
        rintro r u1 ⟨rfl, hWu, hKu⟩
        rw [joinB_1] at hWu
        have hXu := hKu.other _ _ _ _ hne (by decide) hX
        have hKu' := hK.trans hKu
        clear hX hK hKu hWv
        have c4 : u1.cell? ⟨w.heap.size, 4, none⟩ = some (.slice eA n.eqs.length ec) := Lib.cell_of_heap hXu 4
        go_wp2_with fail
        clear c4
        obtain ⟨T0, hT0⟩ : ∃ T0, T0 = l ++ nodeHead n ++ nodeVars n ++ [108, 101, 116, 10] := ⟨_, rfl⟩
        rw [← hT0] at hWu
        have hT0l : T0.length + ((sepTo [] (atL eqTxt n.eqs) n.eqs.length).length + 4) ≤ 140737488355328 := by rw [hT0]; simp only [List.length_append, List.length_cons, List.length_nil]; omega
        have HT0 := hid hT0
        clear hT0 hlen hHl
        go_loopw [7, 8, 58] (fun _ _ i wq => ∃ j : Nat, j ≤ n.eqs.length ∧ i = .int .i64 j ∧ Wr B b (T0 ++ sepTo [] (atL eqTxt n.eqs) j) wq ∧ Wkeep B b w wq) (fun _ _ i _ => n.eqs.length - (intOf i).toNat)
        case atStart => exact ⟨0, by omega, rfl, by simpa [sepTo_zero] using hWu, hKu'⟩
        case round =>
          clear hWu hKu' hXu
          obtain ⟨j, hj, rfl, hWr, hK⟩ := hrel
          by_cases hlt : j < n.eqs.length
          · obtain ⟨b', o, hA, hb', S, rA, rc, hcells, hin⟩ := HN.out.eqs j hlt
            simp only at hA
            subst hA
            obtain ⟨sA, sc⟩ := S
            have hcells' := hcells.keep (w' := wr) fun i => hK.below.cell (p := ⟨b', i, none⟩) (by simp; omega)
            have hin' := hin.keep (same_below (Nat.le_refl _) hK.below)
            obtain ⟨c0, c1, c2, c3, c4, c5, c6, c7, c8⟩ := hcells'
            have hqj := HQ.out j hlt
            unfold eqB at hqj
            simp only [Bool.and_eq_true, decide_eq_true_eq] at hqj
            obtain ⟨⟨⟨_, hl1⟩, hl8⟩, hrr⟩ := hqj
            have hrok := ok_of_right hin'.right hrr
            have hle := sep_le [] eqTxt n.eqs hlt
            have hll : (eqTxt n.eqs[j]).length = (leftTxt n.eqs[j].left).length + (n.eqs[j].right.txt 0).length + 7 := by unfold eqTxt; simp only [List.length_append, List.length_cons, List.length_nil]; omega
            rw [hll] at hle
            have hnl := left_len n.eqs[j].left
            have hltr := hWr.lt
            have hler := hWr.le
            obtain ⟨lb, lo, hlA, hl0⟩ := hin'.left 0 (by omega)
            simp only at hlA
            subst hlA
            have hlb : lb < B := hl0.1
            have hjc : ∀ W, Below B wr W → ∀ (i : Nat) x, n.eqs[j].left[i]? = some x → W.cell? ⟨lb, lo + i, none⟩ = some (.string x) := fun W h i x hx => by
              obtain ⟨hi, hxe⟩ := List.getElem?_eq_some_iff.1 hx
              obtain ⟨b2, o2, hA2, hs2⟩ := hin'.left i hi
              injection hA2 with hA2
              injection hA2 with e1 e2
              subst e1 e2
              rw [← hxe, h.cell (p := ⟨lb, lo + i, none⟩) hlb]
              simpa using hs2.2.2
            have hjn := fun W (h : Below B wr W) => Tryz.strings_Join lb lo sc n.eqs[j].left ⟨#[44, 32]⟩ W (hjc W h) (by have := h.size; omega) (by omega) (by have := hin'.fits.1; simpa using this) (by rw [show (⟨#[44, 32]⟩ : ByteArray).data.toList = [44, 32] from rfl, join_names]; omega)
            rw [show (⟨#[44, 32]⟩ : ByteArray).data.toList = [44, 32] from rfl, join_names] at hjn
            have HJN := hid hjn
            have hY0 : (wr.alloc (.cells #[.slice (some ⟨lb, lo, none⟩) n.eqs[j].left.length sc, .int .i64 n.eqs[j].right.op, .string n.eqs[j].right.name, .int .i64 n.eqs[j].right.num, .slice rA n.eqs[j].right.k rc, .int .i64 n.eqs[j].right.line, .int .i64 n.eqs[j].right.col, .int .i64 n.eqs[j].line, .int .i64 n.eqs[j].col] 79)).heap[wr.heap.size]? = some (.cells #[.slice (some ⟨lb, lo, none⟩) n.eqs[j].left.length sc, .int .i64 n.eqs[j].right.op, .string n.eqs[j].right.name, .int .i64 n.eqs[j].right.num, .slice rA n.eqs[j].right.k rc, .int .i64 n.eqs[j].right.line, .int .i64 n.eqs[j].right.col, .int .i64 n.eqs[j].line, .int .i64 n.eqs[j].col] 79 (0, 0)) := World.alloc_heap_new wr _
            have hJ0 : Wkeep B b wr (wr.alloc (.cells #[.slice (some ⟨lb, lo, none⟩) n.eqs[j].left.length sc, .int .i64 n.eqs[j].right.op, .string n.eqs[j].right.name, .int .i64 n.eqs[j].right.num, .slice rA n.eqs[j].right.k rc, .int .i64 n.eqs[j].right.line, .int .i64 n.eqs[j].right.col, .int .i64 n.eqs[j].line, .int .i64 n.eqs[j].col] 79)) := (Wkeep.refl _ _ _).alloc (by omega) _
            have hU0 := hWr.alloc (.cells #[.slice (some ⟨lb, lo, none⟩) n.eqs[j].left.length sc, .int .i64 n.eqs[j].right.op, .string n.eqs[j].right.name, .int .i64 n.eqs[j].right.num, .slice rA n.eqs[j].right.k rc, .int .i64 n.eqs[j].right.line, .int .i64 n.eqs[j].right.col, .int .i64 n.eqs[j].line, .int .i64 n.eqs[j].col] 79)
            have hxw := fun W (h : Below B wr W) l' (hw : Wr B b l' W) (hl : l'.length + (n.eqs[j].right.txt 0).length ≤ 140737488355328) => expr_wr n.eqs[j].right hrok B b l' rA rc 0 W (ExAt.keep (same_below (Nat.le_refl _) h) _ _ _ hin'.right) hrok hw ((hT.below hK.below hB3).below h hB3) hB3 hl
            unfold Ex.val at hxw
            have HXW := hid hxw
            have hsl := sepL_flat eqTxt hlt
            have HS := hid hsl
            clear hcells hin hll hjc hjn hxw hsl hl0 hrr hrok
            unfold Sl.v at c0
            have g0 : (wr.alloc (.cells #[.slice (some ⟨lb, lo, none⟩) n.eqs[j].left.length sc, .int .i64 n.eqs[j].right.op, .string n.eqs[j].right.name, .int .i64 n.eqs[j].right.num, .slice rA n.eqs[j].right.k rc, .int .i64 n.eqs[j].right.line, .int .i64 n.eqs[j].right.col, .int .i64 n.eqs[j].line, .int .i64 n.eqs[j].col] 79)).cell? ⟨wr.heap.size, 0, none⟩ = some (.slice (some ⟨lb, lo, none⟩) n.eqs[j].left.length sc) := Lib.cell_of_heap hY0 0
            go_wp2_with fail
            clear c0 c1 c2 c3 c4 c5 c6 c7 c8
            refine (HJN.out _ hJ0.below).mono ?_
            rintro r q1 ⟨rfl, hbq⟩
            have hzq := hU0.lt
            have hKq : Wkeep B b (wr.alloc (.cells #[.slice (some ⟨lb, lo, none⟩) n.eqs[j].left.length sc, .int .i64 n.eqs[j].right.op, .string n.eqs[j].right.name, .int .i64 n.eqs[j].right.num, .slice rA n.eqs[j].right.k rc, .int .i64 n.eqs[j].right.line, .int .i64 n.eqs[j].right.col, .int .i64 n.eqs[j].line, .int .i64 n.eqs[j].col] 79)) q1 := Wkeep.of_below hbq (by omega)
            have hWq := hU0.below hbq
            have hYq := hKq.other _ _ _ _ (by omega) (by decide) hY0
            have hJq := hJ0.trans hKq
            clear g0 hY0 hJ0 hU0 hbq hKq hzq
            have g0 : q1.cell? ⟨wr.heap.size, 0, none⟩ = some (.slice (some ⟨lb, lo, none⟩) n.eqs[j].left.length sc) := Lib.cell_of_heap hYq 0
            by_cases hmany : 1 < n.eqs[j].left.length
            · have HL : Hid (leftTxt n.eqs[j].left = ((⟨#[40]⟩ ++ ⟨(namesTxt n.eqs[j].left).toArray⟩ ++ ⟨#[41]⟩ : ByteArray)).data.toList) := by show _ = _; unfold leftTxt; rw [if_pos hmany]; simp
              have hLl : (((⟨#[40]⟩ ++ ⟨(namesTxt n.eqs[j].left).toArray⟩ ++ ⟨#[41]⟩ : ByteArray)).data.toList).length = (leftTxt n.eqs[j].left).length := by rw [HL.out]
              have hns : (⟨(namesTxt n.eqs[j].left).toArray⟩ : ByteArray).size = (namesTxt n.eqs[j].left).length := rfl
              go_wp2_with fail
              clear g0
              refine (all_new B b _ [⟨#[32, 32]⟩, ⟨#[40]⟩ ++ ⟨(namesTxt n.eqs[j].left).toArray⟩ ++ ⟨#[41]⟩, ⟨#[32, 61, 32]⟩] _ _ _ _ q1 hWq (by rfl) (by rfl) (by rfl) (by rw [joinB_3, List.length_append, List.length_append, List.length_append, hLl]; simp only [List.length_cons, List.length_nil]; omega) (by simp)).mono ?_
              rintro r q2 ⟨rfl, hW2, hK2⟩
              rw [joinB_3, ← HL.out] at hW2
              have hY2 := hK2.other _ _ _ _ (by omega) (by decide) hYq
              have f1 : q2.cell? ⟨wr.heap.size, 1, none⟩ = some (.int .i64 n.eqs[j].right.op) := Lib.cell_of_heap hY2 1
              have f2 : q2.cell? ⟨wr.heap.size, 2, none⟩ = some (.string n.eqs[j].right.name) := Lib.cell_of_heap hY2 2
              have f3 : q2.cell? ⟨wr.heap.size, 3, none⟩ = some (.int .i64 n.eqs[j].right.num) := Lib.cell_of_heap hY2 3
              have f4 : q2.cell? ⟨wr.heap.size, 4, none⟩ = some (.slice rA n.eqs[j].right.k rc) := Lib.cell_of_heap hY2 4
              have f5 : q2.cell? ⟨wr.heap.size, 5, none⟩ = some (.int .i64 n.eqs[j].right.line) := Lib.cell_of_heap hY2 5
              have f6 : q2.cell? ⟨wr.heap.size, 6, none⟩ = some (.int .i64 n.eqs[j].right.col) := Lib.cell_of_heap hY2 6
              go_wp2_with fail
              clear f1 f2 f3 f4 f5 f6
              refine (HXW.out q2 (hJq.trans hK2).below _ hW2 (by simp only [List.length_append, List.length_cons, List.length_nil]; omega)).mono ?_
              rintro r q3 ⟨rfl, hW3, hK3⟩
              go_wp2_with fail
              refine (all_new B b _ [⟨#[59, 10]⟩] _ _ _ _ q3 hW3 (by rfl) (by rfl) (by rfl) (by rw [joinB_1]; simp only [List.length_append, List.length_cons, List.length_nil]; omega) (by simp)).mono ?_
              rintro r q4 ⟨rfl, hW4, hK4⟩
              rw [joinB_1] at hW4
              go_wp2_with fail
              go_roundw
              case rel => exact ⟨j + 1, by omega, by go_num, by rw [HS.out, eqTxt_eq]; simpa using hW4, hK.trans (hJq.trans (hK2.trans (hK3.trans hK4)))⟩
              case measure => simp [intOf]; omega
            · have HL : Hid (leftTxt n.eqs[j].left = ((⟨(namesTxt n.eqs[j].left).toArray⟩ : ByteArray)).data.toList) := by show _ = _; unfold leftTxt; rw [if_neg hmany]
              have hLl : (((⟨(namesTxt n.eqs[j].left).toArray⟩ : ByteArray)).data.toList).length = (leftTxt n.eqs[j].left).length := by rw [HL.out]
              have hns : (⟨(namesTxt n.eqs[j].left).toArray⟩ : ByteArray).size = (namesTxt n.eqs[j].left).length := rfl
              go_wp2_with fail
              clear g0
              refine (all_new B b _ [⟨#[32, 32]⟩, ⟨(namesTxt n.eqs[j].left).toArray⟩, ⟨#[32, 61, 32]⟩] _ _ _ _ q1 hWq (by rfl) (by rfl) (by rfl) (by rw [joinB_3, List.length_append, List.length_append, List.length_append, hLl]; simp only [List.length_cons, List.length_nil]; omega) (by simp)).mono ?_
              rintro r q2 ⟨rfl, hW2, hK2⟩
              rw [joinB_3, ← HL.out] at hW2
              have hY2 := hK2.other _ _ _ _ (by omega) (by decide) hYq
              have f1 : q2.cell? ⟨wr.heap.size, 1, none⟩ = some (.int .i64 n.eqs[j].right.op) := Lib.cell_of_heap hY2 1
              have f2 : q2.cell? ⟨wr.heap.size, 2, none⟩ = some (.string n.eqs[j].right.name) := Lib.cell_of_heap hY2 2
              have f3 : q2.cell? ⟨wr.heap.size, 3, none⟩ = some (.int .i64 n.eqs[j].right.num) := Lib.cell_of_heap hY2 3
              have f4 : q2.cell? ⟨wr.heap.size, 4, none⟩ = some (.slice rA n.eqs[j].right.k rc) := Lib.cell_of_heap hY2 4
              have f5 : q2.cell? ⟨wr.heap.size, 5, none⟩ = some (.int .i64 n.eqs[j].right.line) := Lib.cell_of_heap hY2 5
              have f6 : q2.cell? ⟨wr.heap.size, 6, none⟩ = some (.int .i64 n.eqs[j].right.col) := Lib.cell_of_heap hY2 6
              go_wp2_with fail
              clear f1 f2 f3 f4 f5 f6
              refine (HXW.out q2 (hJq.trans hK2).below _ hW2 (by simp only [List.length_append, List.length_cons, List.length_nil]; omega)).mono ?_
              rintro r q3 ⟨rfl, hW3, hK3⟩
              go_wp2_with fail
              refine (all_new B b _ [⟨#[59, 10]⟩] _ _ _ _ q3 hW3 (by rfl) (by rfl) (by rfl) (by rw [joinB_1]; simp only [List.length_append, List.length_cons, List.length_nil]; omega) (by simp)).mono ?_
              rintro r q4 ⟨rfl, hW4, hK4⟩
              rw [joinB_1] at hW4
              go_wp2_with fail
              go_roundw
              case rel => exact ⟨j + 1, by omega, by go_num, by rw [HS.out, eqTxt_eq]; simpa using hW4, hK.trans (hJq.trans (hK2.trans (hK3.trans hK4)))⟩
              case measure => simp [intOf]; omega
          · have : j = n.eqs.length := by omega
            subst this
            go_wp2_with fail
            refine (all_new B b _ [⟨#[116, 101, 108, 10]⟩] _ _ _ _ wr hWr (by rfl) (by rfl) (by rfl) (by rw [joinB_1]; simp only [List.length_append, List.length_cons, List.length_nil]; omega) (by simp)).mono ?_
            rintro r z1 ⟨rfl, hWz, hKz⟩
            rw [joinB_1] at hWz
            go_wp2_with fail
            go_end0
            refine ⟨rfl, ?_, hK.trans hKz⟩
            rw [HT0.out] at hWz
            unfold nodeTxt
            simpa using hWz
end Go.Proofs.YtnlikhjmmnaknaaGreatDoor
/-
  The walk of show.Source.
-/
namespace Go.Proofs.YtnlikhjmmnaknaaGreatDoor
open Go.RowKit

/-- what show.Source says: a text, an error -/
def shownS (s : List NodeE) : ByteArray × Int := if srcB s = true then (if fitsT (srcTxt s) = true then (⟨(srcTxt s).toArray⟩, 0) else (⟨#[]⟩, 3)) else (⟨#[]⟩, 2)
theorem nodeTxt_ne (n : NodeE) : nodeTxt n ≠ [] := by unfold nodeTxt nodeHead; simp
theorem srcTxt_ne {s : List NodeE} (h : 1 ≤ s.length) : srcTxt s ≠ [] := by
  intro h0
  have h1 := sep_le [10] nodeTxt s (j := 0) (by omega)
  unfold srcTxt at h0
  rw [h0] at h1
  simp only [sepTo_zero, List.length_nil] at h1
  exact nodeTxt_ne s[0] (List.length_eq_zero_iff.1 (by omega))

set_option maxRecDepth 100000 in
set_option maxHeartbeats 4000000 in
theorem showSource_any (s : List NodeE) (S : Sl) (B : Nat) (w : World) (hs : SrcIs B w s S) (hB : B ≤ w.heap.size) (hT : Tab w) (hh : ∀ n ∈ s, ∀ q ∈ n.eqs, q.right.height ≤ 1000000) (hlen : srcB s = true → (srcTxt s).length ≤ 140737488355328) :
    Calls Tryz.prog 9 #[srcVal s S] w fun r w' => r = .returned (.tuple #[.string (shownS s).1, .int .i64 (shownS s).2]) ∧ Below w.heap.size w w' := by
  obtain ⟨A, cap⟩ := S
  have hG := hT.lt
  have hs' := hs.more hB
  have hb0 : Below w.heap.size w (w.alloc (.cells #[.slice A s.length cap] 25)) := (Below.refl _ _).alloc (Nat.le_refl _) _
  have hz0 : w.heap.size < (w.alloc (.cells #[.slice A s.length cap] 25)).heap.size := by simp
  have hX0 : (w.alloc (.cells #[.slice A s.length cap] 25)).heap[w.heap.size]? = some (.cells #[.slice A s.length cap] 25 (0, 0)) := World.alloc_heap_new w _
  have hsv := source_any s ⟨A, cap⟩ w.heap.size _ (hs'.keep (same_below (Nat.le_refl _) hb0)) hb0.size hh
  unfold srcVal Sl.v at hsv ⊢
  have HSV := hid hsv
  have HS' := hid hs'
  clear hs hsv hs'
  cases hsb : srcB s with
  | false =>
    have HSH : Hid (shownS s = (⟨#[]⟩, 2)) := by show _ = _; unfold shownS; rw [hsb]; rfl
    rw [hsb] at HSV
    rw [HSH.out]
    clear hlen
    go_enter Tryz.func9, Tryz.ntmps9
    go_wp2_with fail
    refine HSV.out.mono ?_
    rintro r w1 ⟨rfl, hb1⟩
    go_wp2_with fail
    go_ret2
    exact ⟨rfl, hb0.trans (hb1.mono (by omega))⟩
  | true =>
    have HSH : Hid (shownS s = (if fitsT (srcTxt s) = true then ⟨(srcTxt s).toArray⟩ else ⟨#[]⟩, if fitsT (srcTxt s) = true then 0 else 3)) := by show _ = _; unfold shownS; rw [hsb]; simp only [reduceIte]; split <;> rfl
    rw [hsb] at HSV
    rw [HSH.out]
    have hlen' := hlen hsb
    have hsb' := hsb
    unfold srcB at hsb'
    simp only [Bool.and_eq_true, decide_eq_true_eq] at hsb'
    obtain ⟨⟨hall, hs1⟩, hs16⟩ := hsb'
    have HAL := hid (fun j (h : j < s.length) => all_at hall j h)
    have hne := srcTxt_ne hs1
    have HNE := hid hne
    clear hlen hsb hall hne
    go_enter Tryz.func9, Tryz.ntmps9
    go_wp2_with fail
    refine HSV.out.mono ?_
    rintro r w1 ⟨rfl, hb1⟩
    have hb1' := hb0.trans (hb1.mono (by omega))
    have hz1 := hb1.size
    have hlt1 : w.heap.size < w1.heap.size := by omega
    have hX1 := (hb1.block w.heap.size (heap_lt hX0)).trans hX0
    have hW2 : Wr w.heap.size w1.heap.size [] (w1.alloc (.cells #[.pointer none, .slice none 0 0] 70)) := .inl ⟨by omega, .slice none 0 0, World.alloc_heap_new w1 _, World.ownsRow_nil _ _ _ _, by simp [Value.ownBlock]⟩
    have hb2 := hb1'.alloc (by omega) (.cells #[.pointer none, .slice none 0 0] 70)
    have hX2 : (w1.alloc (.cells #[.pointer none, .slice none 0 0] 70)).heap[w.heap.size]? = some (.cells #[.slice A s.length cap] 25 (0, 0)) := (((Below.refl w1.heap.size w1).alloc (Nat.le_refl _) _).block w.heap.size hlt1).trans hX1
    have c0 : w1.cell? ⟨w.heap.size, 0, none⟩ = some (.slice A s.length cap) := Lib.cell_of_heap hX1 0
    have c2 : (w1.alloc (.cells #[.pointer none, .slice none 0 0] 70)).cell? ⟨w.heap.size, 0, none⟩ = some (.slice A s.length cap) := Lib.cell_of_heap hX2 0
    go_wp2_with fail
    generalize w1.alloc (.cells #[.pointer none, .slice none 0 0] 70) = W at *
    clear c0 c2 hX0 hX1 hX2 HSV
    obtain ⟨b, hbe⟩ : ∃ b, b = w1.heap.size := ⟨_, rfl⟩
    rw [← hbe] at hW2 ⊢
    have HBE := hid hbe
    clear hbe
    go_loopw [15] (fun i wr => ∃ j : Nat, j ≤ s.length ∧ i = .int .i64 j ∧ Wr w.heap.size b (sepTo [10] (atL nodeTxt s) j) wr ∧ Wkeep w.heap.size b W wr) (fun i _ => s.length - (intOf i).toNat)
    case atStart => exact ⟨0, by omega, rfl, hW2, Wkeep.refl _ _ _⟩
    case round =>
      obtain ⟨j, hj, rfl, hWr, hK⟩ := hrel
      have hbr := hb2.trans hK.below
      by_cases hlt : j < s.length
      · obtain ⟨b', o, hA, hb', S, hcells, hin⟩ := (HS'.out.keep (same_below (Nat.le_refl _) hbr)).nodes j hlt
        simp only at hA
        subst hA
        obtain ⟨⟨iA, ic⟩, ⟨oA, oc⟩, ⟨vA, vc⟩, ⟨eA, ec⟩⟩ := S
        obtain ⟨c0, c1, c2, c3, c4, c5, c6⟩ := hcells
        unfold Sl.v at c1 c2 c3 c4
        simp only at c1 c2 c3 c4
        have hle := sep_le [10] nodeTxt s hlt
        unfold srcTxt at hlen'
        have hltr := hWr.lt
        have hler := hWr.le
        have hY0 : (wr.alloc (.cells #[.string s[j].name, .slice iA s[j].ins.length ic, .slice oA s[j].outs.length oc, .slice vA s[j].vars.length vc, .slice eA s[j].eqs.length ec, .int .i64 s[j].line, .int .i64 s[j].col] 61)).heap[wr.heap.size]? = some (.cells #[.string s[j].name, .slice iA s[j].ins.length ic, .slice oA s[j].outs.length oc, .slice vA s[j].vars.length vc, .slice eA s[j].eqs.length ec, .int .i64 s[j].line, .int .i64 s[j].col] 61 (0, 0)) := World.alloc_heap_new wr _
        have hJ0 : Wkeep w.heap.size b wr (wr.alloc (.cells #[.string s[j].name, .slice iA s[j].ins.length ic, .slice oA s[j].outs.length oc, .slice vA s[j].vars.length vc, .slice eA s[j].eqs.length ec, .int .i64 s[j].line, .int .i64 s[j].col] 61)) := (Wkeep.refl _ _ _).alloc (by omega) _
        have hU0 := hWr.alloc (.cells #[.string s[j].name, .slice iA s[j].ins.length ic, .slice oA s[j].outs.length oc, .slice vA s[j].vars.length vc, .slice eA s[j].eqs.length ec, .int .i64 s[j].line, .int .i64 s[j].col] 61)
        have hnd := HAL.out j hlt
        have hTr := hT.below hbr hG
        have hnw := fun U (h : Below w.heap.size wr U) l' (hw : Wr w.heap.size b l' U) (hl : l'.length + (nodeTxt s[j]).length ≤ 140737488355328) => node_wr s[j] ⟨⟨iA, ic⟩, ⟨oA, oc⟩, ⟨vA, vc⟩, ⟨eA, ec⟩⟩ w.heap.size b l' U (hin.keep (same_below (Nat.le_refl _) h)) hnd hw (hTr.below h hG) hG hl
        unfold NodeE.val Sl.v at hnw
        have HNW := hid hnw
        clear hnw hnd hin
        by_cases h0 : 0 < j
        · have hle2 := sep_le2 [10] nodeTxt s hlt h0
          simp only [List.length_cons, List.length_nil] at hle2
          have hsl := sepL_more [10] nodeTxt hlt h0
          have HSL := hid hsl
          clear hsl hle
          go_wp2_with fail
          generalize hV : wr.alloc (.cells #[.string s[j].name, .slice iA s[j].ins.length ic, .slice oA s[j].outs.length oc, .slice vA s[j].vars.length vc, .slice eA s[j].eqs.length ec, .int .i64 s[j].line, .int .i64 s[j].col] 61) = V at *
          have hV0 : wr.heap.size + 1 = V.heap.size := by rw [← hV]; simp
          have HVV := hid hV
          clear hV c0 c1 c2 c3 c4 c5 c6
          refine (all_new w.heap.size b _ [⟨#[10]⟩] _ _ _ _ V hU0 hV0 (by rfl) (by rfl) (by rw [joinB_1]; simp only [List.length_cons, List.length_nil]; omega) (by simp)).mono ?_
          rintro r w3 ⟨rfl, hW3, hK3⟩
          have hY3 := hK3.other _ _ _ _ (by omega) (by decide) hY0
          have f0 : w3.cell? ⟨wr.heap.size, 0, none⟩ = some (.string s[j].name) := Lib.cell_of_heap hY3 0
          have f1 : w3.cell? ⟨wr.heap.size, 1, none⟩ = some (.slice iA s[j].ins.length ic) := Lib.cell_of_heap hY3 1
          have f2 : w3.cell? ⟨wr.heap.size, 2, none⟩ = some (.slice oA s[j].outs.length oc) := Lib.cell_of_heap hY3 2
          have f3 : w3.cell? ⟨wr.heap.size, 3, none⟩ = some (.slice vA s[j].vars.length vc) := Lib.cell_of_heap hY3 3
          have f4 : w3.cell? ⟨wr.heap.size, 4, none⟩ = some (.slice eA s[j].eqs.length ec) := Lib.cell_of_heap hY3 4
          have f5 : w3.cell? ⟨wr.heap.size, 5, none⟩ = some (.int .i64 s[j].line) := Lib.cell_of_heap hY3 5
          have f6 : w3.cell? ⟨wr.heap.size, 6, none⟩ = some (.int .i64 s[j].col) := Lib.cell_of_heap hY3 6
          go_wp2_with fail
          clear f0 f1 f2 f3 f4 f5 f6
          refine (HNW.out w3 (hJ0.trans hK3).below _ hW3 (by rw [joinB_1]; simp only [List.length_append, List.length_cons, List.length_nil]; omega)).mono ?_
          rintro r w4 ⟨rfl, hW4, hK4⟩
          go_wp2_with fail
          go_roundw
          case rel => exact ⟨j + 1, by omega, by go_num, by rw [HSL.out]; rw [joinB_1] at hW4; simpa using hW4, hK.trans (hJ0.trans (hK3.trans hK4))⟩
          case measure => simp [intOf]; omega
        · obtain rfl : j = 0 := by omega
          have hsl := sepL_one [10] nodeTxt hlt
          have HSL := hid hsl
          clear hsl
          rw [sepTo_zero] at hle hU0
          simp only [List.length_nil] at hle
          simp only [Nat.zero_mul, Nat.add_zero] at c0 c1 c2 c3 c4 c5 c6
          go_wp2_with fail
          clear c0 c1 c2 c3 c4 c5 c6
          refine (HNW.out _ hJ0.below _ hU0 (by simp only [List.length_nil]; omega)).mono ?_
          rintro r w2 ⟨rfl, hW4, hK4⟩
          go_wp2_with fail
          go_roundw
          case rel => exact ⟨1, by omega, by go_num, by rw [HSL.out]; exact hW4, hK.trans (hJ0.trans hK4)⟩
          case measure => simp [intOf]; omega
      · have : j = s.length := by omega
        subst this
        have hWf : Wr w.heap.size b (srcTxt s) wr := hWr
        go_wp2_with fail
        refine (done_any w.heap.size b (srcTxt s) wr hWf HNE.out hlen').mono ?_
        rintro r w4 ⟨rfl, hb4⟩
        go_wp2_with fail
        all_goals
          go_ret2
          exact ⟨rfl, hbr.trans hb4⟩
end Go.Proofs.YtnlikhjmmnaknaaGreatDoor
