/-
  Lists of strings in memory: In, Contains, Texts; the names of an expression (plain).
-/
import Derived.Deep.AppendLies
import Derived.Deep.QuietTactic
import Derived.BigQuiet
import Derived.Test.YtiencmbbkbicnaaTreeR2
import Derived.Test.YtiencmbbkbicnaaTreeRR
namespace Go.Proofs.Ytiencmbbkbicnaa
open Go.RowKit

/-- strings that lie side by side -/
def StrsAt (w : World) (A : Option Addr) (xs : List ByteArray) : Prop :=
  ∀ j (h : j < xs.length), ∃ b o, A = some ⟨b, o, none⟩ ∧ w.cell? ⟨b, o + j, none⟩ = some (.string xs[j])
theorem StrsAt.keep {w w' : World} {A : Option Addr} {xs : List ByteArray} (h : StrsAt w A xs) (hk : ∀ b o, A = some ⟨b, o, none⟩ → ∀ i, w'.cell? ⟨b, i, none⟩ = w.cell? ⟨b, i, none⟩) : StrsAt w' A xs := fun j hj => by
  obtain ⟨b, o, hA, hc⟩ := h j hj
  exact ⟨b, o, hA, by rw [hk b o hA]; exact hc⟩
theorem StrsAt.drewN {w : World} {A : Option Addr} {xs : List ByteArray} (h : StrsAt w A xs) (n : Nat) : StrsAt (w.drewN n) A xs := h.keep fun _ _ _ _ => rfl
theorem strs_own {w : World} {base c : Nat} {A : Option Addr} {xs : List ByteArray} (h : w.ownsRow base 9 1 (.slice A xs.length c) xs.length (xs.map .string)) : StrsAt w A xs := fun j hj => by
  obtain ⟨g, cap, hv, _, _⟩ := h.form (by omega)
  injection hv with hA
  subst hA
  refine ⟨g, 0, rfl, ?_⟩
  rw [Nat.zero_add, h.cellAt j (by simpa using hj)]
  simp [List.getElem?_eq_getElem hj]

/-- is a text in a list? -/
def inB (xs : List ByteArray) (s : ByteArray) : Bool := xs.any fun x => x.data.toList == s.data.toList
theorem inB_hit {xs : List ByteArray} {s : ByteArray} {j : Nat} (h : j < xs.length) (he : (xs[j].toList == s.toList) = true) : inB xs s = true := by
  unfold inB
  rw [List.any_eq_true]
  refine ⟨xs[j], List.getElem_mem _, ?_⟩
  rwa [ByteArray.toList_eq, ByteArray.toList_eq] at he
theorem inB_miss {xs : List ByteArray} {s : ByteArray} (h : ∀ j (hj : j < xs.length), (xs[j].toList == s.toList) = false) : inB xs s = false := by
  unfold inB
  rw [List.any_eq_false]
  intro x hx
  obtain ⟨j, hj, rfl⟩ := List.getElem_of_mem hx
  have := h j hj
  rw [ByteArray.toList_eq, ByteArray.toList_eq] at this
  rw [this]; simp

def IndexPost (xs : List ByteArray) (s : ByteArray) (w : World) (r : Ending) (w' : World) : Prop := ∃ i : Int, r = .returned (.int .i64 i) ∧ -1 ≤ i ∧ i ≤ 9223372036854775807 ∧ decide (0 ≤ i) = inB xs s ∧ w = w'

set_option maxHeartbeats 400000 in
theorem index_any (xs : List ByteArray) (s : ByteArray) (A : Option Addr) (cap : Nat) (w : World) (hx : StrsAt w A xs) (hn : xs.length ≤ 1000000000) :
    Calls Try.prog 71 #[.slice A xs.length cap, .string s] w (IndexPost xs s w) := by
  have HX := hid hx
  clear hx
  go_enter Try.func71, Try.ntmps71
  go_wp2_with fail
  go_loop [5, 8] (fun _ i => ∃ j : Nat, j ≤ xs.length ∧ i = .int .i64 j ∧ Hid (∀ m (h : m < xs.length), m < j → (xs[m].toList == s.toList) = false)) (fun _ i => xs.length - (intOf i).toNat)
  case atStart => exact ⟨0, by omega, rfl, fun m _ hm => absurd hm (by omega)⟩
  case round =>
    obtain ⟨j, hj, rfl, hmiss⟩ := hrel
    by_cases hlt : j < xs.length
    · obtain ⟨b, o, rfl, hc⟩ := HX.out j hlt
      have hi0 : (0 : Int) ≤ (j : Int) := by omega
      have hi1 : (j : Int) < (xs.length : Int) := by omega
      cases he : (xs[j].toList == s.toList)
      · have HE := hid he
        have he2 : (s.toList == xs[j].toList) = false := by rw [Bool.beq_comm]; exact he
        clear he
        go_wp2_with fail
        go_round
        case rel =>
          refine ⟨j + 1, by omega, by go_num, fun m hm hmj => ?_⟩
          by_cases h : m = j
          · subst h; exact HE.out
          · exact hmiss.out m hm (by omega)
        case measure => simp [intOf]; omega
      · have HE := hid he
        have he2 : (s.toList == xs[j].toList) = true := by rw [Bool.beq_comm]; exact he
        clear he
        go_wp2_with fail
        go_ret
        exact ⟨j, rfl, by omega, by omega, by rw [inB_hit hlt HE.out]; simp, rfl⟩
    · have : j = xs.length := by omega
      subst this
      go_wp2_with fail
      go_ret
      exact ⟨-1, rfl, by omega, by omega, by rw [inB_miss fun m hm => hmiss.out m hm hm]; rfl, rfl⟩

set_option maxHeartbeats 400000 in
theorem contains_any (xs : List ByteArray) (s : ByteArray) (A : Option Addr) (cap : Nat) (w : World) (hx : StrsAt w A xs) (hn : xs.length ≤ 1000000000) :
    Calls Try.prog 48 #[.slice A xs.length cap, .string s] w fun r w' => r = .returned (.bool (inB xs s)) ∧ w = w' := by
  have hi := index_any xs s A cap w hx hn
  clear hx
  go_enter Try.func48, Try.ntmps48
  go_wp2_with (go_at_call 71; refine hi.mono ?_; rintro r w' ⟨i, rfl, h1, h2, h3, rfl⟩; have H3 := hid h3; clear h3)
  go_ret
  exact ⟨ret_bool H3.out, rfl⟩

set_option maxHeartbeats 400000 in
theorem rin_any (xs : List ByteArray) (s : ByteArray) (A : Option Addr) (cap : Nat) (w : World) (hx : StrsAt w A xs) (hn : xs.length ≤ 1000000000) :
    Calls Try.prog 49 #[.slice A xs.length cap, .string s] w fun r w' => r = .returned (.bool (inB xs s)) ∧ w = w' := by
  have HX := hid hx
  clear hx
  go_enter Try.func49, Try.ntmps49
  go_wp2_with fail
  go_loop [5] (fun i => ∃ j : Nat, j ≤ xs.length ∧ i = .int .i64 j ∧ Hid (∀ m (h : m < xs.length), m < j → (xs[m].toList == s.toList) = false)) (fun i => xs.length - (intOf i).toNat)
  case atStart => exact ⟨0, by omega, rfl, fun m _ hm => absurd hm (by omega)⟩
  case round =>
    obtain ⟨j, hj, rfl, hmiss⟩ := hrel
    by_cases hlt : j < xs.length
    · obtain ⟨b, o, rfl, hc⟩ := HX.out j hlt
      have hi0 : (0 : Int) ≤ (j : Int) := by omega
      have hi1 : (j : Int) < (xs.length : Int) := by omega
      cases he : (xs[j].toList == s.toList)
      · have HE := hid he
        go_wp2_with fail
        go_round
        case rel =>
          refine ⟨j + 1, by omega, by go_num, fun m hm hmj => ?_⟩
          by_cases h : m = j
          · subst h; exact HE.out
          · exact hmiss.out m hm (by omega)
        case measure => simp [intOf]; omega
      · have HE := hid he
        go_wp2_with fail
        go_ret
        exact ⟨ret_bool (inB_hit hlt HE.out).symm, rfl⟩
    · have : j = xs.length := by omega
      subst this
      go_wp2_with fail
      go_ret
      exact ⟨ret_bool (inB_miss fun m hm => hmiss.out m hm hm).symm, rfl⟩

/-- are two lists of texts one? -/
def sameStrs (xs ys : List ByteArray) : Bool := xs.map (fun x => x.data.toList) == ys.map (fun x => x.data.toList)
theorem sameStrs_len {xs ys : List ByteArray} (h : ¬ xs.length = ys.length) : sameStrs xs ys = false := by
  unfold sameStrs
  rw [beq_eq_false_iff_ne]
  intro he
  have := congrArg List.length he
  simp at this; exact h this
theorem sameStrs_hit {xs ys : List ByteArray} {j : Nat} (h1 : j < xs.length) (h2 : j < ys.length) (h : (xs[j].toList == ys[j].toList) = false) : sameStrs xs ys = false := by
  unfold sameStrs
  rw [beq_eq_false_iff_ne]
  intro he
  have := congrArg (fun l => l[j]?) he
  simp only [List.getElem?_map, List.getElem?_eq_getElem h1, List.getElem?_eq_getElem h2, Option.map_some, Option.some.injEq] at this
  rw [ByteArray.toList_eq, ByteArray.toList_eq, this] at h
  simp at h
theorem sameStrs_all {xs ys : List ByteArray} (hl : xs.length = ys.length) (h : ∀ j (h1 : j < xs.length) (h2 : j < ys.length), (xs[j].toList == ys[j].toList) = true) : sameStrs xs ys = true := by
  unfold sameStrs
  rw [beq_iff_eq]
  apply List.ext_getElem (by simpa using hl)
  intro j h1 h2
  simp only [List.length_map] at h1 h2
  have := h j h1 h2
  rw [ByteArray.toList_eq, ByteArray.toList_eq] at this
  simpa using this
theorem sameStrs_self (xs : List ByteArray) : sameStrs xs xs = true := by simp [sameStrs]

set_option maxHeartbeats 1000000 in
theorem rtexts_any (xs ys : List ByteArray) (A A' : Option Addr) (cap cap' : Nat) (w : World) (hx : StrsAt w A xs) (hy : StrsAt w A' ys) (hn : xs.length ≤ 1000000000) :
    Calls Try.prog 23 #[.slice A xs.length cap, .slice A' ys.length cap'] w fun r w' => r = .returned (.bool (sameStrs xs ys)) ∧ ∃ n, w' = w.drewN n := by
  have HX := hid hx
  have HY := hid hy
  clear hx hy
  by_cases hl : xs.length = ys.length
  · have HL := hid hl
    rw [← hl]
    clear hl
    go_enter Try.func23, Try.ntmps23
    go_wp2_with fail
    go_loopw [5] (fun i wr => ∃ j n : Nat, j ≤ xs.length ∧ i = .int .i64 j ∧ wr = w.drewN n ∧ Hid (∀ m (h1 : m < xs.length) (h2 : m < ys.length), m < j → (xs[m].toList == ys[m].toList) = true)) (fun i _ => xs.length - (intOf i).toNat)
    case atStart => exact ⟨0, 0, by omega, rfl, rfl, fun m _ _ hm => absurd hm (by omega)⟩
    case round =>
      obtain ⟨j, n, hj, rfl, rfl, hmiss⟩ := hrel
      by_cases hlt : j < xs.length
      · have hlt' : j < ys.length := by have := HL.out; omega
        obtain ⟨b, o, rfl, hc⟩ := HX.out j hlt
        obtain ⟨b', o', rfl, hc'⟩ := HY.out j hlt'
        have hi0 : (0 : Int) ≤ (j : Int) := by omega
        have hi1 : (j : Int) < (xs.length : Int) := by omega
        cases he : (xs[j].toList == ys[j].toList)
        · have HE := hid he
          go_wp2_with fail
          go_quiet (fail)
          go_wp2_with fail
          go_ret
          exact ⟨ret_bool (sameStrs_hit hlt hlt' HE.out).symm, n + nq, by first | rfl | rw [World.drewN_drewN]⟩
        · have HE := hid he
          go_wp2_with fail
          go_quiet (fail)
          go_wp2_with fail
          go_roundw
          case rel =>
            refine ⟨j + 1, n + nq, by omega, by go_num, rfl, fun m h1 h2 hmj => ?_⟩
            by_cases h : m = j
            · subst h; exact HE.out
            · exact hmiss.out m h1 h2 (by omega)
          case measure => simp [intOf]; omega
      · have : j = xs.length := by omega
        subst this
        go_wp2_with fail
        go_ret
        exact ⟨ret_bool (sameStrs_all HL.out fun m h1 h2 => hmiss.out m h1 h2 h1).symm, n, rfl⟩
  · have HS := hid (sameStrs_len hl)
    have hne : ((xs.length : Int) != (ys.length : Int)) = true := by simp; omega
    clear hl
    go_enter Try.func23, Try.ntmps23
    go_wp2_with fail
    go_ret
    exact ⟨ret_bool HS.out.symm, 0, rfl⟩

/-- the names of variables -/
def nmStep (acc : List ByteArray) (x : Ex) : List ByteArray := if (namesOp x.op && !inB acc x.name) = true then acc ++ [x.name] else acc
def nmOf (l : List Ex) : List ByteArray := l.foldl nmStep []
theorem nmOf_snoc (l : List Ex) (x : Ex) : nmOf (l ++ [x]) = nmStep (nmOf l) x := by simp [nmOf, List.foldl_append]
theorem nmStep_len (acc : List ByteArray) (x : Ex) : (nmStep acc x).length ≤ acc.length + 1 := by unfold nmStep; split <;> simp
theorem nmGo_len (l : List Ex) : ∀ acc : List ByteArray, (l.foldl nmStep acc).length ≤ acc.length + l.length := by
  induction l with
  | nil => intro acc; simp
  | cons x l ih => intro acc; rw [List.foldl_cons, List.length_cons]; have := ih (nmStep acc x); have := nmStep_len acc x; omega
theorem nmOf_len (l : List Ex) : (nmOf l).length ≤ l.length := by have := nmGo_len l []; simpa [nmOf] using this
end Go.Proofs.Ytiencmbbkbicnaa
