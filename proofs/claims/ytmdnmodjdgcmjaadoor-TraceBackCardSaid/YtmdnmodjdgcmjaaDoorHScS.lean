/-
  The walks of Right, of both: an event by value.
-/
import Derived.Test.YtmdnmodjdgcmjaaDoorHScRw
import Derived.BigQuiet
namespace Go.Proofs.YtmdnmodjdgcmjaaDoor
open Go.RowKit

def rightN (k n : Int) (r c : Nat) : Bool :=
  if k = 1 then decide (1 ≤ r) && decide (r ≤ 8) && decide (c = 0) && decide (n = 0)
  else if k = 2 ∨ k = 4 then decide (r = 0) && decide (c = 0) && decide (0 ≤ n)
  else if k = 3 then decide (r = 0) && decide (c = 0) && decide (n = 0)
  else if k = 5 then decide (r = 0) && decide (c ≤ 64) && decide (-1 ≤ n)
  else false
theorem right_n (x : EvE) : rightV x = rightN x.kind x.num x.row.length x.ch.length := rfl

set_option maxRecDepth 100000 in
set_option maxHeartbeats 4000000 in
theorem right_code (k n : Int) (A C : Option Addr) (r c p q : Nat) (w : World) (hr : r ≤ maxLen) (hc : c ≤ maxLen) :
    Calls Tryd.prog 16 #[.agg #[.int .i64 k, .int .i64 n, .slice A r p, .slice C c q]] w fun e w' => e = .returned (.bool (rightN k n r c)) ∧ Below w.heap.size w w' := by
  unfold maxLen at hr hc
  have hr1 : (r : Int) ≤ 9223372036854775807 := by omega
  have hc1 : (c : Int) ≤ 9223372036854775807 := by omega
  have hr0 : (0 : Int) ≤ (r : Int) := by omega
  have hc0 : (0 : Int) ≤ (c : Int) := by omega
  have hb := (Below.refl w.heap.size w).alloc (Nat.le_refl _) (.cells #[.int .i64 k, .int .i64 n, .slice A r p, .slice C c q] 40)
  have hB := hid hb
  have hX : (w.alloc (.cells #[.int .i64 k, .int .i64 n, .slice A r p, .slice C c q] 40)).heap[w.heap.size]? = _ := World.alloc_heap_new _ _
  obtain ⟨x0, x1, x2, x3, -⟩ := blk4 hX
  clear hb hX
  go_enter Tryd.func16, Tryd.ntmps16
  go_upto_region 1 with fail
  generalize w.alloc (.cells #[.int .i64 k, .int .i64 n, .slice A r p, .slice C c q] 40) = W at *
  go_region
  all_goals
    go_wp2_with fail
    all_goals
      go_ret
      refine ⟨ret_bool ?_, Below.drew hB.out⟩
      clear x0 x1 x2 x3 hB
      unfold rightN
      first
        | (simp_all; done)
        | grind
set_option maxRecDepth 100000 in
set_option maxHeartbeats 4000000 in
theorem right_ref (k n : Int) (A C : Option Addr) (r c p q : Nat) (w : World) (hr : r ≤ maxLen) (hc : c ≤ maxLen) :
    Calls Tryd.prog 17 #[.agg #[.int .i64 k, .int .i64 n, .slice A r p, .slice C c q]] w fun e w' => e = .returned (.bool (rightN k n r c)) ∧ Below w.heap.size w w' := by
  unfold maxLen at hr hc
  have hr1 : (r : Int) ≤ 9223372036854775807 := by omega
  have hc1 : (c : Int) ≤ 9223372036854775807 := by omega
  have hr0 : (0 : Int) ≤ (r : Int) := by omega
  have hc0 : (0 : Int) ≤ (c : Int) := by omega
  have hb := (Below.refl w.heap.size w).alloc (Nat.le_refl _) (.cells #[.int .i64 k, .int .i64 n, .slice A r p, .slice C c q] 40)
  have hB := hid hb
  have hX : (w.alloc (.cells #[.int .i64 k, .int .i64 n, .slice A r p, .slice C c q] 40)).heap[w.heap.size]? = _ := World.alloc_heap_new _ _
  obtain ⟨x0, x1, x2, x3, -⟩ := blk4 hX
  clear hb hX
  go_enter Tryd.func17, Tryd.ntmps17
  go_upto_region 1 with fail
  generalize w.alloc (.cells #[.int .i64 k, .int .i64 n, .slice A r p, .slice C c q] 40) = W at *
  go_wp2_with fail
  all_goals
    go_ret
    refine ⟨ret_bool ?_, hB.out⟩
    clear x0 x1 x2 x3 hB
    unfold rightN
    first
      | (simp_all; done)
      | grind

/-- a slice of numbers that lies somewhere -/
def IntsAt (w : World) (A : Option Addr) (l : List Int) : Prop := ∀ j (h : j < l.length), ∃ b o, A = some ⟨b, o, none⟩ ∧ w.cell? ⟨b, o + j, none⟩ = some (.int .i64 l[j])
def BytesAt (w : World) (A : Option Addr) (l : List UInt8) : Prop := ∀ j (h : j < l.length), ∃ b o, A = some ⟨b, o, none⟩ ∧ w.cell? ⟨b, o + j, none⟩ = some (.int .u8 (l[j].toNat : Int))
theorem ints_at {D : Nat → Prop} {w : World} {A : Option Addr} {l : List Int} (h : SlAt 1 (IntIn D w) A l) : IntsAt w A l := fun j hj => by
  obtain ⟨b, o, hA, _, _, hc⟩ := h j hj
  exact ⟨b, o, hA, by rwa [Nat.mul_one] at hc⟩
theorem bytes_at {D : Nat → Prop} {w : World} {A : Option Addr} {l : List UInt8} (h : SlAt 1 (ByteIn D w) A l) : BytesAt w A l := fun j hj => by
  obtain ⟨b, o, hA, _, hc⟩ := h j hj
  exact ⟨b, o, hA, by rwa [Nat.mul_one] at hc⟩
theorem drewN_drew {w wr : World} (h : ∃ k, wr = w.drewN k) : ∃ k, wr.drew = w.drewN k := by
  obtain ⟨k, rfl⟩ := h
  exact ⟨k + 1, rfl⟩
theorem below_drewN' {w w' : World} (h : ∃ k, w' = w.drewN k) : Below w.heap.size w w' := by
  obtain ⟨k, rfl⟩ := h
  exact ⟨rfl, rfl, rfl, Nat.le_refl _, fun _ _ => rfl⟩
def UptoE {α : Type} (xs ys : List α) (j : Nat) : Prop := ∀ m (h1 : m < xs.length) (h2 : m < ys.length), m < j → xs[m] = ys[m]
theorem UptoE.all {α : Type} {xs ys : List α} (h : UptoE xs ys xs.length) (hl : xs.length = ys.length) : xs = ys := List.ext_getElem hl fun m h1 h2 => h m h1 h2 h1
theorem UptoE.step {α : Type} {xs ys : List α} {j : Nat} (h : UptoE xs ys j) (h1 : j < xs.length) (h2 : j < ys.length) (he : xs[j] = ys[j]) : UptoE xs ys (j + 1) := fun m a b hm => by
  by_cases hme : m = j
  · subst hme; exact he
  · exact h m a b (by omega)
set_option maxRecDepth 100000 in
set_option maxHeartbeats 2000000 in
theorem rints_any (xs ys : List Int) (A B : Option Addr) (p q : Nat) (w : World) (hx : IntsAt w A xs) (hy : IntsAt w B ys) (h1 : xs.length ≤ maxLen) (h2 : ys.length ≤ maxLen) :
    Calls Tryd.prog 27 #[.slice A xs.length p, .slice B ys.length q] w fun e w' => e = .returned (.bool (decide (xs = ys))) ∧ ∃ k, w' = w.drewN k := by
  unfold maxLen at h1 h2
  have hX := hid hx
  have hY := hid hy
  have hx1 : (xs.length : Int) ≤ 9223372036854775807 := by omega
  have hy1 : (ys.length : Int) ≤ 9223372036854775807 := by omega
  clear hx hy
  by_cases hl : xs.length = ys.length
  case neg =>
    have hd : decide (xs = ys) = false := decide_eq_false fun e => hl (by rw [e])
    have hl' : ((xs.length : Int) == (ys.length : Int)) = false := beq_eq_false_iff_ne.2 (by omega)
    have hl2 : ((xs.length : Int) != (ys.length : Int)) = true := by simp [bne, hl']
    rw [hd]
    go_enter Tryd.func27, Tryd.ntmps27
    go_wp2_with fail
    go_ret
    exact ⟨rfl, 0, rfl⟩
  case pos =>
  have hlH := hid hl
  rw [← hl]
  generalize hn : xs.length = n at *
  clear hl
  go_enter Tryd.func27, Tryd.ntmps27
  go_wp2_with fail
  go_loopw [5] (fun i wr => ∃ j : Nat, j ≤ n ∧ i = .int .i64 j ∧ Hid (UptoE xs ys j) ∧ Hid (∃ k, wr = w.drewN k)) (fun i _ => n - (intOf i).toNat)
  case atStart => exact ⟨0, Nat.zero_le _, rfl, (fun m _ _ h => absurd h (by omega)), ⟨0, rfl⟩⟩
  case round =>
    obtain ⟨j, hj, rfl, hup, hdr⟩ := hrel
    have hsame : Hid (∀ p, wr.cell? p = w.cell? p) := by
      obtain ⟨k, rfl⟩ := hdr.out
      exact fun p => rfl
    by_cases hlt : j < n
    · have g1 : j < xs.length := by omega
      have g2 : j < ys.length := by have := hlH.out; omega
      obtain ⟨b1, o1, rfl, c1⟩ := hX.out j g1
      obtain ⟨b2, o2, rfl, c2⟩ := hY.out j g2
      have hj0 : (0 : Int) ≤ (j : Int) := by omega
      have hj1 : (j : Int) < (n : Int) := by omega
      rw [← hsame.out] at c1 c2
      have hst := hid (fun he => hup.out.step g1 g2 he)
      have hno : xs[j] ≠ ys[j] → decide (xs = ys) = false := fun h => decide_eq_false fun e => h (by subst e; rfl)
      replace hno := hid hno
      generalize xs[j] = x at *
      generalize ys[j] = y at *
      clear hup
      by_cases hxy : x = y
      · replace hst := hid (hst.out hxy)
        subst hxy
        go_wp2_with fail
        go_region
        all_goals
          go_wp2_with fail
          go_roundw
          case rel => exact ⟨j + 1, by omega, by go_num, hst.out, drewN_drew hdr.out⟩
          case measure => simp [intOf]; omega
      · replace hno := hid (hno.out hxy)
        have e1 : (x == y) = false := beq_eq_false_iff_ne.2 hxy
        have e2 : (x != y) = true := by simp [bne, e1]
        go_wp2_with fail
        go_region
        all_goals
          go_wp2_with fail
          go_ret
          exact ⟨ret_bool hno.out.symm, drewN_drew hdr.out⟩
    · have hje : j = n := by omega
      subst hje
      have hd : decide (xs = ys) = true := decide_eq_true (by
        have := hup.out
        rw [← hn] at this
        exact UptoE.all this (by rw [hn]; exact hlH.out))
      replace hd := hid hd
      go_wp2_with fail
      go_ret
      exact ⟨ret_bool hd.out.symm, hdr.out⟩
set_option maxRecDepth 100000 in
set_option maxHeartbeats 2000000 in
theorem rbytes_any (xs ys : List UInt8) (A B : Option Addr) (p q : Nat) (w : World) (hx : BytesAt w A xs) (hy : BytesAt w B ys) (h1 : xs.length ≤ maxLen) (h2 : ys.length ≤ maxLen) :
    Calls Tryd.prog 39 #[.slice A xs.length p, .slice B ys.length q] w fun e w' => e = .returned (.bool (decide (xs = ys))) ∧ ∃ k, w' = w.drewN k := by
  unfold maxLen at h1 h2
  have hX := hid hx
  have hY := hid hy
  have hx1 : (xs.length : Int) ≤ 9223372036854775807 := by omega
  have hy1 : (ys.length : Int) ≤ 9223372036854775807 := by omega
  clear hx hy
  by_cases hl : xs.length = ys.length
  case neg =>
    have hd : decide (xs = ys) = false := decide_eq_false fun e => hl (by rw [e])
    have hl' : ((xs.length : Int) == (ys.length : Int)) = false := beq_eq_false_iff_ne.2 (by omega)
    have hl2 : ((xs.length : Int) != (ys.length : Int)) = true := by simp [bne, hl']
    rw [hd]
    go_enter Tryd.func39, Tryd.ntmps39
    go_wp2_with fail
    go_ret
    exact ⟨rfl, 0, rfl⟩
  case pos =>
  have hlH := hid hl
  rw [← hl]
  generalize hn : xs.length = n at *
  clear hl
  go_enter Tryd.func39, Tryd.ntmps39
  go_wp2_with fail
  go_loopw [5] (fun i wr => ∃ j : Nat, j ≤ n ∧ i = .int .i64 j ∧ Hid (UptoE xs ys j) ∧ Hid (∃ k, wr = w.drewN k)) (fun i _ => n - (intOf i).toNat)
  case atStart => exact ⟨0, Nat.zero_le _, rfl, (fun m _ _ h => absurd h (by omega)), ⟨0, rfl⟩⟩
  case round =>
    obtain ⟨j, hj, rfl, hup, hdr⟩ := hrel
    have hsame : Hid (∀ p, wr.cell? p = w.cell? p) := by
      obtain ⟨k, rfl⟩ := hdr.out
      exact fun p => rfl
    by_cases hlt : j < n
    · have g1 : j < xs.length := by omega
      have g2 : j < ys.length := by have := hlH.out; omega
      obtain ⟨b1, o1, rfl, c1⟩ := hX.out j g1
      obtain ⟨b2, o2, rfl, c2⟩ := hY.out j g2
      have hj0 : (0 : Int) ≤ (j : Int) := by omega
      have hj1 : (j : Int) < (n : Int) := by omega
      rw [← hsame.out] at c1 c2
      have hst := hid (fun he => hup.out.step g1 g2 he)
      have hno : xs[j] ≠ ys[j] → decide (xs = ys) = false := fun h => decide_eq_false fun e => h (by subst e; rfl)
      replace hno := hid hno
      generalize xs[j] = x at *
      generalize ys[j] = y at *
      clear hup
      have hxu : ((x.toNat : Nat) : Int) = (y.toNat : Int) → x = y := fun h => UInt8.toNat_inj.1 (by omega)
      replace hxu := hid hxu
      by_cases hxy : x = y
      · replace hst := hid (hst.out hxy)
        subst hxy
        go_wp2_with fail
        go_region
        all_goals
          go_wp2_with fail
          go_roundw
          case rel => exact ⟨j + 1, by omega, by go_num, hst.out, drewN_drew hdr.out⟩
          case measure => simp [intOf]; omega
      · replace hno := hid (hno.out hxy)
        have e1 : (((x.toNat : Nat) : Int) == (y.toNat : Int)) = false := beq_eq_false_iff_ne.2 fun h => hxy (hxu.out h)
        have e2 : (((x.toNat : Nat) : Int) != (y.toNat : Int)) = true := by simp only [bne, e1]; rfl
        go_wp2_with fail
        go_region
        all_goals
          go_wp2_with fail
          go_ret
          exact ⟨ret_bool hno.out.symm, drewN_drew hdr.out⟩
    · have hje : j = n := by omega
      subst hje
      have hd : decide (xs = ys) = true := decide_eq_true (by
        have := hup.out
        rw [← hn] at this
        exact UptoE.all this (by rw [hn]; exact hlH.out))
      replace hd := hid hd
      go_wp2_with fail
      go_ret
      exact ⟨ret_bool hd.out.symm, hdr.out⟩
end Go.Proofs.YtmdnmodjdgcmjaaDoor
