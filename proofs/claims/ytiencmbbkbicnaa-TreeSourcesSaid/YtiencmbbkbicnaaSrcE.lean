/-
  Lists compared element by element: slices.Equal at strings and at conditions, the reference's Lits.
-/
import Derived.Test.YtiencmbbkbicnaaSrcR2
namespace Go.Proofs.Ytiencmbbkbicnaa
open Go.RowKit

/-- are two lists one, element by element? -/
def zipB {α : Type} (p : α → α → Bool) : List α → List α → Bool
  | [], [] => true
  | a :: l, b :: m => p a b && zipB p l m
  | _, _ => false
theorem zip_len {α : Type} {p : α → α → Bool} : ∀ {xs ys : List α}, ¬ xs.length = ys.length → zipB p xs ys = false
  | [], [], h => absurd rfl h
  | [], _ :: _, _ => rfl
  | _ :: _, [], _ => rfl
  | _ :: l, _ :: m, h => by rw [zipB, zip_len (xs := l) (ys := m) (by simpa using h), Bool.and_false]
theorem zip_hit {α : Type} {p : α → α → Bool} : ∀ {xs ys : List α} {j : Nat} (h1 : j < xs.length) (h2 : j < ys.length), p xs[j] ys[j] = false → zipB p xs ys = false
  | a :: l, b :: m, 0, _, _, h => by rw [zipB]; rw [show p a b = false from h]; rfl
  | _ :: l, _ :: m, j + 1, h1, h2, h => by rw [zipB, zip_hit (xs := l) (ys := m) (j := j) (by simpa using h1) (by simpa using h2) (by simpa using h), Bool.and_false]
theorem zip_all {α : Type} {p : α → α → Bool} : ∀ {xs ys : List α}, xs.length = ys.length → (∀ j (h1 : j < xs.length) (h2 : j < ys.length), p xs[j] ys[j] = true) → zipB p xs ys = true
  | [], [], _, _ => rfl
  | [], _ :: _, h, _ => by simp at h
  | _ :: _, [], h, _ => by simp at h
  | a :: l, b :: m, hl, h => by
    rw [zipB, show p a b = true from h 0 (by simp) (by simp), zip_all (xs := l) (ys := m) (by simpa using hl) (fun j h1 h2 => h (j + 1) (by simpa using h1) (by simpa using h2))]; rfl
theorem zip_self {α : Type} {p : α → α → Bool} : ∀ {xs : List α}, (∀ x ∈ xs, p x x = true) → zipB p xs xs = true
  | [], _ => rfl
  | a :: l, h => by rw [zipB, h a (by simp), zip_self (xs := l) (fun x hx => h x (List.mem_cons_of_mem _ hx))]; rfl
def UptoZ {α : Type} (p : α → α → Bool) (xs ys : List α) (j : Nat) : Prop := ∀ m (h1 : m < xs.length) (h2 : m < ys.length), m < j → p xs[m] ys[m] = true
theorem UptoZ.zero {α : Type} (p : α → α → Bool) (xs ys : List α) : UptoZ p xs ys 0 := fun m _ _ h => absurd h (by omega)
theorem UptoZ.succ {α : Type} {p : α → α → Bool} {xs ys : List α} {j : Nat} (h : UptoZ p xs ys j) (h1 : j < xs.length) (h2 : j < ys.length) (hp : p xs[j] ys[j] = true) : UptoZ p xs ys (j + 1) := fun m hm1 hm2 hmj => by
  by_cases he : m = j
  · subst he; exact hp
  · exact h m hm1 hm2 (by omega)
theorem UptoZ.all {α : Type} {p : α → α → Bool} {xs ys : List α} (hl : xs.length = ys.length) (h : UptoZ p xs ys xs.length) : zipB p xs ys = true := zip_all hl fun j h1 h2 => h j h1 h2 h1

def strS (a b : ByteArray) : Bool := a.data.toList == b.data.toList
def litS (a b : LitE) : Bool := strS a.name b.name && a.neg == b.neg
theorem strS_eq (a b : ByteArray) : strS a b = (a.toList == b.toList) := by unfold strS; rw [ByteArray.toList_eq, ByteArray.toList_eq]
theorem zip_strs (xs ys : List ByteArray) : zipB strS xs ys = sameStrs xs ys := by
  by_cases hl : xs.length = ys.length
  · cases h : sameStrs xs ys with
    | true =>
      refine zip_all hl fun j h1 h2 => ?_
      cases hj : strS xs[j] ys[j] with
      | true => rfl
      | false => rw [strS_eq] at hj; rw [sameStrs_hit h1 h2 hj] at h; cases h
    | false =>
      cases hz : zipB strS xs ys with
      | false => rfl
      | true =>
        have := sameStrs_all hl fun j h1 h2 => by
          cases hj : strS xs[j] ys[j] with
          | true => rw [strS_eq] at hj; exact hj
          | false => rw [zip_hit h1 h2 hj] at hz; cases hz
        rw [this] at h; cases h
  · rw [zip_len hl, sameStrs_len hl]

set_option maxHeartbeats 1000000 in
theorem equalStr_any (xs ys : List ByteArray) (S S' : Sl) (B : Nat) (w : World) (hf : S.fits xs.length) (hf' : S'.fits ys.length) (hx : SlAt 1 (StrAt B w) S.A xs) (hy : SlAt 1 (StrAt B w) S'.A ys) :
    Calls Try.prog 69 #[S.v xs.length, S'.v ys.length] w fun r w' => r = .returned (.bool (zipB strS xs ys)) ∧ ∃ n, w' = w.drewN n := by
  obtain ⟨A, cap⟩ := S
  obtain ⟨A', cap'⟩ := S'
  obtain ⟨hf1, hf2⟩ := hf
  obtain ⟨hg1, hg2⟩ := hf'
  simp only [Sl.v] at *
  unfold maxLen at hf2 hg2
  have hc1 : (xs.length : Int) ≤ 9223372036854775807 := by omega
  have hc2 : (ys.length : Int) ≤ 9223372036854775807 := by omega
  have HX := hid hx
  have HY := hid hy
  clear hx hy hf1 hf2 hg1 hg2
  by_cases hl : xs.length = ys.length
  · have HL := hid hl
    rw [← hl]
    clear hl hc2
    go_enter Try.func69, Try.ntmps69
    go_wp2_with fail
    go_loopw [5, 13] (fun _ i wr => ∃ j n : Nat, j ≤ xs.length ∧ i = .int .i64 j ∧ wr = w.drewN n ∧ Hid (UptoZ strS xs ys j)) (fun _ i _ => xs.length - (intOf i).toNat)
    case atStart => exact ⟨0, 0, by omega, rfl, rfl, UptoZ.zero _ _ _⟩
    case round =>
      obtain ⟨j, n, hj, rfl, rfl, hup⟩ := hrel
      by_cases hlt : j < xs.length
      · have hlt' : j < ys.length := by have := HL.out; omega
        obtain ⟨b, o, rfl, hcx⟩ := HX.out j hlt
        obtain ⟨b', o', rfl, hcy⟩ := HY.out j hlt'
        obtain ⟨_, _, c0⟩ := hcx
        obtain ⟨_, _, d0⟩ := hcy
        simp only [Nat.mul_one] at c0 d0
        have hi0 : (0 : Int) ≤ (j : Int) := by omega
        have hi1 : (j : Int) < (xs.length : Int) := by omega
        have hno := hid (fun hp : strS xs[j] ys[j] = false => zip_hit hlt hlt' hp)
        have hyes := hid (fun hp : strS xs[j] ys[j] = true => hup.out.succ hlt hlt' hp)
        clear hup
        cases h1 : (xs[j].toList == ys[j].toList)
        · have HP : Hid (strS xs[j] ys[j] = false) := by show _ = _; rw [strS_eq, h1]
          go_wp2_with fail
          go_quiet (fail)
          go_wp2_with fail
          go_ret
          exact ⟨ret_bool (hno.out HP.out).symm, n + nq, by first | rfl | rw [World.drewN_drewN]⟩
        · have HP : Hid (strS xs[j] ys[j] = true) := by show _ = _; rw [strS_eq, h1]
          go_wp2_with fail
          go_quiet (fail)
          go_wp2_with fail
          go_roundw
          case rel => exact ⟨j + 1, n + nq, by omega, by go_num, rfl, hyes.out HP.out⟩
          case measure => simp [intOf]; omega
      · have : j = xs.length := by omega
        subst this
        have HZ := hid (UptoZ.all HL.out hup.out)
        clear hup
        go_wp2_with fail
        go_ret
        exact ⟨ret_bool HZ.out.symm, n, rfl⟩
  · have HS := hid (zip_len (p := strS) hl)
    have hne : ((xs.length : Int) != (ys.length : Int)) = true := by simp; omega
    clear hl
    go_enter Try.func69, Try.ntmps69
    go_wp2_with fail
    go_ret
    exact ⟨ret_bool HS.out.symm, 0, rfl⟩

set_option maxHeartbeats 1000000 in
theorem equalLit_any (xs ys : List LitE) (S S' : Sl) (B : Nat) (w : World) (hf : S.fits xs.length) (hf' : S'.fits ys.length) (hx : SlAt 2 (LitAt B w) S.A xs) (hy : SlAt 2 (LitAt B w) S'.A ys) :
    Calls Try.prog 82 #[S.v xs.length, S'.v ys.length] w fun r w' => r = .returned (.bool (zipB litS xs ys)) ∧ ∃ n, w' = w.drewN n := by
  obtain ⟨A, cap⟩ := S
  obtain ⟨A', cap'⟩ := S'
  obtain ⟨hf1, hf2⟩ := hf
  obtain ⟨hg1, hg2⟩ := hf'
  simp only [Sl.v] at *
  unfold maxLen at hf2 hg2
  have hc1 : (xs.length : Int) ≤ 9223372036854775807 := by omega
  have hc2 : (ys.length : Int) ≤ 9223372036854775807 := by omega
  have HX := hid hx
  have HY := hid hy
  clear hx hy hf1 hf2 hg1 hg2
  by_cases hl : xs.length = ys.length
  · have HL := hid hl
    rw [← hl]
    clear hl hc2
    go_enter Try.func82, Try.ntmps82
    go_wp2_with fail
    go_loopw [5, 13] (fun _ i wr => ∃ j n : Nat, j ≤ xs.length ∧ i = .int .i64 j ∧ wr = w.drewN n ∧ Hid (UptoZ litS xs ys j)) (fun _ i _ => xs.length - (intOf i).toNat)
    case atStart => exact ⟨0, 0, by omega, rfl, rfl, UptoZ.zero _ _ _⟩
    case round =>
      obtain ⟨j, n, hj, rfl, rfl, hup⟩ := hrel
      by_cases hlt : j < xs.length
      · have hlt' : j < ys.length := by have := HL.out; omega
        obtain ⟨b, o, rfl, hcx⟩ := HX.out j hlt
        obtain ⟨b', o', rfl, hcy⟩ := HY.out j hlt'
        obtain ⟨_, _, c0, c1⟩ := hcx
        obtain ⟨_, _, d0, d1⟩ := hcy
        have hi0 : (0 : Int) ≤ (j : Int) := by omega
        have hi1 : (j : Int) < (xs.length : Int) := by omega
        have hno := hid (fun hp : litS xs[j] ys[j] = false => zip_hit hlt hlt' hp)
        have hyes := hid (fun hp : litS xs[j] ys[j] = true => hup.out.succ hlt hlt' hp)
        clear hup
        generalize xs[j] = x at *
        generalize ys[j] = y at *
        obtain ⟨xn, xb⟩ := x
        obtain ⟨yn, yb⟩ := y
        simp only at *
        cases h1 : (xn.toList == yn.toList)
        · have HP : Hid (litS ⟨xn, xb⟩ ⟨yn, yb⟩ = false) := by show _ = _; unfold litS; rw [strS_eq, h1]; rfl
          go_wp2_with fail
          go_quiet (fail)
          go_wp2_with fail
          go_ret
          exact ⟨ret_bool (hno.out HP.out).symm, n + nq, by first | rfl | rw [World.drewN_drewN]⟩
        · cases h2 : (xb == yb)
          · have HP : Hid (litS ⟨xn, xb⟩ ⟨yn, yb⟩ = false) := by show _ = _; unfold litS; rw [strS_eq, h1, h2]; rfl
            go_wp2_with fail
            go_quiet (fail)
            go_wp2_with fail
            go_ret
            exact ⟨ret_bool (hno.out HP.out).symm, n + nq, by first | rfl | rw [World.drewN_drewN]⟩
          · have HP : Hid (litS ⟨xn, xb⟩ ⟨yn, yb⟩ = true) := by show _ = _; unfold litS; rw [strS_eq, h1, h2]; rfl
            go_wp2_with fail
            go_quiet (fail)
            go_wp2_with fail
            go_roundw
            case rel => exact ⟨j + 1, n + nq, by omega, by go_num, rfl, hyes.out HP.out⟩
            case measure => simp [intOf]; omega
      · have : j = xs.length := by omega
        subst this
        have HZ := hid (UptoZ.all HL.out hup.out)
        clear hup
        go_wp2_with fail
        go_ret
        exact ⟨ret_bool HZ.out.symm, n, rfl⟩
  · have HS := hid (zip_len (p := litS) hl)
    have hne : ((xs.length : Int) != (ys.length : Int)) = true := by simp; omega
    clear hl
    go_enter Try.func82, Try.ntmps82
    go_wp2_with fail
    go_ret
    exact ⟨ret_bool HS.out.symm, 0, rfl⟩

set_option maxHeartbeats 1000000 in
theorem rlits_any (xs ys : List LitE) (S S' : Sl) (B : Nat) (w : World) (hf : S.fits xs.length) (hf' : S'.fits ys.length) (hx : SlAt 2 (LitAt B w) S.A xs) (hy : SlAt 2 (LitAt B w) S'.A ys) :
    Calls Try.prog 83 #[S.v xs.length, S'.v ys.length] w fun r w' => r = .returned (.bool (zipB litS xs ys)) ∧ ∃ n, w' = w.drewN n := by
  obtain ⟨A, cap⟩ := S
  obtain ⟨A', cap'⟩ := S'
  obtain ⟨hf1, hf2⟩ := hf
  obtain ⟨hg1, hg2⟩ := hf'
  simp only [Sl.v] at *
  unfold maxLen at hf2 hg2
  have hc1 : (xs.length : Int) ≤ 9223372036854775807 := by omega
  have hc2 : (ys.length : Int) ≤ 9223372036854775807 := by omega
  have HX := hid hx
  have HY := hid hy
  clear hx hy hf1 hf2 hg1 hg2
  by_cases hl : xs.length = ys.length
  · have HL := hid hl
    rw [← hl]
    clear hl hc2
    go_enter Try.func83, Try.ntmps83
    go_wp2_with fail
    go_loopw [5] (fun i wr => ∃ j n : Nat, j ≤ xs.length ∧ i = .int .i64 j ∧ wr = w.drewN n ∧ Hid (UptoZ litS xs ys j)) (fun i _ => xs.length - (intOf i).toNat)
    case atStart => exact ⟨0, 0, by omega, rfl, rfl, UptoZ.zero _ _ _⟩
    case round =>
      obtain ⟨j, n, hj, rfl, rfl, hup⟩ := hrel
      by_cases hlt : j < xs.length
      · have hlt' : j < ys.length := by have := HL.out; omega
        obtain ⟨b, o, rfl, hcx⟩ := HX.out j hlt
        obtain ⟨b', o', rfl, hcy⟩ := HY.out j hlt'
        obtain ⟨_, _, c0, c1⟩ := hcx
        obtain ⟨_, _, d0, d1⟩ := hcy
        have hi0 : (0 : Int) ≤ (j : Int) := by omega
        have hi1 : (j : Int) < (xs.length : Int) := by omega
        have hno := hid (fun hp : litS xs[j] ys[j] = false => zip_hit hlt hlt' hp)
        have hyes := hid (fun hp : litS xs[j] ys[j] = true => hup.out.succ hlt hlt' hp)
        clear hup
        generalize xs[j] = x at *
        generalize ys[j] = y at *
        obtain ⟨xn, xb⟩ := x
        obtain ⟨yn, yb⟩ := y
        simp only at *
        cases h1 : (xn.toList == yn.toList)
        · have HP : Hid (litS ⟨xn, xb⟩ ⟨yn, yb⟩ = false) := by show _ = _; unfold litS; rw [strS_eq, h1]; rfl
          go_wp2_with fail
          go_quiet (fail)
          go_wp2_with fail
          go_ret
          exact ⟨ret_bool (hno.out HP.out).symm, n + nq, by first | rfl | rw [World.drewN_drewN]⟩
        · cases h2 : (xb == yb)
          · have HP : Hid (litS ⟨xn, xb⟩ ⟨yn, yb⟩ = false) := by show _ = _; unfold litS; rw [strS_eq, h1, h2]; rfl
            go_wp2_with fail
            go_quiet (fail)
            go_wp2_with fail
            go_ret
            exact ⟨ret_bool (hno.out HP.out).symm, n + nq, by first | rfl | rw [World.drewN_drewN]⟩
          · have HP : Hid (litS ⟨xn, xb⟩ ⟨yn, yb⟩ = true) := by show _ = _; unfold litS; rw [strS_eq, h1, h2]; rfl
            go_wp2_with fail
            go_quiet (fail)
            go_wp2_with fail
            go_roundw
            case rel => exact ⟨j + 1, n + nq, by omega, by go_num, rfl, hyes.out HP.out⟩
            case measure => simp [intOf]; omega
      · have : j = xs.length := by omega
        subst this
        have HZ := hid (UptoZ.all HL.out hup.out)
        clear hup
        go_wp2_with fail
        go_ret
        exact ⟨ret_bool HZ.out.symm, n, rfl⟩
  · have HS := hid (zip_len (p := litS) hl)
    have hne : ((xs.length : Int) != (ys.length : Int)) = true := by simp; omega
    clear hl
    go_enter Try.func83, Try.ntmps83
    go_wp2_with fail
    go_ret
    exact ⟨ret_bool HS.out.symm, 0, rfl⟩
end Go.Proofs.Ytiencmbbkbicnaa
