/-
  slices.EqualFunc at variables, equations and nodes; the closures that package tree hands it; vars and Equal.
-/
import Derived.Test.YtiencmbbkbicnaaSrcE
import Derived.Test.YtiencmbbkbicnaaTreeS2
import Derived.Test.YtiencmbbkbicnaaBox2
namespace Go.Proofs.Ytiencmbbkbicnaa
open Go.RowKit

def varS (a b : VarE) : Bool := strS a.name b.name && a.type == b.type && zipB litS a.clock b.clock
def eqnS (a b : EqE) : Bool := zipB strS a.left b.left && a.right.same b.right
def nodeS (a b : NodeE) : Bool := strS a.name b.name && zipB varS a.ins b.ins && zipB varS a.outs b.outs && zipB varS a.vars b.vars && zipB eqnS a.eqs b.eqs

set_option maxHeartbeats 1000000 in
theorem vars1_any (x y : VarE) (S S' : Sl) (B : Nat) (w : World) (hx : VarIs B w x S) (hy : VarIs B w y S') (hB : B ≤ w.heap.size) :
    Calls Try.prog 81 #[x.val S, y.val S'] w fun r w' => r = .returned (.bool (varS x y)) ∧ Below w.heap.size w w' := by
  have hb2 : Below w.heap.size w ((w.alloc (.cells #[.string x.name, .int .i64 x.type, S.v x.clock.length, .int .i64 x.line, .int .i64 x.col] 97)).alloc (.cells #[.string y.name, .int .i64 y.type, S'.v y.clock.length, .int .i64 y.line, .int .i64 y.col] 97)) := ((Below.refl _ _).alloc (Nat.le_refl _) _).alloc (by simp) _
  have heq := equalLit_any x.clock y.clock S S' B _ hx.fits hy.fits (hx.clock.imp fun _ _ _ => LitAt.keep (same_below hB hb2)) (hy.clock.imp fun _ _ _ => LitAt.keep (same_below hB hb2))
  obtain ⟨A, cap⟩ := S
  obtain ⟨A', cap'⟩ := S'
  obtain ⟨xn, xt, xc, xl, xo⟩ := x
  obtain ⟨yn, yt, yc, yl, yo⟩ := y
  simp only [VarE.val, Sl.v] at *
  have HEQ := hid heq
  have HB2 := hid hb2
  clear hx hy heq hb2
  cases h1 : (xn.toList == yn.toList)
  · have HS : Hid (varS ⟨xn, xt, xc, xl, xo⟩ ⟨yn, yt, yc, yl, yo⟩ = false) := by show _ = _; unfold varS; rw [strS_eq, h1]; rfl
    go_enter Try.func81, Try.ntmps81
    go_wp2_with fail
    go_ret
    exact ⟨ret_bool HS.out.symm, HB2.out⟩
  · cases h2 : (xt == yt)
    · have HS : Hid (varS ⟨xn, xt, xc, xl, xo⟩ ⟨yn, yt, yc, yl, yo⟩ = false) := by show _ = _; unfold varS; rw [strS_eq, h1, h2]; rfl
      go_enter Try.func81, Try.ntmps81
      go_wp2_with fail
      go_ret
      exact ⟨ret_bool HS.out.symm, HB2.out⟩
    · have HS : Hid (varS ⟨xn, xt, xc, xl, xo⟩ ⟨yn, yt, yc, yl, yo⟩ = zipB litS xc yc) := by show _ = _; unfold varS; rw [strS_eq, h1, h2]; rfl
      go_enter Try.func81, Try.ntmps81
      go_wp2_with (go_at_call 82; refine HEQ.out.mono ?_; rintro r w2 ⟨rfl, n2, rfl⟩)
      go_ret
      exact ⟨ret_bool HS.out.symm, HB2.out.trans ⟨rfl, rfl, rfl, Nat.le_refl _, fun _ _ => rfl⟩⟩

set_option maxHeartbeats 2000000 in
theorem eqfVar_any (xs ys : List VarE) (S S' : Sl) (B : Nat) (w : World) (hf : S.fits xs.length) (hf' : S'.fits ys.length) (hx : SlAt 5 (VarAt B w) S.A xs) (hy : SlAt 5 (VarAt B w) S'.A ys) (hB : B ≤ w.heap.size) :
    Calls Try.prog 80 #[S.v xs.length, S'.v ys.length, .func (.func 81) #[] #[]] w fun r w' => r = .returned (.bool (zipB varS xs ys)) ∧ Below w.heap.size w w' := by
  obtain ⟨A, cap⟩ := S
  obtain ⟨A', cap'⟩ := S'
  obtain ⟨hf1, hf2⟩ := hf
  obtain ⟨hg1, hg2⟩ := hf'
  simp only [Sl.v] at *
  unfold maxLen at hf2 hg2
  have hc1 : (xs.length : Int) ≤ 9223372036854775807 := by omega
  have hc2 : (ys.length : Int) ≤ 9223372036854775807 := by omega
  have HX := hid hx
  have HY := hid hy
  clear hx hy hf1 hf2 hg1 hg2
  by_cases hl : xs.length = ys.length
  · have HL := hid hl
    rw [← hl]
    clear hl hc2
    go_enter Try.func80, Try.ntmps80
    go_wp2_with fail
    go_loopw [7, 8, 9, 17] (fun _ _ _ i wr => ∃ j : Nat, j ≤ xs.length ∧ i = .int .i64 j ∧ Hid (UptoZ varS xs ys j) ∧ Below w.heap.size w wr) (fun _ _ _ i _ => xs.length - (intOf i).toNat)
    case atStart => exact ⟨0, by omega, rfl, UptoZ.zero _ _ _, Below.refl _ _⟩
    case round =>
      obtain ⟨j, hj, rfl, hup, hbr⟩ := hrel
      have hsz := hbr.size
      by_cases hlt : j < xs.length
      · have hlt' : j < ys.length := by have := HL.out; omega
        obtain ⟨b, o, rfl, hcx⟩ := HX.out j hlt
        obtain ⟨b', o', rfl, hcy⟩ := HY.out j hlt'
        have hno := hid (fun hp : varS xs[j] ys[j] = false => zip_hit hlt hlt' hp)
        have hyes := hid (fun hp : varS xs[j] ys[j] = true => hup.out.succ hlt hlt' hp)
        generalize xs[j] = x at *
        generalize ys[j] = y at *
        obtain ⟨hb1, ⟨A1, p1⟩, k1, i1⟩ := hcx.keep (same_below hB hbr)
        obtain ⟨hb2, ⟨A2, p2⟩, k2, i2⟩ := hcy.keep (same_below hB hbr)
        obtain ⟨c0, c1, c2, c3, c4⟩ := k1
        obtain ⟨d0, d1, d2, d3, d4⟩ := k2
        have hi0 : (0 : Int) ≤ (j : Int) := by omega
        have hi1 : (j : Int) < (xs.length : Int) := by omega
        have hlt1 : b < wr.heap.size := by omega
        have hlt2 : b' < wr.heap.size := by omega
        have hw2 := (hbr.alloc hsz (.cells #[.string x.name, .int .i64 x.type, .slice A1 x.clock.length p1, .int .i64 x.line, .int .i64 x.col] 97)).alloc (by simp; omega) (.cells #[.string y.name, .int .i64 y.type, .slice A2 y.clock.length p2, .int .i64 y.line, .int .i64 y.col] 97)
        have hsm : Go.Proofs.Ytiencmbbkbicnaa.Same B wr ((wr.alloc (.cells #[.string x.name, .int .i64 x.type, .slice A1 x.clock.length p1, .int .i64 x.line, .int .i64 x.col] 97)).alloc (.cells #[.string y.name, .int .i64 y.type, .slice A2 y.clock.length p2, .int .i64 y.line, .int .i64 y.col] 97)) := same_below (Nat.le_refl B) (((Below.refl B wr).alloc (by omega) _).alloc (by simp; omega) _)
        have hcl := vars1_any x y ⟨A1, p1⟩ ⟨A2, p2⟩ B _ (i1.keep hsm) (i2.keep hsm) (by simp; omega)
        simp only [VarE.val, Sl.v] at hcl c2 d2
        clear hup hcx hcy hsm i1 i2
        cases hp : varS x y
        · have HP := hid hp
          rw [hp] at hcl
          clear hp
          go_wp2_with (go_at_call 81; refine hcl.mono ?_; rintro r w2 ⟨rfl, hb3⟩)
          go_ret
          exact ⟨ret_bool (hno.out HP.out).symm, hw2.trans (hb3.mono hw2.size)⟩
        · have HP := hid hp
          rw [hp] at hcl
          clear hp
          go_wp2_with (go_at_call 81; refine hcl.mono ?_; rintro r w2 ⟨rfl, hb3⟩)
          go_roundw
          case rel => exact ⟨j + 1, by omega, by go_num, hyes.out HP.out, hw2.trans (hb3.mono hw2.size)⟩
          case measure => simp [intOf]; omega
      · have : j = xs.length := by omega
        subst this
        have HZ := hid (UptoZ.all HL.out hup.out)
        clear hup
        go_wp2_with fail
        go_ret
        exact ⟨ret_bool HZ.out.symm, hbr⟩
  · have HS := hid (zip_len (p := varS) hl)
    have hne : ((xs.length : Int) != (ys.length : Int)) = true := by simp; omega
    clear hl
    go_enter Try.func80, Try.ntmps80
    go_wp2_with fail
    go_ret
    exact ⟨ret_bool HS.out.symm, Below.refl _ _⟩

set_option maxHeartbeats 1000000 in
theorem cvars_any (xs ys : List VarE) (S S' : Sl) (B : Nat) (w : World) (hf : S.fits xs.length) (hf' : S'.fits ys.length) (hx : SlAt 5 (VarAt B w) S.A xs) (hy : SlAt 5 (VarAt B w) S'.A ys) (hB : B ≤ w.heap.size) :
    Calls Try.prog 66 #[S.v xs.length, S'.v ys.length] w fun r w' => r = .returned (.bool (zipB varS xs ys)) ∧ Below w.heap.size w w' := by
  have h := eqfVar_any xs ys S S' B w hf hf' hx hy hB
  obtain ⟨A, cap⟩ := S
  obtain ⟨A', cap'⟩ := S'
  simp only [Sl.v] at *
  clear hf hf' hx hy
  go_enter Try.func66, Try.ntmps66
  go_wp2_with (go_at_call 80; refine h.mono ?_; rintro r w2 ⟨rfl, hb2⟩)
  go_ret
  exact ⟨rfl, hb2⟩
end Go.Proofs.Ytiencmbbkbicnaa
