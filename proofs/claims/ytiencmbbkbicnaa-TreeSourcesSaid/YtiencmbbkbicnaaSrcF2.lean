/-
  slices.EqualFunc at equations and nodes; Equal of package tree.
-/
import Derived.Test.YtiencmbbkbicnaaSrcF
namespace Go.Proofs.Ytiencmbbkbicnaa
open Go.RowKit

theorem below_drewN {B : Nat} {w W : World} (h : Below B w W) (n : Nat) : Below B w (W.drewN n) := h.trans ⟨rfl, rfl, rfl, Nat.le_refl _, fun _ _ => rfl⟩

set_option maxHeartbeats 1000000 in
theorem equal11_any (x y : EqE) (S S' : Sl) (C C' : Option Addr) (r r' : Nat) (B : Nat) (w : World) (hx : EqIs B w x S C r) (hy : EqIs B w y S' C' r') (hB : B ≤ w.heap.size) :
    Calls Try.prog 68 #[x.val S C r, y.val S' C' r'] w fun e w' => e = .returned (.bool (eqnS x y)) ∧ Below w.heap.size w w' := by
  obtain ⟨bx, hbx⟩ : ∃ bx : Array Value, bx = #[S.v x.left.length, .int .i64 x.right.op, .string x.right.name, .int .i64 x.right.num, .slice C x.right.k r, .int .i64 x.right.line, .int .i64 x.right.col, .int .i64 x.line, .int .i64 x.col] := ⟨_, rfl⟩
  obtain ⟨bz, hbz⟩ : ∃ bz : Array Value, bz = #[S'.v y.left.length, .int .i64 y.right.op, .string y.right.name, .int .i64 y.right.num, .slice C' y.right.k r', .int .i64 y.right.line, .int .i64 y.right.col, .int .i64 y.line, .int .i64 y.col] := ⟨_, rfl⟩
  have hb2 : Below w.heap.size w ((w.alloc (.cells bx 81)).alloc (.cells bz 81)) := ((Below.refl _ _).alloc (Nat.le_refl _) _).alloc (by simp) _
  have heq := equalStr_any x.left y.left S S' B _ hx.fits hy.fits (hx.left.imp fun _ _ _ => StrAt.keep (same_below hB hb2)) (hy.left.imp fun _ _ _ => StrAt.keep (same_below hB hb2))
  have hsm := fun n => same_any x.right y.right B C C' r r' (((w.alloc (.cells bx 81)).alloc (.cells bz 81)).drewN n) (ExAt.below hx.right hB (below_drewN hb2 n)) (ExAt.below hy.right hB (below_drewN hb2 n)) (Nat.le_trans hB hb2.size)
  rw [hbx, hbz] at heq hsm hb2
  clear hbx hbz bx bz
  obtain ⟨A, cap⟩ := S
  obtain ⟨A', cap'⟩ := S'
  obtain ⟨xl, xr, xi, xo⟩ := x
  obtain ⟨yl, yr, yi, yo⟩ := y
  simp only [EqE.val, Sl.v, Ex.val] at *
  have HEQ := hid heq
  have HSM := hid hsm
  have HB2 := hid hb2
  clear hx hy heq hb2 hsm
  cases h1 : zipB strS xl yl
  · have HS : Hid (eqnS ⟨xl, xr, xi, xo⟩ ⟨yl, yr, yi, yo⟩ = false) := by show _ = _; unfold eqnS; rw [h1]; rfl
    rw [h1] at HEQ
    go_enter Try.func68, Try.ntmps68
    go_wp2_with (go_at_call 69; refine HEQ.out.mono ?_; rintro r w2 ⟨rfl, n2, rfl⟩)
    go_ret
    exact ⟨ret_bool HS.out.symm, HB2.out.trans ⟨rfl, rfl, rfl, Nat.le_refl _, fun _ _ => rfl⟩⟩
  · have HS : Hid (eqnS ⟨xl, xr, xi, xo⟩ ⟨yl, yr, yi, yo⟩ = xr.same yr) := by show _ = _; unfold eqnS; rw [h1]; rfl
    rw [h1] at HEQ
    go_enter Try.func68, Try.ntmps68
    go_wp2_with (first
      | (go_at_call 69; refine HEQ.out.mono ?_; rintro r w2 ⟨rfl, n2, rfl⟩)
      | (go_at_call 15; refine (HSM.out _).mono ?_; rintro r w3 ⟨rfl, hb3⟩))
    go_ret
    have hb4 := below_drewN HB2.out n2
    exact ⟨ret_bool HS.out.symm, hb4.trans (hb3.mono hb4.size)⟩

set_option maxHeartbeats 2000000 in
theorem eqfEquation_any (xs ys : List EqE) (S S' : Sl) (B : Nat) (w : World) (hf : S.fits xs.length) (hf' : S'.fits ys.length) (hx : SlAt 9 (EqAt B w) S.A xs) (hy : SlAt 9 (EqAt B w) S'.A ys) (hB : B ≤ w.heap.size) :
    Calls Try.prog 67 #[S.v xs.length, S'.v ys.length, .func (.func 68) #[] #[]] w fun r w' => r = .returned (.bool (zipB eqnS xs ys)) ∧ Below w.heap.size w w' := by
  obtain ⟨A, cap⟩ := S
  obtain ⟨A', cap'⟩ := S'
  obtain ⟨hf1, hf2⟩ := hf
  obtain ⟨hg1, hg2⟩ := hf'
  simp only [Sl.v] at *
  unfold maxLen at hf2 hg2
  have hc1 : (xs.length : Int) ≤ 9223372036854775807 := by omega
  have hc2 : (ys.length : Int) ≤ 9223372036854775807 := by omega
  have HX := hid hx
  have HY := hid hy
  clear hx hy hf1 hf2 hg1 hg2
  by_cases hl : xs.length = ys.length
  · have HL := hid hl
    rw [← hl]
    clear hl hc2
    go_enter Try.func67, Try.ntmps67
    go_wp2_with fail
    go_loopw [7, 8, 9, 17] (fun _ _ _ i wr => ∃ j : Nat, j ≤ xs.length ∧ i = .int .i64 j ∧ Hid (UptoZ eqnS xs ys j) ∧ Below w.heap.size w wr) (fun _ _ _ i _ => xs.length - (intOf i).toNat)
    case atStart => exact ⟨0, by omega, rfl, UptoZ.zero _ _ _, Below.refl _ _⟩
    case round =>
      obtain ⟨j, hj, rfl, hup, hbr⟩ := hrel
      have hsz := hbr.size
      by_cases hlt : j < xs.length
      · have hlt' : j < ys.length := by have := HL.out; omega
        obtain ⟨b, o, rfl, hcx⟩ := HX.out j hlt
        obtain ⟨b', o', rfl, hcy⟩ := HY.out j hlt'
        have hno := hid (fun hp : eqnS xs[j] ys[j] = false => zip_hit hlt hlt' hp)
        have hyes := hid (fun hp : eqnS xs[j] ys[j] = true => hup.out.succ hlt hlt' hp)
        generalize xs[j] = x at *
        generalize ys[j] = y at *
        obtain ⟨hb1, ⟨A1, p1⟩, C1, r1, k1, i1⟩ := hcx.keep (same_below hB hbr)
        obtain ⟨hb2, ⟨A2, p2⟩, C2, r2, k2, i2⟩ := hcy.keep (same_below hB hbr)
        obtain ⟨c0, c1, c2, c3, c4, c5, c6, c7, c8⟩ := k1
        obtain ⟨d0, d1, d2, d3, d4, d5, d6, d7, d8⟩ := k2
        have hi0 : (0 : Int) ≤ (j : Int) := by omega
        have hi1 : (j : Int) < (xs.length : Int) := by omega
        have hlt1 : b < wr.heap.size := by omega
        have hlt2 : b' < wr.heap.size := by omega
        have hw2 := (hbr.alloc hsz (.cells #[.slice A1 x.left.length p1, .int .i64 x.right.op, .string x.right.name, .int .i64 x.right.num, .slice C1 x.right.k r1, .int .i64 x.right.line, .int .i64 x.right.col, .int .i64 x.line, .int .i64 x.col] 81)).alloc (by simp; omega) (.cells #[.slice A2 y.left.length p2, .int .i64 y.right.op, .string y.right.name, .int .i64 y.right.num, .slice C2 y.right.k r2, .int .i64 y.right.line, .int .i64 y.right.col, .int .i64 y.line, .int .i64 y.col] 81)
        have hsm : Go.Proofs.Ytiencmbbkbicnaa.Same B wr ((wr.alloc (.cells #[.slice A1 x.left.length p1, .int .i64 x.right.op, .string x.right.name, .int .i64 x.right.num, .slice C1 x.right.k r1, .int .i64 x.right.line, .int .i64 x.right.col, .int .i64 x.line, .int .i64 x.col] 81)).alloc (.cells #[.slice A2 y.left.length p2, .int .i64 y.right.op, .string y.right.name, .int .i64 y.right.num, .slice C2 y.right.k r2, .int .i64 y.right.line, .int .i64 y.right.col, .int .i64 y.line, .int .i64 y.col] 81)) := same_below (Nat.le_refl B) (((Below.refl B wr).alloc (by omega) _).alloc (by simp; omega) _)
        have hcl := equal11_any x y ⟨A1, p1⟩ ⟨A2, p2⟩ C1 C2 r1 r2 B _ (i1.keep hsm) (i2.keep hsm) (by simp; omega)
        simp only [EqE.val, Sl.v] at hcl c0 d0
        clear hup hcx hcy hsm i1 i2
        cases hp : eqnS x y
        · have HP := hid hp
          rw [hp] at hcl
          clear hp
          go_wp2_with (go_at_call 68; refine hcl.mono ?_; rintro r w2 ⟨rfl, hb3⟩)
          go_ret
          exact ⟨ret_bool (hno.out HP.out).symm, hw2.trans (hb3.mono hw2.size)⟩
        · have HP := hid hp
          rw [hp] at hcl
          clear hp
          go_wp2_with (go_at_call 68; refine hcl.mono ?_; rintro r w2 ⟨rfl, hb3⟩)
          go_roundw
          case rel => exact ⟨j + 1, by omega, by go_num, hyes.out HP.out, hw2.trans (hb3.mono hw2.size)⟩
          case measure => simp [intOf]; omega
      · have : j = xs.length := by omega
        subst this
        have HZ := hid (UptoZ.all HL.out hup.out)
        clear hup
        go_wp2_with fail
        go_ret
        exact ⟨ret_bool HZ.out.symm, hbr⟩
  · have HS := hid (zip_len (p := eqnS) hl)
    have hne : ((xs.length : Int) != (ys.length : Int)) = true := by simp; omega
    clear hl
    go_enter Try.func67, Try.ntmps67
    go_wp2_with fail
    go_ret
    exact ⟨ret_bool HS.out.symm, Below.refl _ _⟩
end Go.Proofs.Ytiencmbbkbicnaa
