/-
  The walks of Same, of both.
-/
import Derived.Test.YtmdnmodjdgcmjaaDoorHScS
import Derived.Shelf.Bytes.SlSmallAll
import Derived.Lib.QuietBelow
namespace Go.Proofs.YtmdnmodjdgcmjaaDoor
open Go.RowKit

theorem eqints_any (xs ys : List Int) (A B : Option Addr) (p q : Nat) (w : World) (hx : IntsAt w A xs) (hy : IntsAt w B ys) (h1 : xs.length ≤ maxLen) (h2 : ys.length ≤ maxLen) :
    Calls Tryd.prog 46 #[.slice A xs.length p, .slice B ys.length q] w fun e w' => e = .returned (.bool (decide (xs = ys))) ∧ ∃ k, w' = w.drewN k := by
  unfold maxLen at h1 h2
  by_cases hl : xs.length = ys.length
  · by_cases h0 : xs.length = 0
    · have hx0 : xs = [] := List.length_eq_zero_iff.1 h0
      have hy0 : ys = [] := List.length_eq_zero_iff.1 (by omega)
      subst hx0 hy0
      exact (Tryd.slices_Equal_int_empty A B p 0 q w (by omega)).mono fun e w' ⟨he, hw⟩ => ⟨he, 0, hw⟩
    · obtain ⟨b1, o1, rfl, _⟩ := hx 0 (by omega)
      obtain ⟨b2, o2, rfl, _⟩ := hy 0 (by omega)
      refine (Tryd.slices_Equal_int b1 o1 xs.length p b2 o2 ys.length q xs ys w (Nat.le_refl _) (Nat.le_refl _) (by omega) (by omega) (fun j hj => ?_) (fun j hj => ?_)).mono fun e w' ⟨he, hw⟩ => ⟨?_, hw⟩
      · obtain ⟨b, o, hA, hc⟩ := hx j hj
        injection hA with hA
        injection hA with h3 h4
        subst h3 h4
        rw [hc, List.getD_eq_getElem?_getD, List.getElem?_eq_getElem hj]; rfl
      · obtain ⟨b, o, hA, hc⟩ := hy j hj
        injection hA with hA
        injection hA with h3 h4
        subst h3 h4
        rw [hc, List.getD_eq_getElem?_getD, List.getElem?_eq_getElem hj]; rfl
      · rw [he, List.take_length, List.take_length]
        exact ret_bool (by rw [Bool.eq_iff_iff]; simp)
  · have hd : decide (xs = ys) = false := decide_eq_false fun e => hl (by rw [e])
    rw [hd]
    exact (Tryd.slices_Equal_int_lens A B xs.length p ys.length q w hl).mono fun e w' ⟨he, hw⟩ => ⟨he, 0, hw⟩
theorem bytes_in {w : World} {A : Option Addr} {xs : List UInt8} (hx : BytesAt w A xs) : Lib.BytesIn w A xs.length (xs.map fun c => (c.toNat : Int)) := fun h0 => by
  obtain ⟨b, o, rfl, _⟩ := hx 0 h0
  refine ⟨b, o, rfl, fun j hj => ?_⟩
  obtain ⟨b', o', hA, hc⟩ := hx j hj
  injection hA with hA
  injection hA with h3 h4
  subst h3 h4
  rw [hc, List.getD_eq_getElem?_getD, List.getElem?_map, List.getElem?_eq_getElem hj]; rfl
theorem bytes_of (xs : List UInt8) : Lib.bytesOf (xs.map fun c => (c.toNat : Int)) = xs := bytes_back xs
theorem eqbytes_any (xs ys : List UInt8) (A B : Option Addr) (p q : Nat) (w : World) (hx : BytesAt w A xs) (hy : BytesAt w B ys) :
    Calls Tryd.prog 47 #[.slice A xs.length p, .slice B ys.length q] w fun e w' => e = .returned (.bool (decide (xs = ys))) ∧ ∃ k, w' = w.drewN k := by
  refine (Tryd.bytes_Equal_all A B xs.length p ys.length q _ _ w (by simp) (by simp) (bytes_in hx) (bytes_in hy)).mono fun e w' ⟨he, hw⟩ => ⟨?_, 0, hw⟩
  rw [he, bytes_of, bytes_of]
  exact ret_bool (by rw [Bool.eq_iff_iff]; simp)

theorem ev_decide (x y : EvE) : decide (x = y) = (x.kind == y.kind && x.num == y.num && decide (x.row = y.row) && decide (x.ch = y.ch)) := by
  obtain ⟨a, b, c, d⟩ := x
  obtain ⟨a', b', c', d'⟩ := y
  rw [Bool.eq_iff_iff]
  simp [and_assoc]
theorem IntsAt.keep {w W : World} {A : Option Addr} {l : List Int} (h : IntsAt w A l) (hb : Below w.heap.size w W) : IntsAt W A l := fun j hj => by
  obtain ⟨b, o, hA, hcell⟩ := h j hj
  exact ⟨b, o, hA, (hb.cell (p := ⟨b, o + j, none⟩) (cell_lt hcell)).trans hcell⟩
theorem BytesAt.keep {w W : World} {A : Option Addr} {l : List UInt8} (h : BytesAt w A l) (hb : Below w.heap.size w W) : BytesAt W A l := fun j hj => by
  obtain ⟨b, o, hA, hcell⟩ := h j hj
  exact ⟨b, o, hA, (hb.cell (p := ⟨b, o + j, none⟩) (cell_lt hcell)).trans hcell⟩
theorem Fr.drewN {P : Option Nat} {S : World → Prop} {w0 w : World} {ks : List Kp} (h : Fr P S w0 w ks) (k : Nat) : Fr P S w0 (w.drewN k) ks := h.below ⟨rfl, rfl, rfl, Nat.le_refl _, fun _ _ => rfl⟩
set_option maxRecDepth 100000 in
set_option maxHeartbeats 4000000 in
theorem same1_any (x y : EvE) (R C R' C' : Sl) (D D' : Nat → Prop) (w : World) (hx : EvOf D w x R C) (hy : EvOf D' w y R' C') :
    Calls Tryd.prog 45 #[x.val R C, y.val R' C'] w fun e w' => e = .returned (.bool (decide (x = y))) ∧ Below w.heap.size w w' := by
  obtain ⟨_, _, f1, f2, hr, hc⟩ := hx
  obtain ⟨_, _, f3, f4, hr', hc'⟩ := hy
  have hdec := ev_decide x y
  have hI := fun W (hb : Below w.heap.size w W) => eqints_any x.row y.row R.A R'.A R.cap R'.cap W ((ints_at hr).keep hb) ((ints_at hr').keep hb) (Nat.le_trans f1.1 f1.2) (Nat.le_trans f3.1 f3.2)
  have hB := fun W (hb : Below w.heap.size w W) => eqbytes_any x.ch y.ch C.A C'.A C.cap C'.cap W ((bytes_at hc).keep hb) ((bytes_at hc').keep hb)
  obtain ⟨k, n, row, ch⟩ := x
  obtain ⟨k', n', row', ch'⟩ := y
  obtain ⟨A, a⟩ := R
  obtain ⟨B, b⟩ := C
  obtain ⟨A', a'⟩ := R'
  obtain ⟨B', b'⟩ := C'
  dsimp only at hI hB hdec
  simp only [EvE.val, Sl.v]
  generalize decide (row = row') = dr at *
  generalize decide (ch = ch') = dc at *
  generalize row.length = m at *
  generalize row'.length = m' at *
  generalize ch.length = q at *
  generalize ch'.length = q' at *
  rw [hdec]
  replace hI := hid hI
  replace hB := hid hB
  have f_0 := ((Fr.start0 w).alloc (.cells #[.int .i64 k, .int .i64 n, .slice A m a, .slice B q b] 40)).alloc (.cells #[.int .i64 k', .int .i64 n', .slice A' m' a', .slice B' q' b'] 40)
  rw [World.size_alloc] at f_0
  clear hdec hr hc hr' hc' f1 f2 f3 f4
  go_enter Tryd.func45, Tryd.ntmps45
  go_upto_region 1 with fail
  generalize (w.alloc (.cells #[.int .i64 k, .int .i64 n, .slice A m a, .slice B q b] 40)).alloc (.cells #[.int .i64 k', .int .i64 n', .slice A' m' a', .slice B' q' b'] 40) = W at *
  obtain ⟨x0, x1, x2, x3, -⟩ := blk4 f_0.rot1.blk
  obtain ⟨y0, y1, y2, y3, -⟩ := blk4 f_0.blk
  by_cases hk : k = k'
  case neg =>
    have e1 : (k == k') = false := beq_eq_false_iff_ne.2 hk
    go_wp2_with fail
    go_ret
    exact ⟨ret_bool (by simp), f_0.low⟩
  case pos =>
  subst hk
  by_cases hn : n = n'
  case neg =>
    have e1 : (n == n') = false := beq_eq_false_iff_ne.2 hn
    go_wp2_with fail
    go_ret
    exact ⟨ret_bool (by simp), f_0.low⟩
  case pos =>
  subst hn
  go_wp2_with fail
  refine (hI.out W f_0.low).mono ?_
  rintro r W1 ⟨rfl, j, hW⟩
  have f_1 := f_0.drewN j
  rw [← hW] at f_1
  clear hW x0 x1 x2 x3 y0 y1 y2 y3 f_0
  obtain ⟨x0, x1, x2, x3, -⟩ := blk4 f_1.rot1.blk
  obtain ⟨y0, y1, y2, y3, -⟩ := blk4 f_1.blk
  cases dr with
  | false =>
    go_wp2_with fail
    go_ret
    exact ⟨ret_bool (by simp), f_1.low⟩
  | true =>
    go_wp2_with fail
    refine (hB.out _ f_1.low).mono ?_
    rintro r W2 ⟨rfl, j2, hW⟩
    have f_2 := f_1.drewN j2
    rw [← hW] at f_2
    clear hW
    go_wp2_with fail
    go_ret
    exact ⟨ret_bool (by simp), f_2.low⟩

/-- an event that lies somewhere, and one that is read from it -/
theorem ev_cells {D : Nat → Prop} {w : World} {A : Option Addr} {l : List EvE} (h : SlAt 4 (EvIn D w) A l) {j : Nat} (hj : j < l.length) : ∃ b o R C, A = some ⟨b, o, none⟩ ∧ EvCells w b (o + j * 4) l[j] R C ∧ EvOf D w l[j] R C := by
  obtain ⟨b, o, hA, _, R, C, hc, hi⟩ := h j hj
  exact ⟨b, o, R, C, hA, hc, hi⟩
theorem EvOf.low {D : Nat → Prop} {w w' : World} {x : EvE} {R C : Sl} (hD : ∀ n, D n → n < w.heap.size) (h : EvOf D w x R C) (hb : Below w.heap.size w w') : EvOf D w' x R C :=
  h.keep (fun b o _ hd hc => (hb.cell (p := ⟨b, o, none⟩) (hD b hd)).trans hc) fun _ h => h
theorem EvsIs.low {D : Nat → Prop} {w w' : World} {l : List EvE} {S : Sl} (hD : ∀ n, D n → n < w.heap.size) (h : EvsIs D w l S) (hb : Below w.heap.size w w') : EvsIs D w' l S :=
  h.keep (fun b o _ hd hc => (hb.cell (p := ⟨b, o, none⟩) (hD b hd)).trans hc) fun _ h => h
set_option maxRecDepth 100000 in
set_option maxHeartbeats 4000000 in
theorem eqfEv_any (l m : List EvE) (S S' : Sl) (D D' : Nat → Prop) (w : World) (hl : EvsIs D w l S) (hm : EvsIs D' w m S') (hD : ∀ n, D n → n < w.heap.size) (hD' : ∀ n, D' n → n < w.heap.size) :
    Calls Tryd.prog 44 #[S.v l.length, S'.v m.length, .func (.func 45) #[] #[]] w fun e w' => e = .returned (.bool (decide (l = m))) ∧ Below w.heap.size w w' := by
  have h1 := hl.fits
  have h2 := hm.fits
  have hL := hid (fun W (hb : Below w.heap.size w W) => (hl.low hD hb).evs)
  have hM := hid (fun W (hb : Below w.heap.size w W) => (hm.low hD' hb).evs)
  have hDs := hid (fun (W : World) (hb : Below w.heap.size w W) => And.intro (fun n (h : D n) => Nat.lt_of_lt_of_le (hD n h) hb.size) (fun n (h : D' n) => Nat.lt_of_lt_of_le (hD' n h) hb.size))
  obtain ⟨A, a⟩ := S
  obtain ⟨B, b⟩ := S'
  simp only [Sl.v, Sl.fits, maxLen] at *
  have hx1 : (l.length : Int) ≤ 9223372036854775807 := by omega
  have hy1 : (m.length : Int) ≤ 9223372036854775807 := by omega
  clear hl hm hD hD'
  by_cases hlen : l.length = m.length
  case neg =>
    have hd : decide (l = m) = false := decide_eq_false fun e => hlen (by rw [e])
    have hl' : ((l.length : Int) == (m.length : Int)) = false := beq_eq_false_iff_ne.2 (by omega)
    have hl2 : ((l.length : Int) != (m.length : Int)) = true := by simp only [bne, hl']; rfl
    rw [hd]
    go_enter Tryd.func44, Tryd.ntmps44
    go_wp2_with fail
    go_ret
    exact ⟨rfl, Below.refl _ _⟩
  case pos =>
  have hle := hid hlen
  rw [← hlen]
  clear hlen hy1
  generalize hn : l.length = n at *
  go_enter Tryd.func44, Tryd.ntmps44
  go_wp2_with fail
  go_loopw [7, 8, 9, 17] (fun _ _ _ i wr => ∃ j : Nat, j ≤ n ∧ i = .int .i64 j ∧ Hid (UptoE l m j) ∧ Below w.heap.size w wr) (fun _ _ _ i _ => n - (intOf i).toNat)
  case atStart => exact ⟨0, by omega, rfl, (fun m _ _ h => absurd h (by omega)), Below.refl _ _⟩
  case round =>
    obtain ⟨j, hj, rfl, hup, hbr⟩ := hrel
    have hsz := hbr.size
    by_cases hlt : j < n
    · have g1 : j < l.length := by omega
      have g2 : j < m.length := by have := hle.out; omega
      obtain ⟨b1, o1, R, C, rfl, ⟨c0, c1, c2, c3⟩, i1⟩ := ev_cells (hL.out wr hbr) g1
      obtain ⟨b2, o2, R', C', rfl, ⟨d0, d1, d2, d3⟩, i2⟩ := ev_cells (hM.out wr hbr) g2
      have hst := hid (fun he => hup.out.step g1 g2 he)
      have hno : l[j] ≠ m[j] → decide (l = m) = false := fun h => decide_eq_false fun e => h (by subst e; rfl)
      replace hno := hid hno
      obtain ⟨q1, q2⟩ := hDs.out wr hbr
      generalize l[j] = x at *
      generalize m[j] = y at *
      have hi0 : (0 : Int) ≤ (j : Int) := by omega
      have hi1 : (j : Int) < (n : Int) := by omega
      have k1 := cell_lt c0
      have k2 := cell_lt d0
      have hb2 := ((Below.refl wr.heap.size wr).alloc (Nat.le_refl _) (.cells #[.int .i64 x.kind, .int .i64 x.num, .slice R.A x.row.length R.cap, .slice C.A x.ch.length C.cap] 40)).alloc (by simp) (.cells #[.int .i64 y.kind, .int .i64 y.num, .slice R'.A y.row.length R'.cap, .slice C'.A y.ch.length C'.cap] 40)
      have hcl := same1_any x y R C R' C' D D' _ (i1.low q1 hb2) (i2.low q2 hb2)
      have hw2 := hbr.trans (hb2.mono hsz)
      have hsz2 := hw2.size
      simp only [EvE.val, Sl.v] at hcl c2 c3 d2 d3
      replace hcl := hid hcl
      replace hw2 := hid hw2
      clear hup hb2 i1 i2 q1 q2
      by_cases hxy : x = y
      · rw [decide_eq_true hxy] at hcl
        replace hst := hid (hst.out hxy)
        clear hxy
        go_wp2_with (go_at_call 45; refine hcl.out.mono ?_; rintro r w2 ⟨rfl, hb3⟩)
        go_roundw
        case rel => exact ⟨j + 1, by omega, by go_num, hst.out, hw2.out.trans (hb3.mono hsz2)⟩
        case measure => simp [intOf]; omega
      · rw [decide_eq_false hxy] at hcl
        replace hno := hid (hno.out hxy)
        clear hxy
        go_wp2_with (go_at_call 45; refine hcl.out.mono ?_; rintro r w2 ⟨rfl, hb3⟩)
        go_ret
        exact ⟨ret_bool hno.out.symm, hw2.out.trans (hb3.mono hsz2)⟩
    · have hje : j = n := by omega
      subst hje
      have hd : decide (l = m) = true := decide_eq_true (by
        have := hup.out
        rw [← hn] at this
        exact UptoE.all this (by rw [hn]; exact hle.out))
      replace hd := hid hd
      go_wp2_with fail
      go_ret
      exact ⟨ret_bool hd.out.symm, hbr⟩
theorem same_code (l m : List EvE) (S S' : Sl) (D D' : Nat → Prop) (w : World) (hl : EvsIs D w l S) (hm : EvsIs D' w m S') (hD : ∀ n, D n → n < w.heap.size) (hD' : ∀ n, D' n → n < w.heap.size) :
    Calls Tryd.prog 19 #[S.v l.length, S'.v m.length] w fun e w' => e = .returned (.bool (decide (l = m))) ∧ Below w.heap.size w w' := by
  have h := eqfEv_any l m S S' D D' w hl hm hD hD'
  simp only [Sl.v] at *
  replace h := hid h
  clear hl hm hD hD'
  go_enter Tryd.func19, Tryd.ntmps19
  go_wp2_with (go_at_call 44; refine h.out.mono ?_; rintro r w2 ⟨rfl, hb2⟩)
  go_ret
  exact ⟨rfl, hb2⟩
end Go.Proofs.YtmdnmodjdgcmjaaDoor
