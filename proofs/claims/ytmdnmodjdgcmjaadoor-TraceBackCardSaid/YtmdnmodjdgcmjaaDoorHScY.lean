/-
  The walk of crash.
-/
import Derived.Test.YtmdnmodjdgcmjaaDoorHScX
namespace Go.Proofs.YtmdnmodjdgcmjaaDoor
open Go.RowKit

def EvPost (o : Option EvE) (w : World) (r : Ending) (w' : World) : Prop := Below w.heap.size w w' ∧ ∃ x R C ok, r = .returned (.tuple #[x.val R C, .bool ok]) ∧ EvOf (Iv w.heap.size w'.heap.size) w' x R C ∧
  (∀ y, o = some y → ok = true ∧ x = y) ∧ (o = none → ok = false ∨ rightV x = false)
theorem words_tl {w : World} {b o : Nat} {x : ByteArray} {ws : List ByteArray} (h : WordsAt w (some ⟨b, o, none⟩) (x :: ws)) : WordsAt w (some ⟨b, o + 1, none⟩) ws := fun j hj => by
  obtain ⟨b', o', hA, hp⟩ := h (j + 1) (by simp; omega)
  injection hA with hA
  injection hA with h1 h2
  subst h1 h2
  refine ⟨b, o + 1, rfl, ?_⟩
  rw [show o + 1 + j * 1 = o + (j + 1) * 1 by omega]
  simpa using hp
theorem words_hd {w : World} {A : Option Addr} {x : ByteArray} {ws : List ByteArray} (h : WordsAt w A (x :: ws)) : ∃ b o, A = some ⟨b, o, none⟩ ∧ b < w.heap.size ∧ w.cell? ⟨b, o, none⟩ = some (.string x) := by
  obtain ⟨b, o, hA, hb, _, hc⟩ := h 0 (by simp)
  exact ⟨b, o, hA, hb, by simpa using hc⟩

def crashQ (nc : Option Int) (ns : Option (List Int)) : Option EvE := match nc with
  | none => none
  | some k => match ns with
    | none => none
    | some l => if l.all okB = true ∧ l.length ≤ 64 then some ⟨5, k, [], l.map toB⟩ else none
/-- an event without a row, without choices -/
theorem ev_bare {D : Nat → Prop} {w : World} {k n : Int} (hk : I64 k) (hn : I64 n) : EvOf D w ⟨k, n, [], []⟩ ⟨none, 0⟩ ⟨none, 0⟩ :=
  ⟨hk, hn, ⟨Nat.le_refl _, Nat.zero_le _⟩, ⟨Nat.le_refl _, Nat.zero_le _⟩, (fun j hj => absurd hj (by simp)), (fun j hj => absurd hj (by simp))⟩
/-- .. whose choices lie in a row of a frame -/
theorem ev_row {S : World → Prop} {w w' : World} {x : Kp} {ks : List Kp} {A : Option Addr} {n c : Nat} {k : Int} {bs : List UInt8} (h : Fr none S w w' (x :: rowK w 5 1 (.slice A n c) n (bs.flatMap byteC) :: ks)) (hn : bs.length = n) (hk : I64 k) : EvOf (Iv w.heap.size w'.heap.size) w' ⟨5, k, [], bs⟩ ⟨none, 0⟩ ⟨A, c⟩ := by
  have h0 := h.tail
  have h1 := sl_own byteC 1 (fun _ => rfl) (D := Iv w.heap.size w'.heap.size) hn h0.head.q (fun g hg => ⟨h0.head.lo g hg, h0.head.hi g hg⟩)
    (P := ByteIn (Iv w.heap.size w'.heap.size) w') (fun b o j hj hD hc => ⟨hD, hc 0 (by omega)⟩)
  exact ⟨by show I64 5; unfold I64; omega, hk, ⟨Nat.le_refl _, Nat.zero_le _⟩, by rw [hn]; exact h1.1, (fun j hj => absurd hj (by simp)), h1.2⟩
theorem own_ints {b0 : Nat} {w : World} {t : TypeId} {A : Option Addr} {n c : Nat} {ls : List Int} (hn : ls.length = n) (h : w.ownsRow b0 t 1 (.slice A n c) n (ls.flatMap intC)) {j : Nat} (hj : j < ls.length) : ∃ b o, A = some ⟨b, o, none⟩ ∧ w.cell? ⟨b, o + j * 1, none⟩ = some (.int .i64 ls[j]) :=
  (sl_own intC 1 (fun _ => rfl) (D := fun _ => True) hn h (fun _ _ => trivial) (P := fun b o v => w.cell? ⟨b, o, none⟩ = some (.int .i64 v)) (fun b o j hj hD hc => hc 0 (by omega))).2 j hj
theorem crash_bad {nc : Option Int} {ns : Option (List Int)} {ls : List Int} (h : ∀ q, ns = some q → ls = q) {v : Int} (hv : v ∈ ls) (hb : okB v = false) : crashQ nc ns = none := by
  unfold crashQ
  cases nc with
  | none => rfl
  | some k => cases ns with
    | none => rfl
    | some q =>
      obtain rfl := h q rfl
      refine if_neg fun hc => ?_
      have := List.all_eq_true.1 hc.1 v hv
      rw [hb] at this; cases this
theorem crash_end {nc : Option Int} {ns : Option (List Int)} {ls : List Int} {k : Int} {b : Bool} (h : ∀ q, ns = some q → ls = q) (h1 : ∀ q, nc = some q → b = true ∧ k = q) (h2 : nc = none → b = false) (ha : ls.all okB = true) :
    (∀ y, crashQ nc ns = some y → (b && ns.isSome) = true ∧ (⟨5, k, [], ls.map toB⟩ : EvE) = y) ∧ (crashQ nc ns = none → (b && ns.isSome) = false ∨ rightV ⟨5, k, [], ls.map toB⟩ = false) := by
  unfold crashQ
  cases nc with
  | none => exact ⟨(fun y h => by cases h), fun _ => .inl (by rw [h2 rfl]; rfl)⟩
  | some q => cases ns with
    | none => exact ⟨(fun y h => by cases h), fun _ => .inl (by simp)⟩
    | some l =>
      obtain rfl := h l rfl
      obtain ⟨rfl, rfl⟩ := h1 q rfl
      by_cases hl : ls.length ≤ 64
      · simp only [ha, hl]
        exact ⟨(fun y h => ⟨rfl, by injection h⟩), fun h => by cases h⟩
      · exact ⟨(fun y h => absurd h (by simp [hl])), fun _ => .inr (by simp [rightV, hl])⟩
theorem byte_push {bs : List UInt8} {v : Int} (h0 : 0 ≤ v) (h1 : v ≤ 255) : bs.flatMap byteC ++ [.int .u8 v] = (bs ++ [toB v]).flatMap byteC := by
  have : ((toB v).toNat : Int) = v := by
    unfold toB
    rw [UInt8.toNat_ofNat']
    omega
  simp [byteC, this]
theorem ok_push {ls : List Int} {j : Nat} (hj : j < ls.length) (h : (ls.take j).all okB = true) (hv : okB ls[j] = true) : (ls.take (j + 1)).all okB = true := by
  rw [List.take_succ_eq_append_getElem hj, List.all_append, h]; simp [hv]
set_option maxRecDepth 100000 in
set_option maxHeartbeats 4000000 in
theorem crash_any (ws : List ByteArray) (A : Option Addr) (c : Nat) (w : World) (hw : WordsAt w A ws) (hn : ws.length ≤ 20000000) (hc : ws.length ≤ c) (hcm : c ≤ maxLen) (hs : ∀ x ∈ ws, x.size ≤ 20000000) (hT : Tabs w) :
    Calls Tryd.prog 62 #[.slice A ws.length c] w (EvPost (crashP (wordL ws)) w) := by
  have hz : I64 0 := by unfold I64; omega
  unfold maxLen at hcm
  have f_0 := ((Fr.start0 w).alloc (.cells #[.int .i64 0, .int .i64 0, .slice none 0 0, .slice none 0 0] 40)).alloc (.cells #[.int .i64 5, .int .i64 (-1), .slice none 0 0, .slice none 0 0] 40)
  rw [World.size_alloc] at f_0
  have hr0 : ∀ n : Int, rightV ⟨5, n, [], []⟩ = decide (-1 ≤ n) := fun n => by simp [rightV]
  cases ws with
  | nil =>
    go_enter Tryd.func62, Tryd.ntmps62
    go_upto_region 2 with fail
    generalize (w.alloc (.cells #[.int .i64 0, .int .i64 0, .slice none 0 0, .slice none 0 0] 40)).alloc (.cells #[.int .i64 5, .int .i64 (-1), .slice none 0 0, .slice none 0 0] 40) = W at *
    obtain ⟨x0, x1, x2, x3, -⟩ := blk4 f_0.blk
    obtain ⟨y0, y1, y2, y3, z0, z1, z2, z3⟩ := blk4 f_0.rot1.blk
    generalize w.heap.size = X at f_0 x0 x1 x2 x3 y0 y1 y2 y3 z0 z1 z2 z3 ⊢
    go_wp2_with fail
    clear x0 x1 x2 x3 y0 y1 y2 y3 z0 z1 z2 z3
    have f_q := Fr.set4 (f_0.rot1) (.int .i64 5) (.int .i64 (-1)) (.slice none 0 0) (.slice none 0 0)
    generalize ((((W.setCell ⟨X, 0, none⟩ (.int .i64 5)).setCell ⟨X, 1, none⟩ (.int .i64 (-1))).setCell ⟨X, 2, none⟩ (.slice none 0 0)).setCell ⟨X, 3, none⟩ (.slice none 0 0)) = Wq at *
    obtain ⟨r0, r1, r2, r3, -⟩ := blk4 f_q.blk
    try simp only [Exit.inBlock, Exit.then]
    refine bodyPost_ret (v := .tuple #[.agg #[.int .i64 5, .int .i64 (-1), .slice none 0 0, .slice none 0 0], .bool false]) (by simp [results, Tryd.results62, go_sem, r0, r1, r2, r3]) rfl ⟨f_q.low, ?_⟩
    exact ⟨⟨5, -1, [], []⟩, ⟨none, 0⟩, ⟨none, 0⟩, false, rfl, ev_bare (by unfold I64; omega) (by unfold I64; omega), (fun y h => by cases h), fun _ => .inl rfl⟩
  | cons x ws =>
    obtain ⟨wb, wo, rfl, hwb, hc0⟩ := words_hd hw
    have hwt := hid (words_tl hw)
    have hxs := hs x (List.mem_cons_self ..)
    have hnum := hid (fun W (h : Below w.heap.size w W) => number_any x W hxs (hT.below h))
    have hnums := fun (A' : Option Addr) (c' : Nat) (hA : A' = some ⟨wb, wo + 1, none⟩ ∨ ws.length = 0) W (h : Below w.heap.size w W) => numbers_any ws A' c' W (by
      rcases hA with rfl | h0
      · exact (words_tl hw).keep h
      · exact fun j hj => absurd hj (by omega)) (by simp at hn; omega) (fun y hy => hs y (List.mem_cons_of_mem _ hy)) (hT.below h)
    have hkeep := hid (fun W (h : Below w.heap.size w W) => (h.cell (p := ⟨wb, wo, none⟩) hwb).trans hc0)
    have hcp := hid (rfl : crashP (wordL (x :: ws)) = _)
    simp only [List.length_cons] at hn hc
    rw [List.length_cons]
    obtain ⟨N, hN⟩ : ∃ N, N = ws.length + 1 := ⟨_, rfl⟩
    rw [← hN]
    have hn1 : (N : Int) ≤ 9223372036854775807 := by omega
    have hn2 : ((N : Int) == 0) = false := beq_eq_false_iff_ne.2 (by omega)
    have hn3 : (0 : Int) < (N : Int) := by omega
    have hn4 : (1 : Int) ≤ (N : Int) := by omega
    have hNc : N ≤ c := by omega
    have hNw : N - 1 = ws.length := by omega
    replace hN := hid hN
    rw [← hNw] at hnums
    replace hnums := hid hnums
    replace hNw := hid hNw
    clear hw hs hT
    have hbe : ∀ k n : Int, EvOf (fun _ => False) w ⟨k, n, [], []⟩ ⟨none, 0⟩ ⟨none, 0⟩ → True := fun _ _ _ => trivial
    clear hbe
    rw [show crashP (wordL (x :: ws)) = crashQ (crashN x.data.toList) (numsP (wordL ws)) from rfl]
    generalize hnc : crashN x.data.toList = nc at *
    generalize hns : numsP (wordL ws) = ns at *
    replace hnc := hnc.symm
    clear hcp hns
    unfold crashN at hnc
    replace hnc := hid hnc
    go_enter Tryd.func62, Tryd.ntmps62
    go_upto_region 2 with fail
    generalize (w.alloc (.cells #[.int .i64 0, .int .i64 0, .slice none 0 0, .slice none 0 0] 40)).alloc (.cells #[.int .i64 5, .int .i64 (-1), .slice none 0 0, .slice none 0 0] 40) = W at *
    generalize w.heap.size = X at f_0 ⊢
    obtain ⟨Y, hY⟩ : ∃ Y, Y = X + 1 := ⟨_, rfl⟩
    rw [← hY] at f_0 ⊢
    clear hY
    have k0 := hkeep.out W f_0.low
    go_upto_if 18 with fail
    go_cut [5] from 18 to 32 (fun o wx => ∃ (k : Int) (b : Bool), o = .bool b ∧ Hid (I64 k ∧ (∀ q, nc = some q → b = true ∧ k = q) ∧ (nc = none → b = false)) ∧ Fr none (fun _ => True) w wx [blkK Y (.cells #[.int .i64 5, .int .i64 k, .slice none 0 0, .slice none 0 0] 40 (0, 0)), blkK X (.cells #[.int .i64 0, .int .i64 0, .slice none 0 0, .slice none 0 0] 40 (0, 0))])
    case first =>
      by_cases hm : x.data.toList = [45]
      · have hx1 : (x.toList == [45]) = true := by rw [ByteArray.toList_eq, hm]; rfl
        have hx2 : (!x.toList == [45]) = false := by rw [hx1]; rfl
        have hn' : nc = some (-1) := by rw [hnc.out, if_pos hm]
        replace hn' := hid hn'
        rw [hx2]
        go_wp2_with fail
        go_meet
        case rel => exact ⟨-1, true, rfl, ⟨by unfold I64; omega, (fun q h => by rw [hn'.out] at h; injection h with h; exact ⟨rfl, h⟩), (fun h => by rw [hn'.out] at h; cases h)⟩, f_0⟩
      · have hx1 : (x.toList == [45]) = false := by rw [ByteArray.toList_eq]; exact beq_eq_false_iff_ne.2 hm
        have hx2 : (!x.toList == [45]) = true := by rw [hx1]; rfl
        have hn' := hnc.out
        rw [if_neg hm] at hn'
        replace hn' := hid hn'
        rw [hx2]
        go_wp2_with fail
        refine (hnum.out W f_0.low).mono ?_
        rintro r W1 ⟨hb, v, hv, rfl, hval⟩
        have f_1 := f_0.below hb
        clear hb f_0 k0
        obtain ⟨y0, y1, y2, y3, z0, z1, z2, z3⟩ := blk4 f_1.blk
        have f_2 := Fr.set (n := 1) f_1 (.int .i64 v)
        simp only [List.setIfInBounds_toArray, List.set_cons_zero, List.set_cons_succ] at f_2
        go_upto_region 7 with fail
        clear y0 y1 y2 y3 z0 z1 z2 z3 f_1
        generalize W1.setCell ⟨Y, 1, none⟩ (.int .i64 v) = W2 at *
        obtain ⟨y0, y1, y2, y3, -⟩ := blk4 f_2.blk
        cases hp : numP x.data.toList with
        | none =>
          have hn2 : nc = none := by have := hn'.out; rw [hp] at this; exact this
          replace hn2 := hid hn2
          clear hn' hnc hval
          simp only [Option.isSome_none]
          go_wp2_with fail
          go_meet
          case rel => exact ⟨v, false, rfl, ⟨hv, (fun q h => by rw [hn2.out] at h; cases h), fun _ => rfl⟩, f_2⟩
        | some u =>
          obtain rfl := hval u hp
          have hn2 : nc = if 0 ≤ v then some v else none := by have := hn'.out; rw [hp] at this; exact this
          replace hn2 := hid hn2
          clear hn' hnc hval
          simp only [Option.isSome_some]
          by_cases h0 : 0 ≤ v
          · go_wp2_with fail
            go_meet
            case rel => exact ⟨v, true, rfl, ⟨hv, (fun q h => by rw [hn2.out, if_pos h0] at h; injection h with h; exact ⟨rfl, h⟩), (fun h => by rw [hn2.out, if_pos h0] at h; cases h)⟩, f_2⟩
          · go_wp2_with fail
            go_meet
            case rel => exact ⟨v, false, congrArg Value.bool (by simp <;> omega), ⟨hv, (fun q h => by rw [hn2.out, if_neg (by omega)] at h; cases h), fun _ => rfl⟩, f_2⟩
    case rest =>
    obtain ⟨k, b, rfl, hI, f_3⟩ := hcut
    clear f_0 k0 hnum hnc
    obtain ⟨i0, z0, hi0, hz0, hs0, hb0, hcc0⟩ := info_byte
    go_upto_region 8 with fail
    go_cut [6, 7] from 33 to 38 (fun l is wx => ∃ (m : Nat) (ls : List Int) (A' : Option Addr) (c' : Nat), l = .slice A' m c' ∧ is = .bool ns.isSome ∧ m ≤ 9000000000 ∧ Hid (ls.length = m ∧ (∀ q, ns = some q → ls = q) ∧ ∀ v ∈ ls, I64 v) ∧ Fr none (fun _ => True) w wx [rowK w 3 1 (.slice A' m c') m (ls.flatMap intC), blkK Y (.cells #[.int .i64 5, .int .i64 k, .slice none 0 0, .slice none 0 0] 40 (0, 0)), blkK X (.cells #[.int .i64 0, .int .i64 0, .slice none 0 0, .slice none 0 0] 40 (0, 0))])
    case first =>
      by_cases hc1 : c = 1
      · subst hc1
        have hw0 : N - 1 = 0 := by omega
        replace hNc := hid hNc
        replace hw0 := hid hw0
        clear hc
        go_wp2_with fail
        with_reducible refine (hnums.out _ _ (.inr hw0.out) _ f_3.low).mono ?_
        rintro r W1 ⟨hb, ls, A', c', hlen, rfl, hval, hall, hown⟩
        have f_4 := f_3.addRow hb hown
        go_wp2_with fail
        go_meet
        case rel => exact ⟨ls.length, ls, A', c', rfl, rfl, by have := hNw.out; omega, ⟨rfl, hval, hall⟩, f_4⟩
      · have hc2 : ¬ c - 1 = 0 := by omega
        go_wp2_with fail
        with_reducible refine (hnums.out _ _ (.inl rfl) _ f_3.low).mono ?_
        rintro r W1 ⟨hb, ls, A', c', hlen, rfl, hval, hall, hown⟩
        have f_4 := f_3.addRow hb hown
        go_wp2_with fail
        go_meet
        case rel => exact ⟨ls.length, ls, A', c', rfl, rfl, by have := hNw.out; omega, ⟨rfl, hval, hall⟩, f_4⟩
    case rest =>
    obtain ⟨m, ls, A', c', rfl, rfl, hm, hL, f_4⟩ := hcut
    clear f_3 hnums hNw hN hn2 hn3 hn4 hNc hn1
    obtain ⟨x0, x1, x2, x3, -⟩ := blk4 f_4.rot1.blk
    have hev := hid hI.out.1
    have f_5 := f_4.nilRow 5 1
    clear f_4
    have hm1 : (m : Int) ≤ 9223372036854775807 := by omega
    obtain ⟨hlm, hq, h64⟩ := hL.out
    replace hq := hid hq
    replace h64 := hid h64
    clear hL
    clear x0 x1 x2 x3
    go_wp2_with fail
    go_loopw [41] (fun i wr => ∃ (j : Nat) (B : Option Addr) (d : Nat), j ≤ m ∧ i = .int .i64 j ∧ Hid ((ls.take j).all okB = true) ∧ Fr none (fun _ => True) w wr [rowK w 5 1 (.slice B j d) j (((ls.take j).map toB).flatMap byteC), rowK w 3 1 (.slice A' m c') m (ls.flatMap intC), blkK Y (.cells #[.int .i64 5, .int .i64 k, .slice none 0 0, .slice B j d] 40 (0, 0)), blkK X (.cells #[.int .i64 0, .int .i64 0, .slice none 0 0, .slice none 0 0] 40 (0, 0))]) (fun i _ => m - (intOf i).toNat)
    case atStart => exact ⟨0, none, 0, Nat.zero_le _, rfl, rfl, f_5⟩
    case round =>
      obtain ⟨j, B, d, hj, rfl, hall, f⟩ := hrel
      clear f_5
      obtain ⟨y0, y1, y2, y3, yz0, yz1, yz2, yz3⟩ := blk4 f.rot2.blk
      obtain ⟨x0, x1, x2, x3, xz0, xz1, xz2, xz3⟩ := blk4 f.rot3.blk
      by_cases hlt : j < m
      · have hjl : j < ls.length := by omega
        obtain ⟨b1, o1, rfl, hce⟩ := own_ints hlm f.tail.head.q hjl
        rw [Nat.mul_one] at hce
        have hv := h64.out ls[j] (List.getElem_mem hjl)
        have hmem := hid (List.getElem_mem hjl)
        have hokp := hid (ok_push hjl hall.out)
        have htk := hid (List.take_succ_eq_append_getElem hjl)
        generalize ls[j] = v at *
        have hj0 : (0 : Int) ≤ (j : Int) := by omega
        have hj1 : (j : Int) < (m : Int) := by omega
        have hbn : ((ls.take j).map toB).length = j := by simp; omega
        by_cases h0 : v < 0
        · have hbd := hid (crash_bad (nc := nc) hq.out hmem.out (by unfold okB; simp; omega))
          clear hall hokp htk
          go_wp2_with fail

          have f_q := Fr.set4 (f.rot3) (.int .i64 5) (.int .i64 k) (.slice none 0 0) (.slice B j d)
          generalize ((((wr.setCell ⟨X, 0, none⟩ (.int .i64 5)).setCell ⟨X, 1, none⟩ (.int .i64 k)).setCell ⟨X, 2, none⟩ (.slice none 0 0)).setCell ⟨X, 3, none⟩ (.slice B j d)) = Wq at *
          obtain ⟨r0, r1, r2, r3, -⟩ := blk4 f_q.blk
          try simp only [Exit.inBlock, Exit.then]
          refine bodyPost_ret (v := .tuple #[.agg #[.int .i64 5, .int .i64 k, .slice none 0 0, .slice B j d], .bool false]) (by simp [results, Tryd.results62, go_sem, r0, r1, r2, r3]) rfl ⟨f_q.low, ?_⟩
          exact ⟨⟨5, k, [], (ls.take j).map toB⟩, ⟨none, 0⟩, ⟨B, d⟩, false, by simp only [EvE.val, Sl.v, hbn]; rfl, ev_row f_q hbn hev.out, (fun y h => by rw [hbd.out] at h; cases h), fun _ => .inl rfl⟩

        · by_cases h1 : 255 < v
          · have hbd := hid (crash_bad (nc := nc) hq.out hmem.out (by unfold okB; simp; omega))
            clear hall hokp htk
            go_wp2_with fail

            have f_q := Fr.set4 (f.rot3) (.int .i64 5) (.int .i64 k) (.slice none 0 0) (.slice B j d)
            generalize ((((wr.setCell ⟨X, 0, none⟩ (.int .i64 5)).setCell ⟨X, 1, none⟩ (.int .i64 k)).setCell ⟨X, 2, none⟩ (.slice none 0 0)).setCell ⟨X, 3, none⟩ (.slice B j d)) = Wq at *
            obtain ⟨r0, r1, r2, r3, -⟩ := blk4 f_q.blk
            try simp only [Exit.inBlock, Exit.then]
            refine bodyPost_ret (v := .tuple #[.agg #[.int .i64 5, .int .i64 k, .slice none 0 0, .slice B j d], .bool false]) (by simp [results, Tryd.results62, go_sem, r0, r1, r2, r3]) rfl ⟨f_q.low, ?_⟩
            exact ⟨⟨5, k, [], (ls.take j).map toB⟩, ⟨none, 0⟩, ⟨B, d⟩, false, by simp only [EvE.val, Sl.v, hbn]; rfl, ev_row f_q hbn hev.out, (fun y h => by rw [hbd.out] at h; cases h), fun _ => .inl rfl⟩

          · have h0' : 0 ≤ v := by omega
            have h1' : v ≤ 255 := by omega
            have h1'' : v < 256 := by omega
            have hp := byte_push (bs := (ls.take j).map toB) h0' h1'
            have hok := hid (hokp.out (by unfold okB; simp; omega))
            replace htk := htk.out
            rw [show (ls.take j).map toB ++ [toB v] = (ls.take (j + 1)).map toB by rw [htk, List.map_append]; rfl] at hp
            clear htk
            clear hokp hmem
            go_upto_region 14 with fail
            have f_1 := (f.alloc (.cells #[.int .u8 v] 5))
            go_wp2_with (at_builtin; refine Fr.wpApp f_1 rfl _ _ _ rfl Tryd.underlying36 hi0 hz0 hs0 hb0 hcc0 (by decide) rfl rfl rfl byte_one (by decide) (by unfold maxLen; omega) (by omega) ?_; intro G cap w2 f_2; clear y0 y1 y2 y3 yz0 yz1 yz2 yz3; obtain ⟨y0, y1, y2, y3, yz0, yz1, yz2, yz3⟩ := blk4 f_2.rot3.blk)
            have f_3 := Fr.set (n := 3) f_2.rot3 (.slice (some ⟨G, 0, none⟩) (j + 1) cap)
            simp only [List.setIfInBounds_toArray, List.set_cons_zero, List.set_cons_succ] at f_3
            have f_4 := f_3.rot3.rot2.sub (List.Sublist.cons_cons _ (List.Sublist.cons_cons _ (List.Sublist.cons_cons _ (List.sublist_cons_self _ _))))
            go_roundw
            case rel => exact ⟨j + 1, _, _, by omega, by go_num, hok, by rw [← hp]; exact f_4⟩
            case measure => simp [intOf]; omega
      · have hje : j = m := by omega
        subst hje
        have hlt2 : ls.take j = ls := by rw [← hlm, List.take_length]
        rw [hlt2] at hall f
        have hbn : (ls.map toB).length = j := by simp; omega
        have hend := hid (crash_end (k := k) (b := b) hq.out hI.out.2.1 hI.out.2.2 hall.out)
        cases b
        · go_wp2_with fail

          have f_q := Fr.set4 (f.rot3) (.int .i64 5) (.int .i64 k) (.slice none 0 0) (.slice B j d)
          generalize ((((wr.setCell ⟨X, 0, none⟩ (.int .i64 5)).setCell ⟨X, 1, none⟩ (.int .i64 k)).setCell ⟨X, 2, none⟩ (.slice none 0 0)).setCell ⟨X, 3, none⟩ (.slice B j d)) = Wq at *
          obtain ⟨r0, r1, r2, r3, -⟩ := blk4 f_q.blk
          try simp only [Exit.inBlock, Exit.then]
          refine bodyPost_ret (v := .tuple #[.agg #[.int .i64 5, .int .i64 k, .slice none 0 0, .slice B j d], .bool false]) (by simp [results, Tryd.results62, go_sem, r0, r1, r2, r3]) rfl ⟨f_q.low, ?_⟩
          exact ⟨⟨5, k, [], ls.map toB⟩, ⟨none, 0⟩, ⟨B, d⟩, _, by simp only [EvE.val, Sl.v, hbn]; rfl, ev_row f_q hbn hev.out, hend.out.1, hend.out.2⟩
        · go_wp2_with fail

          have f_q := Fr.set4 (f.rot3) (.int .i64 5) (.int .i64 k) (.slice none 0 0) (.slice B j d)
          generalize ((((wr.setCell ⟨X, 0, none⟩ (.int .i64 5)).setCell ⟨X, 1, none⟩ (.int .i64 k)).setCell ⟨X, 2, none⟩ (.slice none 0 0)).setCell ⟨X, 3, none⟩ (.slice B j d)) = Wq at *
          obtain ⟨r0, r1, r2, r3, -⟩ := blk4 f_q.blk
          try simp only [Exit.inBlock, Exit.then]
          refine bodyPost_ret (v := .tuple #[.agg #[.int .i64 5, .int .i64 k, .slice none 0 0, .slice B j d], .bool ns.isSome]) (by simp [results, Tryd.results62, go_sem, r0, r1, r2, r3]) rfl ⟨f_q.low, ?_⟩
          exact ⟨⟨5, k, [], ls.map toB⟩, ⟨none, 0⟩, ⟨B, d⟩, _, by simp only [EvE.val, Sl.v, hbn]; rfl, ev_row f_q hbn hev.out, by simpa using hend.out.1, by simpa using hend.out.2⟩

end Go.Proofs.YtmdnmodjdgcmjaaDoor
