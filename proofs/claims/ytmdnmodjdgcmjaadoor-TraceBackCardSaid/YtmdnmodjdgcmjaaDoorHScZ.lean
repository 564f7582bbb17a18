/-
  The walk of event (printed by gen_scev.py).
-/
import Derived.Test.YtmdnmodjdgcmjaaDoorHScY
namespace Go.Proofs.YtmdnmodjdgcmjaaDoor
open Go.RowKit

section
variable {S : World → Prop} {w0 w w' : World} {ks : List Kp} {x : EvE} {R C : Sl} {D : Nat → Prop}
/-- an event that a call made -/
theorem Fr.addEv (f : Fr none S w0 w ks) (hb : Below w.heap.size w w') (he : EvOf (Iv w.heap.size w'.heap.size) w' x R C) : Fr none S w0 w' (evK (Iv w.heap.size w'.heap.size) x R C :: ks) :=
  (f.below hb).add (n := w.heap.size) ⟨fun _ hn => hn.1, fun _ hn => hn.2, he, evK_ok _ _ _ _⟩ f.gr.size (fun y hy m hm => (f.k y hy).hi m hm)
theorem Fr.ev {P : Option Nat} (h : Fr P S w0 w (evK D x R C :: ks)) : EvOf (Iv w0.heap.size w.heap.size) w x R C :=
  EvOf.keep (fun _ _ _ _ h => h) (fun n hn => ⟨h.head.lo n hn, h.head.hi n hn⟩) h.head.q
/-- an event whose row is a row of a frame -/
theorem Fr.evRow {P : Option Nat} {A : Option Addr} {n c : Nat} {k : Int} {ls : List Int} (h : Fr P S w0 w (rowK w0 3 1 (.slice A n c) n (ls.flatMap intC) :: ks)) (hn : ls.length = n) (hv : ∀ v ∈ ls, I64 v) (hk : I64 k) : EvOf (Iv w0.heap.size w.heap.size) w ⟨k, 0, ls, []⟩ ⟨A, c⟩ ⟨none, 0⟩ := by
  have h1 := sl_own intC 1 (fun _ => rfl) (D := Iv w0.heap.size w.heap.size) hn h.head.q (fun g hg => ⟨h.head.lo g hg, h.head.hi g hg⟩)
    (P := fun b o v => Iv w0.heap.size w.heap.size b ∧ w.cell? ⟨b, o, none⟩ = some (.int .i64 v)) (fun b o j hj hD hc => ⟨hD, hc 0 (by omega)⟩)
  refine ⟨hk, (by unfold I64; omega : I64 0), by rw [hn]; exact h1.1, ⟨Nat.le_refl _, Nat.zero_le _⟩, fun j hj => ?_, (fun j hj => absurd hj (by simp))⟩
  obtain ⟨b, o, hA, hb, hc⟩ := h1.2 j hj
  exact ⟨b, o, hA, hb, hv _ (List.getElem_mem hj), hc⟩
end

def evQ (w : List UInt8) (ns : Option (List Int)) : Option EvE := match ns with
  | none => none
  | some l => kindW w l
theorem kw_submit (l : List Int) : evQ sSubmit (some l) = if 1 ≤ l.length ∧ l.length ≤ 8 then some ⟨1, 0, l, []⟩ else none := by
  unfold evQ kindW; dsimp only; rw [if_pos rfl]
theorem kw_save (l : List Int) : evQ sSave (some l) = if l.length = 0 then some ⟨3, 0, [], []⟩ else none := by
  unfold evQ kindW; dsimp only; rw [if_neg (by decide), if_pos rfl]
theorem kw_run (l : List Int) : evQ sRun (some l) = if l.length = 1 ∧ 0 ≤ l.headD 0 then some ⟨2, l.headD 0, [], []⟩ else none := by
  unfold evQ kindW; dsimp only; rw [if_neg (by decide), if_neg (by decide), if_pos rfl]
theorem kw_cut (l : List Int) : evQ sCut (some l) = if l.length = 1 ∧ 0 ≤ l.headD 0 then some ⟨4, l.headD 0, [], []⟩ else none := by
  unfold evQ kindW; dsimp only; rw [if_neg (by decide), if_neg (by decide), if_neg (by decide), if_pos rfl]
section
variable {ns : Option (List Int)} {l : List Int} (h : ∀ m, ns = some m → l = m)
include h
theorem ev_submit : (∀ y, evQ sSubmit ns = some y → ns.isSome = true ∧ (⟨1, 0, l, []⟩ : EvE) = y) ∧ (evQ sSubmit ns = none → ns.isSome = false ∨ rightV ⟨1, 0, l, []⟩ = false) := by
  cases ns with
  | none => exact ⟨(fun y h => by cases h), fun _ => .inl rfl⟩
  | some m =>
    obtain rfl := h m rfl
    rw [kw_submit]
    by_cases hc : 1 ≤ l.length ∧ l.length ≤ 8
    · rw [if_pos hc]
      exact ⟨(fun y h => ⟨rfl, by injection h⟩), fun h => by cases h⟩
    · rw [if_neg hc]
      exact ⟨(fun y h => by cases h), fun _ => .inr (by simp [rightV]; omega)⟩
theorem ev_save : (∀ y, evQ sSave ns = some y → (ns.isSome && decide (l.length = 0)) = true ∧ (⟨3, 0, [], []⟩ : EvE) = y) ∧ (evQ sSave ns = none → (ns.isSome && decide (l.length = 0)) = false ∨ rightV ⟨3, 0, [], []⟩ = false) := by
  cases ns with
  | none => exact ⟨(fun y h => by cases h), fun _ => .inl rfl⟩
  | some m =>
    obtain rfl := h m rfl
    rw [kw_save]
    by_cases hc : l.length = 0
    · rw [if_pos hc]
      exact ⟨(fun y h => ⟨by simp [hc], by injection h⟩), fun h => by cases h⟩
    · rw [if_neg hc]
      exact ⟨(fun y h => by cases h), fun _ => .inl (by simp [hc])⟩
theorem ev_run (h1 : ns.isSome = true) (h2 : l.length = 1) : (∀ y, evQ sRun ns = some y → true = true ∧ (⟨2, l.headD 0, [], []⟩ : EvE) = y) ∧ (evQ sRun ns = none → true = false ∨ rightV ⟨2, l.headD 0, [], []⟩ = false) := by
  cases ns with
  | none => cases h1
  | some m =>
    obtain rfl := h m rfl
    rw [kw_run]
    generalize l.headD 0 = v
    by_cases hc : 0 ≤ v
    · rw [if_pos ⟨h2, hc⟩]
      exact ⟨(fun y h => ⟨rfl, by injection h⟩), fun h => by cases h⟩
    · rw [if_neg fun hh => hc hh.2]
      exact ⟨(fun y h => by cases h), fun _ => .inr (by simp [rightV]; omega)⟩
theorem ev_cut (h1 : ns.isSome = true) (h2 : l.length = 1) : (∀ y, evQ sCut ns = some y → true = true ∧ (⟨4, l.headD 0, [], []⟩ : EvE) = y) ∧ (evQ sCut ns = none → true = false ∨ rightV ⟨4, l.headD 0, [], []⟩ = false) := by
  cases ns with
  | none => cases h1
  | some m =>
    obtain rfl := h m rfl
    rw [kw_cut]
    generalize l.headD 0 = v
    by_cases hc : 0 ≤ v
    · rw [if_pos ⟨h2, hc⟩]
      exact ⟨(fun y h => ⟨rfl, by injection h⟩), fun h => by cases h⟩
    · rw [if_neg fun hh => hc hh.2]
      exact ⟨(fun y h => by cases h), fun _ => .inr (by simp [rightV]; omega)⟩
theorem ev_none {w : List UInt8} (h0 : w ≠ sSubmit) (h1 : w ≠ sSave) (h2 : (w = sRun ∨ w = sCut) → ¬ (ns.isSome = true ∧ l.length = 1)) : evQ w ns = none := by
  cases ns with
  | none => rfl
  | some m =>
    obtain rfl := h m rfl
    unfold evQ kindW
    dsimp only
    rw [if_neg h0, if_neg h1]
    by_cases h3 : w = sRun
    · rw [if_pos h3, if_neg fun hh => h2 (.inl h3) ⟨rfl, hh.1⟩]
    · rw [if_neg h3]
      by_cases h4 : w = sCut
      · rw [if_pos h4, if_neg fun hh => h2 (.inr h4) ⟨rfl, hh.1⟩]
      · rw [if_neg h4]
end

set_option maxRecDepth 100000 in
set_option maxHeartbeats 4000000 in
theorem event_any (x : ByteArray) (ws : List ByteArray) (A : Option Addr) (c : Nat) (w : World) (hw : WordsAt w A (x :: ws)) (hn : ws.length + 1 ≤ 20000000) (hc : ws.length + 1 ≤ c) (hcm : c ≤ maxLen) (hs : ∀ y ∈ x :: ws, y.size ≤ 20000000) (hT : Tabs w) :
    Calls Tryd.prog 36 #[.slice A (ws.length + 1) c] w (EvPost (evP (wordL (x :: ws))) w) := by
  have hz : I64 0 := by unfold I64; omega
  unfold maxLen at hcm
  have f_0 := ((Fr.start0 w).alloc (.cells #[.int .i64 0, .int .i64 0, .slice none 0 0, .slice none 0 0] 40))
  obtain ⟨wb, wo, rfl, hwb, hc0⟩ := words_hd hw
  have hws := fun (A' : Option Addr) (hA : A' = some ⟨wb, wo + 1, none⟩ ∨ ws.length = 0) W (h : Below w.heap.size w W) => (show WordsAt W A' ws by
      rcases hA with rfl | h0
      · exact (words_tl hw).keep h
      · exact fun j hj => absurd hj (by omega))
  have hnums := fun (A' : Option Addr) (c' : Nat) (hA : A' = some ⟨wb, wo + 1, none⟩ ∨ ws.length = 0) W (h : Below w.heap.size w W) => numbers_any ws A' c' W (hws A' hA W h) (by omega) (fun y hy => hs y (List.mem_cons_of_mem _ hy)) (hT.below h)
  have hcrash := fun (A' : Option Addr) (c' : Nat) (hA : A' = some ⟨wb, wo + 1, none⟩ ∨ ws.length = 0) (h1 : ws.length ≤ c') (h2 : c' ≤ maxLen) W (h : Below w.heap.size w W) => crash_any ws A' c' W (hws A' hA W h) (by omega) h1 h2 (fun y hy => hs y (List.mem_cons_of_mem _ hy)) (hT.below h)
  have hkeep := hid (fun W (h : Below w.heap.size w W) => (h.cell (p := ⟨wb, wo, none⟩) hwb).trans hc0)
  have hxs := hs x (List.mem_cons_self ..)
  obtain ⟨N, hN⟩ : ∃ N, N = ws.length + 1 := ⟨_, rfl⟩
  rw [← hN]
  have hn1 : (N : Int) ≤ 9223372036854775807 := by omega
  have hn3 : (0 : Int) < (N : Int) := by omega
  have hn4 : (1 : Int) ≤ (N : Int) := by omega
  have hNc : N ≤ c := by omega
  have hNw : N - 1 = ws.length := by omega
  replace hN := hid hN
  rw [← hNw] at hnums hcrash
  replace hnums := hid hnums
  replace hcrash := hid hcrash
  replace hNw := hid hNw
  clear hw hs hT hws
  rw [show evP (wordL (x :: ws)) = if x.data.toList = sCrash then crashP (wordL ws) else evQ x.data.toList (numsP (wordL ws)) from rfl]
  generalize hcp : crashP (wordL ws) = cp at *
  generalize hns : numsP (wordL ws) = ns at *
  clear hcp hns
  have hp1 : x.data.toList = sCrash → (if x.data.toList = sCrash then cp else evQ x.data.toList ns) = cp := fun h => if_pos h
  have hp2 : ¬ x.data.toList = sCrash → (if x.data.toList = sCrash then cp else evQ x.data.toList ns) = evQ x.data.toList ns := fun h => if_neg h
  generalize (if x.data.toList = sCrash then cp else evQ x.data.toList ns) = po at *
  replace hp1 := hid hp1
  replace hp2 := hid hp2
  go_enter Tryd.func36, Tryd.ntmps36
  go_upto_region 1 with fail
  generalize (w.alloc (.cells #[.int .i64 0, .int .i64 0, .slice none 0 0, .slice none 0 0] 40)) = W at *
  generalize w.heap.size = X at f_0 ⊢
  have k0 := hkeep.out W f_0.low
  obtain ⟨x0, x1, x2, x3, z0, z1, z2, z3⟩ := blk4 f_0.blk
  by_cases hm : x.data.toList = sCrash
  · have hx1 : (x.toList == [99, 114, 97, 115, 104]) = true := by rw [ByteArray.toList_eq, hm]; rfl
    obtain rfl := hp1.out hm
    clear hm hnums hp1 hp2

    by_cases hc1 : c = 1
    · subst hc1
      have hw0 : N - 1 = 0 := by omega
      replace hNc := hid hNc
      replace hw0 := hid hw0
      clear hc
      go_wp2_with fail
      with_reducible refine (hcrash.out _ _ (.inr (hNw.out ▸ hw0.out)) (by have := hw0.out; omega) (by unfold maxLen; omega) _ f_0.low).mono ?_
      rintro r W1 ⟨hb, y, R, C, ok, rfl, hev, hy1, hy2⟩
      have f_1 := f_0.addEv hb hev
      clear x0 x1 x2 x3 z0 z1 z2 z3 hb hev f_0 k0
      obtain ⟨x0, x1, x2, x3, z0, z1, z2, z3⟩ := blk4 f_1.rot1.blk
      replace hy1 := hid hy1
      replace hy2 := hid hy2
      obtain ⟨RA, Rc⟩ := R
      obtain ⟨CA, Cc⟩ := C
      simp only [EvE.val, Sl.v]
      go_wp2_with fail
      have f_q := Fr.set4 (f_1.rot1) (.int .i64 y.kind) (.int .i64 y.num) (.slice RA y.row.length Rc) (.slice CA y.ch.length Cc)
      generalize ((((W1.setCell ⟨X, 0, none⟩ (.int .i64 y.kind)).setCell ⟨X, 1, none⟩ (.int .i64 y.num)).setCell ⟨X, 2, none⟩ (.slice RA y.row.length Rc)).setCell ⟨X, 3, none⟩ (.slice CA y.ch.length Cc)) = Wq at *
      obtain ⟨r0, r1, r2, r3, -⟩ := blk4 f_q.blk
      try simp only [Exit.inBlock, Exit.then]
      refine bodyPost_ret (v := .tuple #[.agg #[.int .i64 y.kind, .int .i64 y.num, .slice RA y.row.length Rc, .slice CA y.ch.length Cc], .bool ok]) (by simp [results, Tryd.results36, go_sem, r0, r1, r2, r3]) rfl ⟨f_q.low, ?_⟩
      exact ⟨y, ⟨RA, Rc⟩, ⟨CA, Cc⟩, ok, rfl, f_q.rot1.ev, hy1.out, hy2.out⟩
    · have hc2 : ¬ c - 1 = 0 := by omega
      go_wp2_with fail
      with_reducible refine (hcrash.out _ _ (.inl rfl) (by have := hNw.out; have := hN.out; omega) (by unfold maxLen; omega) _ f_0.low).mono ?_
      rintro r W1 ⟨hb, y, R, C, ok, rfl, hev, hy1, hy2⟩
      have f_1 := f_0.addEv hb hev
      clear x0 x1 x2 x3 z0 z1 z2 z3 hb hev f_0 k0
      obtain ⟨x0, x1, x2, x3, z0, z1, z2, z3⟩ := blk4 f_1.rot1.blk
      replace hy1 := hid hy1
      replace hy2 := hid hy2
      obtain ⟨RA, Rc⟩ := R
      obtain ⟨CA, Cc⟩ := C
      simp only [EvE.val, Sl.v]
      go_wp2_with fail
      have f_q := Fr.set4 (f_1.rot1) (.int .i64 y.kind) (.int .i64 y.num) (.slice RA y.row.length Rc) (.slice CA y.ch.length Cc)
      generalize ((((W1.setCell ⟨X, 0, none⟩ (.int .i64 y.kind)).setCell ⟨X, 1, none⟩ (.int .i64 y.num)).setCell ⟨X, 2, none⟩ (.slice RA y.row.length Rc)).setCell ⟨X, 3, none⟩ (.slice CA y.ch.length Cc)) = Wq at *
      obtain ⟨r0, r1, r2, r3, -⟩ := blk4 f_q.blk
      try simp only [Exit.inBlock, Exit.then]
      refine bodyPost_ret (v := .tuple #[.agg #[.int .i64 y.kind, .int .i64 y.num, .slice RA y.row.length Rc, .slice CA y.ch.length Cc], .bool ok]) (by simp [results, Tryd.results36, go_sem, r0, r1, r2, r3]) rfl ⟨f_q.low, ?_⟩
      exact ⟨y, ⟨RA, Rc⟩, ⟨CA, Cc⟩, ok, rfl, f_q.rot1.ev, hy1.out, hy2.out⟩
  · have hx1 : (x.toList == [99, 114, 97, 115, 104]) = false := by rw [ByteArray.toList_eq]; exact beq_eq_false_iff_ne.2 hm
    obtain rfl := hp2.out hm
    clear hm hcrash hp1 hp2
    go_upto_region 3 with fail
    go_cut [4, 5] from 16 to 21 (fun l is wx => ∃ (m : Nat) (ls : List Int) (A' : Option Addr) (c' : Nat), l = .slice A' m c' ∧ is = .bool ns.isSome ∧ m ≤ 9000000000 ∧ Hid (ls.length = m ∧ (∀ q, ns = some q → ls = q) ∧ ∀ v ∈ ls, I64 v) ∧ Fr none (fun _ => True) w wx [rowK w 3 1 (.slice A' m c') m (ls.flatMap intC), blkK X (.cells #[.int .i64 0, .int .i64 0, .slice none 0 0, .slice none 0 0] 40 (0, 0))])
    case first =>
      by_cases hc1 : c = 1
      · subst hc1
        have hw0 : N - 1 = 0 := by omega
        replace hNc := hid hNc
        replace hw0 := hid hw0
        clear hc
        go_wp2_with fail
        with_reducible refine (hnums.out _ _ (.inr (hNw.out ▸ hw0.out)) _ f_0.low).mono ?_
        rintro r W1 ⟨hb, ls, A', c', hlen, rfl, hval, hall, hown⟩
        have f_4 := f_0.addRow hb hown
        go_wp2_with fail
        go_meet
        case rel => exact ⟨ls.length, ls, A', c', rfl, rfl, by have := hNw.out; omega, ⟨rfl, hval, hall⟩, f_4⟩
      · have hc2 : ¬ c - 1 = 0 := by omega
        go_wp2_with fail
        with_reducible refine (hnums.out _ _ (.inl rfl) _ f_0.low).mono ?_
        rintro r W1 ⟨hb, ls, A', c', hlen, rfl, hval, hall, hown⟩
        have f_4 := f_0.addRow hb hown
        go_wp2_with fail
        go_meet
        case rel => exact ⟨ls.length, ls, A', c', rfl, rfl, by have := hNw.out; omega, ⟨rfl, hval, hall⟩, f_4⟩
    case rest =>
    obtain ⟨m, ls, A', c', rfl, rfl, hm9, hL, f_1⟩ := hcut
    obtain ⟨hlm, hq, h64⟩ := hL.out
    clear f_0 hnums hL k0
    have k1 := hkeep.out _ f_1.low
    replace h64 := hid h64
    have hm1 : (m : Int) ≤ 9223372036854775807 := by omega
    clear x0 x1 x2 x3 z0 z1 z2 z3
    obtain ⟨x0, x1, x2, x3, z0, z1, z2, z3⟩ := blk4 f_1.rot1.blk
    have hb1 := hid (ev_submit hq)
    have hb2 := hid (ev_save hq)
    have hb3 := hid (@ev_run _ _ hq)
    have hb4 := hid (@ev_cut _ _ hq)
    have hb5 := hid (fun w => @ev_none _ _ hq w)
    have hrow := fun (h : 0 < m) => own_ints hlm f_1.head.q (j := 0) (by omega)
    replace hq := hid hq
    generalize hbs : ns.isSome = b at *
    replace hbs := hid hbs

    by_cases hm : x.data.toList = sSubmit
    · skip
      have hx_submit : (x.toList == [115, 117, 98, 109, 105, 116]) = true := by rw [ByteArray.toList_eq, hm]; rfl
      have hx_save : (x.toList == [115, 97, 118, 101]) = false := by rw [ByteArray.toList_eq, hm]; rfl
      have hx_run : (x.toList == [114, 117, 110]) = false := by rw [ByteArray.toList_eq, hm]; rfl
      have hx_cut : (x.toList == [99, 117, 116]) = false := by rw [ByteArray.toList_eq, hm]; rfl
      have hbq := hb1.out
      rw [← hm] at hbq
      replace hbq := hid hbq
      clear hb1 hb2 hb3 hb4 hb5 hm hrow hq
      cases b
      · go_wp2_with fail
        have f_q := Fr.set4 (f_1.rot1) (.int .i64 1) (.int .i64 0) (.slice A' m c') (.slice none 0 0)
        generalize ((((wc.setCell ⟨X, 0, none⟩ (.int .i64 1)).setCell ⟨X, 1, none⟩ (.int .i64 0)).setCell ⟨X, 2, none⟩ (.slice A' m c')).setCell ⟨X, 3, none⟩ (.slice none 0 0)) = Wq at *
        obtain ⟨r0, r1, r2, r3, -⟩ := blk4 f_q.blk
        try simp only [Exit.inBlock, Exit.then]
        refine bodyPost_ret (v := .tuple #[.agg #[.int .i64 1, .int .i64 0, .slice A' m c', .slice none 0 0], .bool false]) (by simp [results, Tryd.results36, go_sem, r0, r1, r2, r3]) rfl ⟨f_q.low, ?_⟩
        exact ⟨⟨1, 0, ls, []⟩, ⟨A', c'⟩, ⟨none, 0⟩, _, by simp only [EvE.val, Sl.v, hlm]; rfl, f_q.tail.evRow hlm h64.out (by unfold I64; omega), (fun y h => ⟨by simpa using (hbq.out.1 y h).1, (hbq.out.1 y h).2⟩), fun _ => .inl rfl⟩
      · go_wp2_with fail
        have f_q := Fr.set4 (f_1.rot1) (.int .i64 1) (.int .i64 0) (.slice A' m c') (.slice none 0 0)
        generalize ((((wc.setCell ⟨X, 0, none⟩ (.int .i64 1)).setCell ⟨X, 1, none⟩ (.int .i64 0)).setCell ⟨X, 2, none⟩ (.slice A' m c')).setCell ⟨X, 3, none⟩ (.slice none 0 0)) = Wq at *
        obtain ⟨r0, r1, r2, r3, -⟩ := blk4 f_q.blk
        try simp only [Exit.inBlock, Exit.then]
        refine bodyPost_ret (v := .tuple #[.agg #[.int .i64 1, .int .i64 0, .slice A' m c', .slice none 0 0], .bool true]) (by simp [results, Tryd.results36, go_sem, r0, r1, r2, r3]) rfl ⟨f_q.low, ?_⟩
        exact ⟨⟨1, 0, ls, []⟩, ⟨A', c'⟩, ⟨none, 0⟩, _, by simp only [EvE.val, Sl.v, hlm]; rfl, f_q.tail.evRow hlm h64.out (by unfold I64; omega), (fun y h => ⟨rfl, (hbq.out.1 y h).2⟩), fun h => by simpa using hbq.out.2 h⟩
    have m_submit := hm
    clear hm
    by_cases hm : x.data.toList = sSave
    · skip
      have hx_submit : (x.toList == [115, 117, 98, 109, 105, 116]) = false := by rw [ByteArray.toList_eq, hm]; rfl
      have hx_save : (x.toList == [115, 97, 118, 101]) = true := by rw [ByteArray.toList_eq, hm]; rfl
      have hx_run : (x.toList == [114, 117, 110]) = false := by rw [ByteArray.toList_eq, hm]; rfl
      have hx_cut : (x.toList == [99, 117, 116]) = false := by rw [ByteArray.toList_eq, hm]; rfl
      have hbq := hb2.out
      rw [← hm, hlm] at hbq
      replace hbq := hid hbq
      clear hb1 hb2 hb3 hb4 hb5 hm hrow hq hlm m_submit
      cases b
      · go_wp2_with fail
        have f_q := Fr.set4 (f_1.rot1) (.int .i64 3) (.int .i64 0) (.slice none 0 0) (.slice none 0 0)
        generalize ((((wc.setCell ⟨X, 0, none⟩ (.int .i64 3)).setCell ⟨X, 1, none⟩ (.int .i64 0)).setCell ⟨X, 2, none⟩ (.slice none 0 0)).setCell ⟨X, 3, none⟩ (.slice none 0 0)) = Wq at *
        obtain ⟨r0, r1, r2, r3, -⟩ := blk4 f_q.blk
        try simp only [Exit.inBlock, Exit.then]
        refine bodyPost_ret (v := .tuple #[.agg #[.int .i64 3, .int .i64 0, .slice none 0 0, .slice none 0 0], .bool false]) (by simp [results, Tryd.results36, go_sem, r0, r1, r2, r3]) rfl ⟨f_q.low, ?_⟩
        exact ⟨⟨3, 0, [], []⟩, ⟨none, 0⟩, ⟨none, 0⟩, _, rfl, ev_bare (by unfold I64; omega) hz, hbq.out.1, hbq.out.2⟩
      · by_cases hm0 : m = 0
        · subst hm0
          go_wp2_with fail
          have f_q := Fr.set4 (f_1.rot1) (.int .i64 3) (.int .i64 0) (.slice none 0 0) (.slice none 0 0)
          generalize ((((wc.setCell ⟨X, 0, none⟩ (.int .i64 3)).setCell ⟨X, 1, none⟩ (.int .i64 0)).setCell ⟨X, 2, none⟩ (.slice none 0 0)).setCell ⟨X, 3, none⟩ (.slice none 0 0)) = Wq at *
          obtain ⟨r0, r1, r2, r3, -⟩ := blk4 f_q.blk
          try simp only [Exit.inBlock, Exit.then]
          refine bodyPost_ret (v := .tuple #[.agg #[.int .i64 3, .int .i64 0, .slice none 0 0, .slice none 0 0], .bool true]) (by simp [results, Tryd.results36, go_sem, r0, r1, r2, r3]) rfl ⟨f_q.low, ?_⟩
          exact ⟨⟨3, 0, [], []⟩, ⟨none, 0⟩, ⟨none, 0⟩, _, rfl, ev_bare (by unfold I64; omega) hz, hbq.out.1, hbq.out.2⟩
        · have hm2 : ((m : Int) == 0) = false := beq_eq_false_iff_ne.2 (by omega)
          have hm3 : decide (m = 0) = false := decide_eq_false hm0
          rw [hm3] at hbq
          go_wp2_with fail
          have f_q := Fr.set4 (f_1.rot1) (.int .i64 3) (.int .i64 0) (.slice none 0 0) (.slice none 0 0)
          generalize ((((wc.setCell ⟨X, 0, none⟩ (.int .i64 3)).setCell ⟨X, 1, none⟩ (.int .i64 0)).setCell ⟨X, 2, none⟩ (.slice none 0 0)).setCell ⟨X, 3, none⟩ (.slice none 0 0)) = Wq at *
          obtain ⟨r0, r1, r2, r3, -⟩ := blk4 f_q.blk
          try simp only [Exit.inBlock, Exit.then]
          refine bodyPost_ret (v := .tuple #[.agg #[.int .i64 3, .int .i64 0, .slice none 0 0, .slice none 0 0], .bool false]) (by simp [results, Tryd.results36, go_sem, r0, r1, r2, r3]) rfl ⟨f_q.low, ?_⟩
          exact ⟨⟨3, 0, [], []⟩, ⟨none, 0⟩, ⟨none, 0⟩, _, rfl, ev_bare (by unfold I64; omega) hz, hbq.out.1, hbq.out.2⟩
    have m_save := hm
    clear hm
    by_cases hm : x.data.toList = sRun
    · skip
      have hx_submit : (x.toList == [115, 117, 98, 109, 105, 116]) = false := by rw [ByteArray.toList_eq, hm]; rfl
      have hx_save : (x.toList == [115, 97, 118, 101]) = false := by rw [ByteArray.toList_eq, hm]; rfl
      have hx_run : (x.toList == [114, 117, 110]) = true := by rw [ByteArray.toList_eq, hm]; rfl
      have hx_cut : (x.toList == [99, 117, 116]) = false := by rw [ByteArray.toList_eq, hm]; rfl
      have hno := fun h => hb5.out x.data.toList m_submit m_save (fun _ => h)
      replace hno := hid hno
      have hbq := hb3.out
      rw [← hm] at hbq
      replace hbq := hid hbq
      clear hb1 hb2 hb3 hb4 hb5 hm hq
      cases b
      · replace hno := hid (hno.out (fun h => by cases h.1))
        clear hbq hrow
        go_wp2_with fail
        have f_q := Fr.set4 (f_1.rot1) (.int .i64 0) (.int .i64 0) (.slice none 0 0) (.slice none 0 0)
        generalize ((((wc.setCell ⟨X, 0, none⟩ (.int .i64 0)).setCell ⟨X, 1, none⟩ (.int .i64 0)).setCell ⟨X, 2, none⟩ (.slice none 0 0)).setCell ⟨X, 3, none⟩ (.slice none 0 0)) = Wq at *
        obtain ⟨r0, r1, r2, r3, -⟩ := blk4 f_q.blk
        try simp only [Exit.inBlock, Exit.then]
        refine bodyPost_ret (v := .tuple #[.agg #[.int .i64 0, .int .i64 0, .slice none 0 0, .slice none 0 0], .bool false]) (by simp [results, Tryd.results36, go_sem, r0, r1, r2, r3]) rfl ⟨f_q.low, ?_⟩
        exact ⟨⟨0, 0, [], []⟩, ⟨none, 0⟩, ⟨none, 0⟩, false, rfl, ev_bare hz hz, (fun y h => by rw [hno.out] at h; cases h), fun _ => .inl rfl⟩
      · by_cases hm0 : m = 1
        · subst hm0
          obtain ⟨b1, o1, rfl, hce⟩ := hrow (by omega)
          simp only [Nat.zero_mul, Nat.add_zero] at hce
          have hv := h64.out (ls[0]'(by omega)) (List.getElem_mem _)
          have hhd : ls.headD 0 = ls[0]'(by omega) := by
            cases ls with
            | nil => cases hlm
            | cons a t => rfl
          rw [hhd] at hbq
          generalize ls[0]'(by omega) = v at *
          replace hbq := hid (hbq.out rfl hlm)
          clear hno hrow hhd
          go_wp2_with fail
          have f_q := Fr.set4 (f_1.rot1) (.int .i64 2) (.int .i64 v) (.slice none 0 0) (.slice none 0 0)
          generalize ((((wc.setCell ⟨X, 0, none⟩ (.int .i64 2)).setCell ⟨X, 1, none⟩ (.int .i64 v)).setCell ⟨X, 2, none⟩ (.slice none 0 0)).setCell ⟨X, 3, none⟩ (.slice none 0 0)) = Wq at *
          obtain ⟨r0, r1, r2, r3, -⟩ := blk4 f_q.blk
          try simp only [Exit.inBlock, Exit.then]
          refine bodyPost_ret (v := .tuple #[.agg #[.int .i64 2, .int .i64 v, .slice none 0 0, .slice none 0 0], .bool true]) (by simp [results, Tryd.results36, go_sem, r0, r1, r2, r3]) rfl ⟨f_q.low, ?_⟩
          exact ⟨⟨2, v, [], []⟩, ⟨none, 0⟩, ⟨none, 0⟩, _, rfl, ev_bare (by unfold I64; omega) hv, (fun y h => ⟨rfl, (hbq.out.1 y h).2⟩), fun h => by simpa using hbq.out.2 h⟩
        · have hm2 : ((m : Int) == 1) = false := beq_eq_false_iff_ne.2 (by omega)
          replace hno := hid (hno.out (fun h => hm0 (by rw [← hlm]; exact h.2)))
          clear hbq hrow
          go_wp2_with fail
          have f_q := Fr.set4 (f_1.rot1) (.int .i64 0) (.int .i64 0) (.slice none 0 0) (.slice none 0 0)
          generalize ((((wc.setCell ⟨X, 0, none⟩ (.int .i64 0)).setCell ⟨X, 1, none⟩ (.int .i64 0)).setCell ⟨X, 2, none⟩ (.slice none 0 0)).setCell ⟨X, 3, none⟩ (.slice none 0 0)) = Wq at *
          obtain ⟨r0, r1, r2, r3, -⟩ := blk4 f_q.blk
          try simp only [Exit.inBlock, Exit.then]
          refine bodyPost_ret (v := .tuple #[.agg #[.int .i64 0, .int .i64 0, .slice none 0 0, .slice none 0 0], .bool false]) (by simp [results, Tryd.results36, go_sem, r0, r1, r2, r3]) rfl ⟨f_q.low, ?_⟩
          exact ⟨⟨0, 0, [], []⟩, ⟨none, 0⟩, ⟨none, 0⟩, false, rfl, ev_bare hz hz, (fun y h => by rw [hno.out] at h; cases h), fun _ => .inl rfl⟩
    have m_run := hm
    clear hm
    by_cases hm : x.data.toList = sCut
    · skip
      have hx_submit : (x.toList == [115, 117, 98, 109, 105, 116]) = false := by rw [ByteArray.toList_eq, hm]; rfl
      have hx_save : (x.toList == [115, 97, 118, 101]) = false := by rw [ByteArray.toList_eq, hm]; rfl
      have hx_run : (x.toList == [114, 117, 110]) = false := by rw [ByteArray.toList_eq, hm]; rfl
      have hx_cut : (x.toList == [99, 117, 116]) = true := by rw [ByteArray.toList_eq, hm]; rfl
      have hno := fun h => hb5.out x.data.toList m_submit m_save (fun _ => h)
      replace hno := hid hno
      have hbq := hb4.out
      rw [← hm] at hbq
      replace hbq := hid hbq
      clear hb1 hb2 hb3 hb4 hb5 hm hq
      cases b
      · replace hno := hid (hno.out (fun h => by cases h.1))
        clear hbq hrow
        go_wp2_with fail
        have f_q := Fr.set4 (f_1.rot1) (.int .i64 0) (.int .i64 0) (.slice none 0 0) (.slice none 0 0)
        generalize ((((wc.setCell ⟨X, 0, none⟩ (.int .i64 0)).setCell ⟨X, 1, none⟩ (.int .i64 0)).setCell ⟨X, 2, none⟩ (.slice none 0 0)).setCell ⟨X, 3, none⟩ (.slice none 0 0)) = Wq at *
        obtain ⟨r0, r1, r2, r3, -⟩ := blk4 f_q.blk
        try simp only [Exit.inBlock, Exit.then]
        refine bodyPost_ret (v := .tuple #[.agg #[.int .i64 0, .int .i64 0, .slice none 0 0, .slice none 0 0], .bool false]) (by simp [results, Tryd.results36, go_sem, r0, r1, r2, r3]) rfl ⟨f_q.low, ?_⟩
        exact ⟨⟨0, 0, [], []⟩, ⟨none, 0⟩, ⟨none, 0⟩, false, rfl, ev_bare hz hz, (fun y h => by rw [hno.out] at h; cases h), fun _ => .inl rfl⟩
      · by_cases hm0 : m = 1
        · subst hm0
          obtain ⟨b1, o1, rfl, hce⟩ := hrow (by omega)
          simp only [Nat.zero_mul, Nat.add_zero] at hce
          have hv := h64.out (ls[0]'(by omega)) (List.getElem_mem _)
          have hhd : ls.headD 0 = ls[0]'(by omega) := by
            cases ls with
            | nil => cases hlm
            | cons a t => rfl
          rw [hhd] at hbq
          generalize ls[0]'(by omega) = v at *
          replace hbq := hid (hbq.out rfl hlm)
          clear hno hrow hhd
          go_wp2_with fail
          have f_q := Fr.set4 (f_1.rot1) (.int .i64 4) (.int .i64 v) (.slice none 0 0) (.slice none 0 0)
          generalize ((((wc.setCell ⟨X, 0, none⟩ (.int .i64 4)).setCell ⟨X, 1, none⟩ (.int .i64 v)).setCell ⟨X, 2, none⟩ (.slice none 0 0)).setCell ⟨X, 3, none⟩ (.slice none 0 0)) = Wq at *
          obtain ⟨r0, r1, r2, r3, -⟩ := blk4 f_q.blk
          try simp only [Exit.inBlock, Exit.then]
          refine bodyPost_ret (v := .tuple #[.agg #[.int .i64 4, .int .i64 v, .slice none 0 0, .slice none 0 0], .bool true]) (by simp [results, Tryd.results36, go_sem, r0, r1, r2, r3]) rfl ⟨f_q.low, ?_⟩
          exact ⟨⟨4, v, [], []⟩, ⟨none, 0⟩, ⟨none, 0⟩, _, rfl, ev_bare (by unfold I64; omega) hv, (fun y h => ⟨rfl, (hbq.out.1 y h).2⟩), fun h => by simpa using hbq.out.2 h⟩
        · have hm2 : ((m : Int) == 1) = false := beq_eq_false_iff_ne.2 (by omega)
          replace hno := hid (hno.out (fun h => hm0 (by rw [← hlm]; exact h.2)))
          clear hbq hrow
          go_wp2_with fail
          have f_q := Fr.set4 (f_1.rot1) (.int .i64 0) (.int .i64 0) (.slice none 0 0) (.slice none 0 0)
          generalize ((((wc.setCell ⟨X, 0, none⟩ (.int .i64 0)).setCell ⟨X, 1, none⟩ (.int .i64 0)).setCell ⟨X, 2, none⟩ (.slice none 0 0)).setCell ⟨X, 3, none⟩ (.slice none 0 0)) = Wq at *
          obtain ⟨r0, r1, r2, r3, -⟩ := blk4 f_q.blk
          try simp only [Exit.inBlock, Exit.then]
          refine bodyPost_ret (v := .tuple #[.agg #[.int .i64 0, .int .i64 0, .slice none 0 0, .slice none 0 0], .bool false]) (by simp [results, Tryd.results36, go_sem, r0, r1, r2, r3]) rfl ⟨f_q.low, ?_⟩
          exact ⟨⟨0, 0, [], []⟩, ⟨none, 0⟩, ⟨none, 0⟩, false, rfl, ev_bare hz hz, (fun y h => by rw [hno.out] at h; cases h), fun _ => .inl rfl⟩
    have m_cut := hm
    clear hm
    have hx_submit : (x.toList == [115, 117, 98, 109, 105, 116]) = false := by rw [ByteArray.toList_eq]; exact beq_eq_false_iff_ne.2 m_submit
    have hx_save : (x.toList == [115, 97, 118, 101]) = false := by rw [ByteArray.toList_eq]; exact beq_eq_false_iff_ne.2 m_save
    have hx_run : (x.toList == [114, 117, 110]) = false := by rw [ByteArray.toList_eq]; exact beq_eq_false_iff_ne.2 m_run
    have hx_cut : (x.toList == [99, 117, 116]) = false := by rw [ByteArray.toList_eq]; exact beq_eq_false_iff_ne.2 m_cut
    have hno := hid (hb5.out x.data.toList m_submit m_save (fun h => (h.elim m_run m_cut).elim))
    clear hb1 hb2 hb3 hb4 hb5 hq hrow
    cases b
    · go_wp2_with fail
      have f_q := Fr.set4 (f_1.rot1) (.int .i64 0) (.int .i64 0) (.slice none 0 0) (.slice none 0 0)
      generalize ((((wc.setCell ⟨X, 0, none⟩ (.int .i64 0)).setCell ⟨X, 1, none⟩ (.int .i64 0)).setCell ⟨X, 2, none⟩ (.slice none 0 0)).setCell ⟨X, 3, none⟩ (.slice none 0 0)) = Wq at *
      obtain ⟨r0, r1, r2, r3, -⟩ := blk4 f_q.blk
      try simp only [Exit.inBlock, Exit.then]
      refine bodyPost_ret (v := .tuple #[.agg #[.int .i64 0, .int .i64 0, .slice none 0 0, .slice none 0 0], .bool false]) (by simp [results, Tryd.results36, go_sem, r0, r1, r2, r3]) rfl ⟨f_q.low, ?_⟩
      exact ⟨⟨0, 0, [], []⟩, ⟨none, 0⟩, ⟨none, 0⟩, false, rfl, ev_bare hz hz, (fun y h => by rw [hno.out] at h; cases h), fun _ => .inl rfl⟩
    · go_wp2_with fail
      have f_q := Fr.set4 (f_1.rot1) (.int .i64 0) (.int .i64 0) (.slice none 0 0) (.slice none 0 0)
      generalize ((((wc.setCell ⟨X, 0, none⟩ (.int .i64 0)).setCell ⟨X, 1, none⟩ (.int .i64 0)).setCell ⟨X, 2, none⟩ (.slice none 0 0)).setCell ⟨X, 3, none⟩ (.slice none 0 0)) = Wq at *
      obtain ⟨r0, r1, r2, r3, -⟩ := blk4 f_q.blk
      try simp only [Exit.inBlock, Exit.then]
      refine bodyPost_ret (v := .tuple #[.agg #[.int .i64 0, .int .i64 0, .slice none 0 0, .slice none 0 0], .bool false]) (by simp [results, Tryd.results36, go_sem, r0, r1, r2, r3]) rfl ⟨f_q.low, ?_⟩
      exact ⟨⟨0, 0, [], []⟩, ⟨none, 0⟩, ⟨none, 0⟩, false, rfl, ev_bare hz hz, (fun y h => by rw [hno.out] at h; cases h), fun _ => .inl rfl⟩
end Go.Proofs.YtmdnmodjdgcmjaaDoor
