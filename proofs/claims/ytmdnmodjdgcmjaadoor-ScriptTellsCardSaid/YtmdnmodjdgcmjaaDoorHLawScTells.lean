/-
  The walk of the statement ScriptTells.
-/
import Derived.Deep.RegionHeld3
import Derived.Shelf.RegionOpen
import Derived.Test.YtmdnmodjdgcmjaaDoorHLawScBack
import Derived.Test.YtmdnmodjdgcmjaaDoorHScX
namespace Go.Proofs.YtmdnmodjdgcmjaaDoor
open Go.RowKit

section
variable {w W1 : World}
theorem call_right {k n : Int} {A C : Option Addr} {r c p q : Nat} (hr : r ≤ maxLen) (hc : c ≤ maxLen) {b : Bool} (hb : rightN k n r c = b) {W : World} (h : Below W1.heap.size W1 W) :
    Calls Tryd.prog 16 #[.agg #[.int .i64 k, .int .i64 n, .slice A r p, .slice C c q]] W fun e w' => e = .returned (.bool b) ∧ Below W1.heap.size W1 w' :=
  (right_code k n A C r c p q W hr hc).mono fun _ _ ⟨h1, h2⟩ => ⟨by rw [h1, hb], h.trans (h2.mono h.size)⟩
theorem call_rright {k n : Int} {A C : Option Addr} {r c p q : Nat} (hr : r ≤ maxLen) (hc : c ≤ maxLen) {b : Bool} (hb : rightN k n r c = b) {W : World} (h : Below W1.heap.size W1 W) :
    Calls Tryd.prog 17 #[.agg #[.int .i64 k, .int .i64 n, .slice A r p, .slice C c q]] W fun e w' => e = .returned (.bool b) ∧ Below W1.heap.size W1 w' :=
  (right_ref k n A C r c p q W hr hc).mono fun _ _ ⟨h1, h2⟩ => ⟨by rw [h1, hb], h.trans (h2.mono h.size)⟩
theorem call_samec {l m : List EvE} {A A' : Option Addr} {a a' : Nat} {D D' : Nat → Prop} (hl : EvsIs D w l ⟨A, a⟩) (hm : EvsIs D' w m ⟨A', a'⟩) (hD : ∀ n, D n → n < w.heap.size) (hD' : ∀ n, D' n → n < w.heap.size) {W : World} (h : Below w.heap.size w W) :
    Calls Tryd.prog 19 #[.slice A l.length a, .slice A' m.length a'] W fun e w' => e = .returned (.bool (decide (l = m))) ∧ Below w.heap.size w w' :=
  (same_code l m ⟨A, a⟩ ⟨A', a'⟩ D D' W (hl.low hD h) (hm.low hD' h) (fun n hn => Nat.lt_of_lt_of_le (hD n hn) h.size) (fun n hn => Nat.lt_of_lt_of_le (hD' n hn) h.size)).mono fun _ _ ⟨h1, h2⟩ => ⟨h1, h.trans (h2.mono h.size)⟩
theorem call_rsame {l m : List EvE} {A A' : Option Addr} {a a' : Nat} {D D' : Nat → Prop} (hl : EvsIs D w l ⟨A, a⟩) (hm : EvsIs D' w m ⟨A', a'⟩) (hD : ∀ n, D n → n < w.heap.size) (hD' : ∀ n, D' n → n < w.heap.size) {W : World} (h : Below w.heap.size w W) :
    Calls Tryd.prog 13 #[.slice A l.length a, .slice A' m.length a'] W fun e w' => e = .returned (.bool (decide (l = m))) ∧ Below w.heap.size w w' :=
  (same_ref l m ⟨A, a⟩ ⟨A', a'⟩ D D' W (hl.low hD h) (hm.low hD' h)).mono fun _ _ ⟨h1, k, h2⟩ => ⟨h1, by rw [h2]; exact h.trans ((drew_below _ _).mono h.size)⟩
end

set_option maxRecDepth 100000 in
set_option maxHeartbeats 1000000 in
theorem scriptTells_any (l m : List EvE) (S S' : Sl) (D D' : Nat → Prop) (w : World) (hl : EvsIs D w l S) (hm : EvsIs D' w m S') (hD : ∀ n, D n → n < w.heap.size) (hD' : ∀ n, D' n → n < w.heap.size) (hT : Tabs w) :
    Calls Tryd.prog 6 #[S.v l.length, S'.v m.length] w fun r w' => r = .returned (.bool true) ∧ Below w.heap.size w w' := by
  have hfit := hl.fits
  have hfn := evs_fine hl
  obtain ⟨A, a⟩ := S
  obtain ⟨A', a'⟩ := S'
  simp only [Sl.v, Sl.fits, maxLen] at *
  have hx1 : (l.length : Int) ≤ 9223372036854775807 := by omega
  have haw := hid (fun W (h : Below w.heap.size w W) => call_awake hT h)
  have hfw := hid (fun W (h : Below w.heap.size w W) => call_few hl hD h)
  have hfm := hid (fun W (h : Below w.heap.size w W) => call_few hm hD' h)
  have hL := hid (fun W (hb : Below w.heap.size w W) => (hl.low hD hb).evs)
  have htx := hid (fun p (hp : textV l = p) W (h : Below w.heap.size w W) => call_text hp hT hl hD (Below.refl _ _) h)
  have hs1 := hid (fun W (h : Below w.heap.size w W) => call_samec hl hm hD hD' h)
  have hs2 := hid (fun W (h : Below w.heap.size w W) => call_rsame hl hm hD hD' h)
  have hs3 := hid (fun W (h : Below w.heap.size w W) => call_samec hl hl hD hD h)
  generalize hdlm : decide (l = m) = dlm at hs1 hs2
  clear hdlm
  have hDs := hid hD
  have hli := hid (fun W (h : Below w.heap.size w W) => hl.low hD h)
  clear hfit hl hm
  go_enter Tryd.func6, Tryd.ntmps6
  go_wp2_with fail
  refine (haw.out w (Below.refl _ _)).mono ?_
  rintro r W1 ⟨rfl, h1⟩
  go_wp2_with fail
  refine (hfw.out W1 h1).mono ?_
  rintro r W2 ⟨rfl, h2⟩
  clear h1 haw hfw
  cases hfl : fewV l with
  | false =>
    go_wp2_with fail
    go_ret
    exact ⟨rfl, h2⟩
  | true =>
  have hl60 := few_len hfl
  clear hfl
  go_wp2_with fail
  refine (hfm.out W2 h2).mono ?_
  rintro r W3 ⟨rfl, h3⟩
  clear h2 hfm
  cases hfl : fewV m with
  | false =>
    go_wp2_with fail
    go_ret
    exact ⟨rfl, h3⟩
  | true =>
  clear hfl
  obtain ⟨n, hn⟩ : ∃ n, n = l.length := ⟨_, rfl⟩
  rw [← hn] at hx1 hl60 ⊢
  rw [← hn] at htx hs1 hs2 hs3
  replace hn := hid hn
  go_wp2_with fail
  go_loopw [6, 25] (fun o i wr => ∃ j : Nat, j ≤ n ∧ i = .int .i64 j ∧ o = .bool ((l.take j).all rightV) ∧ Below w.heap.size w wr) (fun _ i _ => n - (intOf i).toNat)
  case atStart => exact ⟨0, Nat.zero_le _, rfl, rfl, h3⟩
  case round =>
    clear h3
    obtain ⟨j, hj, rfl, rfl, hbr⟩ := hrel
    by_cases hlt : j < n
    · have hjl : j < l.length := by rw [← hn.out]; exact hlt
      obtain ⟨b, o, R, C, rfl, ⟨c0, c1, c2, c3⟩, hx⟩ := ev_cells (hL.out wr hbr) hjl
      have hst : (l.take (j + 1)).all rightV = ((l.take j).all rightV && rightV l[j]) := by
        rw [List.take_succ_eq_append_getElem hjl, List.all_append]; simp
      generalize l[j] = x at *
      have hj0 : (0 : Int) ≤ (j : Int) := by omega
      have hj1 : (j : Int) < (n : Int) := by omega
      obtain ⟨RA, Rc⟩ := R
      obtain ⟨CA, Cc⟩ := C
      have hfr := hx.fr
      have hfc := hx.fc
      simp only [Sl.v, Sl.fits] at c2 c3 hfr hfc
      have hb1 := hbr.alloc hbr.size (.cells #[.int .i64 x.kind, .int .i64 x.num, .slice RA x.row.length Rc, .slice CA x.ch.length Cc] 40)
      have hX := World.alloc_heap_new wr (.cells #[.int .i64 x.kind, .int .i64 x.num, .slice RA x.row.length Rc, .slice CA x.ch.length Cc] 40)
      go_upto_region 9 with fail
      clear c0 c1 c2 c3 hx hbr
      generalize wr.alloc (.cells #[.int .i64 x.kind, .int .i64 x.num, .slice RA x.row.length Rc, .slice CA x.ch.length Cc] 40) = W1 at *
      generalize wr.heap.size = X at *
      have hXB : X < W1.heap.size := (Array.getElem?_eq_some_iff.1 hX).1
      have HL := hid (fun W (hb : Below W1.heap.size W1 W) => (show _ ∧ _ ∧ _ ∧ _ from let h := blk4 ((hb.block X hXB).trans hX); ⟨h.1, h.2.1, h.2.2.1, h.2.2.2.1⟩))
      have hr8 := Nat.le_trans hfr.1 hfr.2
      have hc8 := Nat.le_trans hfc.1 hfc.2
      have hbr1 := hid hb1
      cases hR : rightV x with
      | _ =>
        rw [hR] at hst
        rw [right_n] at hR
        have HR := hid (fun W (h : Below W1.heap.size W1 W) => call_right (p := Rc) (q := Cc) (A := RA) (C := CA) hr8 hc8 hR h)
        have HQ := hid (fun W (h : Below W1.heap.size W1 W) => call_rright (p := Rc) (q := Cc) (A := RA) (C := CA) hr8 hc8 hR h)
        clear hR
        replace hst := hid hst
        have hd1 : Below W1.heap.size W1 W1.drew := Below.drew (Below.refl _ _)
        obtain ⟨x0, x1, x2, x3⟩ := HL.out W1 (Below.refl _ _)
        go_region_held3 (fun w' => w'.cell? ⟨X, 0, none⟩ = some (.int .i64 x.kind) ∧ w'.cell? ⟨X, 1, none⟩ = some (.int .i64 x.num) ∧ w'.cell? ⟨X, 2, none⟩ = some (.slice RA x.row.length Rc) ∧ w'.cell? ⟨X, 3, none⟩ = some (.slice CA x.ch.length Cc))
          (first | exact (HL.out _ (by with_reducible assumption)) | go_keep)
          (first
            | (go_at_call 16; refine (HR.out _ (by with_reducible assumption)).mono ?_; rintro r w5 ⟨rfl, k5⟩)
            | (go_at_call 17; refine (HQ.out _ (by with_reducible assumption)).mono ?_; rintro r w6 ⟨rfl, k6⟩))
        clear x0 x1 x2 x3 hd1 k5
        obtain ⟨x0, x1, x2, x3⟩ := HL.out w6 k6
        cases hk : (l.take j).all rightV with
        | false =>
          rw [hk] at hst
          go_wp2_with fail
          go_roundw
          case rel => exact ⟨j + 1, by omega, by go_num, by rw [hst.out]; rfl, hbr1.out.trans (k6.mono hbr1.out.size)⟩
          case measure => simp [intOf]; omega
        | true =>
          rw [hk] at hst
          go_wp2_with fail
          refine (HQ.out w6 k6).mono ?_
          rintro r w7 ⟨rfl, k7⟩
          go_wp2_with fail
          go_roundw
          case rel => exact ⟨j + 1, by omega, by go_num, by rw [hst.out]; rfl, hbr1.out.trans (k7.mono hbr1.out.size)⟩
          case measure => simp [intOf]; omega
    · have hje : j = n := by omega
      subst hje
      have hall : (l.take j).all rightV = l.all rightV := by rw [hn.out, List.take_length]
      rw [hall]
      clear hall
      obtain ⟨W, hW⟩ : ∃ W, W = (if l.all rightV = true then upto l l.length else []) := ⟨_, rfl⟩
      have hfin : textV l = if l.all rightV = true then (upto l l.length, 0) else ([], 2) := by
        by_cases h : l.all rightV = true
        · rw [if_pos h, text_end (by have := hn.out; omega) (by rw [List.take_length]; exact h)]
        · rw [if_neg h]; unfold textV; rw [if_neg (by have := hn.out; omega), if_neg h]
      replace hfin := hid hfin
      replace hW := hid hW
      go_upto_if 40 with fail
      go_cut [5, 6] from 40 to 51 (fun v o wx => v = .string ⟨W.toArray⟩ ∧ o = .bool (l.all rightV) ∧ Below w.heap.size w wx)
      case first =>
        cases hall : l.all rightV with
        | false =>
          obtain rfl : W = [] := by rw [hW.out, hall]; rfl
          go_wp2_with fail
          go_meet
          case rel => exact ⟨rfl, by rw [hall], hbr⟩
        | true =>
          obtain rfl : W = upto l j := by rw [hW.out, hall, ← hn.out]; rfl
          have hri := hid (fun x hx => List.all_eq_true.1 hall x hx)
          have hul := hid (fun i (hi : i ≤ l.length) => upto_len hfn i hi (List.all_eq_true.2 fun x hx => List.all_eq_true.1 hall x (List.mem_of_mem_take hx)))
          replace hall := hid hall
          go_wp2_with fail
          go_loopw [5, 43] (fun o i wx => ∃ q : Nat, q ≤ j ∧ i = .int .i64 q ∧ o = .string ⟨(upto l q).toArray⟩ ∧ Below w.heap.size w wx) (fun _ i _ => j - (intOf i).toNat)
          case atStart => exact ⟨0, Nat.zero_le _, rfl, rfl, hbr⟩
          case round =>
            clear hbr
            obtain ⟨q, hq, rfl, rfl, hbr⟩ := hrel
            by_cases hlt2 : q < j
            · have hql : q < l.length := by rw [← hn.out]; exact hlt2
              obtain ⟨b, o, R, C, rfl, ⟨c0, c1, c2, c3⟩, hx⟩ := ev_cells (hL.out wr hbr) hql
              have hst := hid (upto_step hql)
              have hr1 := hri.out _ (List.getElem_mem hql)
              have hll := line_len hr1 (hfn _ (List.getElem_mem hql))
              have hul1 := hul.out q (by omega)
              generalize l[q] = x at *
              have hj0 : (0 : Int) ≤ (q : Int) := by omega
              have hj1 : (q : Int) < (j : Int) := by omega
              have hX1 := hx.low (fun n h => Nat.lt_of_lt_of_le (hDs.out n h) hbr.size) ((Below.refl _ _).alloc (Nat.le_refl _) (.cells #[.int .i64 x.kind, .int .i64 x.num, R.v x.row.length, C.v x.ch.length] 40))
              obtain ⟨RA, Rc⟩ := R
              obtain ⟨CA, Cc⟩ := C
              simp only [Sl.v] at c2 c3 hX1
              have hb1 := hbr.alloc hbr.size (.cells #[.int .i64 x.kind, .int .i64 x.num, .slice RA x.row.length Rc, .slice CA x.ch.length Cc] 40)
              have hX := World.alloc_heap_new wr (.cells #[.int .i64 x.kind, .int .i64 x.num, .slice RA x.row.length Rc, .slice CA x.ch.length Cc] 40)
              go_upto_region 17 with fail
              clear c0 c1 c2 c3 hx
              have hsz := hbr.size
              clear hbr
              generalize wr.alloc (.cells #[.int .i64 x.kind, .int .i64 x.num, .slice RA x.row.length Rc, .slice CA x.ch.length Cc] 40) = W1 at *
              generalize wr.heap.size = X at *
              obtain ⟨x0, x1, x2, x3, -⟩ := blk4 hX
              have hlc := rline_any x ⟨RA, Rc⟩ ⟨CA, Cc⟩ D W1 hX1 hr1
              simp only [EvE.val, Sl.v] at hlc
              replace hlc := hid hlc
              clear hX
              go_wp2_with fail
              refine hlc.out.mono ?_
              rintro r W2 ⟨rfl, hb2⟩
              have hb3 := hb1.trans (hb2.mono hb1.size)
              clear x0 x1 x2 x3 hlc hb1 hb2 hX1
              have hst2 : (⟨(upto l q).toArray⟩ : ByteArray) ++ ⟨(lineV x).toArray⟩ = ⟨(upto l (q + 1)).toArray⟩ := by rw [hst.out]; exact str_append _ _
              replace hst2 := hid hst2
              generalize lineV x = Y at *
              generalize upto l q = J at *
              go_wp2_with fail
              go_roundw
              case rel => exact ⟨q + 1, by omega, by go_num, by rw [hst2.out], hb3⟩
              case measure => simp [intOf]; omega
            · have hqe : q = j := by omega
              subst hqe
              go_wp2_with fail
              go_meet
              case rel => exact ⟨rfl, by rw [hall.out], hbr⟩
      case rest =>
        clear hbr
        obtain ⟨rfl, rfl, hb⟩ := hcut
        have hp : ∃ e, textV l = (W, e) ∧ (l.all rightV = true → e = 0) ∧ (l.all rightV = false → e = 2) := by
          cases hall : l.all rightV with
          | false => exact ⟨2, by rw [hfin.out, hW.out, hall]; rfl, (fun h => by cases h), fun _ => rfl⟩
          | true => exact ⟨0, by rw [hfin.out, hW.out, hall]; rfl, fun _ => rfl, fun h => by cases h⟩
        obtain ⟨e, hp, he1, he2⟩ := hp
        have htx2 := hid (htx.out _ hp)
        replace he1 := hid he1
        replace he2 := hid he2
        clear htx hp hfin hW hli hL
        generalize l.all rightV = ok at *
        have hsl : ((⟨W.toArray⟩ : ByteArray).toList == (⟨W.toArray⟩ : ByteArray).toList) = true := beq_self_eq_true _
        go_wp2_with fail
        refine (htx2.out _ hb).mono ?_
        rintro r W5 ⟨rfl, h5⟩
        clear hb htx2
        cases ok with
        | _ =>
          first | (obtain rfl := he1.out rfl) | (obtain rfl := he2.out rfl)
          clear he1 he2
          go_wp2_with fail
          refine (hs1.out _ h5).mono ?_
          rintro r W6 ⟨rfl, h6⟩
          go_wp2_with fail
          refine (hs2.out _ h6).mono ?_
          rintro r W7 ⟨rfl, h7⟩
          cases dlm with
          | _ =>
            go_wp2_with fail
            refine (hs3.out _ h7).mono ?_
            rintro r W8 ⟨rfl, h8⟩
            simp only [decide_true]
            go_wp2_with fail
            go_ret
            exact ⟨rfl, h8⟩
theorem scriptTells_arg (l : List EvE) (S : Sl) (m : List EvE) (S' : Sl) (w : World) (hl : EvsIs (· < w.heap.size) w l S) (hm : EvsIs (· < w.heap.size) w m S') (hT : Tabs w) :
    Calls Tryd.prog 6 #[S.v l.length, S'.v m.length] w fun r w' => r = .returned (.bool true) ∧ Below w.heap.size w w' := scriptTells_any l m S S' _ _ w hl hm (fun _ h => h) (fun _ h => h) hT
end Go.Proofs.YtmdnmodjdgcmjaaDoor
