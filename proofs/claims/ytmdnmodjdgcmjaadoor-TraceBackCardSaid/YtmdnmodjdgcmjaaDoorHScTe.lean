/-
  The walk of Text.
-/
import Derived.Test.YtmdnmodjdgcmjaaDoorHScV
import Derived.Test.YtmdnmodjdgcmjaaDoorHScPa
namespace Go.Proofs.YtmdnmodjdgcmjaaDoor
open Go.RowKit

/-- the lines of the first of them -/
def upto (l : List EvE) (j : Nat) : List UInt8 := ((l.take j).map lineV).flatten
theorem upto_step {l : List EvE} {j : Nat} (h : j < l.length) : upto l (j + 1) = upto l j ++ lineV l[j] := by
  unfold upto
  rw [List.take_succ_eq_append_getElem h, List.map_append, List.flatten_append]
  simp
theorem upto_len {l : List EvE} (hf : ∀ x ∈ l, x.fine) : ∀ j, j ≤ l.length → (l.take j).all rightV = true → (upto l j).length ≤ 3000 * j
  | 0, _, _ => by simp [upto]
  | j + 1, h, ha => by
    rw [List.take_succ_eq_append_getElem (by omega), List.all_append, Bool.and_eq_true] at ha
    have h1 := upto_len hf j (by omega) ha.1
    have h2 := line_len (x := l[j]'(by omega)) (by simpa using ha.2) (hf _ (List.getElem_mem _))
    rw [upto_step (by omega), List.length_append]
    omega
theorem text_bad {l : List EvE} (hn : ¬ 4096 < l.length) {j : Nat} (hj : j < l.length) (h : rightV l[j] = false) : textV l = ([], 2) := by
  unfold textV
  rw [if_neg hn, if_neg]
  intro ha
  have := List.all_eq_true.1 ha _ (List.getElem_mem hj)
  rw [h] at this; cases this
theorem text_end {l : List EvE} (hn : ¬ 4096 < l.length) (h : (l.take l.length).all rightV = true) : textV l = (upto l l.length, 0) := by
  unfold textV upto
  rw [List.take_length] at h ⊢
  rw [if_neg hn, if_pos h]
theorem ok_more {l : List EvE} {j : Nat} (hj : j < l.length) (h : (l.take j).all rightV = true) (hr : rightV l[j] = true) : (l.take (j + 1)).all rightV = true := by
  rw [List.take_succ_eq_append_getElem hj, List.all_append, h]; simp [hr]

set_option maxRecDepth 100000 in
set_option maxHeartbeats 1000000 in
theorem text_any (l : List EvE) (S : Sl) (D : Nat → Prop) (w : World) (hl : EvsIs D w l S) (hD : ∀ n, D n → n < w.heap.size) (hT : Tabs w) :
    Calls Tryd.prog 15 #[S.v l.length] w fun e w' => e = .returned (.tuple #[.string ⟨(textV l).1.toArray⟩, .int .i64 (textV l).2]) ∧ Below w.heap.size w w' := by
  have hfit := hl.fits
  have hL := hid (fun W (hb : Below w.heap.size w W) => (hl.low hD hb).evs)
  have hTW := hid (fun W (hb : Below w.heap.size w W) => (hT.below hb))
  have hfn : ∀ x ∈ l, x.fine := fun x hx => by
    obtain ⟨j, hj, rfl⟩ := List.getElem_of_mem hx
    obtain ⟨b, o, R, C, -, -, h⟩ := ev_cells hl.evs hj
    exact ev_fine h
  have hup := hid (fun j h1 h2 => upto_len hfn j h1 h2)
  have hDs := hid hD
  obtain ⟨A, a⟩ := S
  simp only [Sl.v, Sl.fits, maxLen] at *
  have hx1 : (l.length : Int) ≤ 9223372036854775807 := by omega
  clear hl hT hD
  generalize hp : textV l = p at *
  by_cases hbig : 4096 < l.length
  · have hi : (4096 : Int) < (l.length : Int) := by omega
    obtain rfl : p = ([], 3) := by rw [← hp]; unfold textV; exact if_pos hbig
    clear hp hup
    go_enter Tryd.func15, Tryd.ntmps15
    go_wp2_with fail
    go_ret2
    exact ⟨rfl, Below.refl _ _⟩
  have hbi : ¬ (4096 : Int) < (l.length : Int) := by omega
  have hbad := hid (fun j (hj : j < l.length) h => hp.symm.trans (text_bad hbig hj h))
  have hend := hid (fun h => hp.symm.trans (text_end hbig h))
  clear hp
  have hn0 : l.length ≤ 4096 := by omega
  obtain ⟨n, hn⟩ : ∃ n, n = l.length := ⟨_, rfl⟩
  rw [← hn] at hx1 hbi hn0 ⊢
  clear hbig hfit
  replace hn := hid hn
  have hw0 : Wr w.heap.size w.heap.size [] (w.alloc (.cells #[.pointer none, .slice none 0 0] 75)) := .inl ⟨Nat.le_refl _, .slice none 0 0, World.alloc_heap_new _ _, World.ownsRow_nil _ _ _ _, by simp [Value.ownBlock]⟩
  have hb0 := (Below.refl w.heap.size w).alloc (Nat.le_refl _) (.cells #[.pointer none, .slice none 0 0] 75)
  go_enter Tryd.func15, Tryd.ntmps15
  go_wp2_with fail
  generalize w.alloc (.cells #[.pointer none, .slice none 0 0] 75) = W at *
  generalize hB : w.heap.size = B at *
  go_loopw [12] (fun i wr => ∃ j : Nat, j ≤ n ∧ i = .int .i64 j ∧ Hid ((l.take j).all rightV = true) ∧ Wr B B (upto l j) wr ∧ Below B w wr) (fun i _ => n - (intOf i).toNat)
  case atStart => exact ⟨0, Nat.zero_le _, rfl, rfl, hw0, hb0⟩
  case round =>
    clear hw0 hb0
    obtain ⟨j, hj, rfl, hall, hwr, hbr⟩ := hrel
    by_cases hlt : j < n
    · have hjl : j < l.length := by rw [← hn.out]; exact hlt
      obtain ⟨b, o, R, C, rfl, ⟨c0, c1, c2, c3⟩, hx⟩ := ev_cells (hL.out wr hbr) hjl
      have hbd := hid (hbad.out j hjl)
      have hmo := hid (ok_more hjl hall.out)
      have hst := hid (upto_step hjl)
      have hln := hup.out j (by omega) hall.out
      have hxf := hfn _ (List.getElem_mem hjl)
      generalize l[j] = x at *
      have hj0 : (0 : Int) ≤ (j : Int) := by omega
      have hj1 : (j : Int) < (n : Int) := by omega
      obtain ⟨RA, Rc⟩ := R
      obtain ⟨CA, Cc⟩ := C
      have hfr := hx.fr
      have hfc := hx.fc
      simp only [Sl.v, Sl.fits] at c2 c3 hfr hfc
      have hsz : B ≤ wr.heap.size := by rw [← hB]; exact hbr.size
      have hx1 := hx.low (fun n h => Nat.lt_of_lt_of_le (hDs.out n h) hsz) ((Below.refl _ _).alloc (Nat.le_refl _) (.cells #[.int .i64 x.kind, .int .i64 x.num, .slice RA x.row.length Rc, .slice CA x.ch.length Cc] 40))
      have h1 := hwr.alloc (.cells #[.int .i64 x.kind, .int .i64 x.num, .slice RA x.row.length Rc, .slice CA x.ch.length Cc] 40)
      have hb1 := hbr.alloc hsz (.cells #[.int .i64 x.kind, .int .i64 x.num, .slice RA x.row.length Rc, .slice CA x.ch.length Cc] 40)
      have hX := World.alloc_heap_new wr (.cells #[.int .i64 x.kind, .int .i64 x.num, .slice RA x.row.length Rc, .slice CA x.ch.length Cc] 40)
      go_upto_region 7 with fail
      clear c0 c1 c2 c3 hx hwr hbr
      generalize wr.alloc (.cells #[.int .i64 x.kind, .int .i64 x.num, .slice RA x.row.length Rc, .slice CA x.ch.length Cc] 40) = W1 at *
      generalize wr.heap.size = X at *
      have hsz1 : B ≤ W1.heap.size := by rw [← hB]; exact hb1.size
      have hXB : X < W1.heap.size := (Array.getElem?_eq_some_iff.1 hX).1
      obtain ⟨c0, c1, c2, c3, -⟩ := blk4 hX
      go_wp2_with fail
      with_reducible refine (right_code _ _ _ _ _ _ _ _ _ (by omega) (by omega)).mono ?_
      rintro r W2 ⟨rfl, hb⟩
      have hX2 := (hb.block X hXB).trans hX
      have h2 := h1.below hb
      have hb2 := hb1.trans (hb.mono hsz1)
      have hx2 := hx1.low (fun n h => Nat.lt_of_lt_of_le (hDs.out n h) hsz1) hb
      clear hb hX h1 hb1 c0 c1 c2 c3
      obtain ⟨c0, c1, c2, c3, -⟩ := blk4 hX2
      rw [← right_n x]
      cases hR : rightV x with
      | false =>
        obtain rfl := hbd.out hR
        go_wp2_with fail
        go_ret2
        exact ⟨rfl, hb2⟩
      | true =>
        have hli := line_any x ⟨RA, Rc⟩ ⟨CA, Cc⟩ D W2 hx2 hR (hTW.out W2 hb2).tab (hTW.out W2 hb2).lt.2.2
        have hll := line_len hR hxf
        have hmo2 := hid (hmo.out hR)
        replace hli := hid hli
        simp only [EvE.val, Sl.v] at hli
        go_wp2_with fail
        refine hli.out.mono ?_
        rintro r W3 ⟨rfl, hb⟩
        have h3 := h2.below hb
        have hsz2 : B ≤ W2.heap.size := by rw [← hB]; exact hb2.size
        have hb3 := hb2.trans (hb.mono hsz2)
        have hsz3 : B ≤ W3.heap.size := by rw [← hB]; exact hb3.size
        have hwl := writeString_any B B (upto l j) ⟨(lineV x).toArray⟩ W3 h3 (by rw [str_len]; omega) hsz3
        rw [show (⟨(lineV x).toArray⟩ : ByteArray).data.toList = lineV x from rfl, ← hst.out] at hwl
        clear h2 hb hb2 hX2 c0 c1 c2 c3 hli
        replace hwl := hid hwl
        clear h3
        go_wp2_with fail
        refine hwl.out.mono ?_
        rintro r W4 ⟨rfl, h4, hk⟩
        go_wp2_with fail
        go_roundw
        case rel => exact ⟨j + 1, by omega, by go_num, hmo2.out, h4, hb3.trans hk.below⟩
        case measure => simp [intOf]; omega
    · have hje : j = n := by omega
      subst hje
      have he := hend.out (by rw [← hn.out]; exact hall.out)
      rw [← hn.out] at he
      subst he
      go_wp2_with fail
      refine (Tryd.Builder_String_any_k B B (upto l j) wr (Lib.IsBuilderF.of hwr) (by rw [← hB]; exact hbr.size)).mono ?_
      rintro r W1 ⟨rfl, -, hb, -⟩
      go_wp2_with fail
      go_ret2
      exact ⟨rfl, hbr.trans hb⟩
end Go.Proofs.YtmdnmodjdgcmjaaDoor
