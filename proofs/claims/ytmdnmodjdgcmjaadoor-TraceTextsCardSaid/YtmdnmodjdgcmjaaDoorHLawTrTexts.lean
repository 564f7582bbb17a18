/-
  The walk of the statement TraceTexts.
-/
import Derived.Test.YtmdnmodjdgcmjaaDoorHTrA
import Derived.Test.YtmdnmodjdgcmjaaDoorHTrU
import Derived.Test.YtmdnmodjdgcmjaaDoorHTrZ
import Derived.Test.YtmdnmodjdgcmjaaDoorHTrB
import Derived.Test.YtmdnmodjdgcmjaaDoorHTrE
namespace Go.Proofs.YtmdnmodjdgcmjaaDoor
open Go.RowKit

theorem fewR_len {rs : List Ro} (h : fewR rs = true) : rs.length ≤ 30 := by
  unfold fewR at h
  simp only [Bool.and_eq_true, decide_eq_true_eq] at h
  exact h.2
section
variable {p : List (List Int) × List (List Int) × Nat × Int} {w W W' : World} {r : Ending}
/-- what Read leaves, as laws use it -/
def RdOut (p : List (List Int) × List (List Int) × Nat × Int) (W : World) (r : Ending) (W' : World) : Prop :=
  ∃ (rs qs : List Ro) (A : Option Addr) (c : Nat) (B : Option Addr) (d : Nat), r = .returned (.tuple #[.slice A p.1.length c, .slice B p.2.1.length d, .int .i64 (p.2.2.1 : Int), .int .i64 p.2.2.2]) ∧ rosL rs = p.1 ∧ rosL qs = p.2.1 ∧ p.1.length ≤ maxLen ∧ p.2.1.length ≤ maxLen ∧ RowsAt W' A rs ∧ RowsAt W' B qs ∧ Below W.heap.size W W'
theorem rd_out (h : RdTPost p W r W') : RdOut p W r W' := by
  obtain ⟨rs, qs, A, n, c, B, m, d, D, D', rfl, h1, h2, h3, h4, f⟩ := h
  have hn : p.1.length = n := by rw [← h3, rosL_len]; exact h1
  have hm : p.2.1.length = m := by rw [← h4, rosL_len]; exact h2
  have f2 := f.sub (ks' := [_, _]) (List.Sublist.cons _ (List.Sublist.cons _ (List.Sublist.refl _)))
  have hl1 := f.rowsLen h1
  have hl2 := f2.rowsLen h2
  exact ⟨rs, qs, A, c, B, d, by rw [hn, hm], h3, h4, by omega, by omega, f.rowsAt h1, f2.rowsAt h2, f.low⟩
end
theorem blkT {w : World} {T : Nat} {v0 v1 : Value} {t : TypeId} (h : w.heap[T]? = some (.cells #[v0, v1] t (0, 0))) : w.cell? ⟨T, 0, none⟩ = some v0 ∧ w.cell? ⟨T, 1, none⟩ = some v1 := ⟨Lib.cell_of_heap h 0, Lib.cell_of_heap h 1⟩

set_option maxRecDepth 100000 in
set_option maxHeartbeats 4000000 in
theorem traceTexts_any (ts us : List Int) (rs qs : List Ro) (A1 A2 A3 A4 R Q : Option Addr) (c1 c2 n3 c3 n4 c4 cr cq : Nat) (r : Int) (s : ByteArray) (w : World) (hx : IntsAt w A1 ts) (hy : IntsAt w A2 us) (hr : RowsAt w R rs) (hq : RowsAt w Q qs)
    (h1 : ts.length ≤ maxLen) (h2 : us.length ≤ maxLen) (h3 : rs.length ≤ maxLen) (h4 : qs.length ≤ maxLen) (hs : s.size ≤ maxLen) (hT : Tabs w) (hM : MxC w) :
    Calls Tryd.prog 8 #[.agg #[.slice A1 ts.length c1, .slice A2 us.length c2, .int .i64 r, .slice A3 n3 c3, .slice A4 n4 c4], .agg #[.slice R rs.length cr, .slice Q qs.length cq], .string s] w fun e w' => e = .returned (.bool true) ∧ Below w.heap.size w w' := by
  have haw := hid (fun W (h : Below w.heap.size w W) => tawake_any W (hT.below h))
  have hf1 := hid (fun W (h : Below w.heap.size w W) => tfew_any rs R cr W (hr.keep h) h3)
  have hf2 := hid (fun W (h : Below w.heap.size w W) => tfew_any qs Q cq W (hq.keep h) h4)
  have htx := hid (fun h30 W (h : Below w.heap.size w W) => ttext_any ts us rs qs A1 A2 A3 A4 R Q c1 c2 n3 c3 n4 c4 cr cq r W (hx.keep h) (hy.keep h) (hr.keep h) (hq.keep h) h1 h2 h30 h4 (hT.below h))
  have hrx := hid (fun h30 W (h : Below w.heap.size w W) => rtext_any ts us rs qs A1 A2 A3 A4 R Q c1 c2 n3 c3 n4 c4 cr cq r W (hx.keep h) (hy.keep h) (hr.keep h) (hq.keep h) h1 h2 h30 h4)
  have hrd := hid (fun hz W (h : Below w.heap.size w W) => (tread_all ts us A1 A2 A3 A4 c1 c2 n3 c3 n4 c4 r s W (hx.keep h) (hy.keep h) h1 h2 hz (hT.below h) (hM.below h)).mono fun _ _ => rd_out)
  have hrr := hid (fun hR1 hR2 hz W (h : Below w.heap.size w W) => (rread_tr ts us A1 A2 A3 A4 c1 c2 n3 c3 n4 c4 r s W (hx.keep h) (hy.keep h) hR1 hR2 hz).mono fun _ _ => rd_out)
  have hg1 := hid (fun W (h : Below w.heap.size w W) => rright_t ts A1 c1 W (hx.keep h) h1)
  have hg2 := hid (fun W (h : Below w.heap.size w W) => rright_t us A2 c2 W (hy.keep h) h2)
  have f_0 := ((Fr.start0 w).alloc (.cells #[.slice A1 ts.length c1, .slice A2 us.length c2, .int .i64 r, .slice A3 n3 c3, .slice A4 n4 c4] 55)).alloc (.cells #[.slice R rs.length cr, .slice Q qs.length cq] 57)
  rw [World.size_alloc] at f_0
  unfold maxLen at *
  have hx1 : (ts.length : Int) ≤ 9223372036854775807 := by omega
  have hy1 : (us.length : Int) ≤ 9223372036854775807 := by omega
  have hr1 : (rs.length : Int) ≤ 9223372036854775807 := by omega
  have hq1 : (qs.length : Int) ≤ 9223372036854775807 := by omega
  have hs1 : (s.size : Int) ≤ 9223372036854775807 := by omega
  clear hx hy hr hq hT hM
  go_enter Tryd.func8, Tryd.ntmps8
  go_upto_region 1 with fail
  generalize (w.alloc (.cells #[.slice A1 ts.length c1, .slice A2 us.length c2, .int .i64 r, .slice A3 n3 c3, .slice A4 n4 c4] 55)).alloc (.cells #[.slice R rs.length cr, .slice Q qs.length cq] 57) = W1 at *
  generalize w.heap.size = P at f_0 ⊢
  obtain ⟨T, hTT⟩ : ∃ T, T = P + 1 := ⟨_, rfl⟩
  rw [← hTT] at f_0 ⊢
  clear hTT
  go_wp2_with fail
  refine (haw.out W1 f_0.low).mono ?_
  rintro e W2 ⟨rfl, hb⟩
  have f_1 := f_0.below hb
  clear f_0 hb haw
  obtain ⟨t0, t1⟩ := blkT f_1.blk
  obtain ⟨p0, p1, p2, p3, p4⟩ := blkP f_1.rot1.blk
  by_cases l1 : ts.length ≤ 20
  case neg =>
    have hi : (20 : Int) < (ts.length : Int) := by omega
    go_wp2_with fail
    go_ret
    exact ⟨rfl, f_1.low⟩
  have hi0 : ¬ (20 : Int) < (ts.length : Int) := by omega
  by_cases l2 : us.length ≤ 20
  case neg =>
    have hi : (20 : Int) < (us.length : Int) := by omega
    go_wp2_with fail
    go_ret
    exact ⟨rfl, f_1.low⟩
  have hi1 : ¬ (20 : Int) < (us.length : Int) := by omega
  go_wp2_with fail
  refine (hf1.out W2 f_1.low).mono ?_
  rintro e W3 ⟨rfl, rfl⟩
  cases hF1 : fewR rs with
  | false =>
    go_wp2_with fail
    go_ret
    exact ⟨rfl, f_1.low⟩
  | true =>
    have h30 := fewR_len hF1
    go_wp2_with fail
    refine (hf2.out W2 f_1.low).mono ?_
    rintro e W3 ⟨rfl, rfl⟩
    cases hF2 : fewR qs with
    | false =>
      go_wp2_with fail
      go_ret
      exact ⟨rfl, f_1.low⟩
    | true =>
      by_cases l3 : s.size ≤ 2000
      case neg =>
        have hi : (2000 : Int) < (s.size : Int) := by omega
        go_wp2_with fail
        go_ret
        exact ⟨rfl, f_1.low⟩
      have hi2 : ¬ (2000 : Int) < (s.size : Int) := by omega
      have htx2 := hid (htx.out (by omega))
      have hrx2 := hid (hrx.out (by omega))
      have hrd2 := hid (hrd.out (by omega))
      generalize textW ts us (rosL rs) (rosL qs) = p at *
      obtain ⟨tt, te⟩ := p
      clear hf1 hf2 htx hrx hrd
      go_wp2_with fail
      refine (htx2.out W2 f_1.low).mono ?_
      rintro e W3 ⟨rfl, hb⟩
      have f_2 := f_1.below hb
      clear f_1 hb t0 t1 p0 p1 p2 p3 p4 htx2
      obtain ⟨t0, t1⟩ := blkT f_2.blk
      obtain ⟨p0, p1, p2, p3, p4⟩ := blkP f_2.rot1.blk
      dsimp only
      go_wp2_with fail
      refine (hrx2.out W3 f_2.low).mono ?_
      rintro e W4 ⟨rfl, hb⟩
      have f_3 := f_2.below hb
      clear f_2 hb t0 t1 p0 p1 p2 p3 p4 hrx2
      obtain ⟨p0, p1, p2, p3, p4⟩ := blkP f_3.rot1.blk
      dsimp only
      go_wp2_with fail
      refine (hrd2.out W4 f_3.low).mono ?_
      rintro e W5 ⟨ra, qa, Aa, ca, Ba, da, rfl, ha1, ha2, hal, hbl, hra, hqa, hb⟩
      have f_4 := f_3.below hb
      clear f_3 hb p0 p1 p2 p3 p4 hrd2
      obtain ⟨p0, p1, p2, p3, p4⟩ := blkP f_4.rot1.blk
      go_wp2_with fail
      refine (hg1.out W5 f_4.low).mono ?_
      rintro e W6 ⟨rfl, rfl⟩
      cases hR1 : rightT ts with
      | false =>
        have hz : readT ts us s.data.toList = ([], [], 0, 2) := by unfold readT; rw [if_pos (by rw [hR1]; rfl)]
        rw [hz] at *
        go_wp2_with fail
        go_ret
        exact ⟨rfl, f_4.low⟩
      | true =>
        go_wp2_with fail
        refine (hg2.out W5 f_4.low).mono ?_
        rintro e W6 ⟨rfl, rfl⟩
        cases hR2 : rightT us with
        | false =>
          have hz : readT ts us s.data.toList = ([], [], 0, 2) := by unfold readT; rw [if_pos (by rw [hR1, hR2]; rfl)]
          rw [hz] at *
          go_wp2_with fail
          go_ret
          exact ⟨rfl, f_4.low⟩
        | true =>
          have hrr2 := hid (hrr.out hR1 hR2 (by omega))
          clear hrr hg1 hg2
          generalize readT ts us s.data.toList = p at *
          obtain ⟨pa, pb, pk, pe⟩ := p
          dsimp only at ha1 ha2 hal hbl ⊢
          go_wp2_with fail
          refine (hrr2.out W5 f_4.low).mono ?_
          rintro e W6 ⟨rb, qb, Ab, cb, Bb, db, rfl, hb1, hb2, -, -, hrb, hqb, hb⟩
          have f_5 := f_4.below hb
          have hra2 := hra.keep hb
          have hqa2 := hqa.keep hb
          clear f_4 hb p0 p1 p2 p3 p4 hrr2 hra hqa
          dsimp only at hb1 hb2 ⊢
          have hlr : ra.length = pa.length := by rw [← ha1, rosL_len]
          have hlr2 : rb.length = pa.length := by rw [← hb1, rosL_len]
          have hlq : qa.length = pb.length := by rw [← ha2, rosL_len]
          have hlq2 : qb.length = pb.length := by rw [← hb2, rosL_len]
          have hs2 := rsame_any ra rb Aa Ab ca cb W6 hra2 hrb (by rw [hlr]; exact hal) (by rw [hlr2]; exact hal)
          rw [hlr, hlr2, ha1, hb1, show decide (pa = pa) = true from decide_eq_true rfl] at hs2
          have hs3 := hid (fun k => rsame_any qa qb Ba Bb da db (W6.drewN k) (hqa2.drewN k) (hqb.drewN k) (by rw [hlq]; exact hbl) (by rw [hlq2]; exact hbl))
          rw [hlq, hlq2, ha2, hb2, show decide (pb = pb) = true from decide_eq_true rfl] at hs3
          replace hs2 := hid hs2
          clear hra2 hqa2 hrb hqb ha1 ha2 hb1 hb2 hlr hlr2 hlq hlq2
          go_wp2_with fail
          refine hs2.out.mono ?_
          rintro e W7 ⟨rfl, k1, rfl⟩
          go_wp2_with fail
          refine (hs3.out k1).mono ?_
          rintro e W8 ⟨rfl, k2, rfl⟩
          go_wp2_with fail
          go_ret
          exact ⟨by simp, by first | exact ((f_5.drewN k1).drewN k2).low | exact (f_5.drewN (k1 + k2)).low⟩
end Go.Proofs.YtmdnmodjdgcmjaaDoor
