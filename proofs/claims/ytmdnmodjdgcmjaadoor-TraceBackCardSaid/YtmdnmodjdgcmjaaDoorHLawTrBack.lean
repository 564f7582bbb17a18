/-
  The walk of the statement TraceBack.
-/
import Derived.Test.YtmdnmodjdgcmjaaDoorHTrA
import Derived.Test.YtmdnmodjdgcmjaaDoorHTrZ
import Derived.Test.YtmdnmodjdgcmjaaDoorHTrE
import Derived.Test.YtmdnmodjdgcmjaaDoorHTrBk
namespace Go.Proofs.YtmdnmodjdgcmjaaDoor
open Go.RowKit

theorem fewR_len {rs : List Ro} (h : fewR rs = true) : rs.length ≤ 30 := by
  unfold fewR at h
  simp only [Bool.and_eq_true, decide_eq_true_eq] at h
  exact h.2
section
variable {p : List (List Int) × List (List Int) × Nat × Int} {w W W' : World} {r : Ending}
/-- what Read leaves, as laws use it -/
def RdOut (p : List (List Int) × List (List Int) × Nat × Int) (W : World) (r : Ending) (W' : World) : Prop :=
  ∃ (rs qs : List Ro) (A : Option Addr) (c : Nat) (B : Option Addr) (d : Nat), r = .returned (.tuple #[.slice A p.1.length c, .slice B p.2.1.length d, .int .i64 (p.2.2.1 : Int), .int .i64 p.2.2.2]) ∧ rosL rs = p.1 ∧ rosL qs = p.2.1 ∧ p.1.length ≤ maxLen ∧ p.2.1.length ≤ maxLen ∧ RowsAt W' A rs ∧ RowsAt W' B qs ∧ Below W.heap.size W W'
theorem rd_out (h : RdTPost p W r W') : RdOut p W r W' := by
  obtain ⟨rs, qs, A, n, c, B, m, d, D, D', rfl, h1, h2, h3, h4, f⟩ := h
  have hn : p.1.length = n := by rw [← h3, rosL_len]; exact h1
  have hm : p.2.1.length = m := by rw [← h4, rosL_len]; exact h2
  have f2 := f.sub (ks' := [_, _]) (List.Sublist.cons _ (List.Sublist.cons _ (List.Sublist.refl _)))
  have hl1 := f.rowsLen h1
  have hl2 := f2.rowsLen h2
  exact ⟨rs, qs, A, c, B, d, by rw [hn, hm], h3, h4, by omega, by omega, f.rowsAt h1, f2.rowsAt h2, f.low⟩
end
theorem blkT {w : World} {T : Nat} {v0 v1 : Value} {t : TypeId} (h : w.heap[T]? = some (.cells #[v0, v1] t (0, 0))) : w.cell? ⟨T, 0, none⟩ = some v0 ∧ w.cell? ⟨T, 1, none⟩ = some v1 := ⟨Lib.cell_of_heap h 0, Lib.cell_of_heap h 1⟩

theorem rows64 {w : World} {A : Option Addr} {rs : List Ro} (h : RowsAt w A rs) : ∀ x ∈ rosL rs, ∀ v ∈ x, R64 v := by
  intro x hx v hv
  obtain ⟨y, hy, rfl⟩ := List.mem_map.1 hx
  obtain ⟨j, hj, rfl⟩ := List.getElem_of_mem hy
  obtain ⟨b, o, _, _, _, _, h64⟩ := h j hj
  exact h64 v hv
/-- how long a text is -/
theorem text_short {ts us : List Int} {rs qs : List Ro} {t : List UInt8} (h : textW ts us (rosL rs) (rosL qs) = (t, 0)) (hn : rs.length ≤ 9000000000) (ha : ∀ x ∈ rosL rs, ∀ v ∈ x, R64 v) (hb : ∀ x ∈ rosL qs, ∀ v ∈ x, R64 v) : t.length ≤ 540 * rs.length := by
  unfold textW at h
  by_cases hr : (rightT ts && rightT us) = false
  · rw [if_pos hr] at h; cases h
  rw [if_neg hr] at h
  by_cases hl : (rosL rs).length < (rosL qs).length
  · rw [if_pos hl] at h; cases h
  rw [if_neg hl] at h
  by_cases hall : (List.range (rosL rs).length).all (okAt ts us (rosL rs) (rosL qs)) = true
  · rw [if_pos hall] at h
    injection h with h _
    rw [← h, rosL_len]
    refine upto_le fun j hj => ?_
    refine lineAt_len hj hn (fun v hv => ha _ (List.mem_map.2 ⟨_, List.getElem_mem hj, rfl⟩) v hv) (fun hq v hv => hb _ (List.mem_map.2 ⟨_, List.getElem_mem hq, rfl⟩) v hv) ?_
    exact List.all_eq_true.1 hall j (List.mem_range.2 (by rw [rosL_len]; exact hj))
  · rw [if_neg hall] at h; cases h
theorem upto_ge (ts us : List Int) (la lb : List (List Int)) : ∀ n, n ≤ (uptoT ts us la lb n).length
  | 0 => Nat.zero_le _
  | n + 1 => by
    have := upto_ge ts us la lb n
    rw [uptoT, List.length_append]
    unfold lineAt lineT
    simp; omega
theorem text_long {ts us : List Int} {la lb : List (List Int)} {t : List UInt8} (h : textW ts us la lb = (t, 0)) : la.length ≤ t.length := by
  unfold textW at h
  by_cases hr : (rightT ts && rightT us) = false
  · rw [if_pos hr] at h; cases h
  rw [if_neg hr] at h
  by_cases hl : la.length < lb.length
  · rw [if_pos hl] at h; cases h
  rw [if_neg hl] at h
  by_cases hall : (List.range la.length).all (okAt ts us la lb) = true
  · rw [if_pos hall] at h
    injection h with h _
    rw [← h]
    exact upto_ge _ _ _ _ _
  · rw [if_neg hall] at h; cases h

set_option maxRecDepth 100000 in
set_option maxHeartbeats 4000000 in
theorem traceBack_any (ts us : List Int) (rs qs : List Ro) (A1 A2 A3 A4 R Q : Option Addr) (c1 c2 n3 c3 n4 c4 cr cq : Nat) (r : Int) (s : ByteArray) (w : World) (hx : IntsAt w A1 ts) (hy : IntsAt w A2 us) (hr : RowsAt w R rs) (hq : RowsAt w Q qs)
    (h1 : ts.length ≤ maxLen) (h2 : us.length ≤ maxLen) (h3 : rs.length ≤ maxLen) (h4 : qs.length ≤ maxLen) (hs : s.size ≤ maxLen) (hT : Tabs w) (hM : MxC w) :
    Calls Tryd.prog 9 #[.agg #[.slice A1 ts.length c1, .slice A2 us.length c2, .int .i64 r, .slice A3 n3 c3, .slice A4 n4 c4], .agg #[.slice R rs.length cr, .slice Q qs.length cq], .string s] w fun e w' => e = .returned (.bool true) ∧ Below w.heap.size w w' := by
  have haw := hid (fun W (h : Below w.heap.size w W) => tawake_any W (hT.below h))
  have hf1 := hid (fun W (h : Below w.heap.size w W) => tfew_any rs R cr W (hr.keep h) h3)
  have hf2 := hid (fun W (h : Below w.heap.size w W) => tfew_any qs Q cq W (hq.keep h) h4)
  have htx := hid (fun h30 W (h : Below w.heap.size w W) => ttext_any ts us rs qs A1 A2 A3 A4 R Q c1 c2 n3 c3 n4 c4 cr cq r W (hx.keep h) (hy.keep h) (hr.keep h) (hq.keep h) h1 h2 h30 h4 (hT.below h))
  have hrd := hid (fun (z : List UInt8) (hz : z.length ≤ 90000) W (h : Below w.heap.size w W) => show Calls Tryd.prog 31 #[.agg #[.slice A1 ts.length c1, .slice A2 us.length c2, .int .i64 r, .slice A3 n3 c3, .slice A4 n4 c4], .string ⟨z.toArray⟩] W (RdOut (readT ts us z) W) from
    (tread_all ts us A1 A2 A3 A4 c1 c2 n3 c3 n4 c4 r ⟨z.toArray⟩ W (hx.keep h) (hy.keep h) h1 h2 (by rw [str_ln]; exact hz) (hT.below h) (hM.below h)).mono fun _ _ => rd_out)
  have hR64 := rows64 hr
  have hQ64 := rows64 hq
  have hRK := hid (fun W (h : Below w.heap.size w W) => hr.keep h)
  have hQK := hid (fun W (h : Below w.heap.size w W) => hq.keep h)
  have htx2 := hid (fun (ra qa : List Ro) (Ra Qa : Option Addr) (ca da : Nat) (hl : ra.length ≤ 100000) (hm : qa.length ≤ maxLen) W (h : Below w.heap.size w W) (ha : RowsAt W Ra ra) (hb : RowsAt W Qa qa) => ttext_any ts us ra qa A1 A2 A3 A4 Ra Qa c1 c2 n3 c3 n4 c4 ca da r W (hx.keep h) (hy.keep h) ha hb h1 h2 hl hm (hT.below h))
  have h3m := hid h3
  have h4m := hid h4
  have f_0 := ((Fr.start0 w).alloc (.cells #[.slice A1 ts.length c1, .slice A2 us.length c2, .int .i64 r, .slice A3 n3 c3, .slice A4 n4 c4] 55)).alloc (.cells #[.slice R rs.length cr, .slice Q qs.length cq] 57)
  rw [World.size_alloc] at f_0
  unfold maxLen at *
  have hx1 : (ts.length : Int) ≤ 9223372036854775807 := by omega
  have hy1 : (us.length : Int) ≤ 9223372036854775807 := by omega
  have hr1 : (rs.length : Int) ≤ 9223372036854775807 := by omega
  have hq1 : (qs.length : Int) ≤ 9223372036854775807 := by omega
  have hs1 : (s.size : Int) ≤ 9223372036854775807 := by omega
  clear hx hy hr hq hT hM
  go_enter Tryd.func9, Tryd.ntmps9
  go_upto_region 1 with fail
  generalize (w.alloc (.cells #[.slice A1 ts.length c1, .slice A2 us.length c2, .int .i64 r, .slice A3 n3 c3, .slice A4 n4 c4] 55)).alloc (.cells #[.slice R rs.length cr, .slice Q qs.length cq] 57) = W1 at *
  generalize w.heap.size = P at f_0 ⊢
  obtain ⟨T, hTT⟩ : ∃ T, T = P + 1 := ⟨_, rfl⟩
  rw [← hTT] at f_0 ⊢
  clear hTT
  go_wp2_with fail
  refine (haw.out W1 f_0.low).mono ?_
  rintro e W2 ⟨rfl, hb⟩
  have f_1 := f_0.below hb
  clear f_0 hb haw
  obtain ⟨t0, t1⟩ := blkT f_1.blk
  obtain ⟨p0, p1, p2, p3, p4⟩ := blkP f_1.rot1.blk
  by_cases l1 : ts.length ≤ 20
  case neg =>
    have hi : (20 : Int) < (ts.length : Int) := by omega
    go_wp2_with fail
    go_ret
    exact ⟨rfl, f_1.low⟩
  have hi0 : ¬ (20 : Int) < (ts.length : Int) := by omega
  by_cases l2 : us.length ≤ 20
  case neg =>
    have hi : (20 : Int) < (us.length : Int) := by omega
    go_wp2_with fail
    go_ret
    exact ⟨rfl, f_1.low⟩
  have hi1 : ¬ (20 : Int) < (us.length : Int) := by omega
  go_wp2_with fail
  refine (hf1.out W2 f_1.low).mono ?_
  rintro e W3 ⟨rfl, rfl⟩
  cases hF1 : fewR rs with
  | false =>
    go_wp2_with fail
    go_ret
    exact ⟨rfl, f_1.low⟩
  | true =>
    have h30 := fewR_len hF1
    go_wp2_with fail
    refine (hf2.out W2 f_1.low).mono ?_
    rintro e W3 ⟨rfl, rfl⟩
    cases hF2 : fewR qs with
    | false =>
      go_wp2_with fail
      go_ret
      exact ⟨rfl, f_1.low⟩
    | true =>
      by_cases l3 : s.size ≤ 2000
      case neg =>
        have hi : (2000 : Int) < (s.size : Int) := by omega
        go_wp2_with fail
        go_ret
        exact ⟨rfl, f_1.low⟩
      have hi2 : ¬ (2000 : Int) < (s.size : Int) := by omega
      have htxa := hid (htx.out (by omega))
      have hts := fun t (h : textW ts us (rosL rs) (rosL qs) = (t, 0)) => text_short h (by omega) hR64 hQ64
      have htb := fun t (h : textW ts us (rosL rs) (rosL qs) = (t, 0)) => text_back h hR64 hQ64
      generalize hpt : textW ts us (rosL rs) (rosL qs) = p at *
      obtain ⟨tt, te⟩ := p
      replace hts := hid hts
      replace htb := hid htb
      clear hf1 hf2 htx hpt hR64 hQ64
      go_wp2_with fail
      refine (htxa.out W2 f_1.low).mono ?_
      rintro e W3 ⟨rfl, hb⟩
      have f_2 := f_1.below hb
      clear f_1 hb t0 t1 p0 p1 p2 p3 p4 htxa
      dsimp only
      go_upto_if 58 with fail
      go_cut [9, 10, 11, 12] from 58 to 86 (fun _ _ _ _ wx => Fr none (fun _ => True) w wx [blkK T (.cells #[.slice R rs.length cr, .slice Q qs.length cq] 57 (0, 0)), blkK P (.cells #[.slice A1 ts.length c1, .slice A2 us.length c2, .int .i64 r, .slice A3 n3 c3, .slice A4 n4 c4] 55 (0, 0))])
      case first =>
        obtain ⟨t0, t1⟩ := blkT f_2.blk
        obtain ⟨p0, p1, p2, p3, p4⟩ := blkP f_2.rot1.blk
        by_cases hte : te = 0
        case neg =>
          have hteb := int_ne hte
          go_wp2_with fail
          go_meet
          case rel => exact f_2
        subst hte
        have hlen := hts.out tt rfl
        have hrdt := hrd.out tt (by omega)
        rw [htb.out tt rfl] at hrdt
        replace hrdt := hid hrdt
        clear hrd htx2 hts htb
        go_wp2_with fail
        refine (hrdt.out W3 f_2.low).mono ?_
        rintro e W5 ⟨ra, qa, Aa, ca, Ba, da, rfl, ha1, ha2, hal, hbl, hra, hqa, hb⟩
        have f_3 := f_2.below hb
        clear f_2 hb p0 p1 p2 p3 p4 t0 t1 hrdt
        obtain ⟨t0, t1⟩ := blkT f_3.blk
        dsimp only at ha1 ha2 hal hbl ⊢
        have hlr : ra.length = (rosL rs).length := by rw [← ha1, rosL_len]
        have hlq : qa.length = (rosL qs).length := by rw [← ha2, rosL_len]
        have hs2 := rsame_any ra rs Aa R ca cr W5 hra (hRK.out W5 f_3.low) (by rw [hlr]; exact hal) h3m.out
        rw [hlr, ha1, show decide (rosL rs = rosL rs) = true from decide_eq_true rfl] at hs2
        have hs3 := hid (fun k => rsame_any qa qs Ba Q da cq (W5.drewN k) (hqa.drewN k) ((hQK.out W5 f_3.low).drewN k) (by rw [hlq]; exact hbl) h4m.out)
        rw [hlq, ha2, show decide (rosL qs = rosL qs) = true from decide_eq_true rfl] at hs3
        replace hs2 := hid hs2
        have hcd := hid (fun k => blkT (f_3.drewN k).blk)
        clear hra hqa ha1 ha2 hlr hlq
        go_wp2_with fail
        refine hs2.out.mono ?_
        rintro e W7 ⟨rfl, k1, rfl⟩
        obtain ⟨t2, t3⟩ := hcd.out k1
        go_wp2_with fail
        refine (hs3.out k1).mono ?_
        rintro e W8 ⟨rfl, k2, rfl⟩
        go_wp2_with fail
        go_meet
        case rel => first | exact (f_3.drewN k1).drewN k2 | exact f_3.drewN (k1 + k2)
      case rest =>
      rename_i wc
      have f_3 := hcut
      clear f_2 hts htb hRK hQK
      obtain ⟨p0, p1, p2, p3, p4⟩ := blkP f_3.rot1.blk
      have hsl := size_L s
      have hss := ba_list s
      generalize s.data.toList = s0 at *
      subst hss
      rw [show (⟨s0.toArray⟩ : ByteArray).size = s0.length from str_ln s0] at hsl l3 hi2
      have hrds := hid (hrd.out s0 (by omega))
      have hcs := @read_back ts us s0
      clear hrd
      generalize readT ts us s0 = p at *
      obtain ⟨pa, pb, pk, pe⟩ := p
      replace hcs := hid (hcs rfl)
      go_wp2_with fail
      refine (hrds.out wc f_3.low).mono ?_
      rintro e W5 ⟨ra, qa, Aa, ca, Ba, da, rfl, ha1, ha2, hal, hbl, hra, hqa, hb⟩
      have f_4 := f_3.below hb
      clear f_3 hb p0 p1 p2 p3 p4 hrds
      obtain ⟨p0, p1, p2, p3, p4⟩ := blkP f_4.rot1.blk
      dsimp only at ha1 ha2 hal hbl ⊢
      rcases hcs.out with ⟨rfl, rfl, htw⟩ | ⟨rfl, hk0, rfl, rfl⟩ | ⟨rfl, rfl, rfl, rfl⟩
      · have hlong := text_long htw
        have hlr : ra.length = pa.length := by rw [← ha1, rosL_len]
        have hlq : qa.length = pb.length := by rw [← ha2, rosL_len]
        have hx2 := htx2.out ra qa Aa Ba ca da (by omega) (by rw [hlq]; exact hbl) W5 f_4.low hra hqa
        rw [ha1, ha2, htw, hlr, hlq] at hx2
        replace hx2 := hid hx2
        clear htx2 hra hqa ha1 ha2 hlr hlq hcs
        go_wp2_with fail
        refine hx2.out.mono ?_
        rintro e W6 ⟨rfl, hb⟩
        have f_5 := f_4.below hb
        dsimp only
        go_wp2_with fail
        go_ret
        exact ⟨by simp, f_5.low⟩
      · have hk1 : (0 : Int) < (pk : Int) := by omega
        clear htx2 hra hqa hcs
        go_wp2_with fail
        go_ret
        exact ⟨by first | rfl | (simp; done) | (simp; omega), f_4.low⟩
      · clear htx2 hra hqa hcs
        go_wp2_with fail
        go_ret
        exact ⟨by first | rfl | (simp; done), f_4.low⟩
end Go.Proofs.YtmdnmodjdgcmjaaDoor
