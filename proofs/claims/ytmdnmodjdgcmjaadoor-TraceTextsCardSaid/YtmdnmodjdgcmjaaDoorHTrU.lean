/-
  The walk of the reference's Text.
-/
import Derived.Deep.QuietTactic
import Derived.BigQuiet
import Derived.Test.YtmdnmodjdgcmjaaDoorHTrT
namespace Go.Proofs.YtmdnmodjdgcmjaaDoor
open Go.RowKit

theorem str_var (a b : List UInt8) (n : Nat) (h : a.length + b.length ≤ n) : ∃ c, (⟨a.toArray⟩ : ByteArray) ++ ⟨b.toArray⟩ = ⟨c.toArray⟩ ∧ c = a ++ b ∧ c.length ≤ n := ⟨a ++ b, str_append a b, rfl, by rw [List.length_append]; exact h⟩

set_option maxRecDepth 100000 in
set_option maxHeartbeats 2000000 in
theorem rtext_any (ts us : List Int) (rs qs : List Ro) (A1 A2 A3 A4 R Q : Option Addr) (c1 c2 n3 c3 n4 c4 cr cq : Nat) (r : Int) (w : World) (hx : IntsAt w A1 ts) (hy : IntsAt w A2 us) (hr : RowsAt w R rs) (hq : RowsAt w Q qs)
    (h1 : ts.length ≤ maxLen) (h2 : us.length ≤ maxLen) (h3 : rs.length ≤ 100000) (h4 : qs.length ≤ maxLen) :
    Calls Tryd.prog 30 #[.agg #[.slice A1 ts.length c1, .slice A2 us.length c2, .int .i64 r, .slice A3 n3 c3, .slice A4 n4 c4], .slice R rs.length cr, .slice Q qs.length cq] w (RowPost (textW ts us (rosL rs) (rosL qs)) w) := by
  have hrt1 := hid (fun W (h : Below w.heap.size w W) => rright_t ts A1 c1 W (hx.keep h) h1)
  have hrt2 := hid (fun W (h : Below w.heap.size w W) => rright_t us A2 c2 W (hy.keep h) h2)
  have hK := hid (fun W (h : Below w.heap.size w W) => (⟨hx.keep h, hy.keep h, hr.keep h, hq.keep h⟩ : IntsAt W A1 ts ∧ IntsAt W A2 us ∧ RowsAt W R rs ∧ RowsAt W Q qs))
  have h1m := hid h1
  have h2m := hid h2
  unfold maxLen at h1 h2 h4
  have hx1 : (ts.length : Int) ≤ 9223372036854775807 := by omega
  have hy1 : (us.length : Int) ≤ 9223372036854775807 := by omega
  have hr1 : (rs.length : Int) ≤ 9223372036854775807 := by omega
  have hq1 : (qs.length : Int) ≤ 9223372036854775807 := by omega
  have f_0 := (Fr.start0 w).alloc (.cells #[.slice A1 ts.length c1, .slice A2 us.length c2, .int .i64 r, .slice A3 n3 c3, .slice A4 n4 c4] 55)
  clear hx hy hr hq
  generalize hp : textW ts us (rosL rs) (rosL qs) = p
  replace hp := hid hp
  go_enter Tryd.func30, Tryd.ntmps30
  go_upto_region 1 with fail
  generalize w.alloc (.cells #[.slice A1 ts.length c1, .slice A2 us.length c2, .int .i64 r, .slice A3 n3 c3, .slice A4 n4 c4] 55) = W1 at *
  generalize w.heap.size = P at f_0 ⊢
  obtain ⟨p0, p1, p2, p3, p4⟩ := blkP f_0.blk
  go_wp2_with fail
  refine (hrt1.out W1 f_0.low).mono ?_
  rintro e w2 ⟨rfl, rfl⟩
  clear hrt1
  cases hR1 : rightT ts with
  | false =>
    obtain rfl : ([], 2) = p := by rw [← hp.out]; unfold textW; rw [if_pos (by rw [hR1]; rfl)]
    go_wp2_with fail
    go_ret2
    exact ⟨rfl, f_0.low⟩
  | true =>
    go_wp2_with fail
    refine (hrt2.out W1 f_0.low).mono ?_
    rintro e w3 ⟨rfl, rfl⟩
    clear hrt2
    cases hR2 : rightT us with
    | false =>
      obtain rfl : ([], 2) = p := by rw [← hp.out]; unfold textW; rw [if_pos (by rw [hR1, hR2]; rfl)]
      go_wp2_with fail
      go_ret2
      exact ⟨rfl, f_0.low⟩
    | true =>
      have hRR : (rightT ts && rightT us) = true := by rw [hR1, hR2]; rfl
      by_cases hlq : rs.length < qs.length
      · obtain rfl : ([], 25) = p := by rw [← hp.out]; unfold textW; rw [if_neg (by rw [hRR]; decide), rosL_len, rosL_len, if_pos hlq]
        have hlb : (rs.length : Int) < (qs.length : Int) := by omega
        go_wp2_with fail
        go_ret2
        exact ⟨rfl, f_0.low⟩
      · have hlb : ¬ (rs.length : Int) < (qs.length : Int) := by omega
        have hlq2 : ¬ (rosL rs).length < (rosL qs).length := by rw [rosL_len, rosL_len]; exact hlq
        have hbad := hid (fun j (hj : j < rs.length) h => hp.out.symm.trans (textW_bad hRR hlq2 (by rw [rosL_len]; exact hj) (j := j) h))
        have hend := hid (fun h => hp.out.symm.trans (textW_end hRR hlq2 h))
        rw [rosL_len] at hend
        clear hp hRR hlq2
        obtain ⟨n, hn⟩ : ∃ n, n = rs.length := ⟨_, rfl⟩
        have hlbn : ¬ n < qs.length := by omega
        rw [← hn] at hr1 hlb hend h3 ⊢
        replace hn := hid hn
        clear p0 p1 p2 p3 p4
        go_wp2_with fail
        go_loopw [8, 9] (fun u i wr => ∃ j : Nat, j ≤ n ∧ u = .string ⟨(uptoT ts us (rosL rs) (rosL qs) j).toArray⟩ ∧ i = .int .i64 j ∧ Hid ((List.range j).all (okAt ts us (rosL rs) (rosL qs)) = true) ∧ (uptoT ts us (rosL rs) (rosL qs) j).length ≤ 540 * j ∧
          Fr none (fun _ => True) w wr [blkK P (.cells #[.slice A1 ts.length c1, .slice A2 us.length c2, .int .i64 r, .slice A3 n3 c3, .slice A4 n4 c4] 55 (0, 0))]) (fun _ i _ => n - (intOf i).toNat)
        case atStart => exact ⟨0, Nat.zero_le _, rfl, rfl, rfl, Nat.le_refl _, f_0⟩
        case round =>
          clear f_0
          obtain ⟨j, hj, rfl, rfl, hall, hul, f⟩ := hrel
          obtain ⟨p0, p1, p2, p3, p4⟩ := blkP f.blk
          by_cases hlt : j < n
          · have hjl : j < rs.length := by rw [← hn.out]; exact hlt
            obtain ⟨hX, hY, hRs, hQs⟩ := hK.out wr f.low
            obtain ⟨b, o, hRA, hc, hIj, hlj, h64⟩ := hRs j hjl
            have hbd := hid (hbad.out j hjl)
            have hstep : uptoT ts us (rosL rs) (rosL qs) (j + 1) = uptoT ts us (rosL rs) (rosL qs) j ++ lineAt ts us (rosL rs) (rosL qs) j := rfl
            have hmo := hid (fun h => range_more hall.out (f := okAt ts us (rosL rs) (rosL qs)) h)
            have hrs9 : rs.length ≤ 100000 := by rw [← hn.out]; exact h3
            have hll := hid (fun hq64 h => lineAt_len (ts := ts) (us := us) (qs := qs) hjl (by omega) h64 hq64 h)
            clear hrs9
            have hok : okAt ts us (rosL rs) (rosL qs) j = (fitsT ts rs[j].l && (match (rosL qs)[j]? with
              | none => true
              | some b => fitsT us b)) := by unfold okAt; rw [rosL_get hjl]; rfl
            have hla : lineAt ts us (rosL rs) (rosL qs) j = (((Lib.itoa (j : Int) ++ [58, 32]) ++ rowT ts rs[j].l) ++ [32, 45, 62]) ++ (match (rosL qs)[j]? with
              | none => []
              | some b => 32 :: rowT us b) ++ [10] := by unfold lineAt lineT; rw [rosL_get hjl]; rfl
            have hIW := hid (fun W (h : Below w.heap.size w W) => show IntsAt W rs[j].S.A rs[j].l by
              obtain ⟨b', o', _, _, hI', _⟩ := (hK.out W h).2.2.1 j hjl
              exact hI')
            have cF := fun W (h : Below w.heap.size w W) q => Calls.quiet_of_same (n := q) ((rfits_t ts rs[j].l A1 rs[j].S.A c1 rs[j].S.cap (W.drewN q) ((hK.out W h).1.drewN q) ((hIW.out W h).drewN q) h1m.out hlj).mono fun _ _ ⟨g1, g2⟩ => ⟨g1, g2.symm⟩)
            have cR := fun (hf : fitsT ts rs[j].l = true) W (h : Below w.heap.size w W) q => Calls.quiet_of_same (n := q) ((rrow_any ts rs[j].l A1 rs[j].S.A c1 rs[j].S.cap (W.drewN q) ((hK.out W h).1.drewN q) ((hIW.out W h).drewN q) h64 (fits_cons hf).2.1 (right_cons hR1).2.2 (by have h1 := (fits_cons hf).2.1; have h2 := (right_cons hR1).2.1; omega)).mono fun _ _ ⟨g1, g2⟩ => ⟨g1, g2.symm⟩)
            have cN := fun (W : World) q => Calls.quiet_of_same (n := q) ((rnumber_any (j : Int) (by unfold I64; omega) (W.drewN q)).mono fun _ _ ⟨g1, g2⟩ => ⟨g1, g2.symm⟩)
            have hcW := hid (fun W (h : Below w.heap.size w W) => show W.cell? ⟨b, o + j, none⟩ = some (.slice rs[j].S.A rs[j].l.length rs[j].S.cap) by
              obtain ⟨b', o', hA', hc', _⟩ := (hK.out W h).2.2.1 j hjl
              rw [hRA] at hA'
              injection hA' with hA'
              injection hA' with h1 h2
              subst h1 h2
              exact hc')
            have hfl := fun h => rowT_len (ts := ts) h64 h
            have hitl := itoa_nat (k := j) (by omega)
            generalize rs[j] = x at *
            obtain ⟨l, ⟨SA, Sc⟩⟩ := x
            dsimp only at hc cF cR hok hla hIj hlj h64 hfl hIW hcW
            unfold maxLen at hlj
            replace cF := hid cF
            replace cR := hid cR
            replace cN := hid cN
            replace hstep := hid hstep
            replace hla := hid hla
            have hj0 : (0 : Int) ≤ (j : Int) := by omega
            have hj1 : (j : Int) < (n : Int) := by omega
            subst hRA
            cases hF : fitsT ts l with
            | false =>
              rw [hF] at cF
              replace cF := hid (cF.out wr f.low)
              obtain rfl := hbd.out (by rw [hok, hF]; rfl)
              clear hok cR cN
              go_wp2_with fail
              go_quiet (exact cF.out _)
              go_wp2_with fail
              go_ret2
              exact ⟨rfl, (f.drewN nq).low⟩
            | true =>
              rw [hF] at cF
              have cR2 := hid (cR.out hF)
              have hfl2 := hfl hF
              replace cF := hid (cF.out wr f.low)
              clear cR hfl
              have hG := hid (fun (hjq : j < qs.length) => (⟨(hQs j hjq).choose_spec.choose_spec.2.2.2.1, (hQs j hjq).choose_spec.choose_spec.2.2.2.2⟩ : qs[j].l.length ≤ maxLen ∧ ∀ v ∈ qs[j].l, I64 v))
              have cG := hid (fun (hjq : j < qs.length) W (h : Below w.heap.size w W) q => Calls.quiet_of_same (n := q) ((rfits_t us qs[j].l A2 qs[j].S.A c2 qs[j].S.cap (W.drewN q) ((hK.out W h).2.1.drewN q) (by
                obtain ⟨b', o', _, _, hI', _⟩ := (hK.out W h).2.2.2 j hjq
                exact hI'.drewN q) h2m.out (hG.out hjq).1).mono fun _ _ ⟨g1, g2⟩ => ⟨g1, g2.symm⟩))
              by_cases hok1 : okAt ts us (rosL rs) (rosL qs) j = true
              · go_upto_region 9 with fail
                go_cut [54] from 31 to 54 (fun v wx => v = .bool false ∧ Fr none (fun _ => True) w wx [blkK P (.cells #[.slice A1 ts.length c1, .slice A2 us.length c2, .int .i64 r, .slice A3 n3 c3, .slice A4 n4 c4] 55 (0, 0))])
                case first =>
                  by_cases hjq : j < qs.length
                  · have hjq1 : (j : Int) < (qs.length : Int) := by omega
                    obtain ⟨b2, o2, hQA, hd, hIq, hlq2, hq64⟩ := hQs j hjq
                    have cG2 := cG.out hjq wr f.low
                    rw [rosL_at hjq] at hok
                    have hF2 : fitsT us qs[j].l = true := by rw [hok, hF] at hok1; exact hok1
                    rw [hF2] at cG2
                    generalize qs[j] = y at *
                    obtain ⟨l2, ⟨SB, Sd⟩⟩ := y
                    dsimp only at hd cG2
                    replace cG2 := hid cG2
                    clear hok hok1 hbd hmo hll hla hstep cG hG hIq hq64
                    subst hQA
                    go_wp2_with fail
                    go_quiet (first | (go_at_call 24; with_reducible exact cF.out _) | (go_at_call 24; with_reducible exact cG2.out _))
                    go_wp2_with fail
                    go_meet
                    case rel => exact ⟨by first | rfl | (simp; done), f.drewN nq⟩
                  · have hjq1 : ¬ (j : Int) < (qs.length : Int) := by omega
                    have hjd : decide ((j : Int) < (qs.length : Int)) = false := decide_eq_false hjq1
                    have hjd2 : decide (j < qs.length) = false := decide_eq_false hjq
                    clear hok hok1 hbd hmo hll hla hstep cG hG
                    go_wp2_with fail
                    go_quiet (exact cF.out _)
                    go_wp2_with fail
                    go_meet
                    case rel => exact ⟨by first | rfl | (simp; done), f.drewN nq⟩
                case rest =>
                obtain ⟨rfl, f_1⟩ := hcut
                rename_i wc
                clear f p0 p1 p2 p3 p4 hc cF hX hY hRs hQs hIj
                have hq64a : ∀ h : j < qs.length, ∀ v ∈ qs[j].l, I64 v := fun h => (hG.out h).2
                have hl540 := hll.out hq64a hok1
                have hmo2 := hid (hmo.out hok1)
                obtain ⟨p0, p1, p2, p3, p4⟩ := blkP f_1.blk
                have hc := hcW.out wc f_1.low
                have cR3 := hid (cR2.out wc f_1.low)
                have cN2 := hid (cN wc)
                clear cN cR2 hll hmo hbd hall cG
                generalize uptoT ts us (rosL rs) (rosL qs) j = U at *
                generalize Lib.itoa (j : Int) = I at *
                generalize rowT ts l = T at *
                generalize lineAt ts us (rosL rs) (rosL qs) j = LA at *
                have hul2 : U.length ≤ 54000000 := by omega
                obtain ⟨V1, e1, v1, n1⟩ := str_var U I 54000030 (by omega)
                obtain ⟨V2, e2, v2, n2⟩ := str_var V1 [58, 32] 54000040 (by show _ + 2 ≤ _; omega)
                obtain ⟨V3, e3, v3, n3'⟩ := str_var V2 T 54000300 (by omega)
                obtain ⟨V4, e4, v4, n4'⟩ := str_var V3 [32, 45, 62] 54000310 (by show _ + 3 ≤ _; omega)
                have hV4 : V4 = U ++ (((I ++ [58, 32]) ++ T) ++ [32, 45, 62]) := by rw [v4, v3, v2, v1]; simp
                replace hV4 := hid hV4
                clear v1 v2 v3 v4
                go_wp2_with fail
                go_quiet (first | (go_at_call 43; with_reducible exact cN2.out _) | (go_at_call 25; with_reducible exact cR3.out _))
                have f_2 := f_1.drewN nq
                clear e1 e2 e3 e4 n1 n2 n3' cN2 cR3 p0 p1 p2 p3 p4 hc f_1
                generalize wc.drewN nq = Wd at *
                by_cases hjq : j < qs.length
                · have hjq1 : (j : Int) < (qs.length : Int) := by omega
                  obtain ⟨b2, o2, hQA, hd, hIq, hlq2, hq64⟩ := (hK.out Wd f_2.low).2.2.2 j hjq
                  rw [rosL_at hjq] at hok hla
                  have hF2 : fitsT us qs[j].l = true := by rw [hok, hF] at hok1; exact hok1
                  have cG3 := fun q => Calls.quiet_of_same (n := q) ((rrow_any us qs[j].l A2 qs[j].S.A c2 qs[j].S.cap (Wd.drewN q) ((hK.out Wd f_2.low).2.1.drewN q) (hIq.drewN q) hq64 (fits_cons hF2).2.1 (right_cons hR2).2.2 (by have h1 := (fits_cons hF2).2.1; have h2 := (right_cons hR2).2.1; omega)).mono fun _ _ ⟨g1, g2⟩ => ⟨g1, g2.symm⟩)
                  have hfl3 := rowT_len (ts := us) hq64 hF2
                  have hla2 : Hid (LA = (((I ++ [58, 32]) ++ T) ++ [32, 45, 62]) ++ 32 :: rowT us qs[j].l ++ [10]) := hla
                  generalize rowT us qs[j].l = T2 at *
                  generalize qs[j] = y at *
                  obtain ⟨l2, ⟨SB, Sd⟩⟩ := y
                  dsimp only at hd cG3
                  replace cG3 := hid cG3
                  obtain ⟨p0, p1, p2, p3, p4⟩ := blkP f_2.blk
                  clear hok hok1 hla hG hIq hq64 hq64a hF2
                  subst hQA
                  obtain ⟨V5, e5, v5, n5⟩ := str_var V4 [32] 54000320 (by show _ + 1 ≤ _; omega)
                  obtain ⟨V6, e6, v6, n6⟩ := str_var V5 T2 54000600 (by omega)
                  obtain ⟨V7, e7, v7, n7⟩ := str_var V6 [10] 54000610 (by show _ + 1 ≤ _; omega)
                  have hV7 : V7 = U ++ LA := by rw [v7, v6, v5, hV4.out, hla2.out]; simp
                  replace hV7 := hid hV7
                  clear v5 v6 v7
                  go_wp2_with fail
                  go_quiet (exact cG3.out _)
                  go_wp2_with fail
                  go_roundw
                  case rel => exact ⟨j + 1, by omega, by rw [hstep.out, hV7.out], by go_num, hmo2.out, by rw [hstep.out, List.length_append]; omega, f_2.drewN nq⟩
                  case measure => simp [intOf]; omega
                · have hjq1 : ¬ (j : Int) < (qs.length : Int) := by omega
                  rw [rosL_none hjq] at hla
                  have hla2 : Hid (LA = (((I ++ [58, 32]) ++ T) ++ [32, 45, 62]) ++ [] ++ [10]) := hla
                  clear hok hok1 hla hG hq64a
                  obtain ⟨V7, e7, v7, n7⟩ := str_var V4 [10] 54000610 (by show _ + 1 ≤ _; omega)
                  have hV7 : V7 = U ++ LA := by rw [v7, hV4.out, hla2.out]; simp
                  replace hV7 := hid hV7
                  clear v7
                  go_wp2_with fail
                  go_roundw
                  case rel => exact ⟨j + 1, by omega, by rw [hstep.out, hV7.out], by go_num, hmo2.out, by rw [hstep.out, List.length_append]; omega, f_2⟩
                  case measure => simp [intOf]; omega
              · have hjq : j < qs.length := Classical.byContradiction fun hjq => by
                  rw [rosL_none hjq] at hok
                  exact hok1 (by rw [hok, hF]; rfl)
                have hjq1 : (j : Int) < (qs.length : Int) := by omega
                obtain ⟨b2, o2, hQA, hd, hIq, hlq2, hq64⟩ := hQs j hjq
                have cG2 := cG.out hjq wr f.low
                have hokf : okAt ts us (rosL rs) (rosL qs) j = false := by simpa using hok1
                rw [rosL_at hjq] at hok
                have hF2 : fitsT us qs[j].l = false := by rw [hok, hF] at hokf; exact hokf
                obtain rfl := hbd.out hokf
                rw [hF2] at cG2
                generalize qs[j] = y at *
                obtain ⟨l2, ⟨SB, Sd⟩⟩ := y
                dsimp only at hd cG2
                replace cG2 := hid cG2
                clear hok hok1 hokf hbd hmo hll hla hstep cG hG hIq hq64
                subst hQA
                go_wp2_with fail
                go_quiet (first | (go_at_call 24; with_reducible exact cF.out _) | (go_at_call 24; with_reducible exact cG2.out _))
                go_wp2_with fail
                go_ret2
                exact ⟨rfl, (f.drewN nq).low⟩
          · have hje : j = n := by omega
            subst hje
            have he := hend.out hall.out
            subst he
            go_wp2_with fail
            go_ret2
            exact ⟨rfl, f.low⟩
end Go.Proofs.YtmdnmodjdgcmjaaDoor
