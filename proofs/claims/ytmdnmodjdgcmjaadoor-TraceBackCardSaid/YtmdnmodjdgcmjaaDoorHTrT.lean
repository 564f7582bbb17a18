/-
  The walk of Text.
-/
import Derived.Deep.RegionHeld3
import Derived.Test.YtmdnmodjdgcmjaaDoorHTrQ
import Derived.Test.YtmdnmodjdgcmjaaDoorHBuildS
namespace Go.Proofs.YtmdnmodjdgcmjaaDoor
open Go.RowKit

theorem blkP {w : World} {T : Nat} {v0 v1 v2 v3 v4 : Value} {t : TypeId} (h : w.heap[T]? = some (.cells #[v0, v1, v2, v3, v4] t (0, 0))) :
    w.cell? ⟨T, 0, none⟩ = some v0 ∧ w.cell? ⟨T, 1, none⟩ = some v1 ∧ w.cell? ⟨T, 2, none⟩ = some v2 ∧ w.cell? ⟨T, 3, none⟩ = some v3 ∧ w.cell? ⟨T, 4, none⟩ = some v4 :=
  ⟨Lib.cell_of_heap h 0, Lib.cell_of_heap h 1, Lib.cell_of_heap h 2, Lib.cell_of_heap h 3, Lib.cell_of_heap h 4⟩
theorem str_ln' (l : List UInt8) : (⟨l.toArray⟩ : ByteArray).size = l.length := by simp [ByteArray.size]
theorem rowW_fit {ts l : List Int} (h : fitsT ts l = true) : rowW ts l = (rowT ts l, 0) := by
  unfold rowW
  rw [if_neg (by rw [(fits_cons h).1]; decide), if_neg (by rw [h]; decide)]
theorem rowW_bad {ts l : List Int} (hr : rightT ts = true) (h : fitsT ts l = false) : rowW ts l = ([], 41) := by
  unfold rowW
  rw [if_neg (by rw [hr]; decide), if_pos h]

set_option maxRecDepth 100000 in
set_option maxHeartbeats 4000000 in
theorem ttext_any (ts us : List Int) (rs qs : List Ro) (A1 A2 A3 A4 R Q : Option Addr) (c1 c2 n3 c3 n4 c4 cr cq : Nat) (r : Int) (w : World) (hx : IntsAt w A1 ts) (hy : IntsAt w A2 us) (hr : RowsAt w R rs) (hq : RowsAt w Q qs)
    (h1 : ts.length ≤ maxLen) (h2 : us.length ≤ maxLen) (h3 : rs.length ≤ 100000) (h4 : qs.length ≤ maxLen) (hT : Tabs w) :
    Calls Tryd.prog 29 #[.agg #[.slice A1 ts.length c1, .slice A2 us.length c2, .int .i64 r, .slice A3 n3 c3, .slice A4 n4 c4], .slice R rs.length cr, .slice Q qs.length cq] w (RowPost (textW ts us (rosL rs) (rosL qs)) w) := by
  have hrt1 := hid (fun W (h : Below w.heap.size w W) => right_t ts A1 c1 W (hx.keep h) h1)
  have hrt2 := hid (fun W (h : Below w.heap.size w W) => right_t us A2 c2 W (hy.keep h) h2)
  have hK := hid (fun W (h : Below w.heap.size w W) => (⟨hx.keep h, hy.keep h, hr.keep h, hq.keep h, hT.below h⟩ : IntsAt W A1 ts ∧ IntsAt W A2 us ∧ RowsAt W R rs ∧ RowsAt W Q qs ∧ Tabs W))
  have h1m := hid h1
  have h2m := hid h2
  unfold maxLen at h1 h2 h4
  have hx1 : (ts.length : Int) ≤ 9223372036854775807 := by omega
  have hy1 : (us.length : Int) ≤ 9223372036854775807 := by omega
  have hr1 : (rs.length : Int) ≤ 9223372036854775807 := by omega
  have hq1 : (qs.length : Int) ≤ 9223372036854775807 := by omega
  have f_0 := (Fr.start0 w).alloc (.cells #[.slice A1 ts.length c1, .slice A2 us.length c2, .int .i64 r, .slice A3 n3 c3, .slice A4 n4 c4] 55)
  clear hx hy hr hq hT
  generalize hp : textW ts us (rosL rs) (rosL qs) = p
  replace hp := hid hp
  go_enter Tryd.func29, Tryd.ntmps29
  go_upto_region 1 with fail
  generalize w.alloc (.cells #[.slice A1 ts.length c1, .slice A2 us.length c2, .int .i64 r, .slice A3 n3 c3, .slice A4 n4 c4] 55) = W1 at *
  generalize w.heap.size = P at f_0 ⊢
  obtain ⟨p0, p1, p2, p3, p4⟩ := blkP f_0.blk
  go_wp2_with fail
  refine (hrt1.out W1 f_0.low).mono ?_
  rintro e w2 ⟨rfl, hb⟩
  have f_1 := f_0.below hb
  clear hb f_0 p0 p1 p2 p3 p4 hrt1
  cases hR1 : rightT ts with
  | false =>
    obtain rfl : ([], 2) = p := by rw [← hp.out]; unfold textW; rw [if_pos (by rw [hR1]; rfl)]
    go_wp2_with fail
    go_ret2
    exact ⟨rfl, f_1.low⟩
  | true =>
    obtain ⟨p0, p1, p2, p3, p4⟩ := blkP f_1.blk
    go_wp2_with fail
    refine (hrt2.out w2 f_1.low).mono ?_
    rintro e w3 ⟨rfl, hb⟩
    have f_2 := f_1.below hb
    clear hb f_1 p0 p1 p2 p3 p4 hrt2
    cases hR2 : rightT us with
    | false =>
      obtain rfl : ([], 2) = p := by rw [← hp.out]; unfold textW; rw [if_pos (by rw [hR1, hR2]; rfl)]
      go_wp2_with fail
      go_ret2
      exact ⟨rfl, f_2.low⟩
    | true =>
      have hRR : (rightT ts && rightT us) = true := by rw [hR1, hR2]; rfl
      by_cases hlq : rs.length < qs.length
      · obtain rfl : ([], 25) = p := by rw [← hp.out]; unfold textW; rw [if_neg (by rw [hRR]; decide), rosL_len, rosL_len, if_pos hlq]
        have hlb : (rs.length : Int) < (qs.length : Int) := by omega
        go_wp2_with fail
        go_ret2
        exact ⟨rfl, f_2.low⟩
      · have hlb : ¬ (rs.length : Int) < (qs.length : Int) := by omega
        have hlq2 : ¬ (rosL rs).length < (rosL qs).length := by rw [rosL_len, rosL_len]; exact hlq
        have hbad := hid (fun j (hj : j < rs.length) h => hp.out.symm.trans (textW_bad hRR hlq2 (by rw [rosL_len]; exact hj) (j := j) h))
        have hend := hid (fun h => hp.out.symm.trans (textW_end hRR hlq2 h))
        rw [rosL_len] at hend
        clear hp hRR hlq2
        have hb0 := f_2.low
        have hP := f_2.blk
        have hKP := hid (fun W (h : Below w3.heap.size w3 W) => (⟨hK.out W (hb0.trans (h.mono hb0.size)), (h.block P (Array.getElem?_eq_some_iff.1 hP).1).trans hP⟩ : (IntsAt W A1 ts ∧ IntsAt W A2 us ∧ RowsAt W R rs ∧ RowsAt W Q qs ∧ Tabs W) ∧ W.heap[P]? = some (.cells #[.slice A1 ts.length c1, .slice A2 us.length c2, .int .i64 r, .slice A3 n3 c3, .slice A4 n4 c4] 55 (0, 0))))
        have hlow := hid (fun W (h : Below w3.heap.size w3 W) => hb0.trans (h.mono hb0.size))
        clear f_2 hP hK hb0
        obtain ⟨n, hn⟩ : ∃ n, n = rs.length := ⟨_, rfl⟩
        have hlbn : ¬ n < qs.length := by omega
        rw [← hn] at hr1 hlb hend h3 ⊢
        replace hn := hid hn
        have hw0 : Wr w3.heap.size w3.heap.size [] (w3.alloc (.cells #[.pointer none, .slice none 0 0] 75)) := .inl ⟨Nat.le_refl _, .slice none 0 0, World.alloc_heap_new _ _, World.ownsRow_nil _ _ _ _, by simp [Value.ownBlock]⟩
        have hb1 := (Below.refl w3.heap.size w3).alloc (Nat.le_refl _) (.cells #[.pointer none, .slice none 0 0] 75)
        go_upto_region 6 with fail
        generalize w3.alloc (.cells #[.pointer none, .slice none 0 0] 75) = W at *
        generalize hB : w3.heap.size = B at *
        go_wp2_with fail
        go_loopw [34] (fun i wr => ∃ j : Nat, j ≤ n ∧ i = .int .i64 j ∧ Hid ((List.range j).all (okAt ts us (rosL rs) (rosL qs)) = true) ∧ (uptoT ts us (rosL rs) (rosL qs) j).length ≤ 540 * j ∧ Wr B B (uptoT ts us (rosL rs) (rosL qs) j) wr ∧ Below B w3 wr) (fun i _ => n - (intOf i).toNat)
        case atStart => exact ⟨0, Nat.zero_le _, rfl, rfl, Nat.le_refl _, hw0, hb1⟩
        case round =>
          clear hw0 hb1
          obtain ⟨j, hj, rfl, hall, hul, hwr, hbr⟩ := hrel
          by_cases hlt : j < n
          · have hjl : j < rs.length := by rw [← hn.out]; exact hlt
            obtain ⟨⟨hX, hY, hRs, hQs, hTw⟩, hPw⟩ := hKP.out wr hbr
            obtain ⟨b, o, hRA, hc, hIj, hlj, h64⟩ := hRs j hjl
            have hbd := hid (hbad.out j hjl)
            have hstep : uptoT ts us (rosL rs) (rosL qs) (j + 1) = uptoT ts us (rosL rs) (rosL qs) j ++ lineAt ts us (rosL rs) (rosL qs) j := rfl
            have hmo := hid (fun h => range_more hall.out (f := okAt ts us (rosL rs) (rosL qs)) h)
            have hrs9 : rs.length ≤ 100000 := by rw [← hn.out]; exact h3
            have hll := hid (fun hq64 h => lineAt_len (ts := ts) (us := us) (qs := qs) hjl (by omega) h64 hq64 h)
            clear hrs9
            have hok : okAt ts us (rosL rs) (rosL qs) j = (fitsT ts rs[j].l && (match (rosL qs)[j]? with
              | none => true
              | some b => fitsT us b)) := by unfold okAt; rw [rosL_get hjl]; rfl
            have hla : lineAt ts us (rosL rs) (rosL qs) j = (((Lib.itoa (j : Int) ++ [58, 32]) ++ rowT ts rs[j].l) ++ [32, 45, 62]) ++ (match (rosL qs)[j]? with
              | none => []
              | some b => 32 :: rowT us b) ++ [10] := by unfold lineAt lineT; rw [rosL_get hjl]; rfl
            have hrow := row_any ts rs[j].l A1 rs[j].S.A c1 rs[j].S.cap wr hX hIj h64 h1m.out hlj hTw
            have hfl := fun h => rowT_len (ts := ts) h64 h
            have hit := hid (fun W (h : Below B w3 W) => itoa_any (j : Int) (by unfold I64; omega) W (hKP.out W h).1.2.2.2.2.tab)
            have hitl := itoa_nat (k := j) (by omega)
            generalize rs[j] = x at *
            obtain ⟨l, ⟨SA, Sc⟩⟩ := x
            dsimp only at hc hrow hok hla hIj hlj h64 hfl
            unfold maxLen at hlj
            replace hrow := hid hrow
            replace hstep := hid hstep
            replace hla := hid hla
            obtain ⟨p0, p1, p2, p3, p4⟩ := blkP hPw
            have hj0 : (0 : Int) ≤ (j : Int) := by omega
            have hj1 : (j : Int) < (n : Int) := by omega
            have hsz0 : B ≤ wr.heap.size := by rw [← hB]; exact hbr.size
            clear hX hY hRs hQs hTw hPw hIj
            subst hRA
            go_wp2_with fail
            refine hrow.out.mono ?_
            rintro e W1 ⟨rfl, hb⟩
            have hw1 := hwr.below hb
            have hb1 := hbr.trans (hb.mono hsz0)
            have hsz1 : B ≤ W1.heap.size := by rw [← hB]; exact hb1.size
            clear hwr hbr hb hrow p0 p1 p2 p3 p4 hc
            cases hF : fitsT ts l with
            | false =>
              rw [rowW_bad hR1 hF]
              obtain rfl := hbd.out (by rw [hok, hF]; rfl)
              clear hok
              go_wp2_with fail
              go_ret2
              exact ⟨rfl, hlow.out _ hb1⟩
            | true =>
              rw [rowW_fit hF]
              have hfl2 := hfl hF
              clear hfl
              generalize rowT ts l = T at *
              go_wp2_with fail
              refine (hit.out W1 hb1).mono ?_
              rintro e W2 ⟨rfl, hb⟩
              have hw2 := hw1.below hb
              have hb2 := hb1.trans (hb.mono hsz1)
              have hsz2 : B ≤ W2.heap.size := by rw [← hB]; exact hb2.size
              clear hw1 hb1 hb hit
              generalize Lib.itoa (j : Int) = I at *
              generalize uptoT ts us (rosL rs) (rosL qs) j = U at *
              have s1 : (⟨I.toArray⟩ : ByteArray) ++ ⟨#[58, 32]⟩ = ⟨(I ++ [58, 32]).toArray⟩ := str_append I [58, 32]
              have s2 : (⟨(I ++ [58, 32]).toArray⟩ : ByteArray) ++ ⟨T.toArray⟩ = ⟨((I ++ [58, 32]) ++ T).toArray⟩ := str_append _ T
              have s3 : (⟨((I ++ [58, 32]) ++ T).toArray⟩ : ByteArray) ++ ⟨#[32, 45, 62]⟩ = ⟨(((I ++ [58, 32]) ++ T) ++ [32, 45, 62]).toArray⟩ := str_append _ [32, 45, 62]
              have t1 : (I ++ [58, 32]).length ≤ 32 := by simp; omega
              have t2 : ((I ++ [58, 32]) ++ T).length ≤ 280 := by simp at t1 ⊢; omega
              have t3 : (((I ++ [58, 32]) ++ T) ++ [32, 45, 62]).length ≤ 283 := by simp at t2 ⊢; omega
              obtain ⟨X, hX⟩ : ∃ X, X = (((I ++ [58, 32]) ++ T) ++ [32, 45, 62]) := ⟨_, rfl⟩
              rw [← hX] at s3 t3 hla
              have s4 : (⟨(I ++ 58 :: 32 :: T).toArray⟩ : ByteArray) ++ ⟨#[32, 45, 62]⟩ = ⟨X.toArray⟩ := by rw [← s3]; simp
              have t4 : (I ++ 58 :: 32 :: T).length ≤ 280 := by simpa using t2
              clear s3
              replace hX := hid hX
              have hws := writeString_any B B U ⟨X.toArray⟩ W2 hw2 (by rw [str_ln']; omega) hsz2
              rw [show (⟨X.toArray⟩ : ByteArray).data.toList = X from rfl] at hws
              replace hws := hid hws
              clear hw2
              go_wp2_with fail
              refine hws.out.mono ?_
              rintro e W3 ⟨rfl, hw3, hk⟩
              have hb3 := hb2.trans hk.below
              have hsz3 : B ≤ W3.heap.size := by rw [← hB]; exact hb3.size
              clear hws hk hb2 s1 s2 s4 t1 t2 t4
              by_cases hjq : j < qs.length
              · have hjq1 : (j : Int) < (qs.length : Int) := by omega
                rw [rosL_at hjq] at hok hla
                obtain ⟨⟨hX1, hY, hRs, hQs, hTw⟩, hPw⟩ := hKP.out W3 hb3
                obtain ⟨b2, o2, hQA, hd, hIq, hlq2, hq64⟩ := hQs j hjq
                have hq64' : ∀ h : j < qs.length, ∀ v ∈ qs[j].l, I64 v := fun _ => hq64
                have hkk := hid (fun W (h : Below W3.heap.size W3 W) => hb3.trans (h.mono hsz3))
                have hrow := hid (fun W (h : Below W3.heap.size W3 W) => show Calls Tryd.prog 21 #[.slice A2 us.length c2, .slice qs[j].S.A qs[j].l.length qs[j].S.cap] W (fun e w' => e = .returned (.tuple #[.string ⟨(rowW us qs[j].l).1.toArray⟩, .int .i64 (rowW us qs[j].l).2]) ∧ Below W3.heap.size W3 w') from (row_any us qs[j].l A2 qs[j].S.A c2 qs[j].S.cap W (hKP.out W (hkk.out W h)).1.2.1 (by
                  obtain ⟨b', o', _, _, hI', _⟩ := (hKP.out W (hkk.out W h)).1.2.2.2.1 j hjq
                  exact hI') hq64 h2m.out hlq2 (hKP.out W (hkk.out W h)).1.2.2.2.2).mono fun e w' ⟨g1, g2⟩ => ⟨g1, h.trans (g2.mono h.size)⟩)
                have hcell := hid (fun W (h : Below W3.heap.size W3 W) => show W.cell? ⟨P, 1, none⟩ = some (.slice A2 us.length c2) ∧ W.cell? ⟨b2, o2 + j, none⟩ = some (.slice qs[j].S.A qs[j].l.length qs[j].S.cap) from ⟨(blkP (hKP.out W (hkk.out W h)).2).2.1, by
                  obtain ⟨b', o', hA', hc', _⟩ := (hKP.out W (hkk.out W h)).1.2.2.2.1 j hjq
                  rw [hQA] at hA'
                  injection hA' with hA'
                  injection hA' with h1 h2
                  subst h1 h2
                  exact hc'⟩)
                have hll2 := hid (fun h => hll.out hq64' h)
                have hfl := fun h => rowT_len (ts := us) hq64 h
                generalize qs[j] = y at *
                obtain ⟨l2, ⟨SB, Sd⟩⟩ := y
                dsimp only at hd hrow hok hla hIq hlq2 hq64 hfl hcell
                unfold maxLen at hlq2
                clear hX1 hY hRs hQs hTw hPw hIq hll hq64' hd
                subst hQA
                have hdr : Below W3.heap.size W3 W3.drew := Below.drew (Below.refl _ _)
                obtain ⟨x0, x1⟩ := hcell.out W3 (Below.refl _ _)
                go_upto_region 14 with fail
                go_region_held3 (fun w' => w'.cell? ⟨P, 1, none⟩ = some (.slice A2 us.length c2) ∧ w'.cell? ⟨b2, o2 + j, none⟩ = some (.slice SB l2.length Sd))
                  (first | exact (hcell.out _ (by with_reducible assumption)) | go_keep)
                  (first
                    | (go_at_call 21; refine (hrow.out _ (by with_reducible assumption)).mono ?_; rintro r W4 ⟨rfl, k4⟩))
                have hw4 := hw3.below k4
                have hb4 := hb3.trans (k4.mono hsz3)
                have hsz4 : B ≤ W4.heap.size := by rw [← hB]; exact hb4.size
                clear hrow hcell hdr x0 x1 hkk hw3 hb3
                cases hF2 : fitsT us l2 with
                | false =>
                  rw [rowW_bad hR2 hF2]
                  obtain rfl := hbd.out (by rw [hok, hF]; exact hF2)
                  clear hok
                  go_wp2_with fail
                  go_ret2
                  exact ⟨rfl, hlow.out _ hb4⟩
                | true =>
                  rw [rowW_fit hF2]
                  have hfl3 := hfl hF2
                  have hoks : okAt ts us (rosL rs) (rosL qs) j = true := by rw [hok, hF]; exact hF2
                  have hmo2 := hid (hmo.out hoks)
                  have hl540 := hll2.out hoks
                  have hla2 : Hid (lineAt ts us (rosL rs) (rosL qs) j = X ++ (32 :: rowT us l2) ++ [10]) := hla
                  generalize lineAt ts us (rosL rs) (rosL qs) j = LA at *
                  clear hok hla hll2 hmo hbd hfl
                  generalize rowT us l2 = T2 at *
                  have s5 : (⟨#[32]⟩ : ByteArray) ++ ⟨T2.toArray⟩ = ⟨(32 :: T2).toArray⟩ := str_append [32] T2
                  have hwy := writeString_any B B (U ++ X) ⟨(32 :: T2).toArray⟩ W4 hw4 (by rw [str_ln']; simp only [List.length_append, List.length_cons]; omega) hsz4
                  rw [show (⟨(32 :: T2).toArray⟩ : ByteArray).data.toList = 32 :: T2 from rfl] at hwy
                  replace hwy := hid hwy
                  clear hw4
                  go_wp2_with fail
                  refine hwy.out.mono ?_
                  rintro e W5 ⟨rfl, hw5, hk5⟩
                  have hb5 := hb4.trans hk5.below
                  have hsz5 : B ≤ W5.heap.size := by rw [← hB]; exact hb5.size
                  clear hwy hk5 hb4 s5
                  have hwz := writeString_any B B (U ++ X ++ 32 :: T2) ⟨#[10]⟩ W5 hw5 (by show _ + 1 ≤ _; simp only [List.length_append, List.length_cons]; omega) hsz5
                  rw [show (⟨#[10]⟩ : ByteArray).data.toList = [10] from rfl] at hwz
                  replace hwz := hid hwz
                  go_wp2_with fail
                  refine hwz.out.mono ?_
                  rintro e WZ ⟨rfl, hwq, hkq⟩
                  go_wp2_with fail
                  go_roundw
                  case rel => exact ⟨j + 1, by omega, by go_num, hmo2.out, by rw [hstep.out, List.length_append]; omega, by rw [hstep.out, hla2.out]; simpa using hwq, hb5.trans hkq.below⟩
                  case measure => simp [intOf]; omega
              · have hjq1 : ¬ (j : Int) < (qs.length : Int) := by omega
                rw [rosL_none hjq] at hok hla
                have hoks : okAt ts us (rosL rs) (rosL qs) j = true := by rw [hok, hF]; rfl
                have hmo2 := hid (hmo.out hoks)
                have hl540 := hll.out (fun h => absurd h hjq) hoks
                have hla2 : Hid (lineAt ts us (rosL rs) (rosL qs) j = X ++ [] ++ [10]) := hla
                generalize lineAt ts us (rosL rs) (rosL qs) j = LA at *
                clear hok hla hll hmo hbd
                have hwz := writeString_any B B (U ++ X) ⟨#[10]⟩ W3 hw3 (by show _ + 1 ≤ _; rw [List.length_append]; omega) hsz3
                rw [show (⟨#[10]⟩ : ByteArray).data.toList = [10] from rfl] at hwz
                replace hwz := hid hwz
                go_wp2_with fail
                refine hwz.out.mono ?_
                rintro e WZ ⟨rfl, hwq, hkq⟩
                go_wp2_with fail
                go_roundw
                case rel => exact ⟨j + 1, by omega, by go_num, hmo2.out, by rw [hstep.out, List.length_append]; omega, by rw [hstep.out, hla2.out]; simpa using hwq, hb3.trans hkq.below⟩
                case measure => simp [intOf]; omega
          · have hje : j = n := by omega
            subst hje
            have he := hend.out hall.out
            subst he
            go_wp2_with fail
            refine (Tryd.Builder_String_any_k B B _ wr (Lib.IsBuilderF.of hwr) (by rw [← hB]; exact hbr.size)).mono ?_
            rintro e W1 ⟨rfl, -, hb, -⟩
            go_wp2_with fail
            go_ret2
            exact ⟨rfl, hlow.out _ (hbr.trans hb)⟩
end Go.Proofs.YtmdnmodjdgcmjaaDoor
