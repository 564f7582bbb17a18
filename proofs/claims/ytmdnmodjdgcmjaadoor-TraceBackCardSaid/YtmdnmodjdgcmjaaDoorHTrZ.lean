/-
  The walk of Read.
-/
import Derived.Test.YtmdnmodjdgcmjaaDoorHTrN
namespace Go.Proofs.YtmdnmodjdgcmjaaDoor
open Go.RowKit

set_option maxRecDepth 100000 in
set_option maxHeartbeats 2000000 in
theorem tread_all (ts us : List Int) (A1 A2 A3 A4 : Option Addr) (c1 c2 n3 c3 n4 c4 : Nat) (r : Int) (s : ByteArray) (w : World) (hx : IntsAt w A1 ts) (hy : IntsAt w A2 us) (h1 : ts.length ≤ maxLen) (h2 : us.length ≤ maxLen)
    (hs : s.size ≤ 90000) (hT : Tabs w) (hM : MxC w) :
    Calls Tryd.prog 31 #[.agg #[.slice A1 ts.length c1, .slice A2 us.length c2, .int .i64 r, .slice A3 n3 c3, .slice A4 n4 c4], .string s] w (RdTPost (readT ts us s.data.toList) w) := by
  have hrt1 := hid (fun W (h : Below w.heap.size w W) => right_t ts A1 c1 W (hx.keep h) h1)
  have hrt2 := hid (fun W (h : Below w.heap.size w W) => right_t us A2 c2 W (hy.keep h) h2)
  have hln := hid (fun hR1 hR2 (k : Nat) (hk : k ≤ 100000) (t : List UInt8) (ht : t.length ≤ 100000) W (h : Below w.heap.size w W) => show Calls Tryd.prog 57 #[.agg #[.slice A1 ts.length c1, .slice A2 us.length c2, .int .i64 r, .slice A3 n3 c3, .slice A4 n4 c4], .int .i64 (k : Int), .string ⟨t.toArray⟩] W (LPost (lineP ts us k t) W) from
    line_tr ts us A1 A2 A3 A4 c1 c2 n3 c3 n4 c4 k r ⟨t.toArray⟩ W (hx.keep h) (hy.keep h) hR1 hR2 hk (by rw [str_ln]; exact ht) (hT.below h) (hM.below h))
  have hct := hid (fun (z : List UInt8) (hz : z.length ≤ 100000) W (h : Below w.heap.size w W) => cut_l z [10] hz W (hM.below h))
  have hsl := size_L s
  obtain ⟨i0, zz, hi0, hz0, hs0, hb0, hcc0⟩ := info_ints
  have f_0 := (Fr.start0 w).alloc (.cells #[.slice A1 ts.length c1, .slice A2 us.length c2, .int .i64 r, .slice A3 n3 c3, .slice A4 n4 c4] 55)
  clear hx hy hT hM
  have hss := ba_list s
  generalize s.data.toList = s0 at *
  subst hss
  rw [show (⟨s0.toArray⟩ : ByteArray).size = s0.length from str_ln s0] at hs
  clear hsl
  generalize hp : readT ts us s0 = p
  replace hp := hid hp
  go_enter Tryd.func31, Tryd.ntmps31
  go_upto_region 1 with fail
  generalize w.alloc (.cells #[.slice A1 ts.length c1, .slice A2 us.length c2, .int .i64 r, .slice A3 n3 c3, .slice A4 n4 c4] 55) = W1 at *
  generalize w.heap.size = P at f_0 ⊢
  obtain ⟨p0, p1, p2, p3, p4⟩ := blkP f_0.blk
  go_wp2_with fail
  refine (hrt1.out W1 f_0.low).mono ?_
  rintro e w2 ⟨rfl, hb⟩
  have f_1 := f_0.below hb
  clear hb f_0 p0 p1 p2 p3 p4 hrt1
  cases hR1 : rightT ts with
  | false =>
    obtain rfl : ([], [], 0, 2) = p := by rw [← hp.out]; unfold readT; rw [if_pos (by rw [hR1]; rfl)]
    go_wp2_with fail
    refine bodyPost_ret (v := .tuple #[.slice none 0 0, .slice none 0 0, .int .i64 ((0 : Nat) : Int), .int .i64 2]) (by simp [results, Tryd.results31, go_sem]) rfl (rdT_nil f_1 0 2)
  | true =>
    obtain ⟨p0, p1, p2, p3, p4⟩ := blkP f_1.blk
    go_wp2_with fail
    refine (hrt2.out w2 f_1.low).mono ?_
    rintro e w3 ⟨rfl, hb⟩
    have f_2 := f_1.below hb
    clear hb f_1 p0 p1 p2 p3 p4 hrt2
    cases hR2 : rightT us with
    | false =>
      obtain rfl : ([], [], 0, 2) = p := by rw [← hp.out]; unfold readT; rw [if_pos (by rw [hR1, hR2]; rfl)]
      go_wp2_with fail
      refine bodyPost_ret (v := .tuple #[.slice none 0 0, .slice none 0 0, .int .i64 ((0 : Nat) : Int), .int .i64 2]) (by simp [results, Tryd.results31, go_sem]) rfl (rdT_nil f_2 0 2)
    | true =>
      have hst : rdGo ts us s0 [] (rosL []) (rosL []) = p := by rw [← hp.out]; unfold readT; rw [if_neg (by rw [hR1, hR2]; decide)]; rfl
      have hln2 := hid (hln.out hR1 hR2)
      have f_3 := f_2.noRos.noRos
      clear f_2 hp hln hR1 hR2
      replace hst := hid hst
      go_wp2_with fail
      go_loopw [1, 4, 5] (fun sv iv ov wr => ∃ (t : List UInt8) (rs qs : List Ro) (A : Option Addr) (n c : Nat) (B : Option Addr) (m d : Nat) (D D' : Nat → Prop), sv = .string ⟨t.toArray⟩ ∧ iv = .slice A n c ∧ ov = .slice B m d ∧ n + t.length ≤ s0.length ∧ m ≤ n ∧ Hid (rs.length = n ∧ qs.length = m ∧ rdGo ts us t [] (rosL rs) (rosL qs) = p) ∧
        Fr none (fun _ => True) w wr [rowK w 38 1 (.slice A n c) n (rs.flatMap rowC), rosK D rs, rowK w 38 1 (.slice B m d) m (qs.flatMap rowC), rosK D' qs, blkK P (.cells #[.slice A1 ts.length c1, .slice A2 us.length c2, .int .i64 r, .slice A3 n3 c3, .slice A4 n4 c4] 55 (0, 0))]) (fun sv _ _ _ => strLen sv)
      case atStart => exact ⟨s0, [], [], none, 0, 0, none, 0, 0, fun _ => False, fun _ => False, rfl, rfl, rfl, by omega, Nat.le_refl _, ⟨rfl, rfl, hst.out⟩, f_3⟩
      case round =>
        clear f_3 hst
        obtain ⟨t, rs, qs, A, n, c, B, m, d, D, D', rfl, rfl, rfl, hnt, hmn, hI, f⟩ := hrel
        obtain ⟨hrn, hqm, hgo⟩ := hI.out
        by_cases ht : t = []
        · subst ht
          rw [rdGo, if_pos rfl] at hgo
          subst hgo
          clear hI
          go_wp2_with fail
          refine bodyPost_ret (v := .tuple #[.slice A n c, .slice B m d, .int .i64 ((0 : Nat) : Int), .int .i64 0]) (by simp [results, Tryd.results31, go_sem]) rfl ?_
          exact ⟨rs, qs, A, n, c, B, m, d, D, D', rfl, hrn, hqm, rfl, rfl, f.sub (List.Sublist.cons_cons _ (List.Sublist.cons_cons _ (List.Sublist.cons_cons _ (List.Sublist.cons_cons _ (List.nil_sublist _)))))⟩
        · have hne : t.isEmpty = false := by cases t with | nil => exact absurd rfl ht | cons _ _ => rfl
          have hc1 := hct.out t (by omega) wr f.low
          rw [show (⟨([10] : List UInt8).toArray⟩ : ByteArray) = ⟨#[10]⟩ from rfl] at hc1
          have hcases := cut_one t 10
          have hrl : (rosL rs).length = n := by rw [rosL_len]; exact hrn
          have hql : (rosL qs).length = m := by rw [rosL_len]; exact hqm
          have hcl := cut_len t [10]
          rw [show (Lib.cut t [10]) = ((Lib.cut t [10]).1, (Lib.cut t [10]).2.1, (Lib.cut t [10]).2.2) from rfl] at hcases
          generalize hqa : (Lib.cut t [10]).1 = qa at *
          generalize hqb : (Lib.cut t [10]).2.1 = qb at *
          generalize hqi : (Lib.cut t [10]).2.2 = qi at *
          have hl1 := hln2.out n (by omega) qa (by omega)
          have htne := hid ht
          clear hI hqa hqb hqi ht
          replace hc1 := hid hc1
          replace hl1 := hid hl1
          replace hcases := hid hcases
          replace hgo := hid hgo
          go_wp2_with fail
          refine hc1.out.mono ?_
          rintro e W2 ⟨rfl, k2, rfl⟩
          have f_1 := f.drewN k2
          clear f hc1
          generalize wr.drewN k2 = W3 at *
          obtain ⟨p0, p1, p2, p3, p4⟩ := blkP f_1.rot4.blk
          go_wp2_with fail
          refine (hl1.out W3 f_1.low).mono ?_
          rintro e W4 ⟨la, lb, Aa, na, ca, Ab, nb, cb, ok, rfl, hla, hlb, h64a, h64b, hsome, hnone, g⟩
          have f_2 : Fr none (fun _ => True) w W4 [rowK W3 3 1 (.slice Aa na ca) na (la.flatMap intC), rowK W3 3 1 (.slice Ab nb cb) nb (lb.flatMap intC), rowK w 38 1 (.slice A n c) n (rs.flatMap rowC), rosK D rs, rowK w 38 1 (.slice B m d) m (qs.flatMap rowC), rosK D' qs, blkK P (.cells #[.slice A1 ts.length c1, .slice A2 us.length c2, .int .i64 r, .slice A3 n3 c3, .slice A4 n4 c4] 55 (0, 0))] := f_1.joins g
          have f_3 := (f_2.toRo hla h64a).rot1.toRo hlb h64b
          clear f_1 f_2 g p0 p1 p2 p3 p4 hl1
          rcases hcases.out with ⟨hc, hno⟩ | ⟨a, l, hta, hno, hc⟩
          · injection hc with hq1 hc
            injection hc with hq2 hq3
            subst hq1 hq2 hq3
            have hgo2 := hgo.out
            rw [rdGo_none htne.out hno, hrl] at hgo2
            subst hgo2
            clear hgo hcases hsome hnone
            cases ok
            all_goals
              go_wp2_with fail
              refine bodyPost_ret (v := .tuple #[.slice none 0 0, .slice none 0 0, .int .i64 ((n + 1 : Nat) : Int), .int .i64 11]) (by simp [results, Tryd.results31, go_sem]) rfl (rdT_nil f_3 (n + 1) 11)
          · injection hc with hq1 hc
            injection hc with hq2 hq3
            subst hq1 hq2 hq3
            have hgo2 := hgo.out
            rw [hta, rdGo_line hno, hrl] at hgo2
            have hlt2 : t.length = qa.length + qb.length + 1 := by rw [hta]; simp; omega
            replace hta := hid hta
            clear hgo hcases
            generalize lineP ts us n qa = o at *
            cases o with
            | none =>
              obtain rfl := hnone rfl
              obtain rfl : ([], [], n + 1, 11) = p := hgo2
              clear hsome hnone
              go_wp2_with fail
              refine bodyPost_ret (v := .tuple #[.slice none 0 0, .slice none 0 0, .int .i64 ((n + 1 : Nat) : Int), .int .i64 11]) (by simp [results, Tryd.results31, go_sem]) rfl (rdT_nil f_3 (n + 1) 11)
            | some xy =>
              obtain ⟨x, y⟩ := xy
              obtain ⟨rfl, rfl, rfl⟩ := hsome x y rfl
              clear hsome hnone
              dsimp only at hgo2
              rw [hql] at hgo2
              by_cases hnb : nb = 0
              · have hlb0 : lb = [] := List.length_eq_zero_iff.1 (by omega)
                rw [if_neg (fun h => h.1 hlb0), if_pos hlb0] at hgo2
                have hi1 : ¬ (0 : Int) < (nb : Int) := by omega
                replace hnb := hid hnb
                replace hgo2 := hid hgo2
                replace hlb0 := hid hlb0
                have g_1 := f_3.rot2.alloc (.cells #[.slice Aa na ca] 38)
                go_wp2_with (at_builtin; refine Fr.wpApp g_1 rfl _ _ _ rfl Tryd.underlying56 hi0 hz0 hs0 hb0 hcc0 (by decide) rfl rfl rfl sl_one (by decide) (by unfold maxLen; omega) (by omega) ?_; intro G1 cap1 w5 g_2)
                have g_3 := ((g_2.sub (ks' := [_, _, _, _, _, _, _]) (List.Sublist.cons_cons _ (List.sublist_cons_self _ _))).rot2.rot3.rosPush).rot1
                have g_4 := g_3.sub (ks' := [_, _, _, _, _]) (List.Sublist.cons_cons _ (List.Sublist.cons_cons _ (List.sublist_cons_self _ _)))
                go_wp2_with fail
                go_roundw
                case rel =>
                  refine ⟨qb, rs ++ [⟨la, ⟨Aa, ca⟩⟩], qs, some ⟨G1, 0, none⟩, n + 1, cap1, B, m, d, fun u => D u ∨ (Value.slice Aa na ca).ownBlock = some u, D', rfl, rfl, rfl, by omega, by omega, ⟨by simp [hrn], hqm, ?_⟩, ?_⟩
                  · rw [show rosL (rs ++ [⟨la, ⟨Aa, ca⟩⟩]) = rosL rs ++ [la] by simp [rosL]]
                    exact hgo2.out
                  · rw [List.flatMap_append, show ([⟨la, ⟨Aa, ca⟩⟩] : List Ro).flatMap rowC = [.slice Aa la.length ca] by simp [rowC], hla]
                    exact g_4
                case measure => simp [strLen, ByteArray.size]; omega
              · have hlb0 : lb ≠ [] := fun h => hnb (by rw [← hlb, h]; rfl)
                have hi1 : (0 : Int) < (nb : Int) := by omega
                replace hnb := hid hnb
                by_cases hmn2 : m < n
                · rw [if_pos ⟨hlb0, hmn2⟩] at hgo2
                  subst hgo2
                  have hi2 : (m : Int) < (n : Int) := by omega
                  replace hlb0 := hid hlb0
                  go_wp2_with fail
                  refine bodyPost_ret (v := .tuple #[.slice none 0 0, .slice none 0 0, .int .i64 ((n + 1 : Nat) : Int), .int .i64 11]) (by simp [results, Tryd.results31, go_sem]) rfl (rdT_nil f_3 (n + 1) 11)
                · rw [if_neg (fun h => hmn2 h.2), if_neg hlb0] at hgo2
                  have hi2 : ¬ (m : Int) < (n : Int) := by omega
                  replace hgo2 := hid hgo2
                  replace hlb0 := hid hlb0
                  go_upto_region 8 with fail
                  have g_1 := f_3.rot2.alloc (.cells #[.slice Aa na ca] 38)
                  go_upto_region 10 with (at_builtin; refine Fr.wpApp g_1 rfl _ _ _ rfl Tryd.underlying56 hi0 hz0 hs0 hb0 hcc0 (by decide) rfl rfl rfl sl_one (by decide) (by unfold maxLen; omega) (by omega) ?_; intro G1 cap1 w5 g_2)
                  have g_3 := ((g_2.sub (ks' := [_, _, _, _, _, _, _]) (List.Sublist.cons_cons _ (List.sublist_cons_self _ _))).rot2.rot3.rosPush).rot1
                  have g_5 := g_3.rot3.alloc (.cells #[.slice Ab nb cb] 38)
                  go_wp2_with (at_builtin; refine Fr.wpApp g_5 rfl _ _ _ rfl Tryd.underlying56 hi0 hz0 hs0 hb0 hcc0 (by decide) rfl rfl rfl sl_one (by decide) (by unfold maxLen; omega) (by omega) ?_; intro G2 cap2 w6 g_6)
                  have g_7 := ((g_6.sub (ks' := [_, _, _, _, _, _]) (List.Sublist.cons_cons _ (List.sublist_cons_self _ _))).rot3.rot4.rosPush).rot1.rot3.rot3
                  go_wp2_with fail
                  go_roundw
                  case rel =>
                    refine ⟨qb, rs ++ [⟨la, ⟨Aa, ca⟩⟩], qs ++ [⟨lb, ⟨Ab, cb⟩⟩], some ⟨G1, 0, none⟩, n + 1, cap1, some ⟨G2, 0, none⟩, m + 1, cap2, fun u => D u ∨ (Value.slice Aa na ca).ownBlock = some u, fun u => D' u ∨ (Value.slice Ab nb cb).ownBlock = some u, rfl, rfl, rfl, by omega, by omega, ⟨by simp [hrn], by simp [hqm], ?_⟩, ?_⟩
                    · rw [show rosL (rs ++ [⟨la, ⟨Aa, ca⟩⟩]) = rosL rs ++ [la] by simp [rosL], show rosL (qs ++ [⟨lb, ⟨Ab, cb⟩⟩]) = rosL qs ++ [lb] by simp [rosL]]
                      exact hgo2.out
                    · rw [List.flatMap_append, show ([⟨la, ⟨Aa, ca⟩⟩] : List Ro).flatMap rowC = [.slice Aa la.length ca] by simp [rowC], hla, List.flatMap_append, show ([⟨lb, ⟨Ab, cb⟩⟩] : List Ro).flatMap rowC = [.slice Ab lb.length cb] by simp [rowC], hlb]
                      exact g_7
                  case measure => simp [strLen, ByteArray.size]; omega
end Go.Proofs.YtmdnmodjdgcmjaaDoor
