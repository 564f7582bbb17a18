/-
  The walk of the reference's Read.
-/
import Derived.Test.YtmdnmodjdgcmjaaDoorHTrY
namespace Go.Proofs.YtmdnmodjdgcmjaaDoor
open Go.RowKit

/-- what line leaves, behind a world of the caller's -/
def LPK (o : Option (List Int × List Int)) (w : World) (r : Ending) (w' : World) : Prop :=
  (∃ (la lb : List Int) (A : Option Addr) (n c : Nat) (B : Option Addr) (m d : Nat) (ok : Bool) (Wb : World), r = .returned (.tuple #[.slice A n c, .slice B m d, .bool ok]) ∧ la.length = n ∧ lb.length = m ∧ (∀ v ∈ la, I64 v) ∧ (∀ v ∈ lb, I64 v) ∧
    (∀ a b, o = some (a, b) → ok = true ∧ la = a ∧ lb = b) ∧ (o = none → ok = false) ∧ Fr none (fun _ => True) w w' [rowK Wb 3 1 (.slice A n c) n (la.flatMap intC), rowK Wb 3 1 (.slice B m d) m (lb.flatMap intC)]) ∧ Below w.heap.size w w'
theorem lpost_k {o : Option (List Int × List Int)} {w W w' : World} {r : Ending} (h : LPost o W r w') (hb : Below w.heap.size w W) : LPK o w r w' := by
  obtain ⟨la, lb, A, n, c, B, m, d, ok, rfl, h1, h2, h3, h4, h5, h6, f⟩ := h
  exact ⟨⟨la, lb, A, n, c, B, m, d, ok, W, rfl, h1, h2, h3, h4, h5, h6, ((Fr.start0 w).below hb).joins f⟩, hb.trans (f.low.mono hb.size)⟩
theorem piece_nil {l : List UInt8} {a : Nat} : Lib.pieceU l a a = [] := by unfold Lib.pieceU; simp

set_option maxRecDepth 100000 in
set_option maxHeartbeats 2000000 in
theorem rread_tr (ts us : List Int) (A1 A2 A3 A4 : Option Addr) (c1 c2 n3 c3 n4 c4 : Nat) (r : Int) (s : ByteArray) (w : World) (hx : IntsAt w A1 ts) (hy : IntsAt w A2 us) (hR1 : rightT ts = true) (hR2 : rightT us = true)
    (hs : s.size ≤ 90000) :
    Calls Tryd.prog 32 #[.agg #[.slice A1 ts.length c1, .slice A2 us.length c2, .int .i64 r, .slice A3 n3 c3, .slice A4 n4 c4], .string s] w (RdTPost (readT ts us s.data.toList) w) := by
  have hln := hid (fun (k : Nat) (hk : k ≤ 100000) (t : ByteArray) (ht : t.size ≤ 100000) W0 (h0 : Below w.heap.size w W0) W (h : Below W0.heap.size W0 W) => show Calls Tryd.prog 58 #[.agg #[.slice A1 ts.length c1, .slice A2 us.length c2, .int .i64 r, .slice A3 n3 c3, .slice A4 n4 c4], .int .i64 (k : Int), .string t] W (LPK (lineP ts us k t.data.toList) W0) from
    (rline_tr ts us A1 A2 A3 A4 c1 c2 n3 c3 n4 c4 k r t W (hx.keep (h0.trans (h.mono h0.size))) (hy.keep (h0.trans (h.mono h0.size))) hR1 hR2 hk ht).mono fun _ _ g => lpost_k g h)
  have hsl := size_L s
  have hs1 : (s.size : Int) ≤ 9223372036854775806 := by omega
  obtain ⟨i0, zz, hi0, hz0, hs0, hb0, hcc0⟩ := info_ints
  have f_0 := ((Fr.start0 w).alloc (.cells #[.slice A1 ts.length c1, .slice A2 us.length c2, .int .i64 r, .slice A3 n3 c3, .slice A4 n4 c4] 55)).noRos.noRos
  have hst : rdGo ts us (s.data.toList.drop 0) (Lib.pieceU s.data.toList 0 0) (rosL []) (rosL []) = readT ts us s.data.toList := by
    unfold readT
    rw [if_neg (by rw [hR1, hR2]; decide), piece_nil, List.drop_zero]; rfl
  clear hx hy hR1 hR2
  generalize readT ts us s.data.toList = p at *
  replace hst := hid hst
  obtain ⟨M, hM⟩ : ∃ M, M = s.size := ⟨_, rfl⟩
  go_enter Tryd.func32, Tryd.ntmps32
  go_upto_region 1 with fail
  generalize w.alloc (.cells #[.slice A1 ts.length c1, .slice A2 us.length c2, .int .i64 r, .slice A3 n3 c3, .slice A4 n4 c4] 55) = W1 at *
  generalize w.heap.size = P at f_0 ⊢
  go_wp2_with fail
  go_loopw [8, 9, 10, 11] (fun iv ov fv jv wr => ∃ (rs qs : List Ro) (A : Option Addr) (n c : Nat) (B : Option Addr) (m d : Nat) (D D' : Nat → Prop) (j fm : Nat), iv = .slice A n c ∧ ov = .slice B m d ∧ fv = .int .i64 fm ∧ jv = .int .i64 j ∧ j ≤ M ∧ fm ≤ j ∧ n ≤ fm ∧ m ≤ n ∧ Hid (rs.length = n ∧ qs.length = m ∧ rdGo ts us (s.data.toList.drop j) (Lib.pieceU s.data.toList fm j) (rosL rs) (rosL qs) = p) ∧
    Fr none (fun _ => True) w wr [rowK w 38 1 (.slice A n c) n (rs.flatMap rowC), rosK D rs, rowK w 38 1 (.slice B m d) m (qs.flatMap rowC), rosK D' qs, blkK P (.cells #[.slice A1 ts.length c1, .slice A2 us.length c2, .int .i64 r, .slice A3 n3 c3, .slice A4 n4 c4] 55 (0, 0))]) (fun _ _ _ jv _ => M - (intOf jv).toNat)
  case atStart => exact ⟨[], [], none, 0, 0, none, 0, 0, fun _ => False, fun _ => False, 0, 0, rfl, rfl, rfl, rfl, Nat.zero_le _, Nat.zero_le _, Nat.zero_le _, Nat.zero_le _, ⟨rfl, rfl, hst.out⟩, f_0⟩
  case round =>
    clear f_0 hst
    obtain ⟨rs, qs, A, n, c, B, m, d, D, D', j, fm, rfl, rfl, rfl, rfl, hj, hfj, hnf, hmn, hI, f⟩ := hrel
    obtain ⟨hrn, hqm, hgo⟩ := hI.out
    have hj0 : (0 : Int) ≤ (j : Int) := by omega
    have hfm0 : (0 : Int) ≤ (fm : Int) := by omega
    have hfm1 : (fm : Int) ≤ (j : Int) := by omega
    by_cases hlt : j < M
    case neg =>
      have hje : j = M := by omega
      have hj1 : ¬ (j : Int) < (s.size : Int) := by omega
      rw [List.drop_eq_nil_of_le (by omega), rdGo] at hgo
      replace hje := hid hje
      clear hI
      by_cases hfe : fm = M
      · have hf1 : ¬ (fm : Int) < (s.size : Int) := by omega
        rw [show fm = j by have := hje.out; omega, piece_nil, if_pos rfl] at hgo
        subst hgo
        replace hfe := hid hfe
        go_wp2_with fail
        refine bodyPost_ret (v := .tuple #[.slice A n c, .slice B m d, .int .i64 ((0 : Nat) : Int), .int .i64 0]) (by simp [results, Tryd.results32, go_sem]) rfl ?_
        exact ⟨rs, qs, A, n, c, B, m, d, D, D', rfl, hrn, hqm, rfl, rfl, f.sub (List.Sublist.cons_cons _ (List.Sublist.cons_cons _ (List.Sublist.cons_cons _ (List.Sublist.cons_cons _ (List.nil_sublist _)))))⟩
      · have hf1 : (fm : Int) < (s.size : Int) := by omega
        rw [if_neg (Lib.pieceU_ne _ _ _ (by have := hje.out; omega) (by rw [size_L]; omega)), rosL_len, hrn] at hgo
        subst hgo
        go_wp2_with fail
        refine bodyPost_ret (v := .tuple #[.slice none 0 0, .slice none 0 0, .int .i64 ((n + 1 : Nat) : Int), .int .i64 11]) (by simp [results, Tryd.results32, go_sem]) rfl (rdT_nil f (n + 1) 11)
    case pos =>
    have hlts : j < s.size := by omega
    have hj1 : (j : Int) < (s.size : Int) := by omega
    have hdg := drop_get s j hlts
    rw [get_bang hlts] at hdg
    have hgw := Lib.pieceU_grow s.data.toList fm j 1 hfj
    rw [hdg, List.take_succ_cons, List.take_zero] at hgw
    rw [hdg, rdGo] at hgo
    by_cases h10 : s[j] = 10
    case neg =>
      have h10n : ¬ s[j].toNat = 10 := fun h => h10 (UInt8.toNat_inj.1 h)
      have hbb : ((s[j].toNat : Int) == 10) = false := int_ne (by omega)
      rw [if_neg h10, hgw] at hgo
      replace hgo := hid hgo
      clear hI hdg hgw h10 h10n
      go_wp2_with fail
      go_roundw
      case rel => exact ⟨rs, qs, A, n, c, B, m, d, D, D', j + 1, fm, rfl, rfl, rfl, by go_num, by omega, by omega, hnf, hmn, ⟨hrn, hqm, hgo.out⟩, f⟩
      case measure => simp [intOf]; omega
    case pos =>
    have hbb : (s[j].toNat : Int) = 10 := by rw [h10]; rfl
    have hpe : (s.extract fm j).data.toList = Lib.pieceU s.data.toList fm j := piece_extract s fm j
    have hpz : (s.extract fm j).size ≤ 100000 := by
      have := size_L (s.extract fm j)
      rw [hpe] at this
      unfold Lib.pieceU at this
      rw [List.length_take, List.length_drop] at this
      omega
    rw [if_pos h10, ← hpe, rosL_len, hrn, rosL_len, hqm] at hgo
    have hl1 := hid (hln.out n (by omega) (s.extract fm j) hpz wr f.low)
    have hj2 : (j : Int) ≤ (s.size : Int) := by omega
    generalize lineP ts us n (s.extract fm j).data.toList = o at *
    replace hgo := hid hgo
    replace h10 := hid h10
    clear hI hdg hgw hpe hpz
    have hP4 : wr.heap[P]? = _ := f.rot4.blk
    have hcell := hid (fun W (h : Below wr.heap.size wr W) => blkP (f.below h).rot4.blk)
    have hdr : Below wr.heap.size wr wr.drew := Below.drew (Below.refl _ _)
    obtain ⟨x0, x1, x2, x3, x4⟩ := hcell.out wr (Below.refl _ _)
    clear hP4
    go_upto_region 8 with fail
    go_region_held3 (fun w' => w'.cell? ⟨P, 0, none⟩ = some (.slice A1 ts.length c1) ∧ w'.cell? ⟨P, 1, none⟩ = some (.slice A2 us.length c2) ∧ w'.cell? ⟨P, 2, none⟩ = some (.int .i64 r) ∧ w'.cell? ⟨P, 3, none⟩ = some (.slice A3 n3 c3) ∧ w'.cell? ⟨P, 4, none⟩ = some (.slice A4 n4 c4))
      (first | exact (hcell.out _ (by with_reducible assumption)) | go_keep)
      (first
        | (go_at_call 58; refine (hl1.out _ (by with_reducible assumption)).mono ?_; rintro r W4 ⟨⟨la, lb, Aa, na, ca, Ab, nb, cb, ok, Wb, rfl, hla, hlb, h64a, h64b, hsome, hnone, g⟩, k4⟩))
    have f_2 : Fr none (fun _ => True) w W4 [rowK Wb 3 1 (.slice Aa na ca) na (la.flatMap intC), rowK Wb 3 1 (.slice Ab nb cb) nb (lb.flatMap intC), rowK w 38 1 (.slice A n c) n (rs.flatMap rowC), rosK D rs, rowK w 38 1 (.slice B m d) m (qs.flatMap rowC), rosK D' qs, blkK P (.cells #[.slice A1 ts.length c1, .slice A2 us.length c2, .int .i64 r, .slice A3 n3 c3, .slice A4 n4 c4] 55 (0, 0))] := f.joins g
    have f_3 := (f_2.toRo hla h64a).rot1.toRo hlb h64b
    clear f f_2 g x0 x1 x2 x3 x4 hl1 hcell hdr k4
    have hgo2 := hgo.out
    clear hgo
    cases o with
    | none =>
      obtain rfl := hnone rfl
      obtain rfl : ([], [], n + 1, 11) = p := hgo2
      clear hsome hnone
      go_wp2_with fail
      refine bodyPost_ret (v := .tuple #[.slice none 0 0, .slice none 0 0, .int .i64 ((n + 1 : Nat) : Int), .int .i64 11]) (by simp [results, Tryd.results32, go_sem]) rfl (rdT_nil f_3 (n + 1) 11)
    | some xy =>
      obtain ⟨x, y⟩ := xy
      obtain ⟨rfl, rfl, rfl⟩ := hsome x y rfl
      clear hsome hnone
      dsimp only at hgo2
      by_cases hnb : nb = 0
      · have hlb0 : lb = [] := List.length_eq_zero_iff.1 (by omega)
        rw [if_neg (fun h => h.1 hlb0), if_pos hlb0] at hgo2
        have hi1 : ¬ (0 : Int) < (nb : Int) := by omega
        replace hnb := hid hnb
        replace hgo2 := hid hgo2
        replace hlb0 := hid hlb0
        have g_1 := f_3.rot2.alloc (.cells #[.slice Aa na ca] 38)
        go_wp2_with (at_builtin; refine Fr.wpApp g_1 rfl _ _ _ rfl Tryd.underlying56 hi0 hz0 hs0 hb0 hcc0 (by decide) rfl rfl rfl sl_one (by decide) (by unfold maxLen; omega) (by omega) ?_; intro G1 cap1 w5 g_2)
        have g_3 := ((g_2.sub (ks' := [_, _, _, _, _, _, _]) (List.Sublist.cons_cons _ (List.sublist_cons_self _ _))).rot2.rot3.rosPush).rot1
        have g_4 := g_3.sub (ks' := [_, _, _, _, _]) (List.Sublist.cons_cons _ (List.Sublist.cons_cons _ (List.sublist_cons_self _ _)))
        go_wp2_with fail
        go_roundw
        case rel =>
          refine ⟨rs ++ [⟨la, ⟨Aa, ca⟩⟩], qs, some ⟨G1, 0, none⟩, n + 1, cap1, B, m, d, fun u => D u ∨ (Value.slice Aa na ca).ownBlock = some u, D', j + 1, j + 1, rfl, rfl, by go_num, by go_num, by omega, Nat.le_refl _, by omega, by omega, ⟨by simp [hrn], hqm, ?_⟩, ?_⟩
          · rw [piece_nil, show rosL (rs ++ [⟨la, ⟨Aa, ca⟩⟩]) = rosL rs ++ [la] by simp [rosL]]
            exact hgo2.out
          · rw [List.flatMap_append, show ([⟨la, ⟨Aa, ca⟩⟩] : List Ro).flatMap rowC = [.slice Aa la.length ca] by simp [rowC], hla]
            exact g_4
        case measure => simp [intOf]; omega
      · have hlb0 : lb ≠ [] := fun h => hnb (by rw [← hlb, h]; rfl)
        have hi1 : (0 : Int) < (nb : Int) := by omega
        replace hnb := hid hnb
        by_cases hmn2 : m < n
        · rw [if_pos ⟨hlb0, hmn2⟩] at hgo2
          subst hgo2
          have hi2 : (m : Int) < (n : Int) := by omega
          replace hlb0 := hid hlb0
          go_wp2_with fail
          refine bodyPost_ret (v := .tuple #[.slice none 0 0, .slice none 0 0, .int .i64 ((n + 1 : Nat) : Int), .int .i64 11]) (by simp [results, Tryd.results32, go_sem]) rfl (rdT_nil f_3 (n + 1) 11)
        · rw [if_neg (fun h => hmn2 h.2), if_neg hlb0] at hgo2
          have hi2 : ¬ (m : Int) < (n : Int) := by omega
          replace hgo2 := hid hgo2
          replace hlb0 := hid hlb0
          go_upto_region 11 with fail
          have g_1 := f_3.rot2.alloc (.cells #[.slice Aa na ca] 38)
          go_upto_region 13 with (at_builtin; refine Fr.wpApp g_1 rfl _ _ _ rfl Tryd.underlying56 hi0 hz0 hs0 hb0 hcc0 (by decide) rfl rfl rfl sl_one (by decide) (by unfold maxLen; omega) (by omega) ?_; intro G1 cap1 w5 g_2)
          have g_3 := ((g_2.sub (ks' := [_, _, _, _, _, _, _]) (List.Sublist.cons_cons _ (List.sublist_cons_self _ _))).rot2.rot3.rosPush).rot1
          have g_5 := g_3.rot3.alloc (.cells #[.slice Ab nb cb] 38)
          go_wp2_with (at_builtin; refine Fr.wpApp g_5 rfl _ _ _ rfl Tryd.underlying56 hi0 hz0 hs0 hb0 hcc0 (by decide) rfl rfl rfl sl_one (by decide) (by unfold maxLen; omega) (by omega) ?_; intro G2 cap2 w6 g_6)
          have g_7 := ((g_6.sub (ks' := [_, _, _, _, _, _]) (List.Sublist.cons_cons _ (List.sublist_cons_self _ _))).rot3.rot4.rosPush).rot1.rot3.rot3
          go_wp2_with fail
          go_roundw
          case rel =>
            refine ⟨rs ++ [⟨la, ⟨Aa, ca⟩⟩], qs ++ [⟨lb, ⟨Ab, cb⟩⟩], some ⟨G1, 0, none⟩, n + 1, cap1, some ⟨G2, 0, none⟩, m + 1, cap2, fun u => D u ∨ (Value.slice Aa na ca).ownBlock = some u, fun u => D' u ∨ (Value.slice Ab nb cb).ownBlock = some u, j + 1, j + 1, rfl, rfl, by go_num, by go_num, by omega, Nat.le_refl _, by omega, by omega, ⟨by simp [hrn], by simp [hqm], ?_⟩, ?_⟩
            · rw [piece_nil, show rosL (rs ++ [⟨la, ⟨Aa, ca⟩⟩]) = rosL rs ++ [la] by simp [rosL], show rosL (qs ++ [⟨lb, ⟨Ab, cb⟩⟩]) = rosL qs ++ [lb] by simp [rosL]]
              exact hgo2.out
            · rw [List.flatMap_append, show ([⟨la, ⟨Aa, ca⟩⟩] : List Ro).flatMap rowC = [.slice Aa la.length ca] by simp [rowC], hla, List.flatMap_append, show ([⟨lb, ⟨Ab, cb⟩⟩] : List Ro).flatMap rowC = [.slice Ab lb.length cb] by simp [rowC], hlb]
              exact g_7
          case measure => simp [intOf]; omega
end Go.Proofs.YtmdnmodjdgcmjaaDoor
