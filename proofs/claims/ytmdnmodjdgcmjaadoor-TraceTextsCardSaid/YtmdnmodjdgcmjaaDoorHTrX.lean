/-
  The walk of the reference's ReadRow.
-/
import Derived.Test.YtmdnmodjdgcmjaaDoorHTrV
import Derived.Test.YtmdnmodjdgcmjaaDoorHScX
namespace Go.Proofs.YtmdnmodjdgcmjaaDoor
open Go.RowKit

/-- the words that are left at byte i of a text, the word so far being cur -/
def leftW (s : ByteArray) (i : Nat) (cur : List UInt8) : List (List UInt8) := if i ≤ s.size then splitGo (s.data.toList.drop i) cur else []
section
variable {s : ByteArray} {i : Nat} {cur : List UInt8}
theorem leftW_on (h : i < s.size) (hb : ¬ s[i].toNat = 32) : leftW s i cur = leftW s (i + 1) (cur ++ [s[i]]) := by
  unfold leftW
  rw [if_pos (by omega), if_pos (by omega), drop_get s i h, get_bang h, splitGo, if_neg (fun e => hb (by rw [e]; rfl))]
theorem leftW_nl (h : i < s.size) (hb : s[i].toNat = 32) : leftW s i cur = cur :: leftW s (i + 1) [] := by
  unfold leftW
  rw [if_pos (by omega), if_pos (by omega), drop_get s i h, get_bang h, splitGo, if_pos (UInt8.toNat_inj.1 hb)]
theorem leftW_end (hi : i = s.size) : leftW s i cur = cur :: leftW s (i + 1) [] := by
  subst hi
  unfold leftW
  rw [if_pos (Nat.le_refl _), if_neg (by omega), List.drop_eq_nil_of_le (by rw [size_L]; omega), splitGo]
end
def RRef (o : Option (List Int)) (w : World) (r : Ending) (w' : World) : Prop :=
  ∃ (ls : List Int) (A : Option Addr) (n c : Nat) (ok : Bool), r = .returned (.tuple #[.slice A n c, .bool ok]) ∧ ls.length = n ∧ (∀ v ∈ ls, I64 v) ∧ (∀ l, o = some l → ok = true ∧ ls = l) ∧ (o = none → ok = false) ∧ Fr none (fun _ => True) w w' [rowK w 3 1 (.slice A n c) n (ls.flatMap intC)]

set_option maxRecDepth 100000 in
set_option maxHeartbeats 2000000 in
theorem rreadrow_any (ts : List Int) (A : Option Addr) (c : Nat) (s : ByteArray) (w : World) (hx : IntsAt w A ts) (hn : ts.length ≤ 100) (hk : ∀ t ∈ ts, t = 1 ∨ t = 2) (hs : s.size ≤ 100000) :
    Calls Tryd.prog 26 #[.slice A ts.length c, .string s] w (RRef (rowR ts s.data.toList) w) := by
  obtain ⟨i0, zz, hi0, hz0, hs0, hb0, hcc0⟩ := info_int
  have hX := hid (fun W (h : Below w.heap.size w W) => hx.keep h)
  have hx1 : (ts.length : Int) ≤ 9223372036854775807 := by omega
  have hs1 : (s.size : Int) ≤ 9223372036854775806 := by omega
  have hst : RInv (rowR ts s.data.toList) ts (leftW s 0 []) [] := by
    unfold leftW
    rw [if_pos (Nat.zero_le _)]
    exact rinv_start _ _
  generalize rowR ts s.data.toList = o at *
  replace hst := hid hst
  replace hk := hid hk
  clear hx
  have f_0 := (Fr.start0 w).nilRow 3 1
  obtain ⟨M, hM⟩ : ∃ M, M = s.size := ⟨_, rfl⟩
  go_enter Tryd.func26, Tryd.ntmps26
  go_wp2_with fail
  go_loopw [6, 7, 8] (fun l cw i wr => ∃ (j n : Nat) (cur : List UInt8) (ls : List Int) (G : Option Addr) (e : Nat), j ≤ M + 1 ∧ n ≤ ts.length ∧ cur.length ≤ j ∧ l = .slice G n e ∧ cw = .string ⟨cur.toArray⟩ ∧ i = .int .i64 j ∧ Hid (ls.length = n ∧ (∀ v ∈ ls, I64 v) ∧ RInv o (ts.drop n) (leftW s j cur) ls) ∧
    Fr none (fun _ => True) w wr [rowK w 3 1 (.slice G n e) n (ls.flatMap intC)]) (fun _ _ i _ => M + 1 - (intOf i).toNat)
  case atStart => exact ⟨0, 0, [], [], none, 0, Nat.zero_le _, Nat.zero_le _, Nat.le_refl _, rfl, rfl, rfl, ⟨rfl, (fun v hv => by cases hv), hst.out⟩, f_0⟩
  case round =>
    clear f_0 hst
    obtain ⟨j, n, cur, ls, G, e, hj, hnt, hcu, rfl, rfl, rfl, hI, f⟩ := hrel
    by_cases hle : j ≤ M
    · have hj0 : (0 : Int) ≤ (j : Int) := by omega
      have hj1 : (j : Int) ≤ (M : Int) := by omega
      rw [hM] at hj1
      by_cases hskip : ∃ h : j < s.size, ¬ s[j].toNat = 32
      · obtain ⟨hlt, h32⟩ := hskip
        have hI2 := hI.out
        rw [leftW_on hlt h32] at hI2
        replace hI2 := hid hI2
        have hsn := str_snoc cur s j hlt
        rw [get_bang hlt] at hsn
        replace hsn := hid hsn
        clear hI
        have hlt1 : (j : Int) < (s.size : Int) := by omega
        have hb32 : ((s[j].toNat : Int) == 32) = false := beq_eq_false_iff_ne.2 (by omega)
        have hcs : (⟨cur.toArray⟩ : ByteArray).size ≤ 20000000 := by show cur.toArray.size ≤ _; simp; omega
        have hex : (s.extract j (j + 1)).size = 1 := by simp; omega
        go_wp2_with fail
        go_roundw
        case rel => exact ⟨j + 1, n, cur ++ [s[j]], ls, G, e, by omega, hnt, by simp; omega, rfl, by rw [← hsn.out], by go_num, hI2.out, f⟩
        case measure => simp [intOf]; omega
      · have hrest : leftW s j cur = cur :: leftW s (j + 1) [] := by
          by_cases hlt : j < s.size
          · by_cases h32 : s[j].toNat = 32
            · exact leftW_nl hlt h32
            · exact absurd ⟨hlt, h32⟩ hskip
          · exact leftW_end (by omega)
        obtain ⟨hlsn, h64, hI2⟩ := hI.out
        rw [hrest] at hI2
        replace h64 := hid h64
        clear hI hrest
        go_upto_region 6 with fail
        go_cut [27] from 18 to 27 (fun u wx => u = .bool false ∧ Fr none (fun _ => True) w wx [rowK w 3 1 (.slice G n e) n (ls.flatMap intC)])
        case first =>
          replace hI2 := hid hI2
          by_cases hlt : j < s.size
          · have hlt1 : (j : Int) < (s.size : Int) := by omega
            have h32 : s[j].toNat = 32 := Classical.byContradiction fun h => hskip ⟨hlt, h⟩
            have hb32 : (s[j].toNat : Int) = 32 := by omega
            clear hskip
            go_wp2_with fail
            go_meet
            case rel => exact ⟨by simp, f⟩
          · have hlt1 : ¬ (j : Int) < (s.size : Int) := by omega
            clear hskip
            go_wp2_with fail
            go_meet
            case rel => exact ⟨by simp, f⟩
        case rest =>
        obtain ⟨rfl, f_1⟩ := hcut
        clear f hskip
        rename_i wc
        by_cases hnl : n = ts.length
        · rw [List.drop_eq_nil_of_le (by omega)] at hI2
          have ho := hid (rinv_over hI2)
          have hlb : ((n : Int) == (ts.length : Int)) = true := by rw [hnl]; simp
          replace hnl := hid hnl
          clear hI2
          go_wp2_with fail
          go_ret2
          exact ⟨[], none, 0, 0, false, rfl, rfl, (fun v hv => by cases hv), (fun l h => by rw [ho.out] at h; cases h), fun _ => rfl, (f_1.nilRow 3 1).sub (List.Sublist.cons_cons _ (List.nil_sublist _))⟩
        · have hjl : n < ts.length := by omega
          have hlb : ((n : Int) == (ts.length : Int)) = false := int_ne (by omega)
          have hn0 : (0 : Int) ≤ (n : Int) := by omega
          have hn1 : (n : Int) < (ts.length : Int) := by omega
          obtain ⟨b, oo, hA, hc⟩ := hX.out wc f_1.low n hjl
          rw [List.drop_eq_getElem_cons hjl] at hI2
          have hno := hid (fun h => rinv_none hI2 h)
          have hso := hid (fun v h => rinv_some hI2 (v := v) h)
          have hkt := hk.out _ (List.getElem_mem hjl)
          have hrd := hid (rread_any ⟨cur.toArray⟩ wc (by rw [show (⟨cur.toArray⟩ : ByteArray).size = cur.length by simp [ByteArray.size]]; omega))
          generalize ts[n] = t at *
          generalize hLW : leftW s (j + 1) [] = LW at *
          replace hLW := hid hLW
          clear hI2
          subst hA
          generalize hyc : (⟨cur.toArray⟩ : ByteArray) = y at *
          obtain rfl : cur = y.data.toList := by rw [← hyc]
          clear hyc
          go_wp2_with fail
          refine hrd.out.mono ?_
          rintro r w1 ⟨rfl, v, hv, rfl, hval⟩
          go_upto_if 50 with fail
          generalize hq0 : rdV t y.data.toList = q0 at *
          replace hq0 := hid hq0
          go_cut [10, 11] from 50 to 58 (fun nv okv wx => ∃ v2, nv = .int .i64 v2 ∧ okv = .bool q0.isSome ∧ Hid (I64 v2 ∧ ∀ x, q0 = some x → v2 = x) ∧ wx = wc)
          case first =>
            clear hno hso hrd
            rcases hkt with rfl | rfl
            · obtain rfl : numP y.data.toList = q0 := hq0.out
              go_wp2_with fail
              go_meet
              case rel => exact ⟨v, rfl, rfl, ⟨hv, hval⟩, rfl⟩
            · by_cases h1 : y.data.toList = tT
              · have hx : (y.toList == [116, 114, 117, 101]) = true := by rw [ByteArray.toList_eq, h1]; rfl
                obtain rfl : some 1 = q0 := by rw [← hq0.out]; unfold rdV; rw [if_pos rfl, if_pos h1]
                clear h1 hval
                go_wp2_with fail
                go_meet
                case rel => exact ⟨1, rfl, by first | rfl | (simp; done), ⟨by unfold I64; omega, fun x h => by injection h⟩, rfl⟩
              · have hx : (y.toList == [116, 114, 117, 101]) = false := by rw [ByteArray.toList_eq]; exact beq_eq_false_iff_ne.2 h1
                by_cases h2 : y.data.toList = fF
                · have hz : (y.toList == [102, 97, 108, 115, 101]) = true := by rw [ByteArray.toList_eq, h2]; rfl
                  obtain rfl : some 0 = q0 := by rw [← hq0.out]; unfold rdV; rw [if_pos rfl, if_neg h1, if_pos h2]
                  clear h1 h2 hval
                  go_wp2_with fail
                  go_meet
                  case rel => exact ⟨0, rfl, by first | rfl | (simp; done), ⟨by unfold I64; omega, fun x h => by injection h⟩, rfl⟩
                · have hz : (y.toList == [102, 97, 108, 115, 101]) = false := by rw [ByteArray.toList_eq]; exact beq_eq_false_iff_ne.2 h2
                  obtain rfl : none = q0 := by rw [← hq0.out]; unfold rdV; rw [if_pos rfl, if_neg h1, if_neg h2]
                  clear h1 h2 hval
                  go_wp2_with fail
                  go_meet
                  case rel => exact ⟨0, rfl, by first | rfl | (simp; done), ⟨by unfold I64; omega, fun x h => by cases h⟩, rfl⟩
          case rest =>
          obtain ⟨v2, rfl, rfl, hv2, rfl⟩ := hcut
          clear hval hkt hrd hv hc
          cases q0 with
          | none =>
            have ho := hid (hno.out rfl)
            simp only [Option.isSome_none]
            go_wp2_with fail
            go_ret2
            exact ⟨[], none, 0, 0, false, rfl, rfl, (fun v hv => by cases hv), (fun l h => by rw [ho.out] at h; cases h), fun _ => rfl, (f_1.nilRow 3 1).sub (List.Sublist.cons_cons _ (List.nil_sublist _))⟩
          | some u =>
            obtain rfl := hv2.out.2 u rfl
            have hin := hid (hso.out v2 rfl)
            simp only [Option.isSome_some]
            have f_2 := f_1.alloc (.cells #[.int .i64 v2] 3)
            go_wp2_with (at_builtin; refine Fr.wpApp f_2 rfl _ _ _ rfl Tryd.underlying38 hi0 hz0 hs0 hb0 hcc0 (by decide) rfl rfl rfl int_one (by decide) (by unfold maxLen; omega) (by omega) ?_; intro G2 cap w2 f_3)
            have f_4 := f_3.sub (List.Sublist.cons_cons _ (List.sublist_cons_self _ _))
            go_roundw
            case rel =>
              refine ⟨j + 1, n + 1, [], ls ++ [v2], some ⟨G2, 0, none⟩, cap, by omega, by omega, Nat.zero_le _, rfl, rfl, by go_num, ⟨by simp [hlsn], fun y hy => ?_, by rw [hLW.out]; exact hin.out⟩, by simpa [intC] using f_4⟩
              rcases List.mem_append.1 hy with hy | hy
              · exact h64.out y hy
              · rw [List.mem_singleton.1 hy]; exact hv2.out.1
            case measure => simp [intOf]; omega
    · have hje : j = M + 1 := by omega
      obtain ⟨hlsn, h64, hI2⟩ := hI.out
      unfold leftW at hI2
      rw [if_neg (by omega)] at hI2
      have hj1 : ¬ (j : Int) ≤ (s.size : Int) := by omega
      replace hje := hid hje
      replace h64 := hid h64
      by_cases hnl : n = ts.length
      · rw [List.drop_eq_nil_of_le (by omega)] at hI2
        have ho := hid (rinv_done hI2)
        have hlb : ((n : Int) == (ts.length : Int)) = true := by rw [hnl]; simp
        replace hnl := hid hnl
        clear hI2 hI
        go_wp2_with fail
        go_ret2
        exact ⟨ls, G, n, e, true, rfl, hlsn, h64.out, (fun l h => ⟨rfl, by rw [ho.out] at h; injection h⟩), (fun h => by rw [ho.out] at h; cases h), f⟩
      · have hjl : n < ts.length := by omega
        rw [List.drop_eq_getElem_cons hjl] at hI2
        have ho := hid (rinv_few hI2)
        have hlb : ((n : Int) == (ts.length : Int)) = false := int_ne (by omega)
        clear hI2 hI
        go_wp2_with fail
        go_ret2
        exact ⟨ls, G, n, e, false, rfl, hlsn, h64.out, (fun l h => by rw [ho.out] at h; cases h), fun _ => rfl, f⟩
end Go.Proofs.YtmdnmodjdgcmjaaDoor
