/-
  The walk of the reference's Parse.
-/
import Derived.Test.YtmdnmodjdgcmjaaDoorHScRf
import Derived.Test.YtmdnmodjdgcmjaaDoorHScPa
namespace Go.Proofs.YtmdnmodjdgcmjaaDoor
open Go.RowKit

/-- the lines that are left at byte i of a text, where the line has begun at from -/
def leftL (s : ByteArray) (i from_ : Nat) : List (List UInt8) := if i ≤ s.size then linesGo (s.data.toList.drop i) (Lib.pieceU s.data.toList from_ i) else []
section
variable {s : ByteArray} {i from_ : Nat}
theorem left_on (h : i < s.size) (hf : from_ ≤ i) (hb : ¬ s[i].toNat = 10) : leftL s i from_ = leftL s (i + 1) from_ := by
  unfold leftL
  rw [if_pos (by omega), if_pos (by omega), drop_get s i h, get_bang h, linesGo, if_neg (fun e => hb (by rw [e]; rfl)), ← Lib.pieceU_grow _ _ i 1 hf, drop_get s i h, get_bang h]
  rfl
theorem left_nl (h : i < s.size) (hb : s[i].toNat = 10) : leftL s i from_ = (s.extract from_ i).data.toList :: leftL s (i + 1) (i + 1) := by
  unfold leftL
  rw [if_pos (by omega), if_pos (by omega)]
  exact lines_nl h (by rw [get_bang h]; exact hb)
theorem left_end (hi : i = s.size) (hf : from_ ≤ i) : leftL s i from_ = (s.extract from_ i).data.toList :: leftL s (i + 1) (i + 1) := by
  subst hi
  unfold leftL
  rw [if_pos (Nat.le_refl _), if_neg (by omega)]
  exact lines_end (by omega) hf
end
theorem left_start (s : ByteArray) : leftL s 0 0 = linesOf s.data.toList := by
  unfold leftL
  rw [if_pos (Nat.zero_le _)]
  rfl
section
variable {R : List (List UInt8)} {k : Nat} {acc : List EvE} {t : List UInt8} {p : List EvE × Nat × Int} (h : parseGo (t :: R) k acc = p)
include h
theorem gc_skip (hw : wordsOf t = []) : parseGo R (k + 1) acc = p := by
  rw [parseGo, hw] at h
  exact h
theorem gc_hash {a : List UInt8} {u : List (List UInt8)} (hw : wordsOf t = a :: u) (ha : a.headD 0 = 35) : parseGo R (k + 1) acc = p := by
  rw [parseGo, hw] at h
  dsimp only at h
  rw [if_pos ha] at h
  exact h
theorem gc_other {a : List UInt8} {u : List (List UInt8)} (hw : wordsOf t = a :: u) (ha : ¬ a.headD 0 = 35) :
    (evP (a :: u) = none → p = ([], k + 1, 11)) ∧ (∀ x, evP (a :: u) = some x → acc.length = 4096 → p = ([], k + 1, 3)) ∧ (∀ x, evP (a :: u) = some x → ¬ acc.length = 4096 → parseGo R (k + 1) (acc ++ [x]) = p) := by
  rw [parseGo, hw] at h
  dsimp only at h
  rw [if_neg ha] at h
  refine ⟨fun he => ?_, fun x he hl => ?_, fun x he hl => ?_⟩
  · rw [he] at h; exact h.symm
  · rw [he] at h; dsimp only at h; rw [if_pos hl] at h; exact h.symm
  · rw [he] at h; dsimp only at h; rw [if_neg hl] at h; exact h
end

set_option maxRecDepth 100000 in
set_option maxHeartbeats 1000000 in
theorem rparse_any (s : ByteArray) (w : World) (hs : s.size ≤ 19999998) : Calls Tryd.prog 12 #[.string s] w (ParsePost (parseV s.data.toList) w) := by
  obtain ⟨i0, z0, hi0, hz0, hs0, hb0, hc0⟩ := info_Event
  have hstart : parseGo (leftL s 0 0) 0 [] = parseV s.data.toList := by rw [left_start]; rfl
  generalize parseV s.data.toList = p at *
  replace hstart := hid hstart
  have f_0 := (Fr.start0 w).noEvs
  obtain ⟨M, hM⟩ : ∃ M, M = s.size := ⟨_, rfl⟩
  have hM1 : (M : Int) ≤ 9223372036854775806 := by omega
  go_enter Tryd.func12, Tryd.ntmps12
  go_wp2_with fail
  go_loopw [5, 6, 7, 8] (fun l fr ln i wr => ∃ (j fm k q n : Nat) (B : Option Addr) (d : Nat) (xs : List LEv) (D : Nat → Prop), j ≤ M + 1 ∧ fm ≤ j ∧ (j ≤ M → fm ≤ M) ∧ k ≤ j ∧ q = k + 1 ∧ n ≤ 4096 ∧ l = .slice B n d ∧ fr = .int .i64 fm ∧ ln = .int .i64 q ∧ i = .int .i64 j ∧ Hid (xs.length = n ∧ parseGo (leftL s j fm) k (xs.map (·.x)) = p ∧ (n = 0 → B = none ∧ d = 0)) ∧
    Fr none (fun _ => True) w wr [rowK w 40 4 (.slice B n d) n (xs.flatMap LEv.cells), evsK D xs]) (fun _ _ _ i _ => M + 1 - (intOf i).toNat)
  case atStart => exact ⟨0, 0, 0, 1, 0, none, 0, [], fun _ => False, Nat.zero_le _, Nat.zero_le _, fun _ => Nat.zero_le _, Nat.zero_le _, rfl, Nat.zero_le _, rfl, rfl, rfl, rfl, ⟨rfl, hstart.out, fun _ => ⟨rfl, rfl⟩⟩, f_0⟩
  case round =>
    clear f_0 hstart
    obtain ⟨j, fm, k, q, n, B, d, xs, D, hj, hfj, hfM, hkj, hqk, hn4, rfl, rfl, rfl, rfl, hI, f⟩ := hrel
    have hq9 : q ≤ M + 2 := by omega
    replace hqk := hid hqk
    by_cases hle : j ≤ M
    · have hj0 : (0 : Int) ≤ (j : Int) := by omega
      have hj1 : (j : Int) ≤ (M : Int) := by omega
      by_cases hskip : ∃ h : j < s.size, ¬ s[j].toNat = 10
      · obtain ⟨hlt, h10⟩ := hskip
        have hon := left_on hlt hfj h10
        have hI2 := hI.out
        rw [hon] at hI2
        replace hI2 := hid hI2
        clear hI hon
        have hlt1 : (j : Int) < (M : Int) := by omega
        have hb10 : ((s[j].toNat : Int) == 10) = false := beq_eq_false_iff_ne.2 (by omega)
        rw [hM] at hlt1 hj1 hM1
        go_wp2_with fail
        go_roundw
        case rel => exact ⟨j + 1, fm, k, q, n, B, d, xs, D, by omega, by omega, fun _ => by omega, by omega, hqk.out, hn4, rfl, rfl, rfl, by go_num, hI2.out, f⟩
        case measure => simp [intOf]; omega
      · have hrest : leftL s j fm = (s.extract fm j).data.toList :: leftL s (j + 1) (j + 1) := by
          by_cases hlt : j < s.size
          · by_cases h10 : s[j].toNat = 10
            · exact left_nl hlt h10
            · exact absurd ⟨hlt, h10⟩ hskip
          · exact left_end (by omega) hfj
        have hI2 := hI.out.2.1
        rw [hrest] at hI2
        have htl : (s.extract fm j).data.toList.length ≤ 19999998 := by
          rw [piece_extract]
          unfold Lib.pieceU
          rw [List.length_take]
          omega
        have htz : (s.extract fm j).size ≤ 20000000 := by
          have := size_L (s.extract fm j)
          omega
        have hlsn := hI.out.1
        have hnil := hid hI.out.2.2
        clear hI hrest
        have hfm0 : (0 : Int) ≤ (fm : Int) := by omega
        have hfm1 : (fm : Int) ≤ (j : Int) := by omega
        rw [hM] at hj1 hM1
        go_upto_region 7 with fail
        go_cut [27] from 18 to 27 (fun u wx => u = .bool false ∧ Fr none (fun _ => True) w wx [rowK w 40 4 (.slice B n d) n (xs.flatMap LEv.cells), evsK D xs])
        case first =>
          by_cases hlt : j < s.size
          · have hlt1 : (j : Int) < (s.size : Int) := by omega
            have h10 : s[j].toNat = 10 := Classical.byContradiction fun h => hskip ⟨hlt, h⟩
            have hb10 : (s[j].toNat : Int) = 10 := by omega
            clear hskip
            go_wp2_with fail
            go_meet
            case rel => exact ⟨by simp, f⟩
          · have hlt1 : ¬ (j : Int) < (s.size : Int) := by omega
            clear hskip
            go_wp2_with fail
            go_meet
            case rel => exact ⟨by simp, f⟩
        case rest =>
        obtain ⟨rfl, f_0⟩ := hcut
        clear f hskip
        rename_i wc
        have hsk := fun hw => gc_skip hI2 hw
        have hha := fun a u hw ha => @gc_hash _ _ _ _ _ hI2 a u hw ha
        have hot := fun a u hw ha => @gc_other _ _ _ _ _ hI2 a u hw ha
        have hwd := rwords_any (s.extract fm j) wc htz
        have hwl := words_len (s.extract fm j).data.toList []
        have hwz := words_size (s.extract fm j).data.toList []
        rw [show wordsGo (s.extract fm j).data.toList [] = wordsOf (s.extract fm j).data.toList from rfl] at hwl hwz
        have hpl : ((s.extract fm j).data.toList).length ≤ 19999998 := htl
        generalize wordsOf (s.extract fm j).data.toList = ts at *
        generalize hR : leftL s (j + 1) (j + 1) = R at *
        replace hR := hid hR
        replace hsk := hid hsk
        replace hha := hid hha
        replace hot := hid hot
        replace hwd := hid hwd
        replace hwz := hid hwz
        clear hI2
        go_wp2_with fail
        refine hwd.out.mono ?_
        rintro r W2 ⟨hb, A1, c1, rfl, hown1⟩
        have f_1 := f_0.addRow hb hown1
        clear f_0 hb hwd
        cases ts with
        | nil =>
          replace hsk := hsk.out rfl
          simp only [List.length_nil]
          go_wp2_with fail
          go_roundw
          case rel => exact ⟨j + 1, j + 1, k + 1, q + 1, n, B, d, xs, D, by omega, Nat.le_refl _, fun _ => by omega, by omega, by rw [hqk.out], hn4, rfl, by go_num, by go_num, by go_num, ⟨hlsn, by rw [hR.out]; exact hsk, hnil.out⟩, f_1.tail⟩
          case measure => simp [intOf]; omega
        | cons a ts =>
          replace hha := hid (hha.out a ts rfl)
          replace hot := hid (hot.out a ts rfl)
          have haz := hwz.out a (List.mem_cons_self ..)
          have hsw : ∀ y ∈ strL' (a :: ts), y.size ≤ 20000000 := fun y hy => by
            obtain ⟨u, hu, rfl⟩ := List.mem_map.1 hy
            have := (hwz.out u hu).2
            rw [str_len]; simp at this hpl; omega
          have hl2 : (strL' (a :: ts)).length = (a :: ts).length := by unfold strL'; simp
          have hfw := own_words hl2 f_1.head.q hsw
          have hev := rev_any ⟨a.toArray⟩ (strL' ts) A1 c1 W2 hfw.2
          rw [show (strL' ts).length + 1 = (a :: ts).length by unfold strL'; simp, show wordL (⟨a.toArray⟩ :: strL' ts) = a :: ts from wordL_str (a :: ts)] at hev
          obtain ⟨ab, ao, rfl, -, -, hac⟩ := hfw.2 0 (by simp [strL'])
          rw [Nat.zero_mul, Nat.add_zero, show (strL' (a :: ts))[0]'(by simp [strL']) = ⟨a.toArray⟩ from rfl] at hac
          have hev2 := hid (hev (by simp at hwl hpl ⊢; omega) hsw)
          have hasz : 0 < (⟨a.toArray⟩ : ByteArray).size := by rw [str_len]; exact List.length_pos_iff.2 haz.1
          have hah := head_get a hasz
          have hdz := hah
          have haz1 : (0 : Int) < ((⟨a.toArray⟩ : ByteArray).size : Int) := by omega
          have hlen1 : (((a :: ts).length : Nat) : Int) = 0 → False := fun h => by simp at h; omega
          have hlen3 : (0 : Int) < (((a :: ts).length : Nat) : Int) := by simp
          have hlen4 : (((a :: ts).length : Nat) : Int) ≤ 9223372036854775807 := by simp at hwl hpl ⊢; omega
          clear hev hfw hsw hl2 hlen1
          generalize (a :: ts).length = K at *
          by_cases h35 : a.headD 0 = 35
          · have hi : (((⟨a.toArray⟩ : ByteArray)[0].toNat : Nat) : Int) = 35 := by rw [hah, h35]; rfl
            replace hha := hid (hha.out h35)
            clear hah hdz
            generalize (⟨a.toArray⟩ : ByteArray) = ax at *
            go_wp2_with fail
            go_roundw
            case rel => exact ⟨j + 1, j + 1, k + 1, q + 1, n, B, d, xs, D, by omega, Nat.le_refl _, fun _ => by omega, by omega, by rw [hqk.out], hn4, rfl, by go_num, by go_num, by go_num, ⟨hlsn, by rw [hR.out]; exact hha.out, hnil.out⟩, f_1.tail⟩
            case measure => simp [intOf]; omega
          · have hi : ((((⟨a.toArray⟩ : ByteArray)[0].toNat : Nat) : Int) == 35) = false := by
              rw [hah]
              refine beq_eq_false_iff_ne.2 fun h => h35 (UInt8.toNat_inj.1 ?_)
              show (a.headD 0).toNat = 35
              omega
            replace hot := hid (hot.out h35)
            clear hah hdz hha
            generalize evP (a :: ts) = o at *
            generalize (⟨a.toArray⟩ : ByteArray) = ax at *
            go_wp2_with fail
            refine hev2.out.mono ?_
            rintro r W3 ⟨hb, x, Rw, C, ok, rfl, hx, hy1, hy2⟩
            have f_2 := f_1.addEv hb hx
            obtain ⟨D', hD'⟩ : ∃ D', D' = Iv W2.heap.size W3.heap.size := ⟨_, rfl⟩
            rw [← hD'] at f_2
            have hfr := hx.fr
            have hfc := hx.fc
            clear hx hb f_1 hD' hac hev2
            obtain ⟨RA, Rc⟩ := Rw
            obtain ⟨CA, Cc⟩ := C
            simp only [EvE.val, Sl.v, Sl.fits] at hfr hfc ⊢
            replace hy1 := hid hy1
            replace hy2 := hid hy2
            go_upto_region 12 with fail
            have f_3 := f_2.alloc (.cells #[.int .i64 x.kind, .int .i64 x.num, .slice RA x.row.length Rc, .slice CA x.ch.length Cc] 40)
            generalize W3.alloc (.cells #[.int .i64 x.kind, .int .i64 x.num, .slice RA x.row.length Rc, .slice CA x.ch.length Cc] 40) = W4 at *
            generalize W3.heap.size = T at f_3 ⊢
            clear f_2
            obtain ⟨b0, b1, b2, b3, -⟩ := blk4 f_3.blk
            cases o with
            | none =>
              obtain rfl := hot.out.1 rfl
              obtain rfl := hy2.out rfl
              go_wp2_with fail
              refine bodyPost_ret (v := .tuple #[.slice none 0 0, .int .i64 (q : Int), .int .i64 11]) (by simp [results, Tryd.results12, go_sem]) rfl ?_
              rw [hqk.out]
              exact parse_nil f_3 (k + 1) 11
            | some y =>
              obtain ⟨rfl, rfl⟩ := hy1.out y rfl
              by_cases hn : n = 4096
              · subst hn
                obtain rfl := hot.out.2.1 x rfl (by rw [List.length_map, hlsn])
                replace hlsn := hid hlsn
                go_wp2_with fail
                refine bodyPost_ret (v := .tuple #[.slice none 0 0, .int .i64 (q : Int), .int .i64 3]) (by simp [results, Tryd.results12, go_sem]) rfl ?_
                rw [hqk.out]
                exact parse_nil f_3 (k + 1) 3
              · have hne : ((n : Int) == 4096) = false := beq_eq_false_iff_ne.2 (by omega)
                have hst := hid (hot.out.2.2 x rfl (by rw [List.length_map, hlsn]; exact hn))
                have f_5 := (f_3.sub (ks' := [_, _, _]) (List.Sublist.cons _ (List.Sublist.cons_cons _ (List.Sublist.cons _ (List.Sublist.refl _))))).rot1.alloc (.cells #[.int .i64 x.kind, .int .i64 x.num, .slice RA x.row.length Rc, .slice CA x.ch.length Cc] 40)
                clear hot hy1 hy2
                have hnm : n + 1 ≤ 4096 := by omega
                go_wp2_with (at_builtin; refine Fr.wpApp f_5 rfl _ _ _ rfl Tryd.underlying23 hi0 hz0 hs0 hb0 hc0 (by decide) rfl rfl rfl ev_one (by decide) (by unfold maxLen; omega) (by omega) ?_; intro G cap W6 f_6; clear b0 b1 b2 b3)
                have f_7 := (f_6.sub (ks' := [_, _, _]) (List.Sublist.cons_cons _ (List.Sublist.cons _ (List.Sublist.refl _)))).rot1
                go_roundw
                case rel =>
                  have f_8 := (Fr.evPush (x := ⟨x, ⟨RA, Rc⟩, ⟨CA, Cc⟩⟩) f_7.rot2).rot1
                  have hfl : xs.flatMap LEv.cells ++ (#[.int .i64 x.kind, .int .i64 x.num, .slice RA x.row.length Rc, .slice CA x.ch.length Cc] : Array Value).toList = (xs ++ [(⟨x, ⟨RA, Rc⟩, ⟨CA, Cc⟩⟩ : LEv)]).flatMap LEv.cells := by simp [LEv.cells, Sl.v]
                  rw [hfl] at f_8
                  exact ⟨j + 1, j + 1, k + 1, q + 1, n + 1, _, _, xs ++ [⟨x, ⟨RA, Rc⟩, ⟨CA, Cc⟩⟩], _, by omega, Nat.le_refl _, fun _ => by omega, by omega, by rw [hqk.out], hnm, rfl, by go_num, by go_num, by go_num, ⟨by simp [hlsn], by rw [hR.out, List.map_append]; exact hst.out, fun h => absurd h (by omega)⟩, f_8⟩
                case measure => simp [intOf]; omega
    · have hje : j = M + 1 := by omega
      have hI2 := hI.out
      unfold leftL at hI2
      rw [if_neg (by omega), parseGo] at hI2
      obtain ⟨h1, rfl, h3⟩ := hI2
      have hj1 : ¬ (j : Int) ≤ (s.size : Int) := by omega
      go_wp2_with fail
      refine bodyPost_ret (v := .tuple #[.slice B n d, .int .i64 0, .int .i64 0]) (by simp [results, Tryd.results12, go_sem]) rfl ?_
      exact ⟨xs, B, n, d, D, rfl, h1, rfl, h3, f⟩
end Go.Proofs.YtmdnmodjdgcmjaaDoor
