/-
  The walk of Parse.
-/
import Derived.Test.YtmdnmodjdgcmjaaDoorHScZ
namespace Go.Proofs.YtmdnmodjdgcmjaaDoor
open Go.RowKit

theorem strC_flat (ws : List ByteArray) : ws.flatMap strC = ws.flatMap (fun x => [.string x]) := rfl
theorem own_words {b0 : Nat} {w : World} {A : Option Addr} {n c : Nat} {ws : List ByteArray} (hn : ws.length = n) (h : w.ownsRow b0 9 1 (.slice A n c) n (ws.flatMap strC)) (hs : ∀ x ∈ ws, x.size ≤ 20000000) : (n ≤ c ∧ c ≤ maxLen) ∧ WordsAt w A ws := by
  have h1 := sl_own strC 1 (fun _ => rfl) (D := (· < w.heap.size)) hn h (fun g hg => (h.lt g hg).2) (P := fun b o x => b < w.heap.size ∧ w.cell? ⟨b, o, none⟩ = some (.string x)) (fun b o j hj hD hc => ⟨hD, hc 0 (by omega)⟩)
  refine ⟨h1.1, fun j hj => ?_⟩
  obtain ⟨b, o, hA, hb, hc⟩ := h1.2 j hj
  exact ⟨b, o, hA, hb, by have := hs _ (List.getElem_mem hj); unfold maxLen; omega, hc⟩
theorem lines_size : ∀ (l cur : List UInt8), ∀ t ∈ linesGo l cur, t.length ≤ l.length + cur.length
  | [], cur, t, ht => by
    rw [linesGo] at ht
    rw [List.mem_singleton.1 ht]; simp
  | c :: l, cur, t, ht => by
    rw [linesGo] at ht
    split at ht
    · rcases List.mem_cons.1 ht with rfl | ht
      · simp
      · have := lines_size l [] t ht
        simp at this ⊢; omega
    · have := lines_size l _ t ht
      simp at this ⊢; omega
theorem words_size : ∀ (l cur : List UInt8), ∀ t ∈ wordsGo l cur, t ≠ [] ∧ t.length ≤ l.length + cur.length
  | [], cur, t, ht => by
    rw [wordsGo] at ht
    split at ht
    · cases ht
    · rename_i h
      rw [List.mem_singleton.1 ht]; exact ⟨h, by simp⟩
  | c :: l, cur, t, ht => by
    rw [wordsGo] at ht
    split at ht
    · split at ht
      · have := words_size l [] t ht
        simp at this ⊢; exact ⟨this.1, by omega⟩
      · rename_i h
        rcases List.mem_cons.1 ht with rfl | ht
        · exact ⟨h, by simp⟩
        · have := words_size l [] t ht
          simp at this ⊢; exact ⟨this.1, by omega⟩
    · have := words_size l _ t ht
      simp at this ⊢; exact ⟨this.1, by omega⟩
theorem str_len (l : List UInt8) : (⟨l.toArray⟩ : ByteArray).size = l.length := by simp [ByteArray.size]

/-- what Parse leaves -/
def ParsePost (p : List EvE × Nat × Int) (w : World) (r : Ending) (w' : World) : Prop :=
  ∃ (xs : List LEv) (A : Option Addr) (n c : Nat) (D : Nat → Prop), r = .returned (.tuple #[.slice A n c, .int .i64 (p.2.1 : Int), .int .i64 p.2.2]) ∧ xs.length = n ∧ xs.map (·.x) = p.1 ∧ (n = 0 → A = none ∧ c = 0) ∧
    Fr none (fun _ => True) w w' [rowK w 40 4 (.slice A n c) n (xs.flatMap LEv.cells), evsK D xs]
theorem parse_nil {w w' : World} {ks : List Kp} (f : Fr none (fun _ => True) w w' ks) (k : Nat) (e : Int) : ParsePost ([], k, e) w (.returned (.tuple #[.slice none 0 0, .int .i64 (k : Int), .int .i64 e])) w' :=
  ⟨[], none, 0, 0, fun _ => False, rfl, rfl, rfl, fun _ => ⟨rfl, rfl⟩, f.noEvs.sub (List.Sublist.cons_cons _ (List.Sublist.cons_cons _ (List.nil_sublist _)))⟩
section
variable {ls : List (List UInt8)} {j : Nat} {acc : List EvE} (hj : j < ls.length)
include hj
theorem go_skip {p : List EvE × Nat × Int} (h : parseGo (ls.drop j) j acc = p) (hw : wordsOf ls[j] = []) : parseGo (ls.drop (j + 1)) (j + 1) acc = p := by
  rw [List.drop_eq_getElem_cons hj, parseGo, hw] at h
  exact h
theorem go_hash {p : List EvE × Nat × Int} (h : parseGo (ls.drop j) j acc = p) {a : List UInt8} {t : List (List UInt8)} (hw : wordsOf ls[j] = a :: t) (ha : a.headD 0 = 35) : parseGo (ls.drop (j + 1)) (j + 1) acc = p := by
  rw [List.drop_eq_getElem_cons hj, parseGo, hw] at h
  dsimp only at h
  rw [if_pos ha] at h
  exact h
theorem go_other {p : List EvE × Nat × Int} (h : parseGo (ls.drop j) j acc = p) {a : List UInt8} {t : List (List UInt8)} (hw : wordsOf ls[j] = a :: t) (ha : ¬ a.headD 0 = 35) :
    (evP (a :: t) = none → p = ([], j + 1, 11)) ∧ (∀ x, evP (a :: t) = some x → acc.length = 4096 → p = ([], j + 1, 3)) ∧ (∀ x, evP (a :: t) = some x → ¬ acc.length = 4096 → parseGo (ls.drop (j + 1)) (j + 1) (acc ++ [x]) = p) := by
  rw [List.drop_eq_getElem_cons hj, parseGo, hw] at h
  dsimp only at h
  rw [if_neg ha] at h
  refine ⟨fun he => ?_, fun x he hl => ?_, fun x he hl => ?_⟩
  · rw [he] at h; exact h.symm
  · rw [he] at h; dsimp only at h; rw [if_pos hl] at h; exact h.symm
  · rw [he] at h; dsimp only at h; rw [if_neg hl] at h; exact h
end
/-- the events so far, and one more -/
theorem Fr.evPush {P : Option Nat} {S : World → Prop} {w0 w : World} {ks : List Kp} {D D' : Nat → Prop} {xs : List LEv} {x : LEv} (h : Fr P S w0 w (evsK D xs :: evK D' x.x x.R x.C :: ks)) : Fr P S w0 w (evsK (fun n => D n ∨ D' n) (xs ++ [x]) :: ks) :=
  h.fuse (fun _ h => h) (evs_push h.head.q h.tail.head.q) (evsK_ok _ _)
theorem head_get (a : List UInt8) (h : 0 < (⟨a.toArray⟩ : ByteArray).size) : (⟨a.toArray⟩ : ByteArray)[0] = a.headD 0 := by
  cases a with
  | nil => simp [ByteArray.size] at h
  | cons x t => rfl

set_option maxRecDepth 100000 in
set_option maxHeartbeats 1000000 in
theorem parse_any (s : ByteArray) (w : World) (hs : s.size ≤ 19999998) (hT : Tabs w) : Calls Tryd.prog 11 #[.string s] w (ParsePost (parseV s.data.toList) w) := by
  obtain ⟨i0, z0, hi0, hz0, hs0, hb0, hc0⟩ := info_Event
  have hlen := size_L s
  have hsz := fun t ht => lines_size s.data.toList [] t ht
  have hmost := lines_len s.data.toList []
  have hlin := lines_any s w (by omega)
  rw [show linesGo s.data.toList [] = linesOf s.data.toList from rfl] at hsz hmost
  rw [hlen] at hsz hmost
  have hstart : parseGo ((linesOf s.data.toList).drop 0) 0 [] = parseV s.data.toList := rfl
  generalize parseV s.data.toList = p at *
  generalize linesOf s.data.toList = ls at *
  generalize hL : ls.length = L at *
  have hL1 : (L : Int) ≤ 9223372036854775807 := by omega
  have hsz2 : ∀ x ∈ strL' ls, x.size ≤ 20000000 := fun x hx => by
    obtain ⟨t, ht, rfl⟩ := List.mem_map.1 hx
    have := hsz t ht
    rw [str_len]; simp at this; omega
  replace hlin := hid hlin
  replace hstart := hid hstart
  replace hsz := hid hsz
  replace hsz2 := hid hsz2
  have f_0 := Fr.start0 w
  go_enter Tryd.func11, Tryd.ntmps11
  go_wp2_with fail
  refine hlin.out.mono ?_
  rintro r W1 ⟨hb, A, c, rfl, hown⟩
  rw [hL] at hown ⊢
  have hsl : (strL' ls).length = L := by unfold strL'; simp [hL]
  replace hsl := hid hsl
  have f_1 := (f_0.addRow hb hown).noEvs
  clear f_0 hb hlin
  go_wp2_with fail
  go_loopw [2, 13] (fun l i wr => ∃ (j n : Nat) (B : Option Addr) (d : Nat) (xs : List LEv) (D : Nat → Prop), j ≤ L ∧ n ≤ 4096 ∧ i = .int .i64 j ∧ l = .slice B n d ∧ Hid (xs.length = n ∧ parseGo (ls.drop j) j (xs.map (·.x)) = p ∧ (n = 0 → B = none ∧ d = 0)) ∧
    Fr none (fun _ => True) w wr [rowK w 40 4 (.slice B n d) n (xs.flatMap LEv.cells), evsK D xs, rowK w 9 1 (.slice A L c) L ((strL' ls).flatMap strC)]) (fun _ i _ => L - (intOf i).toNat)
  case atStart => exact ⟨0, 0, none, 0, [], fun _ => False, Nat.zero_le _, Nat.zero_le _, rfl, rfl, ⟨rfl, hstart.out, fun _ => ⟨rfl, rfl⟩⟩, f_1⟩
  case round =>
    clear f_1 hstart
    obtain ⟨j, n, B, d, xs, D, hj, hn4, rfl, rfl, hI, f⟩ := hrel
    by_cases hlt : j < L
    · have hjl : j < ls.length := by omega
      have hW := (own_words hsl.out f.tail.tail.head.q hsz2.out).2
      obtain ⟨lb, lo, rfl, -, -, hlc⟩ := hW j (by rw [hsl.out]; exact hlt)
      rw [Nat.mul_one, show (strL' ls)[j]'(by rw [hsl.out]; exact hlt) = ⟨(ls[j]).toArray⟩ by simp [strL']] at hlc
      clear hW
      have hsk := go_skip hjl hI.out.2.1
      have hha := fun a t => @go_hash _ _ _ hjl _ hI.out.2.1 a t
      have hot := fun a t => @go_other _ _ _ hjl _ hI.out.2.1 a t
      have htl := hsz.out ls[j] (List.getElem_mem hjl)
      simp only [List.length_nil, Nat.add_zero] at htl
      generalize ls[j] = t at *
      have hwd := words_code ⟨t.toArray⟩ wr (by rw [str_len]; omega)
      rw [show (⟨t.toArray⟩ : ByteArray).data.toList = t from rfl] at hwd
      have hwl := words_len t []
      have hwz := words_size t []
      rw [show wordsGo t [] = wordsOf t from rfl] at hwl hwz
      generalize wordsOf t = ts at *
      replace hsk := hid hsk
      replace hha := hid hha
      replace hot := hid hot
      replace hwd := hid hwd
      replace hwz := hid hwz
      have hj0 : (0 : Int) ≤ (j : Int) := by omega
      have hj1 : (j : Int) < (L : Int) := by omega
      go_wp2_with fail
      refine hwd.out.mono ?_
      rintro r W2 ⟨hb, A1, c1, rfl, hown1⟩
      have f_1 := f.addRow hb hown1
      clear f hb hwd hlc
      cases ts with
      | nil =>
        replace hsk := hsk.out rfl
        simp only [List.length_nil]
        go_wp2_with fail
        go_roundw
        case rel => exact ⟨j + 1, n, B, d, xs, D, by omega, hn4, by go_num, rfl, ⟨hI.out.1, hsk, hI.out.2.2⟩, f_1.tail⟩
        case measure => simp [intOf]; omega
      | cons a ts =>
        replace hha := hid (hha.out a ts rfl)
        replace hot := hid (hot.out a ts rfl)
        have haz := hwz.out a (List.mem_cons_self ..)
        have hsw : ∀ y ∈ strL' (a :: ts), y.size ≤ 20000000 := fun y hy => by
          obtain ⟨u, hu, rfl⟩ := List.mem_map.1 hy
          have := (hwz.out u hu).2
          rw [str_len]; simp at this; omega
        have hl2 : (strL' (a :: ts)).length = (a :: ts).length := by unfold strL'; simp
        have hfw := own_words hl2 f_1.head.q hsw
        have hev := event_any ⟨a.toArray⟩ (strL' ts) A1 c1 W2 hfw.2
        rw [show (strL' ts).length + 1 = (a :: ts).length by unfold strL'; simp, show wordL (⟨a.toArray⟩ :: strL' ts) = a :: ts from wordL_str (a :: ts)] at hev
        obtain ⟨ab, ao, rfl, -, -, hac⟩ := hfw.2 0 (by simp [strL'])
        rw [Nat.zero_mul, Nat.add_zero, show (strL' (a :: ts))[0]'(by simp [strL']) = ⟨a.toArray⟩ from rfl] at hac
        have hev2 := hid (fun hT => hev (by simp at hwl ⊢; omega) hfw.1.1 hfw.1.2 hsw hT)
        have hTW := hid (hT.below f_1.low)
        have hasz : 0 < (⟨a.toArray⟩ : ByteArray).size := by rw [str_len]; exact List.length_pos_iff.2 haz.1
        have hah := head_get a hasz
        have hdz := hah
        have haz1 : (0 : Int) < ((⟨a.toArray⟩ : ByteArray).size : Int) := by omega
        have haz2 : (0 : Int) ≤ 0 := by omega
        have hlen1 : (((a :: ts).length : Nat) : Int) = 0 → False := fun h => by simp at h; omega
        have hlen2 : ((((a :: ts).length : Nat) : Int) == 0) = false := beq_eq_false_iff_ne.2 (fun h => by simp at h; omega)
        have hlen3 : (0 : Int) < (((a :: ts).length : Nat) : Int) := by simp
        have hlen4 : (((a :: ts).length : Nat) : Int) ≤ 9223372036854775807 := by simp at hwl ⊢; omega
        clear hev hfw hsw hl2 hlen1
        generalize (a :: ts).length = K at *
        by_cases h35 : a.headD 0 = 35
        · have hi : (((⟨a.toArray⟩ : ByteArray)[0].toNat : Nat) : Int) = 35 := by rw [hah, h35]; rfl
          replace hha := hid (hha.out h35)
          clear hah hdz
          generalize (⟨a.toArray⟩ : ByteArray) = ax at *
          go_wp2_with fail
          go_roundw
          case rel => exact ⟨j + 1, n, B, d, xs, D, by omega, hn4, by go_num, rfl, ⟨hI.out.1, hha.out, hI.out.2.2⟩, f_1.tail⟩
          case measure => simp [intOf]; omega
        · have hi : ((((⟨a.toArray⟩ : ByteArray)[0].toNat : Nat) : Int) == 35) = false := by
            rw [hah]
            refine beq_eq_false_iff_ne.2 fun h => h35 (UInt8.toNat_inj.1 ?_)
            show (a.headD 0).toNat = 35
            omega
          replace hot := hid (hot.out h35)
          clear hah hdz hha
          have hrt := hid (fun y (h : evP (a :: ts) = some y) => (ev_right h).1)
          generalize evP (a :: ts) = o at *
          generalize (⟨a.toArray⟩ : ByteArray) = ax at *
          go_wp2_with fail
          refine (hev2.out hTW.out).mono ?_
          rintro r W3 ⟨hb, x, R, C, ok, rfl, hx, hy1, hy2⟩
          have f_2 := f_1.addEv hb hx
          obtain ⟨D', hD'⟩ : ∃ D', D' = Iv W2.heap.size W3.heap.size := ⟨_, rfl⟩
          rw [← hD'] at f_2
          have hfr := hx.fr
          have hfc := hx.fc
          clear hx hb f_1 hD' hac hTW hev2
          obtain ⟨RA, Rc⟩ := R
          obtain ⟨CA, Cc⟩ := C
          simp only [EvE.val, Sl.v, Sl.fits] at hfr hfc ⊢
          replace hy1 := hid hy1
          replace hy2 := hid hy2
          go_upto_region 7 with fail
          have f_3 := f_2.alloc (.cells #[.int .i64 x.kind, .int .i64 x.num, .slice RA x.row.length Rc, .slice CA x.ch.length Cc] 40)
          generalize W3.alloc (.cells #[.int .i64 x.kind, .int .i64 x.num, .slice RA x.row.length Rc, .slice CA x.ch.length Cc] 40) = W4 at *
          generalize W3.heap.size = T at f_3 ⊢
          clear f_2
          obtain ⟨b0, b1, b2, b3, -⟩ := blk4 f_3.blk
          cases ok with
          | false =>
            obtain rfl : o = none := by
              cases o with
              | none => rfl
              | some y => exact absurd (hy1.out y rfl).1 (by simp)
            obtain rfl := hot.out.1 rfl
            go_wp2_with fail
            refine bodyPost_ret (v := .tuple #[.slice none 0 0, .int .i64 ((j + 1 : Nat) : Int), .int .i64 11]) (by simp [results, Tryd.results11, go_sem]) rfl (parse_nil f_3 (j + 1) 11)
          | true =>
            go_wp2_with fail
            with_reducible refine (right_code _ _ _ _ _ _ _ _ _ (by omega) (by omega)).mono ?_
            rintro r W5 ⟨rfl, hb⟩
            have f_4 := f_3.below hb
            clear hb f_3 b0 b1 b2 b3
            obtain ⟨b0, b1, b2, b3, -⟩ := blk4 f_4.blk
            rw [← right_n x]
            cases hR : rightV x with
            | false =>
              obtain rfl : o = none := by
                cases o with
                | none => rfl
                | some y => rw [(hy1.out y rfl).2, hrt.out y rfl] at hR; cases hR
              obtain rfl := hot.out.1 rfl
              go_wp2_with fail
              refine bodyPost_ret (v := .tuple #[.slice none 0 0, .int .i64 ((j + 1 : Nat) : Int), .int .i64 11]) (by simp [results, Tryd.results11, go_sem]) rfl (parse_nil f_4 (j + 1) 11)
            | true =>
              obtain rfl : o = some x := by
                cases o with
                | none => rcases hy2.out rfl with h | h
                          · cases h
                          · rw [hR] at h; cases h
                | some y => rw [(hy1.out y rfl).2]
              by_cases hn : n = 4096
              · subst hn
                obtain rfl := hot.out.2.1 x rfl (by rw [List.length_map, hI.out.1])
                go_wp2_with fail
                refine bodyPost_ret (v := .tuple #[.slice none 0 0, .int .i64 ((j + 1 : Nat) : Int), .int .i64 3]) (by simp [results, Tryd.results11, go_sem]) rfl (parse_nil f_4 (j + 1) 3)
              · have hne : ((n : Int) == 4096) = false := beq_eq_false_iff_ne.2 (by omega)
                have hst := hid (hot.out.2.2 x rfl (by rw [List.length_map, hI.out.1]; exact hn))
                have f_5 := (f_4.sub (ks' := [_, _, _, _]) (List.Sublist.cons _ (List.Sublist.cons_cons _ (List.Sublist.cons _ (List.Sublist.refl _))))).rot1.alloc (.cells #[.int .i64 x.kind, .int .i64 x.num, .slice RA x.row.length Rc, .slice CA x.ch.length Cc] 40)
                clear f_4 hot hy1 hy2
                have hnm : n + 1 ≤ 4096 := by omega
                go_wp2_with (at_builtin; refine Fr.wpApp f_5 rfl _ _ _ rfl Tryd.underlying23 hi0 hz0 hs0 hb0 hc0 (by decide) rfl rfl rfl ev_one (by decide) (by unfold maxLen; omega) (by omega) ?_; intro G cap W6 f_6; clear b0 b1 b2 b3)
                have f_7 := (f_6.sub (ks' := [_, _, _, _]) (List.Sublist.cons_cons _ (List.Sublist.cons _ (List.Sublist.refl _)))).rot1
                go_roundw
                case rel =>
                  have f_8 := (Fr.evPush (x := ⟨x, ⟨RA, Rc⟩, ⟨CA, Cc⟩⟩) f_7.rot2).rot1
                  have hfl : xs.flatMap LEv.cells ++ (#[.int .i64 x.kind, .int .i64 x.num, .slice RA x.row.length Rc, .slice CA x.ch.length Cc] : Array Value).toList = (xs ++ [(⟨x, ⟨RA, Rc⟩, ⟨CA, Cc⟩⟩ : LEv)]).flatMap LEv.cells := by simp [LEv.cells, Sl.v]
                  rw [hfl] at f_8
                  exact ⟨j + 1, n + 1, _, _, xs ++ [⟨x, ⟨RA, Rc⟩, ⟨CA, Cc⟩⟩], _, by omega, hnm, by go_num, rfl, ⟨by simp [hI.out.1], by rw [List.map_append]; exact hst.out, fun h => absurd h (by omega)⟩, f_8⟩
                case measure => simp [intOf]; omega
    · have hje : j = L := by omega
      subst hje
      obtain ⟨h1, h2, h3⟩ := hI.out
      rw [List.drop_eq_nil_of_le (by omega), parseGo] at h2
      subst h2
      go_wp2_with fail
      refine bodyPost_ret (v := .tuple #[.slice B n d, .int .i64 0, .int .i64 0]) (by simp [results, Tryd.results11, go_sem]) rfl ?_
      exact ⟨xs, B, n, d, D, rfl, h1, rfl, h3, f.sub (List.Sublist.cons_cons _ (List.Sublist.cons_cons _ (List.nil_sublist _)))⟩
end Go.Proofs.YtmdnmodjdgcmjaaDoor
