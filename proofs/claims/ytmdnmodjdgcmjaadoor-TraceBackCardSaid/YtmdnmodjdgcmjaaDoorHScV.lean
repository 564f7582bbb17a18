/-
  The walk of script.line (printed by gen_scline.py).
-/
import Derived.Test.YtmdnmodjdgcmjaaDoorHScU
import Derived.Test.YtmdnmodjdgcmjaaDoorHBuildS
namespace Go.Proofs.YtmdnmodjdgcmjaaDoor
open Go.RowKit

theorem joinTail_len : ∀ (ws : List (List UInt8)), (∀ x ∈ ws, x.length ≤ 30) → (Lib.joinTail [32] ws).length ≤ 31 * ws.length
  | [], _ => by simp [Lib.joinTail]
  | x :: t, h => by
    have h1 := joinTail_len t fun y hy => h y (List.mem_cons_of_mem _ hy)
    have h2 := h x (List.mem_cons_self ..)
    show (([32] ++ x) ++ Lib.joinTail [32] t).length ≤ _
    simp only [List.length_append, List.length_cons, List.length_nil]
    omega
theorem join_len {ws : List (List UInt8)} (h : ∀ x ∈ ws, x.length ≤ 30) : (Lib.join ws [32]).length ≤ 31 * ws.length := by
  cases ws with
  | nil => simp [Lib.join_nil]
  | cons x t =>
    rw [Lib.join_cons]
    have h1 := joinTail_len t fun y hy => h y (List.mem_cons_of_mem _ hy)
    have h2 := h x (List.mem_cons_self ..)
    simp only [List.length_append, List.length_cons]
    omega
theorem itoa_30 {v : Int} (h : I64 v) : (Lib.itoa v).length ≤ 30 := Nat.le_trans (Lib.itoa_length_le v h.1 h.2) (by omega)
theorem words_30 {x : EvE} (h : x.fine) : ∀ w ∈ wordsV x, w.length ≤ 30 := by
  obtain ⟨hn, hr⟩ := h
  have hi : ∀ v : Int, R64 v → (Lib.itoa v).length ≤ 30 := fun v h => itoa_30 h
  intro w hw
  unfold wordsV at hw
  split at hw
  · rcases List.mem_cons.1 hw with rfl | hw
    · decide
    · obtain ⟨v, hv, rfl⟩ := List.mem_map.1 hw
      exact hi v (hr v hv)
  split at hw
  · rcases List.mem_cons.1 hw with rfl | hw
    · decide
    · rw [List.mem_singleton.1 hw]; exact hi _ hn
  split at hw
  · rw [List.mem_singleton.1 hw]; decide
  split at hw
  · rcases List.mem_cons.1 hw with rfl | hw
    · decide
    · rw [List.mem_singleton.1 hw]; exact hi _ hn
  · rcases List.mem_cons.1 hw with rfl | hw
    · decide
    · rcases List.mem_cons.1 hw with rfl | hw
      · split
        · exact hi _ hn
        · decide
      · obtain ⟨c, _, rfl⟩ := List.mem_map.1 hw
        exact hi _ (byte_ok c).2
theorem words_most {x : EvE} (h : rightV x = true) : (wordsV x).length ≤ 66 := by
  unfold wordsV
  rcases right_kind h with hk | hk | hk | hk | hk
  · rw [if_pos hk]; have := right_one h hk; simp; omega
  · rw [if_neg (by omega), if_pos hk]; simp
  · rw [if_neg (by omega), if_neg (by omega), if_pos hk]; simp
  · rw [if_neg (by omega), if_neg (by omega), if_neg (by omega), if_pos hk]; simp
  · rw [if_neg (by omega), if_neg (by omega), if_neg (by omega), if_neg (by omega)]; have := right_five h hk; simp; omega
theorem line_len {x : EvE} (h : rightV x = true) (hf : x.fine) : (lineV x).length ≤ 3000 := by
  have h1 := join_len (words_30 hf)
  have h2 := words_most h
  unfold lineV
  simp only [List.length_append, List.length_cons, List.length_nil]
  omega
theorem join_own {w0 W : World} {G n c : Nat} {ws : List (List UInt8)} (h : W.ownsRow w0.heap.size 9 1 (.slice (some ⟨G, 0, none⟩) n c) n ((strL' ws).flatMap strC)) (hn : ws.length = n) (hw : ∀ x ∈ ws, x.length ≤ 30) (h1 : n ≤ 1000) :
    Calls Tryd.prog 51 #[.slice (some ⟨G, 0, none⟩) n c, .string ⟨#[32]⟩] W fun e w' => e = .returned (.string ⟨(Lib.join ws [32]).toArray⟩) ∧ Below W.heap.size W w' := by
  have hl : (strL' ws).length = n := by unfold strL'; rw [List.length_map, hn]
  obtain ⟨g, cap, cur, hv, hb, hg, hcap, _⟩ : ∃ g cap cur, Value.slice (some ⟨G, 0, none⟩) n c = .slice (some ⟨g, 0, none⟩) n cap ∧ w0.heap.size ≤ g ∧ W.heap[g]? = some (.cells cur 9 (0, 0)) ∧ n ≤ cap ∧ cap ≤ maxLen := by
    rcases h.2 with ⟨h1, _⟩ | ⟨g, cap, cur, h1, hb, h3, h4, h5, _⟩
    · cases h1
    · exact ⟨g, cap, cur, h1, hb, h3, h4, h5⟩
  injection hv with hA _ hc
  injection hA with hA
  injection hA with hA
  subst hA hc
  have := Tryd.strings_Join G 0 c (strL' ws) ⟨#[32]⟩ W (fun j x hx => by
    have hj : j < (strL' ws).length := (List.getElem?_eq_some_iff.1 hx).1
    rw [Nat.zero_add, h.cellAt _ (by omega), flat_str, List.getElem?_map, hx]; rfl) (Array.getElem?_eq_some_iff.1 hg).1 (by omega) (by omega) (by
    have := join_len hw
    rw [show (strL' ws).map (·.data.toList) = ws from wordL_str ws]
    show (Lib.join ws [32]).length ≤ _
    omega)
  rw [hl, show (strL' ws).map (·.data.toList) = ws from wordL_str ws] at this
  exact this
theorem str_push' (ls : List (List UInt8)) (x : List UInt8) : (strL' (ls ++ [x])).flatMap strC = (strL' ls).flatMap strC ++ (#[.string ⟨x.toArray⟩] : Array Value).toList := by
  unfold strL'
  rw [List.map_append, List.flatMap_append]
  rfl
theorem str_two {a b : ByteArray} : ∀ u ∈ (#[.string a, .string b] : Array Value).toList, u.oneCell' = true := by
  intro u hu
  simp only [List.mem_cons, List.not_mem_nil, or_false] at hu
  rcases hu with rfl | rfl <;> rfl
theorem line_add (J : List UInt8) : (⟨J.toArray⟩ : ByteArray) ++ ⟨#[10]⟩ = ⟨(J ++ [10]).toArray⟩ := str_append _ [10]

set_option maxRecDepth 100000 in
set_option maxHeartbeats 8000000 in
theorem line_any (x : EvE) (R C : Sl) (D : Nat → Prop) (w : World) (hx : EvOf D w x R C) (hr : rightV x = true) (hT : Tab w) (hG : tabG < w.heap.size) :
    Calls Tryd.prog 41 #[x.val R C] w fun e w' => e = .returned (.string ⟨(lineV x).toArray⟩) ∧ Below w.heap.size w w' := by
  obtain ⟨i0, z0, hi0, hz0, hs0, hb0, hc0⟩ := info_string
  have hfn := ev_fine hx
  have h30 := words_30 hfn
  have h66 := words_most hr
  have hln : lineV x = Lib.join (wordsV x) [32] ++ [10] := rfl
  have hit := fun (v : Int) (hv : I64 v) W (hb : Below w.heap.size w W) => itoa_any v hv W (hT.below hb hG)
  have hIn := fun W (hb : Below w.heap.size w W) => (ints_at hx.row).keep hb
  have hBy := fun W (hb : Below w.heap.size w W) => (bytes_at hx.ch).keep hb
  have hjl := join_len h30
  have hnum := hx.num
  have hfr := hx.fr
  have hfc := hx.fc
  replace hit := hid hit
  replace hIn := hid hIn
  replace hBy := hid hBy
  have hcase := right_kind hr
  have q1 := fun h => right_one hr h
  have q2 := fun h => right_two hr h
  have q3 := fun h => right_three hr h
  have q5 := fun h => right_five hr h
  obtain ⟨k, n, row, ch⟩ := x
  obtain ⟨A, a⟩ := R
  obtain ⟨B, b⟩ := C
  dsimp only at hcase q1 q2 q3 q5 hit hIn hBy hnum hfr hfc
  simp only [EvE.val, Sl.v, Sl.fits, maxLen] at *
  have hr1 : (row.length : Int) ≤ 9223372036854775807 := by omega
  have hc1 : (ch.length : Int) ≤ 9223372036854775807 := by omega
  obtain ⟨r, hrl⟩ : ∃ r, row.length = r := ⟨_, rfl⟩
  obtain ⟨c, hcl⟩ : ∃ c, ch.length = c := ⟨_, rfl⟩
  rw [hrl] at hr1
  rw [hcl] at hc1
  rw [hrl, hcl]
  clear hx hr hfr hfc hT
  have f_0 := (Fr.start0 w).alloc (.cells #[.int .i64 k, .int .i64 n, .slice A r a, .slice B c b] 40)
  go_enter Tryd.func41, Tryd.ntmps41
  go_upto_region 1 with fail
  generalize w.alloc (.cells #[.int .i64 k, .int .i64 n, .slice A r a, .slice B c b] 40) = W at *
  generalize w.heap.size = X at f_0 ⊢
  replace f_0 := f_0.nilRow 9 1
  rcases hcase with rfl | rfl | rfl | rfl | rfl
  · obtain ⟨g1, g2, g3, g4⟩ := q1 rfl
    clear q1 q2 q3 q5
    obtain ⟨x0, x1, x2, x3, -⟩ := blk4 f_0.rot1.blk
    have f_1 := f_0.alloc (.cells #[.string ⟨sSubmit.toArray⟩] 9)
    unfold sSubmit at f_1
    go_wp2_with (at_builtin; refine Fr.wpApp (f_1) rfl _ _ _ rfl Tryd.underlying68 hi0 hz0 hs0 hb0 hc0 (by decide) rfl rfl rfl str_one (by decide) (by unfold maxLen; omega) (by omega) ?_; intro G cap W1 f_2; clear x0 x1 x2 x3; obtain ⟨x0, x1, x2, x3, -⟩ := blk4 f_2.rot2.blk)
    have f_3 := f_2.sub (List.Sublist.cons_cons _ (List.sublist_cons_self _ _))
    clear f_0 f_1 f_2
    have hst : (([] : List Value) ++ (#[.string ⟨#[115, 117, 98, 109, 105, 116]⟩] : Array Value).toList) = (strL' (sSubmit :: (row.take 0).map Lib.itoa)).flatMap strC := rfl
    rw [hst] at f_3
    clear hst
    go_loopw [3, 5, 43] (fun o _ i wr => ∃ (j G c2 : Nat), j ≤ r ∧ i = .int .i64 j ∧ o = .slice (some ⟨G, 0, none⟩) (j + 1) c2 ∧ Fr none (fun _ => True) w wr [rowK w 9 1 (.slice (some ⟨G, 0, none⟩) (j + 1) c2) (j + 1) ((strL' (sSubmit :: (row.take j).map Lib.itoa)).flatMap strC), blkK X (.cells #[.int .i64 1, .int .i64 n, .slice A r a, .slice B c b] 40 (0, 0))]) (fun _ _ i _ => r - (intOf i).toNat)
    case atStart => exact ⟨0, G, cap, Nat.zero_le _, rfl, rfl, f_3⟩
    case round =>
      clear f_3 x0 x1 x2 x3
      obtain ⟨j, G2, c2, hj, rfl, rfl, f⟩ := hrel
      by_cases hlt : j < r
      · have hjl : j < row.length := by omega
        obtain ⟨bb, oo, rfl, hce⟩ := hIn.out wr f.low j hjl
        have hj0 : (0 : Int) ≤ (j : Int) := by omega
        have hj1 : (j : Int) < (r : Int) := by omega
        have hitv := hid (hit.out row[j] (hfn.2 _ (List.getElem_mem hjl)))
        have hws : (strL' (sSubmit :: (row.take (j + 1)).map Lib.itoa)).flatMap strC = (strL' (sSubmit :: (row.take j).map Lib.itoa)).flatMap strC ++ (#[.string ⟨(Lib.itoa row[j]).toArray⟩] : Array Value).toList := by
          rw [List.take_succ_eq_append_getElem hjl, List.map_append, ← List.cons_append]
          exact str_push' _ _
        replace hws := hid hws
        generalize row[j] = v at *
        go_wp2_with fail
        refine (hitv.out wr f.low).mono ?_
        rintro r2 W2 ⟨rfl, hb2⟩
        have f_4 := f.below hb2
        clear hb2 f hce
        have f_5 := f_4.alloc (.cells #[.string ⟨(Lib.itoa v).toArray⟩] 9)
        go_wp2_with (at_builtin; refine Fr.wpApp (f_5) rfl _ _ _ rfl Tryd.underlying68 hi0 hz0 hs0 hb0 hc0 (by decide) rfl rfl rfl str_one (by decide) (by unfold maxLen; omega) (by omega) ?_; intro G3 cap3 W3 f_6)
        have f_7 := f_6.sub (List.Sublist.cons_cons _ (List.sublist_cons_self _ _))
        go_roundw
        case rel => exact ⟨j + 1, G3, cap3, by omega, by go_num, rfl, by rw [hws.out]; exact f_7⟩
        case measure => simp [intOf]; omega
      · have hje : j = r := by omega
        subst hje
        have hall : sSubmit :: (row.take j).map Lib.itoa = wordsV ⟨1, n, row, ch⟩ := by rw [← hrl, List.take_length]; rfl
        rw [hall] at f
        have hszn : (wordsV ⟨1, n, row, ch⟩).length ≤ 70 := by
          have := (show (wordsV ⟨1, n, row, ch⟩).length = j + 1 by rw [← hall]; simp; omega)
          omega
        have hsz : (Lib.join (wordsV ⟨1, n, row, ch⟩) [32]).length ≤ 3000 := by
          have := join_len (ws := wordsV ⟨1, n, row, ch⟩) h30
          omega
        clear hszn
        have hjo := hid (join_own (w0 := w) (ws := wordsV ⟨1, n, row, ch⟩) (f).head.q (show (wordsV ⟨1, n, row, ch⟩).length = j + 1 by rw [← hall]; simp; omega) h30 (by omega))
        go_wp2_with fail
        refine hjo.out.mono ?_
        rintro r9 W9 ⟨rfl, hb9⟩
        have f_9 := (f).below hb9
        clear hb9 hjo
        generalize hJ : Lib.join (wordsV ⟨1, n, row, ch⟩) [32] = J at *
        replace hJ := hid hJ
        go_wp2_with fail
        go_ret
        exact ⟨by rw [line_add, ← hJ.out]; rfl, f_9.low⟩
  · obtain ⟨g1, g2, g3⟩ := q2 (.inl rfl)
    clear q1 q2 q3 q5
    obtain ⟨x0, x1, x2, x3, -⟩ := blk4 f_0.rot1.blk
    have hitv := hid (hit.out n hnum)
    go_wp2_with fail
    refine (hitv.out W f_0.low).mono ?_
    rintro r2 W2 ⟨rfl, hb2⟩
    have f_4 := f_0.below hb2
    clear hb2 f_0 x0 x1 x2 x3
    have f_5 := f_4.alloc (.cells #[.string ⟨#[114, 117, 110]⟩, .string ⟨(Lib.itoa n).toArray⟩] 9)
    go_wp2_with (at_builtin; refine Fr.wpApp (f_5) rfl _ _ _ rfl Tryd.underlying68 hi0 hz0 hs0 hb0 hc0 (by decide) rfl rfl rfl str_two (by decide) (by unfold maxLen; omega) (by omega) ?_; intro G cap W1 f_2)
    have f_3 : Fr none (fun _ => True) w W1 [rowK w 9 1 (.slice (some ⟨G, 0, none⟩) 2 cap) 2 ((strL' [sRun, Lib.itoa n]).flatMap strC)] := f_2.sub (List.Sublist.cons_cons _ (List.nil_sublist _))
    have hwv : wordsV ⟨2, n, row, ch⟩ = [sRun, Lib.itoa n] := by simp [wordsV]
    have hszn : ([sRun, Lib.itoa n]).length ≤ 70 := by
      have := (show ([sRun, Lib.itoa n]).length ≤ 2 by simp)
      omega
    have hsz : (Lib.join ([sRun, Lib.itoa n]) [32]).length ≤ 3000 := by
      have := join_len (ws := [sRun, Lib.itoa n]) (by rw [← hwv]; exact h30)
      omega
    clear hszn
    have hjo := hid (join_own (w0 := w) (ws := [sRun, Lib.itoa n]) (f_3).head.q rfl (by rw [← hwv]; exact h30) (by omega))
    go_wp2_with fail
    refine hjo.out.mono ?_
    rintro r9 W9 ⟨rfl, hb9⟩
    have f_9 := (f_3).below hb9
    clear hb9 hjo
    generalize hJ : Lib.join ([sRun, Lib.itoa n]) [32] = J at *
    replace hJ := hid hJ
    go_wp2_with fail
    go_ret
    exact ⟨by rw [line_add, ← hJ.out, ← hwv]; rfl, f_9.low⟩
  · obtain ⟨g1, g2, g3⟩ := q3 rfl
    clear q1 q2 q3 q5
    obtain ⟨x0, x1, x2, x3, -⟩ := blk4 f_0.rot1.blk
    have f_1 := f_0.alloc (.cells #[.string ⟨#[115, 97, 118, 101]⟩] 9)
    go_wp2_with (at_builtin; refine Fr.wpApp (f_1) rfl _ _ _ rfl Tryd.underlying68 hi0 hz0 hs0 hb0 hc0 (by decide) rfl rfl rfl str_one (by decide) (by unfold maxLen; omega) (by omega) ?_; intro G cap W1 f_2)
    have f_3 : Fr none (fun _ => True) w W1 [rowK w 9 1 (.slice (some ⟨G, 0, none⟩) 1 cap) 1 ((strL' [sSave]).flatMap strC)] := f_2.sub (List.Sublist.cons_cons _ (List.nil_sublist _))
    have hwv : wordsV ⟨3, n, row, ch⟩ = [sSave] := by simp [wordsV]
    have hszn : ([sSave]).length ≤ 70 := by
      have := (show ([sSave]).length ≤ 2 by simp)
      omega
    have hsz : (Lib.join ([sSave]) [32]).length ≤ 3000 := by
      have := join_len (ws := [sSave]) (by rw [← hwv]; exact h30)
      omega
    clear hszn
    have hjo := hid (join_own (w0 := w) (ws := [sSave]) (f_3).head.q rfl (by rw [← hwv]; exact h30) (by omega))
    go_wp2_with fail
    refine hjo.out.mono ?_
    rintro r9 W9 ⟨rfl, hb9⟩
    have f_9 := (f_3).below hb9
    clear hb9 hjo
    generalize hJ : Lib.join ([sSave]) [32] = J at *
    replace hJ := hid hJ
    go_wp2_with fail
    go_ret
    exact ⟨by rw [line_add, ← hJ.out, ← hwv]; rfl, f_9.low⟩
  · obtain ⟨g1, g2, g3⟩ := q2 (.inr rfl)
    clear q1 q2 q3 q5
    obtain ⟨x0, x1, x2, x3, -⟩ := blk4 f_0.rot1.blk
    have hitv := hid (hit.out n hnum)
    go_wp2_with fail
    refine (hitv.out W f_0.low).mono ?_
    rintro r2 W2 ⟨rfl, hb2⟩
    have f_4 := f_0.below hb2
    clear hb2 f_0 x0 x1 x2 x3
    have f_5 := f_4.alloc (.cells #[.string ⟨#[99, 117, 116]⟩, .string ⟨(Lib.itoa n).toArray⟩] 9)
    go_wp2_with (at_builtin; refine Fr.wpApp (f_5) rfl _ _ _ rfl Tryd.underlying68 hi0 hz0 hs0 hb0 hc0 (by decide) rfl rfl rfl str_two (by decide) (by unfold maxLen; omega) (by omega) ?_; intro G cap W1 f_2)
    have f_3 : Fr none (fun _ => True) w W1 [rowK w 9 1 (.slice (some ⟨G, 0, none⟩) 2 cap) 2 ((strL' [sCut, Lib.itoa n]).flatMap strC)] := f_2.sub (List.Sublist.cons_cons _ (List.nil_sublist _))
    have hwv : wordsV ⟨4, n, row, ch⟩ = [sCut, Lib.itoa n] := by simp [wordsV]
    have hszn : ([sCut, Lib.itoa n]).length ≤ 70 := by
      have := (show ([sCut, Lib.itoa n]).length ≤ 2 by simp)
      omega
    have hsz : (Lib.join ([sCut, Lib.itoa n]) [32]).length ≤ 3000 := by
      have := join_len (ws := [sCut, Lib.itoa n]) (by rw [← hwv]; exact h30)
      omega
    clear hszn
    have hjo := hid (join_own (w0 := w) (ws := [sCut, Lib.itoa n]) (f_3).head.q rfl (by rw [← hwv]; exact h30) (by omega))
    go_wp2_with fail
    refine hjo.out.mono ?_
    rintro r9 W9 ⟨rfl, hb9⟩
    have f_9 := (f_3).below hb9
    clear hb9 hjo
    generalize hJ : Lib.join ([sCut, Lib.itoa n]) [32] = J at *
    replace hJ := hid hJ
    go_wp2_with fail
    go_ret
    exact ⟨by rw [line_add, ← hJ.out, ← hwv]; rfl, f_9.low⟩
  · obtain ⟨g1, g2, g3⟩ := q5 rfl
    clear q1 q2 q3 q5
    obtain ⟨x0, x1, x2, x3, -⟩ := blk4 f_0.rot1.blk
    have f_1 := f_0.alloc (.cells #[.string ⟨#[99, 114, 97, 115, 104]⟩, .string ⟨#[45]⟩] 9)
    by_cases hn0 : 0 ≤ n
    · go_wp2_with (at_builtin; refine Fr.wpApp (f_1) rfl _ _ _ rfl Tryd.underlying68 hi0 hz0 hs0 hb0 hc0 (by decide) rfl rfl rfl str_two (by decide) (by unfold maxLen; omega) (by omega) ?_; intro G cap W1 f_2; clear x0 x1 x2 x3; obtain ⟨x0, x1, x2, x3, -⟩ := blk4 f_2.rot2.blk)
      have f_3 := f_2.sub (List.Sublist.cons_cons _ (List.sublist_cons_self _ _))
      clear f_0 f_1 f_2
      have hitv := hid (hit.out n hnum)
      refine (hitv.out W1 f_3.low).mono ?_
      rintro r2 W2 ⟨rfl, hb2⟩
      have f_4 := f_3.below hb2
      clear hb2 f_3 x0 x1 x2 x3
      obtain ⟨G', hG', cur, hcur⟩ := row_some f_4.head.q (by omega)
      injection hG' with hG'
      injection hG' with hG'
      subst hG'
      have cw : W2.cell? ⟨G, 1, none⟩ = some (.string ⟨#[45]⟩) := f_4.head.q.cellAt 1 (by omega)
      have fw : W2.frozen? ⟨G, 1, none⟩ = false := frozen_none hcur
      go_upto_region 6 with fail
      have f_5 : Fr none (fun _ => True) w (W2.setCell ⟨G, 1, none⟩ (.string ⟨(Lib.itoa n).toArray⟩)) [rowK w 9 1 (.slice (some ⟨G, 0, none⟩) 2 cap) 2 ((strL' [sCrash, Lib.itoa n]).flatMap strC), blkK X (.cells #[.int .i64 5, .int .i64 n, .slice A r a, .slice B c b] 40 (0, 0))] := f_4.setRow 1 _
      clear f_4 cw fw hcur
      generalize W2.setCell ⟨G, 1, none⟩ (.string ⟨(Lib.itoa n).toArray⟩) = W3 at *
      have hst : (strL' (sCrash :: Lib.itoa n :: (ch.take 0).map byteT)).flatMap strC = _ := rfl
      obtain ⟨x0, x1, x2, x3, -⟩ := blk4 (f_5).rot1.blk
      have hfW := hid (f_5)
      go_wp2_with fail
      go_loopw [3, 7, 24] (fun o _ i wr => ∃ (j G c2 : Nat), j ≤ c ∧ i = .int .i64 j ∧ o = .slice (some ⟨G, 0, none⟩) (j + 2) c2 ∧ Fr none (fun _ => True) w wr [rowK w 9 1 (.slice (some ⟨G, 0, none⟩) (j + 2) c2) (j + 2) ((strL' (sCrash :: Lib.itoa n :: (ch.take j).map byteT)).flatMap strC), blkK X (.cells #[.int .i64 5, .int .i64 n, .slice A r a, .slice B c b] 40 (0, 0))]) (fun _ _ i _ => c - (intOf i).toNat)
      case atStart => exact ⟨0, G, cap, Nat.zero_le _, rfl, rfl, hfW.out⟩
      case round =>
        clear hfW f_5 x0 x1 x2 x3
        obtain ⟨j, G2, c2, hj, rfl, rfl, f⟩ := hrel
        by_cases hlt : j < c
        · have hjl : j < ch.length := by omega
          obtain ⟨bb, oo, rfl, hce⟩ := hBy.out wr f.low j hjl
          have hj0 : (0 : Int) ≤ (j : Int) := by omega
          have hj1 : (j : Int) < (c : Int) := by omega
          have hu := (ch[j]).toNat_lt
          have hitv := hid (hit.out ((ch[j]).toNat : Int) (byte_ok _).2)
          have hws : (strL' (sCrash :: Lib.itoa n :: (ch.take (j + 1)).map byteT)).flatMap strC = (strL' (sCrash :: Lib.itoa n :: (ch.take j).map byteT)).flatMap strC ++ (#[.string ⟨(Lib.itoa ((ch[j]).toNat : Int)).toArray⟩] : Array Value).toList := by
            rw [List.take_succ_eq_append_getElem hjl, List.map_append, ← List.cons_append, ← List.cons_append]
            exact str_push' _ _
          replace hws := hid hws
          generalize (ch[j]).toNat = v at *
          have hv0 : (0 : Int) ≤ (v : Int) := by omega
          have hv1 : (v : Int) < 256 := by omega
          go_wp2_with fail
          refine (hitv.out wr f.low).mono ?_
          rintro r2 W2 ⟨rfl, hb2⟩
          have f_4 := f.below hb2
          clear hb2 f hce
          have f_5 := f_4.alloc (.cells #[.string ⟨(Lib.itoa (v : Int)).toArray⟩] 9)
          go_wp2_with (at_builtin; refine Fr.wpApp (f_5) rfl _ _ _ rfl Tryd.underlying68 hi0 hz0 hs0 hb0 hc0 (by decide) rfl rfl rfl str_one (by decide) (by unfold maxLen; omega) (by omega) ?_; intro G3 cap3 W3 f_6)
          have f_7 := f_6.sub (List.Sublist.cons_cons _ (List.sublist_cons_self _ _))
          go_roundw
          case rel => exact ⟨j + 1, G3, cap3, by omega, by go_num, rfl, by rw [hws.out]; exact f_7⟩
          case measure => simp [intOf]; omega
        · have hje : j = c := by omega
          subst hje
          have hall : sCrash :: Lib.itoa n :: (ch.take j).map byteT = wordsV ⟨5, n, row, ch⟩ := by rw [← hcl, List.take_length, show wordsV ⟨5, n, row, ch⟩ = sCrash :: Lib.itoa n :: ch.map byteT by simp [wordsV, hn0]]
          rw [hall] at f
          have hszn : (wordsV ⟨5, n, row, ch⟩).length ≤ 70 := by
            have := (show (wordsV ⟨5, n, row, ch⟩).length = j + 2 by rw [← hall]; simp; omega)
            omega
          have hsz : (Lib.join (wordsV ⟨5, n, row, ch⟩) [32]).length ≤ 3000 := by
            have := join_len (ws := wordsV ⟨5, n, row, ch⟩) h30
            omega
          clear hszn
          have hjo := hid (join_own (w0 := w) (ws := wordsV ⟨5, n, row, ch⟩) (f).head.q (show (wordsV ⟨5, n, row, ch⟩).length = j + 2 by rw [← hall]; simp; omega) h30 (by omega))
          go_wp2_with fail
          refine hjo.out.mono ?_
          rintro r9 W9 ⟨rfl, hb9⟩
          have f_9 := (f).below hb9
          clear hb9 hjo
          generalize hJ : Lib.join (wordsV ⟨5, n, row, ch⟩) [32] = J at *
          replace hJ := hid hJ
          go_wp2_with fail
          go_ret
          exact ⟨by rw [line_add, ← hJ.out]; rfl, f_9.low⟩
    · go_wp2_with (at_builtin; refine Fr.wpApp (f_1) rfl _ _ _ rfl Tryd.underlying68 hi0 hz0 hs0 hb0 hc0 (by decide) rfl rfl rfl str_two (by decide) (by unfold maxLen; omega) (by omega) ?_; intro G cap W1 f_2; clear x0 x1 x2 x3; obtain ⟨x0, x1, x2, x3, -⟩ := blk4 f_2.rot2.blk; go_upto_region 6 with fail)
      have f_5 : Fr none (fun _ => True) w W1 [rowK w 9 1 (.slice (some ⟨G, 0, none⟩) 2 cap) 2 ((strL' [sCrash, [45]]).flatMap strC), blkK X (.cells #[.int .i64 5, .int .i64 n, .slice A r a, .slice B c b] 40 (0, 0))] := f_2.sub (List.Sublist.cons_cons _ (List.sublist_cons_self _ _))
      clear f_0 f_1 f_2 x0 x1 x2 x3
      have hst : (strL' (sCrash :: [45] :: (ch.take 0).map byteT)).flatMap strC = _ := rfl
      obtain ⟨x0, x1, x2, x3, -⟩ := blk4 (f_5).rot1.blk
      have hfW := hid (f_5)
      go_wp2_with fail
      go_loopw [3, 7, 24] (fun o _ i wr => ∃ (j G c2 : Nat), j ≤ c ∧ i = .int .i64 j ∧ o = .slice (some ⟨G, 0, none⟩) (j + 2) c2 ∧ Fr none (fun _ => True) w wr [rowK w 9 1 (.slice (some ⟨G, 0, none⟩) (j + 2) c2) (j + 2) ((strL' (sCrash :: [45] :: (ch.take j).map byteT)).flatMap strC), blkK X (.cells #[.int .i64 5, .int .i64 n, .slice A r a, .slice B c b] 40 (0, 0))]) (fun _ _ i _ => c - (intOf i).toNat)
      case atStart => exact ⟨0, G, cap, Nat.zero_le _, rfl, rfl, hfW.out⟩
      case round =>
        clear hfW f_5 x0 x1 x2 x3
        obtain ⟨j, G2, c2, hj, rfl, rfl, f⟩ := hrel
        by_cases hlt : j < c
        · have hjl : j < ch.length := by omega
          obtain ⟨bb, oo, rfl, hce⟩ := hBy.out wr f.low j hjl
          have hj0 : (0 : Int) ≤ (j : Int) := by omega
          have hj1 : (j : Int) < (c : Int) := by omega
          have hu := (ch[j]).toNat_lt
          have hitv := hid (hit.out ((ch[j]).toNat : Int) (byte_ok _).2)
          have hws : (strL' (sCrash :: [45] :: (ch.take (j + 1)).map byteT)).flatMap strC = (strL' (sCrash :: [45] :: (ch.take j).map byteT)).flatMap strC ++ (#[.string ⟨(Lib.itoa ((ch[j]).toNat : Int)).toArray⟩] : Array Value).toList := by
            rw [List.take_succ_eq_append_getElem hjl, List.map_append, ← List.cons_append, ← List.cons_append]
            exact str_push' _ _
          replace hws := hid hws
          generalize (ch[j]).toNat = v at *
          have hv0 : (0 : Int) ≤ (v : Int) := by omega
          have hv1 : (v : Int) < 256 := by omega
          go_wp2_with fail
          refine (hitv.out wr f.low).mono ?_
          rintro r2 W2 ⟨rfl, hb2⟩
          have f_4 := f.below hb2
          clear hb2 f hce
          have f_5 := f_4.alloc (.cells #[.string ⟨(Lib.itoa (v : Int)).toArray⟩] 9)
          go_wp2_with (at_builtin; refine Fr.wpApp (f_5) rfl _ _ _ rfl Tryd.underlying68 hi0 hz0 hs0 hb0 hc0 (by decide) rfl rfl rfl str_one (by decide) (by unfold maxLen; omega) (by omega) ?_; intro G3 cap3 W3 f_6)
          have f_7 := f_6.sub (List.Sublist.cons_cons _ (List.sublist_cons_self _ _))
          go_roundw
          case rel => exact ⟨j + 1, G3, cap3, by omega, by go_num, rfl, by rw [hws.out]; exact f_7⟩
          case measure => simp [intOf]; omega
        · have hje : j = c := by omega
          subst hje
          have hall : sCrash :: [45] :: (ch.take j).map byteT = wordsV ⟨5, n, row, ch⟩ := by rw [← hcl, List.take_length, show wordsV ⟨5, n, row, ch⟩ = sCrash :: [45] :: ch.map byteT by unfold wordsV; dsimp only; rw [if_neg (by decide), if_neg (by decide), if_neg (by decide), if_neg (by decide), if_neg (by omega)]]
          rw [hall] at f
          have hszn : (wordsV ⟨5, n, row, ch⟩).length ≤ 70 := by
            have := (show (wordsV ⟨5, n, row, ch⟩).length = j + 2 by rw [← hall]; simp; omega)
            omega
          have hsz : (Lib.join (wordsV ⟨5, n, row, ch⟩) [32]).length ≤ 3000 := by
            have := join_len (ws := wordsV ⟨5, n, row, ch⟩) h30
            omega
          clear hszn
          have hjo := hid (join_own (w0 := w) (ws := wordsV ⟨5, n, row, ch⟩) (f).head.q (show (wordsV ⟨5, n, row, ch⟩).length = j + 2 by rw [← hall]; simp; omega) h30 (by omega))
          go_wp2_with fail
          refine hjo.out.mono ?_
          rintro r9 W9 ⟨rfl, hb9⟩
          have f_9 := (f).below hb9
          clear hb9 hjo
          generalize hJ : Lib.join (wordsV ⟨5, n, row, ch⟩) [32] = J at *
          replace hJ := hid hJ
          go_wp2_with fail
          go_ret
          exact ⟨by rw [line_add, ← hJ.out]; rfl, f_9.low⟩
end Go.Proofs.YtmdnmodjdgcmjaaDoor
