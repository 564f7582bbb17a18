/-
  The walk of the reference's Scan.
-/
import Derived.Test.YtnlikhjmmnaknaaDoorROne2
namespace Go.Proofs.YtnlikhjmmnaknaaDoor
open Go.RowKit

/-- where the reference's Scan stands: the fault's variable, the tokens so far -/
structure RScanW (w W : World) (s : ByteArray) (v : Value) (l : List Tk) : Prop where
  res : W.heap[w.heap.size]? = some (.cells #[.int .i64 0, .int .i64 0, .int .i64 0] 67 (0, 0))
  below : Below w.heap.size w W
  size : w.heap.size < W.heap.size
  own : W.ownsRow (w.heap.size + 1) 82 5 v l.length (l.flatMap (Tk.cells s))
section
variable {w W W' : World} {s : ByteArray} {v : Value} {l : List Tk}
theorem RScanW.then (h : RScanW w W s v l) (hb : Below W.heap.size W W') : RScanW w W' s v l :=
  ⟨(hb.block _ h.size).trans h.res, h.below.trans (hb.mono h.below.size), Nat.lt_of_lt_of_le h.size hb.size, h.own.kept (w' := W') (row := none) ⟨hb.os, hb.tape, hb.output, hb.size, fun i hi _ => hb.block i hi⟩ (by cases v.ownBlock <;> simp)⟩
theorem RScanW.alloc (h : RScanW w W s v l) (o : Obj) : RScanW w (W.alloc o) s v l := h.then ((Below.refl _ _).alloc (Nat.le_refl _) o)
theorem RScanW.drewN (h : RScanW w W s v l) (n : Nat) : RScanW w (W.drewN n) s v l := h.then ⟨rfl, rfl, rfl, Nat.le_refl _, fun _ _ => rfl⟩
theorem RScanW.appended {v' : Value} {l' : List Tk} (h : RScanW w W s v l) (hown : W'.ownsRow (w.heap.size + 1) 82 5 v' l'.length (l'.flatMap (Tk.cells s))) (hc : W.grownBy W' v.ownBlock) : RScanW w W' s v' l' :=
  ⟨(hc.block _ h.size (fun e => by have := (h.own.lt _ e.symm).1; omega)).trans h.res,
    h.below.grown hc (by have := h.size; omega) (fun k e => by have := (h.own.lt _ e).1; omega), Nat.lt_of_lt_of_le h.size hc.size, hown⟩
theorem RScanW.rcells (h : RScanW w W s v l) : W.cell? ⟨w.heap.size, 0, none⟩ = some (.int .i64 0) ∧ W.cell? ⟨w.heap.size, 1, none⟩ = some (.int .i64 0) ∧ W.cell? ⟨w.heap.size, 2, none⟩ = some (.int .i64 0) ∧ ∀ k, W.frozen? ⟨w.heap.size, k, none⟩ = false := by
  have := h.res
  refine ⟨?_, ?_, ?_, fun k => ?_⟩ <;> simp [World.cell?, World.frozen?, this]
theorem RScanW.form (h : RScanW w W s v l) : ∃ (A : Option Addr) (c : Nat), v = .slice A l.length c := by
  rcases h.own.2 with ⟨h1, h2⟩ | ⟨g, cap, cur, h1, _, h3, h4⟩
  · exact ⟨none, 0, by rw [h1, h2]⟩
  · exact ⟨some ⟨g, 0, none⟩, cap, h1⟩
end
/-- the fault written -/
theorem rfault_wrote {w W : World} {s : ByteArray} {v : Value} {l : List Tk} (h : RScanW w W s v l) (v0 v1 v2 : Value) :
    ∃ W', W' = (((W.setCell ⟨w.heap.size, 0, none⟩ v0).setCell ⟨w.heap.size, 1, none⟩ v1).setCell ⟨w.heap.size, 2, none⟩ v2) ∧
      (W'.cell? ⟨w.heap.size, 0, none⟩ = some v0 ∧ W'.cell? ⟨w.heap.size, 1, none⟩ = some v1 ∧ W'.cell? ⟨w.heap.size, 2, none⟩ = some v2) ∧ Below w.heap.size w W' ∧
      W'.ownsRow (w.heap.size + 1) 82 5 v l.length (l.flatMap (Tk.cells s)) := by
  have hb := blk_set (blk_set (blk_set h.res 0 v0) 1 v1) 2 v2
  simp only [List.setIfInBounds_toArray, List.set_cons_zero, List.set_cons_succ] at hb
  have hk : ∀ (W : World) (k : Nat) (u : Value), W.ownsRow (w.heap.size + 1) 82 5 v l.length (l.flatMap (Tk.cells s)) → (W.setCell ⟨w.heap.size, k, none⟩ u).ownsRow (w.heap.size + 1) 82 5 v l.length (l.flatMap (Tk.cells s)) := fun W k u ho =>
    ho.kept (chg_set W w.heap.size k u) (.inr (fun e => by have := (ho.lt _ e).1; omega))
  refine ⟨_, rfl, ⟨?_, ?_, ?_⟩, ((h.below.setCell (p := ⟨w.heap.size, 0, none⟩) (Nat.le_refl _) _).setCell (p := ⟨w.heap.size, 1, none⟩) (Nat.le_refl _) _).setCell (p := ⟨w.heap.size, 2, none⟩) (Nat.le_refl _) _, hk _ _ _ (hk _ _ _ (hk _ _ _ h.own))⟩ <;> (unfold World.cell?; rw [hb]; rfl)

/-- two cells of a new block, behind what was kept -/
theorem new_two {W W' : World} (a b : Value) (t : TypeId) (hb : Below (W.heap.size + 1) (W.alloc (.cells #[a, b] t)) W') :
    W'.cell? ⟨W.heap.size, 0, none⟩ = some a ∧ W'.cell? ⟨W.heap.size, 1, none⟩ = some b ∧ W.heap.size < W'.heap.size := by
  have h := (hb.block W.heap.size (by omega)).trans (World.alloc_heap_new W _)
  have hs := hb.size
  rw [World.size_alloc] at hs
  refine ⟨?_, ?_, by omega⟩ <;> simp [World.cell?, h]

theorem kept_block {W W' : World} {row : Option Nat} (hg : W.grownBy W' row) {b : Nat} {o : Obj} (h : W.heap[b]? = some o) (hne : some b ≠ row) : W'.heap[b]? = some o := (hg.block b (Array.getElem?_eq_some_iff.1 h).1 hne).trans h
theorem rover_at (s : ByteArray) (m : Nat) (x : Int) (w : World) (hx : x = m) (hi : m ≤ s.size) (hs : s.size ≤ 1000000) :
    Calls Tryd.prog 41 #[.string s, .int .i64 x] w fun r w' => r = .returned (.int .i64 (over s m : Nat)) ∧ w = w' := by
  subst hx; exact rover_any s m w hi hs
theorem text_size {s : ByteArray} {j : Nat} (h : j < s.size) : (textOf s j (tokLen s j)).size = tokLen s j := by
  have := tok_le h
  unfold textOf
  rw [size_extract' s j _ this]; omega

set_option maxRecDepth 100000 in
set_option maxHeartbeats 4000000 in
theorem rscan_any (s : ByteArray) (w : World) (hs : s.size ≤ maxLen) : Calls Tryd.prog 26 #[.string s] w (Scanned s w) := by
  unfold maxLen at hs
  obtain ⟨i0, hi0, hz0, hz1, hz2⟩ : ∃ i0, Tryd.prog.info? 82 = some i0 ∧ i0.zero = some (.agg #[.int .i64 0, .string ⟨#[]⟩, .int .i64 0, .int .i64 0, .int .i64 0]) ∧ i0.size = 5 ∧ i0.bytes = 48 := by
    have hi := Token.info
    cases h : Tryd.prog.info? 82 with
    | none => rw [h] at hi; cases hi
    | some i0 => rw [h] at hi; simp only [Option.map_some, Option.some.injEq, Prod.mk.injEq] at hi; exact ⟨i0, rfl, hi.1, hi.2.1, hi.2.2⟩
  have hW0 : RScanW w (w.alloc (.cells #[.int .i64 0, .int .i64 0, .int .i64 0] 67)) s (.slice none 0 0) [] :=
    ⟨World.alloc_heap_new w _, (Below.refl _ _).alloc (Nat.le_refl _) _, by simp, World.ownsRow_nil _ _ _ _⟩
  have HW := hid hW0
  clear hW0
  by_cases hbig : 16384 < s.size
  · have HS : Hid (scanOf s = .bad 3 0) := by show _ = _; unfold scanOf; rw [if_pos hbig]
    go_enter Tryd.func26, Tryd.ntmps26
    go_wp2_with fail
    refine bodyPost_ret (v := .tuple #[.slice none 0 0, .agg #[.int .i64 3, .int .i64 1, .int .i64 1]]) (by simp [results, Tryd.results26, go_sem]) rfl ⟨(Below.refl _ _).alloc (Nat.le_refl _) _, ?_⟩
    rw [HS.out]
    rfl
  · have HS : Hid (scanOf s = scanGo s (s.size + 1) 0 0 []) := by show _ = _; unfold scanOf; rw [if_neg hbig]
    go_enter Tryd.func26, Tryd.ntmps26
    go_wp2_with (go_at_call 41; refine (rover_any s 0 _ (Nat.zero_le _) (by omega)).mono ?_; rintro r w1 ⟨rfl, rfl⟩)
    have hW := HW.out
    clear HW
    generalize (w.alloc (.cells #[.int .i64 0, .int .i64 0, .int .i64 0] 67)) = W at *
    go_loopg [4, 5, 6, 7, 8] (s.size + 1) (fun k v x _ _ _ wr => ∃ (i : Nat) (l : List Tk), i ≤ s.size ∧ s.size + 1 ≤ i + k ∧ l.length ≤ 4096 ∧ x = .int .i64 (over s i : Nat) ∧ RScanW w wr s v l ∧ Hid (scanOf s = scanGo s k l.length i l))
    case atStart => exact ⟨0, [], by omega, by omega, by simp, rfl, hW, HS⟩
    case round =>
      obtain ⟨i, l, hi, hk, hl, rfl, hW1, HG⟩ := hrel
      obtain ⟨hov1, hov2⟩ := over_le s i hi
      obtain ⟨A, c, rfl⟩ := hW1.form
      obtain ⟨r0, r1, r2, rf⟩ := hW1.rcells
      have hz := hW1.size
      by_cases hend : over s i = s.size
      · have HR : Hid (scanOf s = .toks (l ++ [tkEnd s.size])) := by
          show _ = _
          rw [HG.out]
          match gk with
          | 0 => omega
          | k + 1 => unfold scanGo; rw [if_pos hend]
        rw [hend]
        clear hend
        have hpl := rplace_any s s.size wr (Nat.le_refl _) (by omega)
        have hb : Hid (l.length ≤ 4096) := hl
        have HT := hid (fun u hu => tk_one [tkEnd s.size] u (by simpa using hu) : ∀ u ∈ (tkEnd s.size).cells s, u.oneCell' = true)
        go_wp2_with (first
          | (go_at_call 42; refine hpl.mono ?_; rintro r w1 ⟨rfl, hb1⟩; have hW2 := hW1.then hb1; have hsz2 := hW2.size; clear hpl r0 r1 r2 rf; have hW3 := hW2.alloc (.cells (tkEnd s.size |>.cells s).toArray 82); have HN := hid (World.news_of_block (World.alloc_heap_new w1 (.cells (tkEnd s.size |>.cells s).toArray 82))); have hown := hW3.own)
          | (at_builtin; refine wpList_append_lies _ rfl _ _ _ rfl (w.heap.size + 1) 82 i0 _ 5 48 Tryd.underlying65 hi0 hz0 hz1 hz2 rfl (by omega) _ _ _ (by rfl) hown ⟨w1.heap.size, 0, none⟩ 1 1 ((tkEnd s.size).cells s) (by rfl) (by rfl) HN.out HT.out (by omega) (by unfold maxLen; omega) (by omega) (by rw [World.size_alloc]; omega) _ rfl ?_; intro g2 cap2 w2 hown2 hgrow2 hat2 hlt2; have hW4 : RScanW w w2 s (.slice (some ⟨g2, 0, none⟩) (l.length + 1) cap2) (l ++ [tkEnd s.size]) := hW3.appended (by simpa using hown2) hgrow2; obtain ⟨r0, r1, r2, rf⟩ := hW4.rcells))
        obtain ⟨Wf, hWf, ⟨q0, q1, q2⟩, hbf, hof⟩ := rfault_wrote hW4 (.int .i64 0) (.int .i64 0) (.int .i64 0)
        rw [← hWf]
        refine bodyPost_ret (v := .tuple #[.slice (some ⟨g2, 0, none⟩) (l.length + 1) cap2, .agg #[.int .i64 0, .int .i64 0, .int .i64 0]]) (by simp [results, Tryd.results26, go_sem, q0, q1, q2]) rfl ⟨hbf, ?_⟩
        rw [HR.out]
        have hln : (l ++ [tkEnd s.size]).length = l.length + 1 := by simp
        refine ⟨g2, cap2, by rw [hln], ?_⟩
        have := row_base hof (show w.heap.size ≤ w.heap.size + 1 by omega)
        rwa [hln] at this ⊢
      · have hlt : over s i < s.size := by omega
        have hi0' : (over s i : Int) < (s.size : Int) := by omega
        have hpl := rplace_any s (over s i) wr (by omega) (by omega)
        by_cases h4096 : l.length = 4096
        · have HR : Hid (scanOf s = .bad 3 (over s i)) := by
            show _ = _
            rw [HG.out]
            match gk with
            | 0 => omega
            | k + 1 => unfold scanGo; rw [if_neg hend, if_pos h4096]
          go_wp2_with (first | (go_at_call 42; refine hpl.mono ?_; rintro r w1 ⟨rfl, hb1⟩; have hW2 := hW1.then hb1; have hsz2 := hW2.size; clear hpl r0 r1 r2 rf; obtain ⟨r0, r1, r2, rf⟩ := hW2.rcells))
          have hW3 := hW2.alloc (.cells #[.int .i64 (place s (over s i)).1, .int .i64 (place s (over s i)).2] 24)
          have hnew := @new_two w1 _ (.int .i64 (place s (over s i)).1) (.int .i64 (place s (over s i)).2) 24 (Below.refl _ _)
          generalize w1.alloc (.cells #[.int .i64 (place s (over s i)).1, .int .i64 (place s (over s i)).2] 24) = w2 at *
          obtain ⟨p0, p1, _⟩ := hnew
          clear r0 r1 r2 rf
          obtain ⟨r0, r1, r2, rf⟩ := hW3.rcells
          have hne0 : w1.heap.size ≠ w.heap.size := by omega
          go_region
          go_wp2_with fail
          obtain ⟨Wf, hWf, ⟨q0, q1, q2⟩, hbf, hof⟩ := rfault_wrote hW3 (.int .i64 3) (.int .i64 (place s (over s i)).1) (.int .i64 (place s (over s i)).2)
          rw [← hWf]
          refine bodyPost_ret (v := .tuple #[.slice none 0 0, .agg #[.int .i64 3, .int .i64 (place s (over s i)).1, .int .i64 (place s (over s i)).2]]) (by simp [results, Tryd.results26, go_sem, q0, q1, q2]) rfl ⟨hbf.trans ⟨rfl, rfl, rfl, Nat.le_refl _, fun _ _ => rfl⟩, ?_⟩
          rw [HR.out]
        · have hone := one_any s (over s i)
          have htl := tok_le hlt
          have htp := hid (@tok_pos s (over s i) hlt)
          have HONE := hid hone
          clear hone
          cases hok : tokOk s (over s i) with
          | false =>
            have HOK := hid hok
            have HR : Hid (scanOf s = .bad 20 (over s i)) := by
              show _ = _
              rw [HG.out]
              match gk with
              | 0 => omega
              | k + 1 => unfold scanGo; rw [if_neg hend, if_neg h4096, if_neg (by rw [hok]; simp)]
            clear hok
            go_wp2_with (first
              | (go_at_call 42; refine hpl.mono ?_; rintro r w1 ⟨rfl, hb1⟩; have hW2 := hW1.then hb1; have hsz2 := hW2.size; clear hpl r0 r1 r2 rf; have hW3 := hW2.alloc (.cells #[.int .i64 (place s (over s i)).1, .int .i64 (place s (over s i)).2] 24))
              | (go_at_call 43; refine (HONE.out _ hlt (by omega)).mono ?_; rintro r w2 ⟨k, t, n, rfl, htk, hb2⟩; have hW4 := hW3.then hb2; rw [World.size_alloc] at hb2; obtain ⟨p0, p1, hz3⟩ := new_two _ _ _ hb2; clear hb2 htk; rw [HOK.out]))
            have hp : (w2.alloc (.cells #[.int .i64 k, .string t, .int .i64 n, .int .i64 0, .int .i64 0] 82)).cell? ⟨w1.heap.size, 0, none⟩ = some (.int .i64 (place s (over s i)).1) ∧ (w2.alloc (.cells #[.int .i64 k, .string t, .int .i64 n, .int .i64 0, .int .i64 0] 82)).cell? ⟨w1.heap.size, 1, none⟩ = some (.int .i64 (place s (over s i)).2) :=
              ⟨(World.cell?_alloc_lt w2 _ _ hz3).trans p0, (World.cell?_alloc_lt w2 _ _ hz3).trans p1⟩
            have hW5 := hW4.alloc (.cells #[.int .i64 k, .string t, .int .i64 n, .int .i64 0, .int .i64 0] 82)
            generalize w2.alloc (.cells #[.int .i64 k, .string t, .int .i64 n, .int .i64 0, .int .i64 0] 82) = w3 at *
            clear p0 p1
            obtain ⟨p0, p1⟩ := hp
            obtain ⟨r0, r1, r2, rf⟩ := hW5.rcells
            have hne0 : w1.heap.size ≠ w.heap.size := by omega
            go_region
            go_wp2_with fail
            obtain ⟨Wf, hWf, ⟨q0, q1, q2⟩, hbf, hof⟩ := rfault_wrote hW5 (.int .i64 20) (.int .i64 (place s (over s i)).1) (.int .i64 (place s (over s i)).2)
            rw [← hWf]
            refine bodyPost_ret (v := .tuple #[.slice none 0 0, .agg #[.int .i64 20, .int .i64 (place s (over s i)).1, .int .i64 (place s (over s i)).2]]) (by simp [results, Tryd.results26, go_sem, q0, q1, q2]) rfl ⟨hbf.trans ⟨rfl, rfl, rfl, Nat.le_refl _, fun _ _ => rfl⟩, ?_⟩
            rw [HR.out]
          | true =>
            have hpos := htp.out hok
            have HOK := hid hok
            have hln : (l ++ [tkAt s (over s i)]).length = l.length + 1 := by simp
            have HG2 : Hid (scanOf s = scanGo s (gk - 1) (l ++ [tkAt s (over s i)]).length (over s i + tokLen s (over s i)) (l ++ [tkAt s (over s i)])) := by
              show _ = _
              rw [HG.out, hln]
              match gk with
              | 0 => omega
              | k + 1 => conv => lhs; unfold scanGo
                         rw [if_neg hend, if_neg h4096, if_pos hok]; rfl
            clear hok HG hend
            have HT := hid (fun u hu => tk_one [tkAt s (over s i)] u (by simpa using hu) : ∀ u ∈ (tkAt s (over s i)).cells s, u.oneCell' = true)
            have hts := text_size hlt
            obtain ⟨m, hm⟩ : ∃ m, m = over s i + tokLen s (over s i) := ⟨_, rfl⟩
            rw [← hm] at HG2
            have hm1 : over s i < m := by omega
            have hm2 : m ≤ s.size := by omega
            have hsum : Hid (((over s i : Nat) : Int) + ((textOf s (over s i) (tokLen s (over s i))).size : Int) = (m : Int)) := by show _ = _; rw [hts]; omega
            have hts2 : (textOf s (over s i) (tokLen s (over s i))).size ≤ 16384 := by omega
            clear hts hm htl
            go_wp2_with (first
              | (go_at_call 42; refine hpl.mono ?_; rintro r w1 ⟨rfl, hb1⟩; have hW2 := hW1.then hb1; have hsz2 := hW2.size; clear hpl r0 r1 r2 rf; have hW3 := hW2.alloc (.cells #[.int .i64 (place s (over s i)).1, .int .i64 (place s (over s i)).2] 24))
              | (go_at_call 43; refine (HONE.out _ hlt (by omega)).mono ?_; rintro r w2 ⟨k, t, n, rfl, htk, hb2⟩; have hW4 := hW3.then hb2; rw [World.size_alloc] at hb2; obtain ⟨p0, p1, hz3⟩ := new_two _ _ _ hb2; clear hb2; rw [HOK.out]; obtain ⟨rfl, rfl, rfl⟩ := htk HOK.out; clear htk)
              | (at_builtin; have hW5 := (hW4.alloc (.cells ((tkAt s (over s i)).cells s).toArray 82)).alloc (.cells ((tkAt s (over s i)).cells s).toArray 82); have hT := World.alloc_heap_new (w2.alloc (.cells ((tkAt s (over s i)).cells s).toArray 82)) (.cells ((tkAt s (over s i)).cells s).toArray 82); rw [World.size_alloc] at hT; refine wpList_append_lies _ rfl _ _ _ rfl (w.heap.size + 1) 82 i0 _ 5 48 Tryd.underlying65 hi0 hz0 hz1 hz2 rfl (by omega) _ _ _ (by rfl) hW5.own ⟨w2.heap.size + 1, 0, none⟩ 1 1 ((tkAt s (over s i)).cells s) (by rfl) (by rfl) (World.news_of_block hT) HT.out (by omega) (by unfold maxLen; omega) (by omega) (by rw [World.size_alloc, World.size_alloc]; omega) _ rfl ?_; clear hT; intro g3 cap3 w3 hown3 hgrow3 hat3 hlt3; have hT1 := kept_block hgrow3 ((Below.heap_alloc _ _ w2.heap.size (by simp)).trans (World.alloc_heap_new w2 _)) (fun e => by have := (hW4.own.lt _ e.symm).2; omega); have t1 : w3.cell? ⟨w2.heap.size, 1, none⟩ = some (.string (textOf s (over s i) (tokLen s (over s i)))) := (by unfold World.cell?; rw [hT1]; rfl); have hW6 : RScanW w w3 s (.slice (some ⟨g3, 0, none⟩) (l.length + 1) cap3) (l ++ [tkAt s (over s i)]) := hW5.appended (by simpa using hown3) hgrow3; clear hT1 hown3 hgrow3 hat3 hlt3 hW5)
              | (go_at_call 41; with_reducible (refine (rover_at s m _ _ hsum.out hm2 (by omega)).mono ?_); rintro r w4 ⟨rfl, rfl⟩))
            go_roundg (gk - 1)
            case rel => exact ⟨m, l ++ [tkAt s (over s i)], hm2, by omega, by omega, rfl, hW6, HG2⟩
            case measure => omega
end Go.Proofs.YtnlikhjmmnaknaaDoor
