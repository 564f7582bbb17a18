/-
  The walk of Scan: a source's tokens.
-/
import Derived.Deep.AppendLies
import Derived.Test.YtnlikhjmmnaknaaDoorScan8
namespace Go.Proofs.YtnlikhjmmnaknaaDoor
open Go.RowKit

/-- a token: kind, text, number, where it begins -/
structure Tk where
  kind : Int
  text : ByteArray
  num : Int
  pos : Nat
/-- its cells -/
def Tk.cells (s : ByteArray) (t : Tk) : List Value := [.int .i64 t.kind, .string t.text, .int .i64 t.num, .int .i64 (place s t.pos).1, .int .i64 (place s t.pos).2]
/-- the token that begins at a byte -/
def tkAt (s : ByteArray) (j : Nat) : Tk := ⟨tokKind s j, textOf s j (tokLen s j), tokNum s j, j⟩
def tkEnd (j : Nat) : Tk := ⟨5, ⟨#[]⟩, 0, j⟩

/-- what scanning comes to: tokens; or a fault's number, and where -/
inductive Sc where
  | toks (l : List Tk)
  | bad (err : Int) (pos : Nat)
/-- from a byte on, behind so many tokens; the first number: fuel -/
def scanGo (s : ByteArray) : Nat → Nat → Nat → List Tk → Sc
  | 0, _, _, l => .toks l
  | f + 1, n, i, l =>
    if over s i = s.size then .toks (l ++ [tkEnd s.size])
    else if n = 4096 then .bad 3 (over s i)
    else if tokOk s (over s i) = true then scanGo s f (n + 1) (over s i + tokLen s (over s i)) (l ++ [tkAt s (over s i)])
    else .bad 20 (over s i)
/-- a text's tokens -/
def scanOf (s : ByteArray) : Sc := if 16384 < s.size then .bad 3 0 else scanGo s (s.size + 1) 0 0 []

theorem tk_len {s : ByteArray} (l : List Tk) : (l.flatMap (Tk.cells s)).length = l.length * 5 := by
  induction l with
  | nil => rfl
  | cons y ys ih => simp only [List.flatMap_cons, List.length_append, ih, Tk.cells, List.length_cons, List.length_nil]; omega
theorem tk_one {s : ByteArray} (l : List Tk) : ∀ u ∈ l.flatMap (Tk.cells s), u.oneCell' = true := by
  intro u hu
  obtain ⟨y, _, hy⟩ := List.mem_flatMap.1 hu
  simp only [Tk.cells, List.mem_cons, List.not_mem_nil, or_false] at hy
  rcases hy with rfl | rfl | rfl | rfl | rfl <;> rfl

theorem Token.info : (Tryd.prog.info? 82).map (fun i => (i.zero, i.size, i.bytes)) = some (some (.agg #[.int .i64 0, .string ⟨#[]⟩, .int .i64 0, .int .i64 0, .int .i64 0]), 5, 48) := by kernel_rfl

/-- what Scan returns -/
def Scanned (s : ByteArray) (w : World) (r : Ending) (w' : World) : Prop :=
  Below w.heap.size w w' ∧ match scanOf s with
    | .toks l => ∃ g c, r = .returned (.tuple #[.slice (some ⟨g, 0, none⟩) l.length c, .agg #[.int .i64 0, .int .i64 0, .int .i64 0]]) ∧ w'.ownsRow w.heap.size 82 5 (.slice (some ⟨g, 0, none⟩) l.length c) l.length (l.flatMap (Tk.cells s))
    | .bad e p => r = .returned (.tuple #[.slice none 0 0, .agg #[.int .i64 e, .int .i64 (place s p).1, .int .i64 (place s p).2]])

theorem row_base {w : World} {base base' : Nat} {e : TypeId} {size : Nat} {v : Value} {n : Nat} {xs : List Value} (h : w.ownsRow base e size v n xs) (hb : base' ≤ base) : w.ownsRow base' e size v n xs := by
  refine ⟨h.1, ?_⟩
  rcases h.2 with h0 | ⟨g, cap, cur, h1, h2, h3⟩
  · exact .inl h0
  · exact .inr ⟨g, cap, cur, h1, by omega, h3⟩

/-- where Scan stands: the fault's variable, the scanner, the tokens so far -/
structure ScanW (w W : World) (s : ByteArray) (i : Nat) (v : Value) (l : List Tk) : Prop where
  scan : ScanAt W (w.heap.size + 1) s i
  res : W.heap[w.heap.size]? = some (.cells #[.int .i64 0, .int .i64 0, .int .i64 0] 67 (0, 0))
  below : Below w.heap.size w W
  size : w.heap.size + 1 < W.heap.size
  own : W.ownsRow (w.heap.size + 2) 82 5 v l.length (l.flatMap (Tk.cells s))
section
variable {w W W' : World} {s : ByteArray} {i j : Nat} {v : Value} {l : List Tk}
theorem ScanW.step (h : ScanW w W s i v l) (hS : ScanAt W' (w.heap.size + 1) s j) (hc : W.grownBy W' (some (w.heap.size + 1))) : ScanW w W' s j v l :=
  ⟨hS, (hc.block _ (by have := h.size; omega) (by simp)).trans h.res, h.below.grown hc (by have := h.below.size; omega) (fun k e => by cases e; omega), Nat.lt_of_lt_of_le h.size hc.size,
    h.own.kept hc (.inr (fun e => by have := (h.own.lt _ e).1; omega))⟩
theorem ScanW.alloc (h : ScanW w W s i v l) (o : Obj) : ScanW w (W.alloc o) s i v l :=
  ⟨h.scan.alloc o, (Below.heap_alloc W o _ (by have := h.size; omega)).trans h.res, h.below.alloc (by have := h.size; omega) o, by simp; have := h.size; omega, h.own.alloc o⟩
theorem ScanW.drewN (h : ScanW w W s i v l) (n : Nat) : ScanW w (W.drewN n) s i v l :=
  ⟨h.scan, h.res, h.below.trans ⟨rfl, rfl, rfl, Nat.le_refl _, fun _ _ => rfl⟩, h.size, h.own⟩
theorem ScanW.appended {v' : Value} {l' : List Tk} (h : ScanW w W s i v l) (hown : W'.ownsRow (w.heap.size + 2) 82 5 v' l'.length (l'.flatMap (Tk.cells s))) (hc : W.grownBy W' v.ownBlock) : ScanW w W' s i v' l' :=
  ⟨(hc.block _ h.size (fun e => by have := (h.own.lt _ e.symm).1; omega)).trans h.scan, (hc.block _ (by have := h.size; omega) (fun e => by have := (h.own.lt _ e.symm).1; omega)).trans h.res,
    h.below.grown hc (by have := h.size; omega) (fun k e => by have := (h.own.lt _ e).1; omega), Nat.lt_of_lt_of_le h.size hc.size, hown⟩
theorem ScanW.rcells (h : ScanW w W s i v l) : W.cell? ⟨w.heap.size, 0, none⟩ = some (.int .i64 0) ∧ W.cell? ⟨w.heap.size, 1, none⟩ = some (.int .i64 0) ∧ W.cell? ⟨w.heap.size, 2, none⟩ = some (.int .i64 0) ∧ ∀ k, W.frozen? ⟨w.heap.size, k, none⟩ = false := by
  have := h.res
  refine ⟨?_, ?_, ?_, fun k => ?_⟩ <;> simp [World.cell?, World.frozen?, this]
theorem ScanW.form (h : ScanW w W s i v l) : ∃ (A : Option Addr) (c : Nat), v = .slice A l.length c := by
  rcases h.own.2 with ⟨h1, h2⟩ | ⟨g, cap, cur, h1, _, h3, h4⟩
  · exact ⟨none, 0, by rw [h1, h2]⟩
  · exact ⟨some ⟨g, 0, none⟩, cap, h1⟩
end
/-- the fault written -/
theorem fault_wrote {w W : World} {s : ByteArray} {i : Nat} {v : Value} {l : List Tk} (h : ScanW w W s i v l) (v0 v1 v2 : Value) :
    ∃ W', W' = (((W.setCell ⟨w.heap.size, 0, none⟩ v0).setCell ⟨w.heap.size, 1, none⟩ v1).setCell ⟨w.heap.size, 2, none⟩ v2) ∧
      (W'.cell? ⟨w.heap.size, 0, none⟩ = some v0 ∧ W'.cell? ⟨w.heap.size, 1, none⟩ = some v1 ∧ W'.cell? ⟨w.heap.size, 2, none⟩ = some v2) ∧ Below w.heap.size w W' ∧
      W'.ownsRow (w.heap.size + 2) 82 5 v l.length (l.flatMap (Tk.cells s)) := by
  have hb := blk_set (blk_set (blk_set h.res 0 v0) 1 v1) 2 v2
  simp only [List.setIfInBounds_toArray, List.set_cons_zero, List.set_cons_succ] at hb
  have hk : ∀ (W : World) (k : Nat) (u : Value), W.ownsRow (w.heap.size + 2) 82 5 v l.length (l.flatMap (Tk.cells s)) → (W.setCell ⟨w.heap.size, k, none⟩ u).ownsRow (w.heap.size + 2) 82 5 v l.length (l.flatMap (Tk.cells s)) := fun W k u ho =>
    ho.kept (chg_set W w.heap.size k u) (.inr (fun e => by have := (ho.lt _ e).1; omega))
  refine ⟨_, rfl, ⟨?_, ?_, ?_⟩, ((h.below.setCell (p := ⟨w.heap.size, 0, none⟩) (Nat.le_refl _) _).setCell (p := ⟨w.heap.size, 1, none⟩) (Nat.le_refl _) _).setCell (p := ⟨w.heap.size, 2, none⟩) (Nat.le_refl _) _, hk _ _ _ (hk _ _ _ (hk _ _ _ h.own))⟩ <;> (unfold World.cell?; rw [hb]; rfl)

theorem tok_le {s : ByteArray} {j : Nat} (h : j < s.size) : j + tokLen s j ≤ s.size := by
  unfold tokLen
  split
  · have := rn_le partB (s.data.toList.drop j); rw [List.length_drop, ← size_len] at this; omega
  · split
    · have := rn_le isDigit (s.data.toList.drop j); rw [List.length_drop, ← size_len] at this; omega
    · have h1 := size_extract' s j s.size (Nat.le_refl _)
      have := signOf_le (s.extract j s.size) (by omega)
      omega
theorem tok_pos {s : ByteArray} {j : Nat} (h : j < s.size) (hk : tokOk s j = true) : 0 < tokLen s j := by
  by_cases hl : isLetter (bt s j) = true
  · unfold tokLen; rw [if_pos hl]; exact rn_pos h (by simp [partB, hl])
  · by_cases hd : isDigit (bt s j) = true
    · unfold tokLen; rw [if_neg hl, if_pos hd]; exact rn_pos h hd
    · unfold tokOk at hk; rw [if_neg hl, if_neg hd] at hk; simpa using hk

set_option maxRecDepth 100000 in
set_option maxHeartbeats 4000000 in
theorem scan_any (s : ByteArray) (w : World) (hs : s.size ≤ maxLen) : Calls Tryd.prog 38 #[.string s] w (Scanned s w) := by
  unfold maxLen at hs
  obtain ⟨i0, hi0, hz0, hz1, hz2⟩ : ∃ i0, Tryd.prog.info? 82 = some i0 ∧ i0.zero = some (.agg #[.int .i64 0, .string ⟨#[]⟩, .int .i64 0, .int .i64 0, .int .i64 0]) ∧ i0.size = 5 ∧ i0.bytes = 48 := by
    have hi := Token.info
    cases h : Tryd.prog.info? 82 with
    | none => rw [h] at hi; cases hi
    | some i0 => rw [h] at hi; simp only [Option.map_some, Option.some.injEq, Prod.mk.injEq] at hi; exact ⟨i0, rfl, hi.1, hi.2.1, hi.2.2⟩
  have hW0 : ScanW w ((w.alloc (.cells #[.int .i64 0, .int .i64 0, .int .i64 0] 67)).alloc (.cells #[.string s, .int .i64 0, .int .i64 1, .int .i64 1] 106)) s 0 (.slice none 0 0) [] :=
    ⟨by have := World.alloc_heap_new (w.alloc (.cells #[.int .i64 0, .int .i64 0, .int .i64 0] 67)) (.cells #[.string s, .int .i64 0, .int .i64 1, .int .i64 1] 106); rwa [World.size_alloc] at this,
      (Below.heap_alloc _ _ _ (by simp)).trans (World.alloc_heap_new w _), ((Below.refl _ _).alloc (Nat.le_refl _) _).alloc (by simp) _, by simp, World.ownsRow_nil _ _ _ _⟩
  have HW := hid hW0
  clear hW0
  by_cases hbig : 16384 < s.size
  · have HS : Hid (scanOf s = .bad 3 0) := by show _ = _; unfold scanOf; rw [if_pos hbig]
    go_enter Tryd.func38, Tryd.ntmps38
    go_wp2_with fail
    have hW := HW.out
    generalize ((w.alloc (.cells #[.int .i64 0, .int .i64 0, .int .i64 0] 67)).alloc (.cells #[.string s, .int .i64 0, .int .i64 1, .int .i64 1] 106)) = W at *
    obtain ⟨c0, c1, c2, c3⟩ := hW.scan.cells
    obtain ⟨r0, r1, r2, rf⟩ := hW.rcells
    simp only [place] at c2 c3
    go_region
    go_wp2_with fail
    obtain ⟨Wf, hWf, ⟨q0, q1, q2⟩, hbf, hof⟩ := fault_wrote hW (.int .i64 3) (.int .i64 1) (.int .i64 1)
    rw [← hWf]
    refine bodyPost_ret (v := .tuple #[.slice none 0 0, .agg #[.int .i64 3, .int .i64 1, .int .i64 1]]) (by simp [results, Tryd.results38, go_sem, q0, q1, q2]) rfl ⟨hbf.trans ⟨rfl, rfl, rfl, Nat.le_refl _, fun _ _ => rfl⟩, ?_⟩
    rw [HS.out]
    rfl
  · have HS : Hid (scanOf s = scanGo s (s.size + 1) 0 0 []) := by show _ = _; unfold scanOf; rw [if_neg hbig]
    go_enter Tryd.func38, Tryd.ntmps38
    go_wp2_with fail
    have hW := HW.out
    clear HW
    generalize ((w.alloc (.cells #[.int .i64 0, .int .i64 0, .int .i64 0] 67)).alloc (.cells #[.string s, .int .i64 0, .int .i64 1, .int .i64 1] 106)) = W at *
    go_loopg [5, 6, 7] (s.size + 1) (fun k v _ _ wr => ∃ (i : Nat) (l : List Tk), i ≤ s.size ∧ s.size + 1 ≤ i + k ∧ l.length ≤ 4096 ∧ ScanW w wr s i v l ∧ Hid (scanOf s = scanGo s k l.length i l))
    case atStart => exact ⟨0, [], by omega, by omega, by simp, hW, HS⟩
    case round =>
      obtain ⟨i, l, hi, hk, hl, hW1, HG⟩ := hrel
      go_wp2_with fail
      refine (blanks_any (w.heap.size + 1) s i _ hW1.scan hi (by omega)).mono ?_
      rintro r w1 ⟨rfl, hS1, hc1⟩
      have hW2 := hW1.step hS1 hc1
      clear hW1 hS1 hc1
      obtain ⟨hov1, hov2⟩ := over_le s i hi
      obtain ⟨A, c, rfl⟩ := hW2.form
      obtain ⟨c0, c1, c2, c3⟩ := hW2.scan.cells
      obtain ⟨r0, r1, r2, rf⟩ := hW2.rcells
      by_cases hend : over s i = s.size
      · have HR : Hid (scanOf s = .toks (l ++ [tkEnd s.size])) := by
          show _ = _
          rw [HG.out]
          match gk with
          | 0 => omega
          | k + 1 => unfold scanGo; rw [if_pos hend]
        rw [hend] at c1 c2 c3 hW2
        have hsz1 := hW2.size
        have hown := hW2.own.alloc (.cells (tkEnd s.size |>.cells s).toArray 82)
        go_wp2_with (at_builtin; refine wpList_append_lies _ rfl _ _ _ rfl (w.heap.size + 2) 82 i0 _ 5 48 Tryd.underlying65 hi0 hz0 hz1 hz2 rfl (by omega) _ _ _ (by rfl) hown ⟨w1.heap.size, 0, none⟩ 1 1 ((tkEnd s.size).cells s) (by rfl) (by rfl) (World.news_of_block (World.alloc_heap_new _ _)) (by intro u hu; exact tk_one [tkEnd s.size] u (by simpa using hu)) (by omega) (by unfold maxLen; omega) (by omega) (by rw [World.size_alloc]; omega) _ rfl ?_; intro g2 cap2 w2 hown2 hgrow2 hat2 hlt2; have hW3 : ScanW w w2 s s.size (.slice (some ⟨g2, 0, none⟩) (l.length + 1) cap2) (l ++ [tkEnd s.size]) := (hW2.alloc _).appended (by simpa using hown2) hgrow2; obtain ⟨q0, q1, q2, qf⟩ := hW3.rcells)
        obtain ⟨Wf, hWf, ⟨q0, q1, q2⟩, hbf, hof⟩ := fault_wrote hW3 (.int .i64 0) (.int .i64 0) (.int .i64 0)
        rw [← hWf]
        refine bodyPost_ret (v := .tuple #[.slice (some ⟨g2, 0, none⟩) (l.length + 1) cap2, .agg #[.int .i64 0, .int .i64 0, .int .i64 0]]) (by simp [results, Tryd.results38, go_sem, q0, q1, q2]) rfl ⟨hbf, ?_⟩
        rw [HR.out]
        have hln : (l ++ [tkEnd s.size]).length = l.length + 1 := by simp
        refine ⟨g2, cap2, by rw [hln], ?_⟩
        have := row_base hof (show w.heap.size ≤ w.heap.size + 2 by omega)
        rwa [hln] at this ⊢
      · have hlt : over s i < s.size := by omega
        have hi0' : (over s i : Int) < (s.size : Int) := by omega
        have hne : ((over s i : Int) == (s.size : Int)) = false := by simp; omega
        by_cases h4096 : l.length = 4096
        · have HR : Hid (scanOf s = .bad 3 (over s i)) := by
            show _ = _
            rw [HG.out]
            match gk with
            | 0 => omega
            | k + 1 => unfold scanGo; rw [if_neg hend, if_pos h4096]
          go_wp2_with fail
          go_region
          go_wp2_with fail
          obtain ⟨Wf, hWf, ⟨q0, q1, q2⟩, hbf, hof⟩ := fault_wrote hW2 (.int .i64 3) (.int .i64 (place s (over s i)).1) (.int .i64 (place s (over s i)).2)
          rw [← hWf]
          refine bodyPost_ret (v := .tuple #[.slice none 0 0, .agg #[.int .i64 3, .int .i64 (place s (over s i)).1, .int .i64 (place s (over s i)).2]]) (by simp [results, Tryd.results38, go_sem, q0, q1, q2]) rfl ⟨hbf.trans ⟨rfl, rfl, rfl, Nat.le_refl _, fun _ _ => rfl⟩, ?_⟩
          rw [HR.out]
        · go_wp2_with fail
          refine (next_any (w.heap.size + 1) s (over s i) _ hW2.scan hlt (by omega)).mono ?_
          rintro r w2 ⟨rfl, hS2, hc2⟩
          have hW3 := hW2.step hS2 hc2
          have htl := tok_le hlt
          clear hW2 hS2 hc2 c0 c1 c2 c3 r0 r1 r2 rf
          unfold tokVal
          have htp := hid (@tok_pos s (over s i) hlt)
          obtain ⟨ok, hok⟩ : ∃ ok, ok = tokOk s (over s i) := ⟨_, rfl⟩
          rw [← hok]
          have HOK := hid hok
          clear hok
          have hsz3 := hW3.size
          have hgr3 := hW3.below.size
          cases ok
          · have HR : Hid (scanOf s = .bad 20 (over s i)) := by
              show _ = _
              rw [HG.out]
              match gk with
              | 0 => omega
              | k + 1 => unfold scanGo; rw [if_neg hend, if_neg h4096, if_neg (by rw [← HOK.out]; simp)]
            go_wp2_with fail
            have hW4 := hW3.alloc (.cells ((tkAt s (over s i)).cells s).toArray 82)
            have hT := World.alloc_heap_new w2 (.cells ((tkAt s (over s i)).cells s).toArray 82)
            simp only [Tk.cells, tkAt] at hW4 hT
            generalize w2.alloc _ = w4 at hW4 hT ⊢
            have t3 : w4.cell? ⟨w2.heap.size, 3, none⟩ = some (.int .i64 (place s (over s i)).1) := by unfold World.cell?; rw [hT]; rfl
            have t4 : w4.cell? ⟨w2.heap.size, 4, none⟩ = some (.int .i64 (place s (over s i)).2) := by unfold World.cell?; rw [hT]; rfl
            obtain ⟨r0, r1, r2, rf⟩ := hW4.rcells
            have hne0 : w2.heap.size ≠ w.heap.size := by omega
            go_region
            go_wp2_with fail
            obtain ⟨Wf, hWf, ⟨q0, q1, q2⟩, hbf, hof⟩ := fault_wrote hW4 (.int .i64 20) (.int .i64 (place s (over s i)).1) (.int .i64 (place s (over s i)).2)
            rw [← hWf]
            refine bodyPost_ret (v := .tuple #[.slice none 0 0, .agg #[.int .i64 20, .int .i64 (place s (over s i)).1, .int .i64 (place s (over s i)).2]]) (by simp [results, Tryd.results38, go_sem, q0, q1, q2]) rfl ⟨hbf.trans ⟨rfl, rfl, rfl, Nat.le_refl _, fun _ _ => rfl⟩, ?_⟩
            rw [HR.out]
          · have hpos := htp.out HOK.out.symm
            have hW5 := (hW3.alloc (.cells ((tkAt s (over s i)).cells s).toArray 82)).alloc (.cells ((tkAt s (over s i)).cells s).toArray 82)
            have hT := World.alloc_heap_new (w2.alloc (.cells ((tkAt s (over s i)).cells s).toArray 82)) (.cells ((tkAt s (over s i)).cells s).toArray 82)
            rw [World.size_alloc] at hT
            have HN := hid (World.news_of_block hT)
            have hown := hW5.own
            have HW5 := hid hW5
            clear hT hW5 hW3
            go_wp2_with (at_builtin; refine wpList_append_lies _ rfl _ _ _ rfl (w.heap.size + 2) 82 i0 _ 5 48 Tryd.underlying65 hi0 hz0 hz1 hz2 rfl (by omega) _ _ _ (by rfl) hown ⟨w2.heap.size + 1, 0, none⟩ 1 1 ((tkAt s (over s i)).cells s) (by rfl) (by rfl) HN.out (by intro u hu; exact tk_one [tkAt s (over s i)] u (by simpa using hu)) (by omega) (by unfold maxLen; omega) (by omega) (by rw [World.size_alloc, World.size_alloc]; omega) _ rfl ?_; intro g3 cap3 w3 hown3 hgrow3 hat3 hlt3)
            have hln : (l ++ [tkAt s (over s i)]).length = l.length + 1 := by simp
            have hW6 : ScanW w w3 s (over s i + tokLen s (over s i)) (.slice (some ⟨g3, 0, none⟩) (l.length + 1) cap3) (l ++ [tkAt s (over s i)]) := HW5.out.appended (by simpa using hown3) hgrow3
            go_roundg (gk - 1)
            case rel =>
              refine ⟨over s i + tokLen s (over s i), l ++ [tkAt s (over s i)], by omega, by omega, by omega, hW6, ?_⟩
              show _ = _
              rw [HG.out, hln]
              match gk with
              | 0 => omega
              | k + 1 => conv => lhs; unfold scanGo
                         rw [if_neg hend, if_neg h4096, if_pos HOK.out.symm]; rfl
            case measure => omega
end Go.Proofs.YtnlikhjmmnaknaaDoor
