/-
  The walks of words and lines, and of the reference's Read and words.
-/
import Derived.Test.YtmdnmodjdgcmjaaDoorHScO
namespace Go.Proofs.YtmdnmodjdgcmjaaDoor
open Go.RowKit

/-- words as texts -/
def strL' (ws : List (List UInt8)) : List ByteArray := ws.map fun l => ⟨l.toArray⟩
theorem wordL_str (ws : List (List UInt8)) : wordL (strL' ws) = ws := by
  unfold wordL strL'
  rw [List.map_map]
  conv => rhs; rw [← List.map_id ws]
  rfl
theorem flat_str (ws : List ByteArray) : ws.flatMap strC = ws.map Value.string := by
  induction ws with
  | nil => rfl
  | cons x t ih => rw [List.flatMap_cons, ih]; rfl

theorem str_push (ls : List (List UInt8)) (x : ByteArray) : (strL' (ls ++ [x.data.toList])).flatMap strC = (strL' ls).flatMap strC ++ (#[.string x] : Array Value).toList := by
  unfold strL'
  rw [List.map_append, List.flatMap_append]
  rfl
theorem blank_any (w : World) : PredAt Tryd.prog 61 #[] encR blankR w := fun W r _ => by
  unfold FnGives
  unfold blankR encR
  have hz : ∀ k : Nat, (r == k) = decide ((r : Int) = (k : Int)) := fun k => by
    rw [Bool.eq_iff_iff]; simp; omega
  rw [hz 32, hz 9, hz 13]
  by_cases h1 : (r : Int) = 32
  · go_enter Tryd.func61, Tryd.ntmps61
    go_wp2
    all_goals (go_ret; exact ⟨by simp_all, 0, rfl⟩)
  · by_cases h2 : (r : Int) = 9
    · go_enter Tryd.func61, Tryd.ntmps61
      go_wp2
      all_goals (go_ret; exact ⟨by simp_all, 0, rfl⟩)
    · have e1 : ((r : Int) == 32) = false := by simpa using h1
      have e2 : ((r : Int) == 9) = false := by simpa using h2
      have E := hid (And.intro e1 e2)
      clear e1 e2
      go_enter Tryd.func61, Tryd.ntmps61
      go_wp2
      all_goals (go_ret; exact ⟨by simp [h1, h2, E.out.1, E.out.2]; rfl, 0, rfl⟩)
/-- a row of texts that a call has made -/
def MadeWords (w : World) (ws : List (List UInt8)) (r : Ending) (w' : World) : Prop :=
  Below w.heap.size w w' ∧ ∃ A c, r = .returned (.slice A ws.length c) ∧ w'.ownsRow w.heap.size 9 1 (.slice A ws.length c) ws.length ((strL' ws).flatMap strC)
set_option maxHeartbeats 1000000 in
theorem words_code (s : ByteArray) (w : World) (hs : s.size ≤ 20000000) : Calls Tryd.prog 35 #[.string s] w (MadeWords w (wordsOf s.data.toList)) := by
  have hf := fun W => Tryd.strings_FieldsFunc 61 #[] (enters_of Tryd.func61 (by kernel_rfl) rfl) blankR s W (by omega) (blank_any W)
  rw [fields_words, show (wordsOf s.data.toList).map (fun l => (⟨l.toArray⟩ : ByteArray)) = strL' (wordsOf s.data.toList) from rfl] at hf
  have hl : (strL' (wordsOf s.data.toList)).length = (wordsOf s.data.toList).length := by unfold strL'; simp
  rw [hl] at hf
  replace hf := hid hf
  unfold MadeWords
  rw [flat_str]
  generalize wordsOf s.data.toList = q at *
  clear hl
  go_enter Tryd.func35, Tryd.ntmps35
  go_wp2_with fail
  refine (hf.out w).mono ?_
  rintro r w1 ⟨A, rfl, _, hown, hb⟩
  go_wp2_with fail
  go_ret
  exact ⟨hb, _, _, rfl, hown⟩

/-! lines -/
theorem grown_iter (w : World) (k : Nat) (s : ByteArray) (pos : Nat) : w.grownBy (w.iterAt k s pos) (some k) :=
  ⟨rfl, rfl, rfl, by rw [Lib.iterAt_size]; exact Nat.le_refl _, fun i _ hne => Lib.iterAt_other w k i s pos fun e => hne (by rw [e])⟩
theorem lines_len : ∀ (l cur : List UInt8), (linesGo l cur).length ≤ l.length + 1
  | [], cur => by simp [linesGo]
  | c :: t, cur => by
    rw [linesGo]
    split
    · have := lines_len t []; simp; omega
    · have := lines_len t (cur ++ [c]); simp; omega
theorem lines_some : ∀ (l cur : List UInt8), 1 ≤ (linesGo l cur).length
  | [], cur => by simp [linesGo]
  | c :: t, cur => by
    rw [linesGo]
    split
    · simp
    · exact lines_some t (cur ++ [c])
theorem lines_end {s : ByteArray} {pos from_ : Nat} (h : ¬ pos < s.size) (hf : from_ ≤ pos) : linesGo (s.data.toList.drop pos) (Lib.pieceU s.data.toList from_ pos) = [(s.extract from_ s.size).data.toList] := by
  have hlen : s.data.toList.length = s.size := by rw [Array.length_toList]; rfl
  rw [List.drop_eq_nil_of_le (by omega), linesGo, piece_extract]
  unfold Lib.pieceU
  congr 1
  rw [List.take_of_length_le (by rw [List.length_drop]; omega), List.take_of_length_le (by rw [List.length_drop]; omega)]
theorem lines_nl {s : ByteArray} {pos from_ : Nat} (h : pos < s.size) (hb : (s.get! pos).toNat = 10) : linesGo (s.data.toList.drop pos) (Lib.pieceU s.data.toList from_ pos) = (s.extract from_ pos).data.toList :: linesGo (s.data.toList.drop (pos + 1)) (Lib.pieceU s.data.toList (pos + 1) (pos + 1)) := by
  have h10 : s.get! pos = 10 := UInt8.toNat_inj.1 hb
  rw [drop_get s pos h, h10, linesGo, if_pos rfl, piece_extract]
  congr 2
  simp [Lib.pieceU]
theorem lines_on {s : ByteArray} {pos from_ : Nat} (h : pos < s.size) (hf : from_ ≤ pos) (hb : (Utf8.decode s pos).1 ≠ 10) : linesGo (s.data.toList.drop pos) (Lib.pieceU s.data.toList from_ pos) = linesGo (s.data.toList.drop (pos + (Utf8.decode s pos).2)) (Lib.pieceU s.data.toList from_ (pos + (Utf8.decode s pos).2)) := by
  have hlen : s.data.toList.length = s.size := by rw [Array.length_toList]; rfl
  obtain ⟨h1, h2, h3⟩ := rune_step s pos h
  have hn : ∀ c ∈ (s.data.toList.drop pos).take (Utf8.decode s pos).2, c ≠ 10 := by
    rcases h3 with ⟨hlt, he⟩ | ⟨hr, hk⟩
    · rw [he] at hb ⊢
      rw [drop_get s pos h]
      intro c hc
      simp only [List.take_succ_cons, List.take_zero] at hc
      rw [List.mem_singleton.1 hc]
      exact fun e => hb (by rw [e]; rfl)
    · intro c hc
      exact (blank_low (take_high s pos _ h2 hk c hc)).2
  rw [lines_many _ _ _ (by rw [List.length_drop]; omega) hn, List.drop_drop, Lib.pieceU_grow _ _ _ _ hf]

set_option maxRecDepth 100000 in
set_option maxHeartbeats 4000000 in
theorem lines_any (s : ByteArray) (w : World) (hs : s.size ≤ 20000000) : Calls Tryd.prog 34 #[.string s] w (MadeWords w (linesOf s.data.toList)) := by
  obtain ⟨i0, z0, hi0, hz0, hs0, hb0, hc0⟩ := info_string
  have hlen : s.data.toList.length = s.size := by rw [Array.length_toList]; rfl
  have hmost := lines_len s.data.toList []
  have hbig : s.size ≤ maxLen := by unfold maxLen; omega
  go_enter Tryd.func34, Tryd.ntmps34
  go_wp2_with fail
  have f_0 := ((Fr.start0 w).nilRow 9 1).alloc (.stringIter s 0)
  change Fr none _ w (w.iter s 0) _ at f_0
  generalize w.iter s 0 = W0 at *
  generalize w.heap.size = K at *
  go_loopw [3, 4] (fun o fr wr => ∃ (pos from_ n : Nat) (ls : List (List UInt8)) (A : Option Addr) (c : Nat), o = .slice A n c ∧ fr = .int .i64 from_ ∧ from_ ≤ pos ∧ pos ≤ s.size ∧ Hid (ls.length = n ∧ ls ++ linesGo (s.data.toList.drop pos) (Lib.pieceU s.data.toList from_ pos) = linesOf s.data.toList) ∧
    Fr none (fun _ => True) w wr [blkK K (.stringIter s pos), rowK w 9 1 (.slice A n c) n ((strL' ls).flatMap strC)]) (fun _ _ wr => s.size - wr.iterPos K)
  case atStart => exact ⟨0, 0, 0, [], none, 0, rfl, rfl, Nat.le_refl _, Nat.zero_le _, ⟨rfl, by simp [linesOf, Lib.pieceU]⟩, f_0⟩
  case round =>
    clear f_0
    obtain ⟨pos, from_, n, ls, A, c, rfl, rfl, hfp, hps, hI, f⟩ := hrel
    have hit := f.blk
    have hnle : n ≤ s.size := by
      have h1 := congrArg List.length hI.out.2
      rw [List.length_append] at h1
      have h2 : 1 ≤ (linesGo (s.data.toList.drop pos) (Lib.pieceU s.data.toList from_ pos)).length := by
        cases s.data.toList.drop pos with
        | nil => simp [linesGo]
        | cons a b => rw [linesGo]; split
                      · simp
                      · exact lines_some _ _
      unfold linesOf at h1
      have := hI.out.1
      omega
    by_cases hp : pos < s.size
    · have hnx : ∀ ty, (Instr.next (.pointer (some ⟨K, 0, none⟩)) true ty).run Tryd.prog wr = _ := fun ty => Lib.run_next_any_at wr K s pos ty hit hp
      obtain ⟨hd1, hd2, hd3⟩ := rune_step s pos hp
      have f_1 := f.put (grown_iter wr K s (pos + (Utf8.decode s pos).2)) (Lib.iterAt_heap wr K s pos (pos + (Utf8.decode s pos).2) hit)
      by_cases h10 : (Utf8.decode s pos).1 = 10
      · have hlow : (s.get! pos).toNat = 10 ∧ (Utf8.decode s pos).2 = 1 := by
          rcases hd3 with ⟨_, he⟩ | ⟨hr, _⟩
          · rw [he] at h10 ⊢; exact ⟨h10, rfl⟩
          · omega
        have hln := lines_nl (from_ := from_) hp hlow.1
        rw [hlow.2] at f_1 hnx
        rw [h10] at hnx
        have hI2 : Hid ((ls ++ [(s.extract from_ pos).data.toList]) ++ linesGo (s.data.toList.drop (pos + 1)) (Lib.pieceU s.data.toList (pos + 1) (pos + 1)) = linesOf s.data.toList) := by
          show _ = _
          rw [← hI.out.2, hln, List.append_assoc]; rfl
        have hlsn := hI.out.1
        clear hln hd1 hd2 hd3 hlow h10 hI f
        generalize wr.iterAt K s (pos + 1) = W1 at *
        have hf0 : (0 : Int) ≤ (from_ : Int) := by omega
        have hf1 : (from_ : Int) ≤ (pos : Int) := by omega
        have hf2 : (pos : Int) ≤ (s.size : Int) := by omega
        have f_2 := f_1.alloc (.cells #[.string (s.extract from_ pos)] 9)
        go_wp2_with (at_builtin; refine Fr.wpApp (f_2.rot2.rot1) rfl _ _ _ rfl Tryd.underlying68 hi0 hz0 hs0 hb0 hc0 (by decide) rfl rfl rfl str_one (by decide) (by unfold maxLen; omega) (by omega) ?_; intro G cap w2 f_3)
        have f_4 := (f_3.rot1.sub (List.sublist_cons_self _ _)).rot1
        go_roundw
        case rel => exact ⟨pos + 1, pos + 1, n + 1, ls ++ [(s.extract from_ pos).data.toList], _, _, rfl, by go_num, Nat.le_refl _, by omega, ⟨by simp [hlsn], hI2.out⟩, by rw [str_push]; exact f_4⟩
        case measure =>
          simp only [World.iterPos, hit, f_4.blk]
          omega
      · have hln := lines_on (from_ := from_) hp hfp h10
        have hI2 := hI.out
        rw [hln] at hI2
        replace hI2 := hid hI2
        have h10' : ((Utf8.decode s pos).1 : Int) ≠ 10 := by omega
        generalize Utf8.decode s pos = q at *
        obtain ⟨rn, k⟩ := q
        dsimp only at *
        clear hln hd3 h10 hI f
        generalize wr.iterAt K s (pos + k) = W1 at *
        go_wp2_with fail
        go_roundw
        case rel => exact ⟨pos + k, from_, n, ls, _, _, rfl, rfl, by omega, by omega, hI2.out, f_1⟩
        case measure =>
          simp only [World.iterPos, hit, f_1.blk]
          omega
    · have hnx : ∀ ty, (Instr.next (.pointer (some ⟨K, 0, none⟩)) true ty).run Tryd.prog wr = _ := fun ty => Lib.run_next_end_at wr K s pos ty hit hp
      have hln := hI.out.2
      rw [lines_end hp hfp] at hln
      have hlsn := hI.out.1
      replace hln := hid hln
      have hf0 : (0 : Int) ≤ (from_ : Int) := by omega
      have hf2 : (from_ : Int) ≤ (s.size : Int) := by omega
      have f_2 := f.alloc (.cells #[.string (s.extract from_ s.size)] 9)
      clear hI
      go_wp2_with (at_builtin; refine Fr.wpApp (f_2.rot2.rot1) rfl _ _ _ rfl Tryd.underlying68 hi0 hz0 hs0 hb0 hc0 (by decide) rfl rfl rfl str_one (by decide) (by unfold maxLen; omega) (by omega) ?_; intro G cap w2 f_3)
      go_ret
      have hl2 : (linesOf s.data.toList).length = n + 1 := by rw [← hln.out]; simp [hlsn]
      unfold MadeWords
      rw [hl2, ← hln.out]
      exact ⟨f_3.low, _, _, rfl, by rw [str_push]; exact f_3.head.q⟩
end Go.Proofs.YtmdnmodjdgcmjaaDoor
