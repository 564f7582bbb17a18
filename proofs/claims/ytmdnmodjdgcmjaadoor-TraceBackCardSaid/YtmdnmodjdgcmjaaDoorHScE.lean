/-
  Events and scripts, in plain Lean.
-/
import Derived.Test.YtmdnmodjdgcmjaaDoorHScP
import Derived.Lib.Join
namespace Go.Proofs.YtmdnmodjdgcmjaaDoor
open Go.RowKit

/-- an event -/
structure EvE where
  kind : Int
  num : Int
  row : List Int
  ch : List UInt8
  deriving DecidableEq
def sSubmit : List UInt8 := [115, 117, 98, 109, 105, 116]
def sRun : List UInt8 := [114, 117, 110]
def sSave : List UInt8 := [115, 97, 118, 101]
def sCut : List UInt8 := [99, 117, 116]
def sCrash : List UInt8 := [99, 114, 97, 115, 104]
/-- is an event right? -/
def rightV (x : EvE) : Bool :=
  if x.kind = 1 then decide (1 ≤ x.row.length) && decide (x.row.length ≤ 8) && decide (x.ch.length = 0) && decide (x.num = 0)
  else if x.kind = 2 ∨ x.kind = 4 then decide (x.row.length = 0) && decide (x.ch.length = 0) && decide (0 ≤ x.num)
  else if x.kind = 3 then decide (x.row.length = 0) && decide (x.ch.length = 0) && decide (x.num = 0)
  else if x.kind = 5 then decide (x.row.length = 0) && decide (x.ch.length ≤ 64) && decide (-1 ≤ x.num)
  else false
def byteT (c : UInt8) : List UInt8 := Lib.itoa (c.toNat : Int)
/-- the words of a right event -/
def wordsV (x : EvE) : List (List UInt8) :=
  if x.kind = 1 then sSubmit :: x.row.map Lib.itoa
  else if x.kind = 2 then [sRun, Lib.itoa x.num]
  else if x.kind = 3 then [sSave]
  else if x.kind = 4 then [sCut, Lib.itoa x.num]
  else sCrash :: (if 0 ≤ x.num then Lib.itoa x.num else [45]) :: x.ch.map byteT
def lineV (x : EvE) : List UInt8 := Lib.join (wordsV x) [32] ++ [10]
/-- a script's text, and the error -/
def textV (l : List EvE) : List UInt8 × Int := if 4096 < l.length then ([], 3) else if l.all rightV = true then ((l.map lineV).flatten, 0) else ([], 2)

/-- the numbers of words -/
def numsP : List (List UInt8) → Option (List Int)
  | [] => some []
  | w :: t => match numP w with
    | none => none
    | some v => match numsP t with
      | none => none
      | some vs => some (v :: vs)
def okB (v : Int) : Bool := decide (0 ≤ v) && decide (v ≤ 255)
def toB (v : Int) : UInt8 := UInt8.ofNat v.toNat
/-- how far a crash comes: its number -/
def crashN (w : List UInt8) : Option Int := if w = [45] then some (-1) else match numP w with
  | none => none
  | some v => if 0 ≤ v then some v else none
/-- the event of the words behind a crash -/
def crashP : List (List UInt8) → Option EvE
  | [] => none
  | n :: cs => match crashN n with
    | none => none
    | some k => match numsP cs with
      | none => none
      | some l => if l.all okB = true ∧ l.length ≤ 64 then some ⟨5, k, [], l.map toB⟩ else none
/-- the event of a word and of numbers -/
def kindW (w : List UInt8) (l : List Int) : Option EvE :=
  if w = sSubmit then (if 1 ≤ l.length ∧ l.length ≤ 8 then some ⟨1, 0, l, []⟩ else none)
  else if w = sSave then (if l.length = 0 then some ⟨3, 0, [], []⟩ else none)
  else if w = sRun then (if l.length = 1 ∧ 0 ≤ l.headD 0 then some ⟨2, l.headD 0, [], []⟩ else none)
  else if w = sCut then (if l.length = 1 ∧ 0 ≤ l.headD 0 then some ⟨4, l.headD 0, [], []⟩ else none)
  else none
/-- the event of words, if there is one that is right -/
def evP : List (List UInt8) → Option EvE
  | [] => none
  | w :: t => if w = sCrash then crashP t else match numsP t with
    | none => none
    | some l => kindW w l
/-- the events of lines -/
def parseGo : List (List UInt8) → Nat → List EvE → List EvE × Nat × Int
  | [], _, acc => (acc, 0, 0)
  | t :: ts, i, acc => match wordsOf t with
    | [] => parseGo ts (i + 1) acc
    | w :: ws => if w.headD 0 = 35 then parseGo ts (i + 1) acc else match evP (w :: ws) with
      | none => ([], i + 1, 11)
      | some x => if acc.length = 4096 then ([], i + 1, 3) else parseGo ts (i + 1) (acc ++ [x])
def parseV (s : List UInt8) : List EvE × Nat × Int := parseGo (linesOf s) 0 []

/-! there and back -/
/-- an event whose numbers are ints of Go -/
def EvE.fine (x : EvE) : Prop := R64 x.num ∧ ∀ v ∈ x.row, R64 v
theorem nums_itoa : ∀ l : List Int, (∀ v ∈ l, R64 v) → numsP (l.map Lib.itoa) = some l
  | [], _ => rfl
  | v :: t, h => by
    rw [List.map_cons, numsP, numP_itoa (h v (List.mem_cons_self ..))]
    dsimp only
    rw [nums_itoa t fun x hx => h x (List.mem_cons_of_mem _ hx)]
theorem nums_len : ∀ {ws : List (List UInt8)} {l : List Int}, numsP ws = some l → l.length = ws.length
  | [], l, h => by injection h with h; subst h; rfl
  | w :: t, l, h => by
    rw [numsP] at h
    split at h
    · cases h
    · split at h
      · cases h
      · rename_i h2
        injection h with h
        subst h
        simp [nums_len h2]
theorem nums_fine : ∀ {ws : List (List UInt8)} {l : List Int}, numsP ws = some l → ∀ v ∈ l, R64 v
  | [], l, h => by injection h with h; subst h; intro v hv; cases hv
  | w :: t, l, h => by
    rw [numsP] at h
    split at h
    · cases h
    · rename_i h1
      split at h
      · cases h
      · rename_i h2
        injection h with h
        subst h
        intro v hv
        rcases List.mem_cons.1 hv with rfl | hv
        · exact (numP_some h1).2
        · exact nums_fine h2 v hv
theorem byte_nat (c : UInt8) : toB (c.toNat : Int) = c := by unfold toB; simp
theorem bytes_back : ∀ l : List UInt8, (l.map fun c => (c.toNat : Int)).map toB = l
  | [] => rfl
  | c :: t => by rw [List.map_cons, List.map_cons, byte_nat, bytes_back t]
theorem byte_ok (c : UInt8) : okB (c.toNat : Int) = true ∧ R64 (c.toNat : Int) := by
  have := c.toNat_lt
  unfold okB R64
  simp; omega
theorem minus_itoa {v : Int} : Lib.itoa v ≠ [45] := by
  intro h
  by_cases h0 : v < 0
  · obtain ⟨u, rfl⟩ : ∃ u : Nat, v = -(u : Int) := ⟨v.natAbs, by omega⟩
    rw [Lib.itoa_neg u (by omega)] at h
    injection h with _ h
    exact dec_ne u h
  · obtain ⟨u, rfl⟩ : ∃ u : Nat, v = (u : Int) := ⟨v.toNat, by omega⟩
    rw [Lib.itoa_nonneg] at h
    have := dec_all u 45 (by rw [h]; exact List.mem_cons_self ..)
    unfold digB at this
    simp at this
theorem right_one {x : EvE} (h : rightV x = true) (hk : x.kind = 1) : 1 ≤ x.row.length ∧ x.row.length ≤ 8 ∧ x.ch = [] ∧ x.num = 0 := by
  unfold rightV at h
  rw [if_pos hk] at h
  simp only [Bool.and_eq_true, decide_eq_true_eq] at h
  exact ⟨h.1.1.1, h.1.1.2, List.length_eq_zero_iff.1 h.1.2, h.2⟩
theorem right_two {x : EvE} (h : rightV x = true) (hk : x.kind = 2 ∨ x.kind = 4) : x.row = [] ∧ x.ch = [] ∧ 0 ≤ x.num := by
  unfold rightV at h
  rw [if_neg (by omega), if_pos hk] at h
  simp only [Bool.and_eq_true, decide_eq_true_eq] at h
  exact ⟨List.length_eq_zero_iff.1 h.1.1, List.length_eq_zero_iff.1 h.1.2, h.2⟩
theorem right_three {x : EvE} (h : rightV x = true) (hk : x.kind = 3) : x.row = [] ∧ x.ch = [] ∧ x.num = 0 := by
  unfold rightV at h
  rw [if_neg (by omega), if_neg (by omega), if_pos hk] at h
  simp only [Bool.and_eq_true, decide_eq_true_eq] at h
  exact ⟨List.length_eq_zero_iff.1 h.1.1, List.length_eq_zero_iff.1 h.1.2, h.2⟩
theorem right_five {x : EvE} (h : rightV x = true) (hk : x.kind = 5) : x.row = [] ∧ x.ch.length ≤ 64 ∧ -1 ≤ x.num := by
  unfold rightV at h
  rw [if_neg (by omega), if_neg (by omega), if_neg (by omega), if_pos hk] at h
  simp only [Bool.and_eq_true, decide_eq_true_eq] at h
  exact ⟨List.length_eq_zero_iff.1 h.1.1, h.1.2, h.2⟩
theorem right_kind {x : EvE} (h : rightV x = true) : x.kind = 1 ∨ x.kind = 2 ∨ x.kind = 3 ∨ x.kind = 4 ∨ x.kind = 5 := by
  unfold rightV at h
  repeat (split at h; omega)
  cases h
/-- the event of a right event's words -/
theorem ev_back {x : EvE} (h : rightV x = true) (hf : x.fine) : evP (wordsV x) = some x := by
  obtain ⟨k, n, r, c⟩ := x
  obtain ⟨hn, hr⟩ := hf
  dsimp only at hn hr
  rcases right_kind h with hk | hk | hk | hk | hk <;> (dsimp only at hk; subst hk)
  · obtain ⟨h1, h2, h3, h4⟩ := right_one h rfl
    dsimp only at h1 h2 h3 h4
    subst h3 h4
    show evP (sSubmit :: r.map Lib.itoa) = _
    rw [evP, if_neg (by decide), nums_itoa r hr]
    dsimp only
    unfold kindW
    rw [if_pos rfl, if_pos ⟨h1, h2⟩]
  · obtain ⟨h1, h2, h3⟩ := right_two h (.inl rfl)
    dsimp only at h1 h2 h3
    subst h1 h2
    show evP (sRun :: [n].map Lib.itoa) = _
    rw [evP, if_neg (by decide), nums_itoa [n] (by simpa using hn)]
    dsimp only
    unfold kindW
    rw [if_neg (by decide), if_neg (by decide), if_pos rfl, if_pos ⟨rfl, h3⟩]
    rfl
  · obtain ⟨h1, h2, h3⟩ := right_three h rfl
    dsimp only at h1 h2 h3
    subst h1 h2 h3
    rfl
  · obtain ⟨h1, h2, h3⟩ := right_two h (.inr rfl)
    dsimp only at h1 h2 h3
    subst h1 h2
    show evP (sCut :: [n].map Lib.itoa) = _
    rw [evP, if_neg (by decide), nums_itoa [n] (by simpa using hn)]
    dsimp only
    unfold kindW
    rw [if_neg (by decide), if_neg (by decide), if_neg (by decide), if_pos rfl, if_pos ⟨rfl, h3⟩]
    rfl
  · obtain ⟨h1, h2, h3⟩ := right_five h rfl
    dsimp only at h1 h2 h3
    subst h1
    have hc : crashN (if 0 ≤ n then Lib.itoa n else [45]) = some n := by
      unfold crashN
      split
      · rw [if_neg minus_itoa, numP_itoa hn]
        dsimp only
        rw [if_pos (by assumption)]
      · rw [if_pos rfl]
        congr 1; omega
    show evP (sCrash :: (if 0 ≤ n then Lib.itoa n else [45]) :: c.map byteT) = _
    rw [evP, if_pos rfl, crashP]
    have hb : numsP (c.map byteT) = some (c.map fun u => (u.toNat : Int)) := by
      have := nums_itoa (c.map fun u => (u.toNat : Int)) (fun v hv => by
        obtain ⟨u, _, rfl⟩ := List.mem_map.1 hv
        exact (byte_ok u).2)
      rw [List.map_map] at this
      exact this
    rw [hc]
    dsimp only
    rw [hb]
    dsimp only
    rw [if_pos, bytes_back]
    refine ⟨?_, by simpa using h2⟩
    rw [List.all_eq_true]
    intro v hv
    obtain ⟨u, _, rfl⟩ := List.mem_map.1 hv
    exact (byte_ok u).1
theorem crashN_in {w : List UInt8} {k : Int} (h : crashN w = some k) : R64 k ∧ -1 ≤ k := by
  unfold crashN at h
  split at h
  · injection h with h; subst h; unfold R64; omega
  · cases hn : numP w with
    | none => rw [hn] at h; cases h
    | some v =>
      rw [hn] at h
      dsimp only at h
      split at h
      · injection h with h; subst h; exact ⟨(numP_some hn).2, by omega⟩
      · cases h
theorem crash_right {t : List (List UInt8)} {x : EvE} (h : crashP t = some x) : rightV x = true ∧ x.fine := by
  cases t with
  | nil => cases h
  | cons n cs =>
    rw [crashP] at h
    cases hk : crashN n with
    | none => rw [hk] at h; cases h
    | some k =>
      rw [hk] at h
      dsimp only at h
      cases hl : numsP cs with
      | none => rw [hl] at h; cases h
      | some l =>
        rw [hl] at h
        dsimp only at h
        split at h
        · rename_i h3
          injection h with h
          subst h
          obtain ⟨h1, h2⟩ := crashN_in hk
          refine ⟨?_, h1, fun v hv => by cases hv⟩
          unfold rightV
          rw [if_neg (show ¬ (5 : Int) = 1 by decide), if_neg (show ¬ ((5 : Int) = 2 ∨ (5 : Int) = 4) by decide), if_neg (show ¬ (5 : Int) = 3 by decide), if_pos rfl]
          simp only [Bool.and_eq_true, decide_eq_true_eq]
          exact ⟨⟨rfl, by simpa using h3.2⟩, h2⟩
        · cases h
theorem kind_right {w : List UInt8} {l : List Int} {x : EvE} (hl : ∀ v ∈ l, R64 v) (h : kindW w l = some x) : rightV x = true ∧ x.fine := by
  have hz : R64 0 := by unfold R64; omega
  have hh : l.length = 1 → R64 (l.headD 0) := fun h2 => by
    cases l with
    | nil => simp at h2
    | cons a b => exact hl a (List.mem_cons_self ..)
  unfold kindW at h
  split at h
  · split at h
    · rename_i h2
      injection h with h
      subst h
      refine ⟨?_, hz, hl⟩
      unfold rightV
      rw [if_pos rfl]
      simp only [Bool.and_eq_true, decide_eq_true_eq]
      exact ⟨⟨⟨h2.1, h2.2⟩, rfl⟩, trivial⟩
    · cases h
  split at h
  · split at h
    · injection h with h
      subst h
      exact ⟨rfl, hz, fun v hv => by cases hv⟩
    · cases h
  split at h
  · split at h
    · rename_i h2
      injection h with h
      subst h
      refine ⟨?_, hh h2.1, fun v hv => by cases hv⟩
      unfold rightV
      rw [if_neg (show ¬ (2 : Int) = 1 by decide), if_pos (.inl rfl)]
      simp only [Bool.and_eq_true, decide_eq_true_eq]
      exact ⟨⟨rfl, rfl⟩, h2.2⟩
    · cases h
  split at h
  · split at h
    · rename_i h2
      injection h with h
      subst h
      refine ⟨?_, hh h2.1, fun v hv => by cases hv⟩
      unfold rightV
      rw [if_neg (show ¬ (4 : Int) = 1 by decide), if_pos (.inr rfl)]
      simp only [Bool.and_eq_true, decide_eq_true_eq]
      exact ⟨⟨rfl, rfl⟩, h2.2⟩
    · cases h
  · cases h
/-- the event of words is right -/
theorem ev_right {ws : List (List UInt8)} {x : EvE} (h : evP ws = some x) : rightV x = true ∧ x.fine := by
  cases ws with
  | nil => cases h
  | cons w t =>
    rw [evP] at h
    split at h
    · exact crash_right h
    · cases hl : numsP t with
      | none => rw [hl] at h; cases h
      | some l =>
        rw [hl] at h
        exact kind_right (nums_fine hl) h

/-! words of a line -/
/-- a word: it is not empty, and has no blank, no line's end -/
def WordB (w : List UInt8) : Prop := w ≠ [] ∧ ∀ c ∈ w, blankB c = false ∧ c ≠ 10
theorem word_itoa (v : Int) : WordB (Lib.itoa v) := by
  have hd : ∀ c, digB c → blankB c = false ∧ c ≠ 10 := fun c hc => by
    unfold digB at hc
    have h1 : c ≠ 32 := fun e => by subst e; simp at hc
    have h2 : c ≠ 9 := fun e => by subst e; simp at hc
    have h3 : c ≠ 13 := fun e => by subst e; simp at hc
    have h4 : c ≠ 10 := fun e => by subst e; simp at hc
    exact ⟨by simp [blankB, h1, h2, h3], h4⟩
  by_cases h0 : v < 0
  · obtain ⟨u, rfl⟩ : ∃ u : Nat, v = -(u : Int) := ⟨v.natAbs, by omega⟩
    rw [Lib.itoa_neg u (by omega)]
    refine ⟨by simp, fun c hc => ?_⟩
    rcases List.mem_cons.1 hc with rfl | hc
    · decide
    · exact hd c (dec_all u c hc)
  · obtain ⟨u, rfl⟩ : ∃ u : Nat, v = (u : Int) := ⟨v.toNat, by omega⟩
    rw [Lib.itoa_nonneg]
    exact ⟨dec_ne u, fun c hc => hd c (dec_all u c hc)⟩
theorem word_of {w : List UInt8} (h : (w ≠ [] ∧ w.all fun c => !blankB c && c != 10) = true) : WordB w := by
  simp only [ne_eq, List.all_eq_true, Bool.and_eq_true, Bool.not_eq_true', bne_iff_ne, eq_iff_iff, iff_true] at h
  exact ⟨h.1, fun c hc => h.2 c hc⟩
theorem words_all (x : EvE) : ∀ w ∈ wordsV x, WordB w := by
  have hi : ∀ (f : Int → List UInt8) (l : List Int), (∀ v, WordB (f v)) → ∀ w ∈ l.map f, WordB w := fun f l hf w hw => by
    obtain ⟨v, _, rfl⟩ := List.mem_map.1 hw
    exact hf v
  have s1 : WordB sSubmit := ⟨by decide, by decide⟩
  have s2 : WordB sRun := ⟨by decide, by decide⟩
  have s3 : WordB sSave := ⟨by decide, by decide⟩
  have s4 : WordB sCut := ⟨by decide, by decide⟩
  have s5 : WordB sCrash := ⟨by decide, by decide⟩
  have s6 : WordB [45] := ⟨by decide, by decide⟩
  intro w hw
  unfold wordsV at hw
  split at hw
  · rcases List.mem_cons.1 hw with rfl | hw
    · exact s1
    · exact hi _ _ word_itoa w hw
  split at hw
  · rcases List.mem_cons.1 hw with rfl | hw
    · exact s2
    · rw [List.mem_singleton.1 hw]; exact word_itoa _
  split at hw
  · rw [List.mem_singleton.1 hw]; exact s3
  split at hw
  · rcases List.mem_cons.1 hw with rfl | hw
    · exact s4
    · rw [List.mem_singleton.1 hw]; exact word_itoa _
  · rcases List.mem_cons.1 hw with rfl | hw
    · exact s5
    · rcases List.mem_cons.1 hw with rfl | hw
      · split
        · exact word_itoa _
        · exact s6
      · obtain ⟨c, _, rfl⟩ := List.mem_map.1 hw
        exact word_itoa _
theorem words_one {w : List UInt8} (h : WordB w) (t : List UInt8) (cur : List UInt8) : wordsGo (w ++ t) cur = wordsGo t (cur ++ w) := by
  rw [words_many w.length (w ++ t) cur (by simp) (by simpa using fun c hc => (h.2 c hc).1)]
  simp
theorem words_tail : ∀ (r : List (List UInt8)) (cur : List UInt8), cur ≠ [] → (∀ w ∈ r, WordB w) → wordsGo (Lib.joinTail [32] r) cur = cur :: r
  | [], cur, hc, _ => by simp [Lib.joinTail, wordsGo, hc]
  | w :: r, cur, hc, h => by
    have hw := h w (List.mem_cons_self ..)
    show wordsGo (([32] ++ w) ++ Lib.joinTail [32] r) cur = _
    rw [List.append_assoc, List.singleton_append, wordsGo, if_pos (by decide), if_neg hc, words_one hw]
    rw [List.nil_append, words_tail r w hw.1 fun x hx => h x (List.mem_cons_of_mem _ hx)]
theorem words_join {ws : List (List UInt8)} (h : ∀ w ∈ ws, WordB w) : wordsOf (Lib.join ws [32]) = ws := by
  cases ws with
  | nil => rfl
  | cons w r =>
    have hw := h w (List.mem_cons_self ..)
    rw [Lib.join_cons]
    unfold wordsOf
    rw [words_one hw, List.nil_append, words_tail r w hw.1 fun x hx => h x (List.mem_cons_of_mem _ hx)]
theorem no_end {ws : List (List UInt8)} (h : ∀ w ∈ ws, WordB w) : ∀ c ∈ Lib.join ws [32], c ≠ 10 := by
  cases ws with
  | nil => intro c hc; cases hc
  | cons w r =>
    intro c hc
    rw [Lib.join_cons] at hc
    rcases List.mem_append.1 hc with hc | hc
    · exact (((h w (List.mem_cons_self ..)).2) c hc).2
    · unfold Lib.joinTail at hc
      obtain ⟨y, hy, hc⟩ := List.mem_flatten.1 hc
      obtain ⟨z, hz, rfl⟩ := List.mem_map.1 hy
      rcases List.mem_append.1 hc with hc | hc
      · rw [List.mem_singleton.1 hc]; decide
      · exact (((h z (List.mem_cons_of_mem _ hz)).2) c hc).2
theorem lines_one {w : List UInt8} (h : ∀ c ∈ w, c ≠ 10) (t : List UInt8) (cur : List UInt8) : linesGo (w ++ 10 :: t) cur = (cur ++ w) :: linesGo t [] := by
  rw [lines_many w.length (w ++ 10 :: t) cur (by simp) (by simpa using h)]
  simp [linesGo]
theorem lines_text : ∀ l : List EvE, linesOf (l.map lineV).flatten = (l.map fun x => Lib.join (wordsV x) [32]) ++ [[]]
  | [] => rfl
  | x :: l => by
    have ih := lines_text l
    unfold linesOf at ih ⊢
    rw [List.map_cons, List.flatten_cons, lineV, List.append_assoc, List.singleton_append, lines_one (no_end (words_all x)), List.nil_append, ih]
    rfl
theorem parse_lines : ∀ (l : List EvE) (i : Nat) (acc : List EvE), (∀ x ∈ l, rightV x = true ∧ x.fine) → acc.length + l.length ≤ 4096 → parseGo ((l.map fun x => Lib.join (wordsV x) [32]) ++ [[]]) i acc = (acc ++ l, 0, 0)
  | [], i, acc, _, _ => by simp [parseGo, wordsOf, wordsGo]
  | x :: l, i, acc, h, hn => by
    have hx := h x (List.mem_cons_self ..)
    have hb := ev_back hx.1 hx.2
    have hl := parse_lines l (i + 1) (acc ++ [x]) (fun y hy => h y (List.mem_cons_of_mem _ hy)) (by simp at hn ⊢; omega)
    rw [List.map_cons, List.cons_append, parseGo, words_join (words_all x)]
    have h35 : ∃ w ws, wordsV x = w :: ws ∧ w.headD 0 ≠ 35 := by
      unfold wordsV
      split
      · exact ⟨_, _, rfl, by decide⟩
      split
      · exact ⟨_, _, rfl, by decide⟩
      split
      · exact ⟨_, _, rfl, by decide⟩
      split
      · exact ⟨_, _, rfl, by decide⟩
      · exact ⟨_, _, rfl, by decide⟩
    obtain ⟨w, ws, hw, h35⟩ := h35
    rw [hw] at hb ⊢
    dsimp only
    rw [if_neg h35, hb]
    dsimp only
    rw [if_neg (by simp at hn; omega), hl]
    simp
/-- what is told is parsed -/
theorem parse_text {l : List EvE} (h : ∀ x ∈ l, rightV x = true ∧ x.fine) (hn : l.length ≤ 4096) : parseV (l.map lineV).flatten = (l, 0, 0) := by
  unfold parseV
  rw [lines_text, parse_lines l 0 [] h (by simpa using hn)]
  rfl
/-- what is parsed is right, and not too much -/
theorem parse_good : ∀ (ls : List (List UInt8)) (i : Nat) (acc m : List EvE) (k : Nat), (∀ x ∈ acc, rightV x = true ∧ x.fine) → acc.length ≤ 4096 → parseGo ls i acc = (m, k, 0) → k = 0 ∧ m.length ≤ 4096 ∧ ∀ x ∈ m, rightV x = true ∧ x.fine
  | [], i, acc, m, k, h, hn, hp => by
    rw [parseGo] at hp
    injection hp with h1 h2
    injection h2 with h2 _
    subst h1 h2
    exact ⟨rfl, hn, h⟩
  | t :: ts, i, acc, m, k, h, hn, hp => by
    rw [parseGo] at hp
    split at hp
    · exact parse_good ts _ acc m k h hn hp
    · split at hp
      · exact parse_good ts _ acc m k h hn hp
      · split at hp
        · injection hp with _ hp
          injection hp with _ hp
          cases hp
        · rename_i hx
          split at hp
          · injection hp with _ hp
            injection hp with _ hp
            cases hp
          · refine parse_good ts _ _ m k (fun y hy => ?_) (by simp; omega) hp
            rcases List.mem_append.1 hy with hy | hy
            · exact h y hy
            · rw [List.mem_singleton.1 hy]; exact ev_right hx
/-- where something is wrong, no event is given, and the line is told -/
theorem parse_bad : ∀ (ls : List (List UInt8)) (i : Nat) (acc m : List EvE) (k : Nat) (e : Int), parseGo ls i acc = (m, k, e) → e ≠ 0 → m = [] ∧ 1 ≤ k
  | [], i, acc, m, k, e, hp, h0 => by
    rw [parseGo] at hp
    injection hp with _ hp
    injection hp with _ hp
    exact absurd hp.symm h0
  | t :: ts, i, acc, m, k, e, hp, h0 => by
    rw [parseGo] at hp
    split at hp
    · exact parse_bad ts _ acc m k e hp h0
    · split at hp
      · exact parse_bad ts _ acc m k e hp h0
      · split at hp
        · injection hp with h1 hp
          injection hp with h2 _
          exact ⟨h1.symm, by omega⟩
        · split at hp
          · injection hp with h1 hp
            injection hp with h2 _
            exact ⟨h1.symm, by omega⟩
          · exact parse_bad ts _ _ m k e hp h0
end Go.Proofs.YtmdnmodjdgcmjaaDoor
