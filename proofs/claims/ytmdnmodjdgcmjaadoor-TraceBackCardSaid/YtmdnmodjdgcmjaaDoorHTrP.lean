/-
  The rows of a trace, plain.
-/
import Derived.Test.YtmdnmodjdgcmjaaDoorHScE
import Derived.Lib.IndexMore
import Derived.Lib.Strings
namespace Go.Proofs.YtmdnmodjdgcmjaaDoor

def tT : List UInt8 := [116, 114, 117, 101]
def fF : List UInt8 := [102, 97, 108, 115, 101]
def kindB (t : Int) : Bool := t == 1 || t == 2
/-- may these types be? -/
def rightT (ts : List Int) : Bool := ts.all kindB && (decide (1 ≤ ts.length) && decide (ts.length ≤ 8))
def fitB (t v : Int) : Bool := !(t == 2 && !(v == 0 || v == 1))
def fitsZ (ts l : List Int) : List Bool := List.zipWith fitB ts l
def fitsT (ts l : List Int) : Bool := rightT ts && (l.length == ts.length && (fitsZ ts l).all id)
/-- a value, written -/
def valT (t v : Int) : List UInt8 := if t = 2 then (if v = 1 then tT else fF) else Lib.itoa v
/-- a row, written -/
def rowT (ts l : List Int) : List UInt8 := Lib.join (List.zipWith valT ts l) [32]
/-- a value, read -/
def rdV (t : Int) (w : List UInt8) : Option Int := if t = 2 then (if w = tT then some 1 else if w = fF then some 0 else none) else numP w
def rdR : List Int → List (List UInt8) → Option (List Int)
  | [], [] => some []
  | t :: ts, w :: ws => match rdV t w with
    | none => none
    | some v => match rdR ts ws with
      | none => none
      | some l => some (v :: l)
  | _, _ => none
def splitGo : List UInt8 → List UInt8 → List (List UInt8)
  | [], cur => [cur]
  | c :: l, cur => if c = 32 then cur :: splitGo l [] else splitGo l (cur ++ [c])
def splitS (s : List UInt8) : List (List UInt8) := splitGo s []
/-- a row, read -/
def rowR (ts : List Int) (s : List UInt8) : Option (List Int) := rdR ts (splitS s)

/-- what has been read so far -/
def RInv (o : Option (List Int)) (ts : List Int) (ws : List (List UInt8)) (ls : List Int) : Prop := o = (rdR ts ws).map (ls ++ ·)
section
variable {o : Option (List Int)} {ts ls : List Int} {t : Int} {w : List UInt8} {ws : List (List UInt8)}
theorem rinv_start (ts : List Int) (ws : List (List UInt8)) : RInv (rdR ts ws) ts ws [] := by
  unfold RInv; cases rdR ts ws <;> rfl
theorem rinv_over (h : RInv o [] (w :: ws) ls) : o = none := h
theorem rinv_none (h : RInv o (t :: ts) (w :: ws) ls) (hv : rdV t w = none) : o = none := by
  unfold RInv at h; rw [rdR, hv] at h; exact h
theorem rinv_some (h : RInv o (t :: ts) (w :: ws) ls) {v : Int} (hv : rdV t w = some v) : RInv o ts ws (ls ++ [v]) := by
  unfold RInv at h ⊢; rw [rdR, hv] at h
  rw [h]; dsimp only
  cases rdR ts ws with
  | none => rfl
  | some l => simp
theorem rinv_done (h : RInv o [] [] ls) : o = some ls := by unfold RInv at h; rw [h]; simp [rdR]
theorem rinv_few (h : RInv o (t :: ts) [] ls) : o = none := h
end
theorem split_ne : ∀ (l cur : List UInt8), splitGo l cur ≠ []
  | [], cur => by simp [splitGo]
  | c :: l, cur => by
    rw [splitGo]; split
    · simp
    · exact split_ne l _
theorem split_size : ∀ (l cur : List UInt8), ∀ t ∈ splitGo l cur, t.length ≤ l.length + cur.length
  | [], cur, t, ht => by rw [splitGo] at ht; rw [List.mem_singleton.1 ht]; simp
  | c :: l, cur, t, ht => by
    rw [splitGo] at ht
    split at ht
    · rcases List.mem_cons.1 ht with rfl | ht
      · simp
      · have := split_size l [] t ht; simp at this ⊢; omega
    · have := split_size l _ t ht; simp at this ⊢; omega
theorem split_len : ∀ (l cur : List UInt8), (splitGo l cur).length ≤ l.length + 1
  | [], cur => by simp [splitGo]
  | c :: l, cur => by
    rw [splitGo]; split
    · have := split_len l []; simp; omega
    · have := split_len l (cur ++ [c]); simp; omega
/-- a word behind which no blank stands -/
theorem split_app : ∀ (a cur l : List UInt8), (∀ c ∈ a, c ≠ 32) → splitGo (a ++ l) cur = splitGo l (cur ++ a)
  | [], cur, l, _ => by rw [List.nil_append, List.append_nil]
  | c :: a, cur, l, h => by
    rw [List.cons_append, splitGo, if_neg (h c (List.mem_cons_self ..)), split_app a (cur ++ [c]) l (fun x hx => h x (List.mem_cons_of_mem _ hx))]
    simp
theorem split_one (a cur : List UInt8) (h : ∀ c ∈ a, c ≠ 32) : splitGo a cur = [cur ++ a] := by
  have := split_app a cur [] h
  rw [List.append_nil] at this
  rw [this, splitGo]
theorem split_word (a l : List UInt8) (h : ∀ c ∈ a, c ≠ 32) : splitS (a ++ 32 :: l) = a :: splitS l := by
  unfold splitS
  rw [split_app a [] _ h, splitGo, if_pos rfl]; rfl
/-- as strings.Cut parts it -/
theorem index_one : ∀ (s : List UInt8) (c : UInt8), (Lib.index s [c] = -1 ∧ ∀ x ∈ s, x ≠ c) ∨ ∃ a l, s = a ++ c :: l ∧ (∀ x ∈ a, x ≠ c) ∧ Lib.index s [c] = a.length
  | [], c => .inl ⟨rfl, fun x hx => by cases hx⟩
  | b :: s, c => by
    by_cases hb : b = c
    · subst hb
      exact .inr ⟨[], s, rfl, (fun x hx => by cases hx), by rw [Lib.index, if_pos (by simp)]; rfl⟩
    · have hp : List.isPrefixOf [c] (b :: s) = false := by simp [List.isPrefixOf, Ne.symm hb]
      rcases index_one s c with ⟨h1, h2⟩ | ⟨a, l, rfl, h1, h2⟩
      · refine .inl ⟨by rw [Lib.index, hp, h1]; rfl, fun x hx => ?_⟩
        rcases List.mem_cons.1 hx with rfl | hx
        · exact hb
        · exact h2 x hx
      · refine .inr ⟨b :: a, l, rfl, fun x hx => ?_, ?_⟩
        · rcases List.mem_cons.1 hx with rfl | hx
          · exact hb
          · exact h1 x hx
        · rw [Lib.index, hp, h2]
          have : ((a.length : Int) == -1) = false := beq_eq_false_iff_ne.2 (by omega)
          simp [this]
theorem cut_one (s : List UInt8) (c : UInt8) : (Lib.cut s [c] = (s, [], false) ∧ ∀ x ∈ s, x ≠ c) ∨ ∃ a l, s = a ++ c :: l ∧ (∀ x ∈ a, x ≠ c) ∧ Lib.cut s [c] = (a, l, true) := by
  rcases index_one s c with ⟨h1, h2⟩ | ⟨a, l, hs, h1, h2⟩
  · exact .inl ⟨by unfold Lib.cut; rw [h1]; rfl, h2⟩
  · refine .inr ⟨a, l, hs, h1, ?_⟩
    unfold Lib.cut
    rw [h2, if_pos (by omega), hs]
    simp
theorem right_cons {ts : List Int} (h : rightT ts = true) : 1 ≤ ts.length ∧ ts.length ≤ 8 ∧ ∀ t ∈ ts, t = 1 ∨ t = 2 := by
  unfold rightT kindB at h
  simp only [Bool.and_eq_true, decide_eq_true_eq, List.all_eq_true, Bool.or_eq_true, beq_iff_eq] at h
  exact ⟨h.2.1, h.2.2, h.1⟩
theorem fits_cons {ts l : List Int} (h : fitsT ts l = true) : rightT ts = true ∧ l.length = ts.length ∧ (fitsZ ts l).all id = true := by
  unfold fitsT at h
  simpa [Bool.and_eq_true] using h
/-- a row that is read fits -/
theorem rdV_fit {t : Int} {w : List UInt8} {v : Int} (h : rdV t w = some v) : fitB t v = true ∧ valT t v = w := by
  unfold rdV at h
  unfold fitB valT
  by_cases ht : t = 2
  · subst ht
    rw [if_pos rfl] at h ⊢
    by_cases h1 : w = tT
    · rw [if_pos h1] at h; injection h with h; subst h h1; exact ⟨by decide, rfl⟩
    · rw [if_neg h1] at h
      by_cases h2 : w = fF
      · rw [if_pos h2] at h; injection h with h; subst h h2; exact ⟨by decide, rfl⟩
      · rw [if_neg h2] at h; cases h
  · rw [if_neg ht] at h ⊢
    refine ⟨by simp [ht], ?_⟩
    exact (numP_some h).1.symm
theorem rdR_fit : ∀ {ts : List Int} {ws : List (List UInt8)} {l : List Int}, rdR ts ws = some l → l.length = ts.length ∧ (fitsZ ts l).all id = true ∧ List.zipWith valT ts l = ws
  | [], [], l, h => by injection h with h; subst h; exact ⟨rfl, rfl, rfl⟩
  | [], w :: ws, l, h => by cases h
  | t :: ts, [], l, h => by cases h
  | t :: ts, w :: ws, l, h => by
    rw [rdR] at h
    cases hv : rdV t w with
    | none => rw [hv] at h; cases h
    | some v =>
      rw [hv] at h; dsimp only at h
      cases hr : rdR ts ws with
      | none => rw [hr] at h; cases h
      | some l' =>
        rw [hr] at h; injection h with h; subst h
        obtain ⟨h1, h2, h3⟩ := rdR_fit hr
        obtain ⟨h4, h5⟩ := rdV_fit hv
        refine ⟨by simp [h1], ?_, by simp [h3, h5]⟩
        unfold fitsZ at h2 ⊢
        rw [List.zipWith_cons_cons, List.all_cons, h2, h4]; rfl
end Go.Proofs.YtmdnmodjdgcmjaaDoor
