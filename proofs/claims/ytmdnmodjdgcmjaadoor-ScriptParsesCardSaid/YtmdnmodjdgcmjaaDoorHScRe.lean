/-
  Plain: what the reference's event makes of words is what the document says.
-/
import Derived.Test.YtmdnmodjdgcmjaaDoorHScE
namespace Go.Proofs.YtmdnmodjdgcmjaaDoor

def kindOf (w : List UInt8) : Int := if w = sSubmit then 1 else if w = sRun then 2 else if w = sSave then 3 else if w = sCut then 4 else if w = sCrash then 5 else 0
/-- one number behind the word: c: of a crash; f: the first -/
def rdOne (c f : Bool) (w : List UInt8) : Option Int := if c = true ∧ f = true ∧ w = [45] then some (-1) else match numP w with
  | none => none
  | some v => if c = true ∧ v < 0 then none else if c = true ∧ f = false ∧ 255 < v then none else some v
def rdAll (c : Bool) : Bool → List (List UInt8) → Option (List Int)
  | _, [] => some []
  | f, w :: t => match rdOne c f w with
    | none => none
    | some v => match rdAll c false t with
      | none => none
      | some l => some (v :: l)
/-- the event of a kind and of numbers -/
def evEnd (k : Int) (l : List Int) : Option EvE :=
  if k = 1 then (if rightV ⟨1, 0, l, []⟩ = true then some ⟨1, 0, l, []⟩ else none)
  else if k = 3 then (if l.length = 0 then some ⟨3, 0, [], []⟩ else none)
  else if l.length = 0 ∨ (k ≠ 5 ∧ 1 < l.length) then none
  else if rightV ⟨k, l.headD 0, [], l.tail.map toB⟩ = true then some ⟨k, l.headD 0, [], l.tail.map toB⟩ else none
def evR (w : List UInt8) (t : List (List UInt8)) : Option EvE := match rdAll (decide (kindOf w = 5)) true t with
  | none => none
  | some l => evEnd (kindOf w) l

theorem rd_one (f : Bool) (w : List UInt8) : rdOne false f w = numP w := by
  unfold rdOne
  rw [if_neg (by simp)]
  cases numP w with
  | none => rfl
  | some v => simp
theorem rd_plain : ∀ (t : List (List UInt8)) (f : Bool), rdAll false f t = numsP t
  | [], _ => rfl
  | w :: t, f => by
    rw [rdAll, rd_one, rd_plain t false, numsP]
    cases numP w with
    | none => rfl
    | some v => cases numsP t <;> rfl
theorem rd_first (w : List UInt8) : rdOne true true w = crashN w := by
  unfold rdOne crashN
  by_cases h : w = [45]
  · rw [if_pos ⟨rfl, rfl, h⟩, if_pos h]
  · rw [if_neg (fun hh => h hh.2.2), if_neg h]
    cases numP w with
    | none => rfl
    | some v =>
      dsimp only
      by_cases h0 : 0 ≤ v
      · rw [if_neg (by omega), if_neg (by simp), if_pos h0]
      · rw [if_pos ⟨rfl, by omega⟩, if_neg h0]
theorem rd_more : ∀ t : List (List UInt8), rdAll true false t = match numsP t with
    | none => none
    | some l => if l.all okB = true then some l else none
  | [] => rfl
  | w :: t => by
    rw [rdAll, rd_more t, numsP]
    unfold rdOne
    rw [if_neg (by simp)]
    cases numP w with
    | none => rfl
    | some v =>
      dsimp only
      by_cases h0 : v < 0
      · rw [if_pos ⟨rfl, h0⟩]
        cases numsP t with
        | none => rfl
        | some l => simp [okB]; omega
      · rw [if_neg (by omega)]
        by_cases h1 : 255 < v
        · rw [if_pos ⟨rfl, rfl, h1⟩]
          cases numsP t with
          | none => rfl
          | some l => simp [okB]; omega
        · rw [if_neg (by omega)]
          have hv : okB v = true := by unfold okB; simp; omega
          cases numsP t with
          | none => rfl
          | some l =>
            dsimp only
            by_cases h : l.all okB = true
            · rw [if_pos h, if_pos (by simp [hv]; simpa using h)]
            · rw [if_neg h, if_neg (by simp [hv]; simpa using h)]
theorem evR_crash (t : List (List UInt8)) : evR sCrash t = crashP t := by
  unfold evR
  rw [show kindOf sCrash = 5 by decide, show decide ((5 : Int) = 5) = true by decide]
  cases t with
  | nil => rfl
  | cons n cs =>
    rw [rdAll, rd_first, rd_more, crashP]
    cases h : crashN n with
    | none => rfl
    | some k =>
      have hk : -1 ≤ k := by
        unfold crashN at h
        split at h
        · injection h with h; omega
        · split at h
          · cases h
          · split at h
            · injection h with h; omega
            · cases h
      dsimp only
      cases numsP cs with
      | none => rfl
      | some l =>
        dsimp only
        by_cases ha : l.all okB = true
        · rw [if_pos ha]
          dsimp only
          unfold evEnd
          rw [if_neg (by decide), if_neg (by decide), if_neg (by simp)]
          by_cases hl : l.length ≤ 64
          · rw [if_pos (by simp [rightV, hl, hk]), if_pos ⟨ha, hl⟩]; rfl
          · rw [if_neg (by simp [rightV, hl]), if_neg (fun hh => hl hh.2)]
        · rw [if_neg ha, if_neg (fun hh => ha hh.1)]
theorem end_one (l : List Int) {k : Int} (hk : k = 2 ∨ k = 4) : evEnd k l = if l.length = 1 ∧ 0 ≤ l.headD 0 then some ⟨k, l.headD 0, [], []⟩ else none := by
  unfold evEnd
  rw [if_neg (by omega), if_neg (by omega)]
  match l with
  | [] => rfl
  | [v] =>
    rw [if_neg (by simp)]
    show (if rightV ⟨k, v, [], []⟩ = true then some (⟨k, v, [], []⟩ : EvE) else none) = if (1 : Nat) = 1 ∧ 0 ≤ v then some ⟨k, v, [], []⟩ else none
    have hr : rightV ⟨k, v, [], []⟩ = decide (0 ≤ v) := by rcases hk with rfl | rfl <;> simp [rightV]
    rw [hr]
    by_cases h : 0 ≤ v
    · rw [if_pos (by simpa using h), if_pos ⟨rfl, h⟩]
    · rw [if_neg (by simpa using h), if_neg (fun hh => h hh.2)]
  | a :: b :: t =>
    rw [if_pos (.inr ⟨by omega, by simp⟩), if_neg (by simp)]
theorem end_zero (l : List Int) : evEnd 0 l = none := by
  unfold evEnd
  rw [if_neg (by decide), if_neg (by decide)]
  by_cases h : l.length = 0 ∨ ((0 : Int) ≠ 5 ∧ 1 < l.length)
  · rw [if_pos h]
  · rw [if_neg h, if_neg (by simp [rightV])]
theorem evR_eq (w : List UInt8) (t : List (List UInt8)) : evR w t = evP (w :: t) := by
  by_cases hc : w = sCrash
  · rw [hc, evR_crash, evP, if_pos rfl]
  · rw [evP, if_neg hc]
    by_cases h1 : w = sSubmit
    · subst h1
      unfold evR
      rw [show kindOf sSubmit = 1 by decide, show decide ((1 : Int) = 5) = false by decide, rd_plain]
      cases numsP t with
      | none => rfl
      | some l =>
        dsimp only
        unfold kindW evEnd
        rw [if_pos rfl, if_pos rfl]
        by_cases hl : 1 ≤ l.length ∧ l.length ≤ 8
        · rw [if_pos hl, if_pos (by simp [rightV]; omega)]
        · rw [if_neg hl, if_neg (by simp [rightV]; omega)]
    by_cases h3 : w = sSave
    · subst h3
      unfold evR
      rw [show kindOf sSave = 3 by decide, show decide ((3 : Int) = 5) = false by decide, rd_plain]
      cases numsP t with
      | none => rfl
      | some l =>
        dsimp only
        have hk : kindW sSave l = if l.length = 0 then some ⟨3, 0, [], []⟩ else none := by unfold kindW; rw [if_neg (by decide), if_pos rfl]
        rw [hk]
        unfold evEnd
        rw [if_neg (by decide), if_pos rfl]
    by_cases h2 : w = sRun
    · subst h2
      unfold evR
      rw [show kindOf sRun = 2 by decide, show decide ((2 : Int) = 5) = false by decide, rd_plain]
      cases numsP t with
      | none => rfl
      | some l =>
        dsimp only
        have hk : kindW sRun l = if l.length = 1 ∧ 0 ≤ l.headD 0 then some ⟨2, l.headD 0, [], []⟩ else none := by unfold kindW; rw [if_neg (by decide), if_neg (by decide), if_pos rfl]
        rw [end_one l (.inl rfl), hk]
    by_cases h4 : w = sCut
    · subst h4
      unfold evR
      rw [show kindOf sCut = 4 by decide, show decide ((4 : Int) = 5) = false by decide, rd_plain]
      cases numsP t with
      | none => rfl
      | some l =>
        dsimp only
        have hk : kindW sCut l = if l.length = 1 ∧ 0 ≤ l.headD 0 then some ⟨4, l.headD 0, [], []⟩ else none := by unfold kindW; rw [if_neg (by decide), if_neg (by decide), if_neg (by decide), if_pos rfl]
        rw [end_one l (.inr rfl), hk]
    · unfold evR
      rw [show kindOf w = 0 by unfold kindOf; rw [if_neg h1, if_neg h2, if_neg h3, if_neg h4, if_neg hc], show decide ((0 : Int) = 5) = false by decide, rd_plain]
      cases numsP t with
      | none => rfl
      | some l =>
        dsimp only
        rw [end_zero]
        unfold kindW
        rw [if_neg h1, if_neg h3, if_neg h2, if_neg h4]
end Go.Proofs.YtmdnmodjdgcmjaaDoor
