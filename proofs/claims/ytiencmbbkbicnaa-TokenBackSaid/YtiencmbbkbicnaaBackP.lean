/-
  Plain facts for TokenBack: places differ; tokens copied with blanks between are scanned as the same.
-/
import Derived.Test.YtiencmbbkbicnaaLawNames
namespace Go.Proofs.Ytiencmbbkbicnaa
open Go.RowKit

theorem place_step (s : ByteArray) (i : Nat) : (place s i).1 < (place s (i + 1)).1 ∨ (place s i).1 = (place s (i + 1)).1 ∧ (place s i).2 < (place s (i + 1)).2 := by
  by_cases h : bt s i = 10
  · rw [place_nl h]; left; show _ < _ + 1; omega
  · rw [place_on h]; right; exact ⟨rfl, by show _ < _ + 1; omega⟩
theorem place_mono (s : ByteArray) (i : Nat) : ∀ k, (place s i).1 < (place s (i + 1 + k)).1 ∨ (place s i).1 = (place s (i + 1 + k)).1 ∧ (place s i).2 < (place s (i + 1 + k)).2 := by
  intro k
  induction k with
  | zero => exact place_step s i
  | succ k ih => have := place_step s (i + 1 + k); rw [show i + 1 + (k + 1) = i + 1 + k + 1 by omega]; omega
theorem place_ne {s : ByteArray} {i j : Nat} (h : i < j) : ¬ ((place s i).1 = (place s j).1 ∧ (place s i).2 = (place s j).2) := by
  have := place_mono s i (j - i - 1)
  rw [show i + 1 + (j - i - 1) = j by omega] at this
  omega

/-- the tokens from a byte on -/
inductive Toks (s : ByteArray) : Nat → List Tk → Prop where
  | last {i : Nat} : over s i = s.size → Toks s i [tkEnd s.size]
  | cons {i : Nat} {l : List Tk} : over s i < s.size → tokOk s (over s i) = true → Toks s (over s i + tokLen s (over s i)) l → Toks s i (tkAt s (over s i) :: l)

theorem go_toks (s : ByteArray) : ∀ (f n i : Nat) (l m : List Tk), i ≤ s.size → s.size + 1 ≤ i + f → n ≤ 4096 → scanGo s f n i l = .toks m → ∃ r, m = l ++ r ∧ Toks s i r ∧ n + r.length ≤ 4097 := by
  intro f
  induction f with
  | zero => intro n i l m hi hf _ _; omega
  | succ f ih =>
    intro n i l m hi hf hn h
    unfold scanGo at h
    have hov := over_le s i hi
    by_cases he : over s i = s.size
    · rw [if_pos he] at h
      injection h with h
      exact ⟨_, h.symm, .last he, by simp; omega⟩
    · rw [if_neg he] at h
      by_cases h4 : n = 4096
      · rw [if_pos h4] at h; cases h
      · rw [if_neg h4] at h
        by_cases hk : tokOk s (over s i) = true
        · rw [if_pos hk] at h
          have hlt : over s i < s.size := by omega
          have hp := tok_pos hlt hk
          have hle := tok_le hlt
          obtain ⟨r, rfl, hr, hl⟩ := ih (n + 1) _ _ m hle (by omega) (by omega) h
          exact ⟨_, by rw [List.append_assoc]; rfl, .cons hlt hk hr, by simp; omega⟩
        · rw [if_neg hk] at h; cases h

theorem over_notblank {s : ByteArray} {i : Nat} (h : over s i < s.size) (hi : i ≤ s.size) : ¬ (bt s (over s i) = 32 ∨ bt s (over s i) = 9 ∨ bt s (over s i) = 10 ∨ bt s (over s i) = 13) ∧ ¬ bt s (over s i) = 35 := by
  have key : ∀ (k q : Nat), q + k = s.size → (over s q < s.size → ¬ (bt s (over s q) = 32 ∨ bt s (over s q) = 9 ∨ bt s (over s q) = 10 ∨ bt s (over s q) = 13) ∧ ¬ bt s (over s q) = 35) ∧
      (overIn s q < s.size → ¬ (bt s (overIn s q) = 32 ∨ bt s (overIn s q) = 9 ∨ bt s (overIn s q) = 10 ∨ bt s (overIn s q) = 13) ∧ ¬ bt s (overIn s q) = 35) := by
    intro k
    induction k with
    | zero =>
      intro q hq
      obtain rfl : q = s.size := by omega
      rw [overIn_end, over_end]
      exact ⟨fun h => absurd h (Nat.lt_irrefl _), fun h => absurd h (Nat.lt_irrefl _)⟩
    | succ k ih =>
      intro q hq
      have h1 := ih (q + 1) (by omega)
      have hlt : q < s.size := by omega
      have hA : over s q < s.size → ¬ (bt s (over s q) = 32 ∨ bt s (over s q) = 9 ∨ bt s (over s q) = 10 ∨ bt s (over s q) = 13) ∧ ¬ bt s (over s q) = 35 := by
        by_cases hb : bt s q = 32 ∨ bt s q = 9 ∨ bt s q = 10 ∨ bt s q = 13
        · rw [over_blank hlt hb]; exact h1.1
        · by_cases hr : bt s q = 35
          · rw [over_rem hlt hr, overIn_on hlt (by omega)]; exact h1.2
          · rw [over_stop hlt hb hr]; exact fun _ => ⟨hb, hr⟩
      refine ⟨hA, ?_⟩
      by_cases h10 : bt s q = 10
      · rw [overIn_nl hlt h10]; exact hA
      · rw [overIn_on hlt h10]; exact h1.2
  exact (key (s.size - i) i (by omega)).1 h

/-- a token copied: its bytes, and a blank behind them -/
structure Copied (s : ByteArray) (j : Nat) (X : ByteArray) (p : Nat) : Prop where
  lt : j < s.size
  ok : tokOk s j = true
  same : ∀ q, q < tokLen s j → bt X (p + q) = bt s (j + q)
  room : p + tokLen s j < X.size
  blank : bt X (p + tokLen s j) = 32

theorem rn_is (P : Int → Bool) (X : ByteArray) (n : Nat) : ∀ p, p + n < X.size → (∀ q, q < n → P (bt X (p + q)) = true) → P (bt X (p + n)) = false → rn P (X.data.toList.drop p) = n := by
  induction n with
  | zero => intro p h _ h2; exact rn_off h h2
  | succ n ih =>
    intro p h h1 h2
    rw [rn_on (show p < X.size by omega) (by have := h1 0 (by omega); rwa [Nat.add_zero] at this), ih (p + 1) (by omega) (fun q hq => by have := h1 (q + 1) (by omega); rwa [show p + (q + 1) = p + 1 + q by omega] at this) (by rwa [show p + (n + 1) = p + 1 + n by omega] at h2)]
    omega
theorem bytes_ext {l m : List UInt8} (hl : l.length = m.length) (h : ∀ q, q < l.length → ((l[q]?.getD 0).toNat : Int) = ((m[q]?.getD 0).toNat : Int)) : l = m := by
  apply List.ext_getElem hl
  intro q h1 h2
  have := h q h1
  rw [List.getElem?_eq_getElem h1, List.getElem?_eq_getElem h2] at this
  simp only [Option.getD_some] at this
  exact UInt8.toNat_inj.1 (by omega)
theorem text_ext {s X : ByteArray} {j p n : Nat} (h1 : j + n ≤ s.size) (h2 : p + n ≤ X.size) (h : ∀ q, q < n → bt X (p + q) = bt s (j + q)) : X.extract p (p + n) = s.extract j (j + n) := by
  have hz1 := size_extract' X p (p + n) h2
  have hz2 := size_extract' s j (j + n) h1
  apply ByteArray.ext
  apply Array.ext'
  apply bytes_ext
  · rw [← size_len, ← size_len]; omega
  · intro q hq
    rw [← size_len, hz1] at hq
    have e1 := bt_extract X p (p + n) q (by omega)
    have e2 := bt_extract s j (j + n) q (by omega)
    unfold bt at e1 e2 h
    rw [e1, e2]
    exact h q (by omega)

theorem pair_ext {t : ByteArray} {c d : UInt8} (h : t.toList = [c, d]) : bt t 0 = (c.toNat : Int) ∧ bt t 1 = (d.toNat : Int) := by
  rw [ByteArray.toList_eq] at h
  unfold bt
  rw [h]; exact ⟨rfl, rfl⟩
theorem sign2_blank {X : ByteArray} {p : Nat} (h : p + 1 < X.size) (hb : bt X (p + 1) = 32) : sign2 (X.extract p X.size) = false := by
  rw [sign2_yes X p (by omega)]
  cases hp : pairB (X.extract p (p + 2)).toList with
  | false => rfl
  | true =>
    simp only [pairB, Bool.or_eq_true, beq_iff_eq] at hp
    have e := bt_extract X p (p + 2) 1 (by omega)
    rw [hb] at e
    rcases hp with ((hp | hp) | hp) | hp <;> (rw [(pair_ext hp).2] at e; revert e; decide)

theorem Copied.len {s X : ByteArray} {j p : Nat} (h : Copied s j X p) : tokLen X p = tokLen s j := by
  have hpos := tok_pos h.lt h.ok
  have h0 := h.same 0 hpos
  simp only [Nat.add_zero] at h0
  by_cases hl : isLetter (bt s j) = true
  · have e : tokLen s j = rn partB (s.data.toList.drop j) := by unfold tokLen; rw [if_pos hl]
    have e2 : tokLen X p = rn partB (X.data.toList.drop p) := by unfold tokLen; rw [h0, if_pos hl]
    rw [e2]
    refine rn_is partB X (tokLen s j) p h.room (fun q hq => ?_) (by rw [h.blank]; decide)
    rw [h.same q hq]
    exact rn_all partB s j q (by rw [← e]; exact hq)
  · by_cases hd : isDigit (bt s j) = true
    · have e : tokLen s j = rn isDigit (s.data.toList.drop j) := by unfold tokLen; rw [if_neg hl, if_pos hd]
      have e2 : tokLen X p = rn isDigit (X.data.toList.drop p) := by unfold tokLen; rw [h0, if_neg hl, if_pos hd]
      rw [e2]
      refine rn_is isDigit X (tokLen s j) p h.room (fun q hq => ?_) (by rw [h.blank]; decide)
      rw [h.same q hq]
      exact rn_all isDigit s j q (by rw [← e]; exact hq)
    · have e : tokLen s j = signOf (s.extract j s.size) := by unfold tokLen; rw [if_neg hl, if_neg hd]
      have e2 : tokLen X p = signOf (X.extract p X.size) := by unfold tokLen; rw [h0, if_neg hl, if_neg hd]
      have b0 : bt (s.extract j s.size) 0 = bt s j := by rw [bt_extract s j s.size 0 (by have := h.lt; omega), Nat.add_zero]
      have b1 : bt (X.extract p X.size) 0 = bt s j := by rw [bt_extract X p X.size 0 (by have := h.room; omega), Nat.add_zero, h0]
      rw [e2]
      cases h2 : sign2 (s.extract j s.size) with
      | true =>
        have hs2 : tokLen s j = 2 := by rw [e]; unfold signOf; rw [if_pos h2]
        have hle := tok_le h.lt
        have hx : sign2 (X.extract p X.size) = true := by
          rw [sign2_yes X p (by have := h.room; omega)]
          rw [sign2_yes s j (by omega)] at h2
          rw [text_ext (s := s) (X := X) (j := j) (p := p) (n := 2) (by omega) (by have := h.room; omega) (fun q hq => h.same q (by omega))]
          exact h2
        unfold signOf
        rw [if_pos hx, hs2]
      | false =>
        have hs1 : sign1 (bt s j) = true := by
          cases hs : sign1 (bt s j) with
          | true => rfl
          | false => rw [e] at hpos; unfold signOf at hpos; rw [h2, b0, hs] at hpos; simp at hpos
        have hs2 : tokLen s j = 1 := by rw [e]; unfold signOf; rw [h2, b0, hs1]; rfl
        have hx : sign2 (X.extract p X.size) = false := sign2_blank (by have := h.room; omega) (by have := h.blank; rwa [hs2] at this)
        unfold signOf
        rw [hx, b1, hs1, hs2]; rfl
theorem Copied.text {s X : ByteArray} {j p : Nat} (h : Copied s j X p) : textOf X p (tokLen X p) = textOf s j (tokLen s j) := by
  rw [h.len]
  exact text_ext (tok_le h.lt) (Nat.le_of_lt h.room) h.same
theorem Copied.all {s X : ByteArray} {j p : Nat} (h : Copied s j X p) : tokOk X p = true ∧ tokKind X p = tokKind s j ∧ tokNum X p = tokNum s j := by
  have hpos := tok_pos h.lt h.ok
  have h0 := h.same 0 hpos
  simp only [Nat.add_zero] at h0
  refine ⟨?_, ?_, ?_⟩
  · rw [← h.ok]; unfold tokOk; rw [h0, h.text, h.len]
  · unfold tokKind; rw [h0, h.text]
  · unfold tokNum; rw [h0, h.text]

/-- the texts, a blank behind each -/
def allL (l : List Tk) : List UInt8 := l.flatMap fun t => t.text.data.toList ++ [32]
theorem allL_cons (t : Tk) (l : List Tk) : allL (t :: l) = t.text.data.toList ++ 32 :: allL l := by simp [allL]
theorem allL_take (l : List Tk) (k : Nat) (h : k < l.length) : allL (l.take (k + 1)) = allL (l.take k) ++ (l[k]).text.data.toList ++ [32] := by
  unfold allL
  rw [List.take_succ_eq_append_getElem h, List.flatMap_append]
  simp only [List.flatMap_cons, List.flatMap_nil, List.append_nil, List.append_assoc]
/-- are two tokens one, but for their places? -/
def Tk.alike (a b : Tk) : Prop := a.kind = b.kind ∧ a.text = b.text ∧ a.num = b.num
inductive Alike : List Tk → List Tk → Prop where
  | nil : Alike [] []
  | cons {a b : Tk} {l m : List Tk} : a.alike b → Alike l m → Alike (a :: l) (b :: m)
theorem Alike.len {l m : List Tk} (h : Alike l m) : l.length = m.length := by
  induction h with
  | nil => rfl
  | cons _ _ ih => rw [List.length_cons, List.length_cons, ih]
theorem Alike.get {l m : List Tk} (h : Alike l m) : ∀ k (h1 : k < l.length) (h2 : k < m.length), (l[k]).alike m[k] := by
  induction h with
  | nil => intro k h1; simp at h1
  | cons ha _ ih =>
    intro k h1 h2
    cases k with
    | zero => exact ha
    | succ k => exact ih k (by simpa using h1) (by simpa using h2)

theorem bt_app {X : ByteArray} {A : List UInt8} {t : ByteArray} {r : List UInt8} (h : X.data.toList = A ++ (t.data.toList ++ r)) (q : Nat) (hq : q < t.size) : bt X (A.length + q) = bt t q := by
  unfold bt
  rw [h, List.getElem?_append_right (by omega), show A.length + q - A.length = q by omega, List.getElem?_append_left (by rw [← size_len]; exact hq)]
theorem bt_blank {X : ByteArray} {A : List UInt8} {r : List UInt8} (h : X.data.toList = A ++ 32 :: r) : bt X A.length = 32 := by
  unfold bt
  rw [h, List.getElem?_append_right (Nat.le_refl _), Nat.sub_self]; rfl

theorem scan_again (s X : ByteArray) {i : Nat} {l : List Tk} (ht : Toks s i l) : i ≤ s.size → ∀ (A : List UInt8) (f n i' : Nat) (l' : List Tk), X.data.toList = A ++ allL l → over X i' = over X A.length → i' ≤ A.length →
    X.size + 1 ≤ i' + f → n + l.length ≤ 4097 → ∃ r, scanGo X f n i' l' = .toks (l' ++ r) ∧ Alike r l := by
  induction ht with
  | @last i ho =>
    intro hi A f n i' l' hX hov hle hf hn
    have hsz : X.size = A.length + 1 := by rw [size_len, hX]; simp [allL, tkEnd]
    have hX' : X.data.toList = A ++ 32 :: [] := by rw [hX]; rfl
    have hb := bt_blank hX'
    have he : over X i' = X.size := by rw [hov, over_blank (by omega) (.inl hb), ← hsz, over_end]
    match f with
    | 0 => omega
    | f + 1 =>
      refine ⟨[tkEnd X.size], ?_, .cons ⟨rfl, rfl, rfl⟩ .nil⟩
      unfold scanGo
      rw [if_pos he]
  | @cons i l hlt hok hl ih =>
    intro hi A f n i' l' hX hov hle hf hn
    generalize hj : over s i = j at *
    have htl := tok_le hlt
    have hpos := tok_pos hlt hok
    have htz := text_size hlt
    rw [allL_cons] at hX
    have htx : (tkAt s j).text = textOf s j (tokLen s j) := rfl
    rw [htx] at hX
    have hsz : A.length + tokLen s j + 1 + (allL l).length = X.size := by
      rw [size_len, hX, List.length_append, List.length_append, List.length_cons, ← size_len, htz]; omega
    have hsame : ∀ q, q < tokLen s j → bt X (A.length + q) = bt s (j + q) := fun q hq => by
      rw [bt_app hX q (by omega)]
      exact bt_extract s j (j + tokLen s j) q (by omega)
    have hX2 : X.data.toList = (A ++ (textOf s j (tokLen s j)).data.toList) ++ 32 :: allL l := by rw [hX, List.append_assoc]
    have hbl := bt_blank hX2
    rw [List.length_append, ← size_len, htz] at hbl
    have hc : Copied s j X A.length := ⟨hlt, hok, hsame, by omega, hbl⟩
    have h0 := hsame 0 hpos
    simp only [Nat.add_zero] at h0
    have hnb := over_notblank (s := s) (i := i) (by rw [hj]; exact hlt) hi
    rw [hj] at hnb
    have hst : over X A.length = A.length := over_stop (by omega) (by rw [h0]; exact hnb.1) (by rw [h0]; exact hnb.2)
    obtain ⟨c1, c2, c3⟩ := hc.all
    have hX3 : X.data.toList = (A ++ (textOf s j (tokLen s j)).data.toList ++ [32]) ++ allL l := by rw [hX2]; simp
    have hA3 : (A ++ (textOf s j (tokLen s j)).data.toList ++ [32]).length = A.length + tokLen s j + 1 := by rw [List.length_append, List.length_append, ← size_len, htz]; rfl
    match f with
    | 0 => omega
    | f + 1 =>
      have hl1 : l.length ≥ 1 := by cases hl <;> simp
      have hn' : n + (l.length + 1) ≤ 4097 := hn
      obtain ⟨r, hr, hal⟩ := ih htl _ f (n + 1) (A.length + tokLen s j) (l' ++ [tkAt X A.length]) hX3 (by rw [hA3]; exact over_blank (by omega) (.inl hbl)) (by rw [hA3]; omega) (by omega) (by omega)
      refine ⟨tkAt X A.length :: r, ?_, .cons ⟨c2, hc.text, c3⟩ hal⟩
      unfold scanGo
      rw [hov, hst, if_neg (by omega), if_neg (by omega), if_pos c1, hc.len, hr, List.append_assoc]; rfl

theorem scan_back {s X : ByteArray} {l : List Tk} (h : scanOf s = .toks l) (hX : X.data.toList = allL l) (hz : ¬ 16384 < X.size) : ∃ r, scanOf X = .toks r ∧ Alike r l := by
  unfold scanOf at h
  split at h
  · cases h
  · obtain ⟨r, hr, ht, hn⟩ := go_toks s _ 0 0 [] l (by omega) (by omega) (by omega) h
    rw [List.nil_append] at hr
    subst hr
    obtain ⟨r', h1, h2⟩ := scan_again s X ht (by omega) [] (X.size + 1) 0 0 [] hX rfl (Nat.le_refl _) (by omega) (by omega)
    refine ⟨r', ?_, h2⟩
    unfold scanOf
    rw [if_neg hz, h1, List.nil_append]

/-- each token stands behind the one before -/
theorem toks_places {s : ByteArray} {i : Nat} {l : List Tk} (h : Toks s i l) : i ≤ s.size → ∀ k (hk : k < l.length), (∃ a, a ≤ (l[k]).pos ∧ (k = 0 → i ≤ a) ∧ (∀ k' (h' : k' < l.length), k = k' + 1 → (l[k']).pos + (l[k']).text.size = a) ∧ (k = 0 → a = i)) ∧
    (l[k]).pos + (l[k]).text.size ≤ s.size ∧ (l[k]).text = s.extract (l[k]).pos ((l[k]).pos + (l[k]).text.size) := by
  induction h with
  | @last i ho =>
    intro hi k hk
    have : k = 0 := by simpa using hk
    subst this
    have hov := over_le s i hi
    refine ⟨⟨i, hi, fun _ => Nat.le_refl _, fun k' _ h => by omega, fun _ => rfl⟩, Nat.le_refl _, ?_⟩
    show (⟨#[]⟩ : ByteArray) = s.extract s.size (s.size + 0)
    apply ByteArray.ext
    apply Array.ext'
    rw [Lib.extract_data]
    simp
  | @cons i l hlt hok hl ih =>
    intro hi k hk
    have hov := over_le s i hi
    have htl := tok_le hlt
    have htz := text_size hlt
    cases k with
    | zero =>
      refine ⟨⟨i, hov.1, fun _ => Nat.le_refl _, fun k' _ h => by omega, fun _ => rfl⟩, ?_, ?_⟩
      · show over s i + (textOf s (over s i) (tokLen s (over s i))).size ≤ s.size
        rw [htz]; exact htl
      · show textOf s (over s i) (tokLen s (over s i)) = s.extract (over s i) (over s i + (textOf s (over s i) (tokLen s (over s i))).size)
        rw [htz]; rfl
    | succ k =>
      obtain ⟨⟨a, h1, h2, h3, h4⟩, h5, h6⟩ := ih htl k (by simpa using hk)
      refine ⟨⟨a, h1, fun h => by omega, fun k' hk' he => ?_, fun h => by omega⟩, h5, h6⟩
      obtain rfl : k = k' := by omega
      cases k with
      | zero =>
        rw [h4 rfl]
        show over s i + (textOf s (over s i) (tokLen s (over s i))).size = _
        rw [htz]
      | succ k => exact h3 k (by simp at hk'; omega) rfl
end Go.Proofs.Ytiencmbbkbicnaa
