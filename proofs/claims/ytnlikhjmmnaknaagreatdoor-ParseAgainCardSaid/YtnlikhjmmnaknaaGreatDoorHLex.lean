/-
  Scanning, in terms of what is left of a text; how a text of tokens is taken apart.
-/
import Derived.Test.YtnlikhjmmnaknaaGreatDoorGP
namespace Go.Proofs.YtnlikhjmmnaknaaGreatDoor
open Go.RowKit

/-- a token without its place -/
structure It where
  kind : Int
  text : List UInt8
  num : Int
def Tk.it (t : Tk) : It := ⟨t.kind, t.text.data.toList, t.num⟩
def itEnd : It := ⟨5, [], 0⟩

def signL : List UInt8 → Nat
  | a :: b :: _ => if ((a = 45 ∧ b = 62) ∨ (a = 60 ∧ b = 62) ∨ (a = 60 ∧ b = 61) ∨ (a = 62 ∧ b = 61)) then 2 else if sign1 (a.toNat : Int) = true then 1 else 0
  | [a] => if sign1 (a.toNat : Int) = true then 1 else 0
  | [] => 0
def lenL : List UInt8 → Nat
  | [] => 0
  | c :: v => if isLetter (c.toNat : Int) = true then rn partB (c :: v) else if isDigit (c.toNat : Int) = true then rn isDigit (c :: v) else signL (c :: v)
def kindL : List UInt8 → Int
  | [] => 5
  | c :: v => if isLetter (c.toNat : Int) = true then (if isWord ((c :: v).take (lenL (c :: v))) = true then 4 else 1) else if isDigit (c.toNat : Int) = true then 2 else 3
def numL : List UInt8 → Int
  | [] => 0
  | c :: v => if isLetter (c.toNat : Int) = true then 0 else if isDigit (c.toNat : Int) = true then (numOf ((c :: v).take (lenL (c :: v)))).getD 0 else 0
def itL (v : List UInt8) : It := ⟨kindL v, v.take (lenL v), numL v⟩

/-- the tokens of what is left of a text -/
inductive LexTo : List UInt8 → List It → Prop where
  | last {u : List UInt8} : u.drop (ov false u) = [] → LexTo u [itEnd]
  | cons {u : List UInt8} {its : List It} : u.drop (ov false u) ≠ [] → LexTo ((u.drop (ov false u)).drop (lenL (u.drop (ov false u)))) its → LexTo u (itL (u.drop (ov false u)) :: its)

theorem extract_data (s : ByteArray) (i m : Nat) : (s.extract i m).data.toList = (s.data.toList.take m).drop i := by
  rw [ByteArray.data_extract, Array.toList_extract, List.extract_eq_take_drop, List.drop_take]
theorem sign2_L (X : ByteArray) (a b : UInt8) (r : List UInt8) (h : X.data.toList = a :: b :: r) : sign2 X = decide ((a = 45 ∧ b = 62) ∨ (a = 60 ∧ b = 62) ∨ (a = 60 ∧ b = 61) ∨ (a = 62 ∧ b = 61)) := by
  have hs : 2 ≤ X.size := by rw [size_len, h]; simp
  have hx : (X.extract 0 2).toList = [a, b] := by rw [ByteArray.toList_eq, extract_data, h]; rfl
  unfold sign2
  rw [hx, Bool.eq_iff_iff]
  simp [hs, or_assoc]
theorem signOf_L (X : ByteArray) : signOf X = signL X.data.toList := by
  cases h : X.data.toList with
  | nil =>
    have hs : X.size = 0 := by rw [size_len, h]; rfl
    have hb : bt X 0 = 0 := by unfold bt; rw [h]; rfl
    unfold signOf sign2
    rw [hb, hs]
    rfl
  | cons a r =>
    have hb : bt X 0 = (a.toNat : Int) := by unfold bt; rw [h]; rfl
    cases r with
    | nil =>
      have hs : X.size = 1 := by rw [size_len, h]; rfl
      unfold signOf sign2
      rw [hb, hs]
      rfl
    | cons b r =>
      unfold signOf
      rw [sign2_L X a b r h, hb]
      unfold signL
      simp only [decide_eq_true_eq]
theorem tokLen_L {s : ByteArray} {i : Nat} (h : i < s.size) : tokLen s i = lenL (s.data.toList.drop i) := by
  obtain ⟨c, hd, hc⟩ := drop_bt s i h
  have hx : (s.extract i s.size).data.toList = s.data.toList.drop i := by rw [extract_data, size_len, List.take_length]
  unfold tokLen
  rw [signOf_L, hx, hd, ← hc]
  rfl
theorem text_L {s : ByteArray} {i n : Nat} : (textOf s i n).data.toList = (s.data.toList.drop i).take n := by
  unfold textOf
  rw [extract_data, List.drop_take, Nat.add_sub_cancel_left]
theorem it_L {s : ByteArray} {i : Nat} (h : i < s.size) : (tkAt s i).it = itL (s.data.toList.drop i) := by
  obtain ⟨c, hd, hc⟩ := drop_bt s i h
  have hl := tokLen_L h
  unfold tkAt Tk.it itL
  dsimp only
  rw [text_L, hl]
  congr 1
  · unfold tokKind
    rw [text_L, hl, hd, ← hc]
    rfl
  · unfold tokNum
    rw [text_L, hl, hd, ← hc]
    rfl
theorem lex_of_toks {s : ByteArray} {i : Nat} {l : List Tk} (h : Toks s i l) (hi : i ≤ s.size) : LexTo (s.data.toList.drop i) (l.map Tk.it) := by
  induction h with
  | @last i h =>
    refine .last ?_
    rw [List.drop_drop]
    unfold over at h
    rw [h]
    exact drop_end s
  | @cons i l h1 h2 h3 ih =>
    have hd : (s.data.toList.drop i).drop (ov false (s.data.toList.drop i)) = s.data.toList.drop (over s i) := by rw [List.drop_drop]; rfl
    have hne : s.data.toList.drop (over s i) ≠ [] := by
      obtain ⟨c, hc, _⟩ := drop_bt s (over s i) h1
      rw [hc]; simp
    have hlex := ih (tok_le h1)
    rw [List.map_cons, it_L h1, ← hd]
    refine .cons (by rw [hd]; exact hne) ?_
    rw [hd, List.drop_drop, ← tokLen_L h1]
    exact hlex
theorem lex_scan {s : ByteArray} {l : List Tk} (h : scanOf s = .toks l) : LexTo s.data.toList (l.map Tk.it) := by
  have := lex_of_toks (scan_toks h).1 (Nat.zero_le _)
  simpa using this

/-! taking apart -/
def Blank (w : List UInt8) : Prop := ∀ c ∈ w, c = 32 ∨ c = 10
theorem ov_blank : ∀ (w v : List UInt8), Blank w → ov false (w ++ v) = w.length + ov false v := by
  intro w
  induction w with
  | nil => intro v _; simp
  | cons c w ih =>
    intro v h
    have hc := h c (List.mem_cons_self ..)
    have hcn : c.toNat = 32 ∨ c.toNat = 9 ∨ c.toNat = 10 ∨ c.toNat = 13 := by rcases hc with rfl | rfl <;> decide
    rw [List.cons_append, ov, if_pos hcn, ih v (fun x hx => h x (List.mem_cons_of_mem _ hx)), List.length_cons]
    omega
/-- a token's text t, with what follows it -/
structure Tok (t : List UInt8) (k n : Int) (r : List UInt8) : Prop where
  ne : ov false (t ++ r) = 0
  pos : t ≠ []
  len : lenL (t ++ r) = t.length
  kind : kindL (t ++ r) = k
  num : numL (t ++ r) = n
theorem lex_tok {w t r : List UInt8} {k n : Int} {its : List It} (hw : Blank w) (ht : Tok t k n r) (h : LexTo (w ++ (t ++ r)) its) : ∃ its', its = ⟨k, t, n⟩ :: its' ∧ LexTo r its' := by
  have hd : (w ++ (t ++ r)).drop (ov false (w ++ (t ++ r))) = t ++ r := by
    rw [ov_blank w _ hw, ht.ne, Nat.add_zero, List.drop_left]
  cases h with
  | last h => rw [hd] at h; exact absurd (List.append_eq_nil_iff.1 h).1 ht.pos
  | cons h1 h2 =>
    rw [hd, ht.len, List.drop_left] at h2
    refine ⟨_, ?_, h2⟩
    rw [hd]
    unfold itL
    rw [ht.kind, ht.num, ht.len, List.take_left]
theorem lex_blank {w r : List UInt8} {its : List It} (hw : Blank w) (h : LexTo (w ++ r) its) : LexTo r its := by
  have hd : (w ++ r).drop (ov false (w ++ r)) = r.drop (ov false r) := by rw [ov_blank w _ hw, ← List.drop_drop, List.drop_left]
  cases h with
  | last h => exact .last (hd ▸ h)
  | cons h1 h2 =>
    rw [hd] at h1 h2 ⊢
    exact .cons h1 h2
theorem lex_end {w : List UInt8} {its : List It} (hw : Blank w) (h : LexTo w its) : its = [itEnd] := by
  have h0 : ov false w = w.length := by have := ov_blank w [] hw; simpa [ov] using this
  cases h with
  | last _ => rfl
  | cons h1 _ => rw [h0, List.drop_length] at h1; exact absurd rfl h1

/-- what may not follow a name -/
def NoPart (r : List UInt8) : Prop := ∀ c v, r = c :: v → partB (c.toNat : Int) = false
def NoDigit (r : List UInt8) : Prop := ∀ c v, r = c :: v → isDigit (c.toNat : Int) = false
theorem rn_app {p : Int → Bool} : ∀ (t r : List UInt8), (∀ c ∈ t, p (c.toNat : Int) = true) → (∀ c v, r = c :: v → p (c.toNat : Int) = false) → rn p (t ++ r) = t.length := by
  intro t
  induction t with
  | nil =>
    intro r _ h
    cases r with
    | nil => rfl
    | cons c v => rw [List.nil_append, rn, h c v rfl]; rfl
  | cons c t ih =>
    intro r h1 h2
    rw [List.cons_append, rn, if_pos (h1 c (List.mem_cons_self ..)), ih r (fun x hx => h1 x (List.mem_cons_of_mem _ hx)) h2, List.length_cons]
    omega
theorem letter_ov {c : UInt8} {v : List UInt8} (h : isLetter (c.toNat : Int) = true ∨ isDigit (c.toNat : Int) = true ∨ sign1 (c.toNat : Int) = true) : ov false (c :: v) = 0 := by
  have h2 : ¬ (c.toNat = 32 ∨ c.toNat = 9 ∨ c.toNat = 10 ∨ c.toNat = 13) ∧ ¬ c.toNat = 35 := by
    rcases h with h | h | h
    · have := letter_1 h; omega
    · simp [isDigit] at h; omega
    · simp [sign1] at h; omega
  rw [ov, if_neg h2.1, if_neg h2.2]
theorem tok_name {c : UInt8} {t r : List UInt8} (h : isLetter (c.toNat : Int) = true) (ht : ∀ x ∈ t, partB (x.toNat : Int) = true) (hr : NoPart r) : Tok (c :: t) (if isWord (c :: t) = true then 4 else 1) 0 r := by
  have hc : partB (c.toNat : Int) = true := by unfold partB; rw [h]; rfl
  have hl : lenL ((c :: t) ++ r) = (c :: t).length := by
    show (if isLetter (c.toNat : Int) = true then rn partB ((c :: t) ++ r) else _) = _
    rw [if_pos h]
    exact rn_app _ _ (fun x hx => by rcases List.mem_cons.1 hx with rfl | hx; exact hc; exact ht x hx) hr
  refine ⟨letter_ov (.inl h), by simp, hl, ?_, ?_⟩
  · show (if isLetter (c.toNat : Int) = true then (if isWord (((c :: t) ++ r).take (lenL ((c :: t) ++ r))) = true then 4 else 1) else _) = _
    rw [if_pos h, hl, List.take_left]
  · exact if_pos h
theorem digit_letter {c : Int} (h : isDigit c = true) : isLetter c = false := by
  simp [isDigit] at h
  simp [isLetter]
  omega
theorem tok_num {c : UInt8} {t r : List UInt8} (h : isDigit (c.toNat : Int) = true) (ht : ∀ x ∈ t, isDigit (x.toNat : Int) = true) (hr : NoDigit r) : Tok (c :: t) 2 ((numOf (c :: t)).getD 0) r := by
  have hn := digit_letter h
  have hl : lenL ((c :: t) ++ r) = (c :: t).length := by
    show (if isLetter (c.toNat : Int) = true then _ else if isDigit (c.toNat : Int) = true then rn isDigit ((c :: t) ++ r) else _) = _
    rw [hn, if_neg (by simp), if_pos h]
    exact rn_app _ _ (fun x hx => by rcases List.mem_cons.1 hx with rfl | hx; exact h; exact ht x hx) hr
  refine ⟨letter_ov (.inr (.inl h)), by simp, hl, ?_, ?_⟩
  · show (if isLetter (c.toNat : Int) = true then _ else if isDigit (c.toNat : Int) = true then (2 : Int) else 3) = _
    rw [hn, if_neg (by simp), if_pos h]
  · show (if isLetter (c.toNat : Int) = true then (0 : Int) else if isDigit (c.toNat : Int) = true then (numOf (((c :: t) ++ r).take (lenL ((c :: t) ++ r)))).getD 0 else 0) = _
    rw [hn, if_neg (by simp), if_pos h, hl, List.take_left]
/-- a sign of one byte: what follows makes no sign of two -/
theorem tok_sign1 {a : UInt8} {r : List UInt8} (h : sign1 (a.toNat : Int) = true) (hr : ∀ b v, r = b :: v → ¬ ((a = 45 ∧ b = 62) ∨ (a = 60 ∧ b = 62) ∨ (a = 60 ∧ b = 61) ∨ (a = 62 ∧ b = 61))) : Tok [a] 3 0 r := by
  have hs : (a.toNat : Int) ≤ 62 ∧ 37 ≤ (a.toNat : Int) ∧ ¬ (48 ≤ (a.toNat : Int) ∧ (a.toNat : Int) ≤ 57) := by simp [sign1] at h; omega
  have h1 : isLetter (a.toNat : Int) = false := by simp [isLetter]; omega
  have h2 : isDigit (a.toNat : Int) = false := by simp [isDigit]; omega
  have hl : lenL ([a] ++ r) = 1 := by
    show (if isLetter (a.toNat : Int) = true then _ else if isDigit (a.toNat : Int) = true then _ else signL (a :: r)) = _
    rw [h1, h2, if_neg (by simp), if_neg (by simp)]
    cases r with
    | nil => exact if_pos h
    | cons b v =>
      show (if _ then 2 else if _ then 1 else 0) = 1
      rw [if_neg (hr b v rfl), if_pos h]
  refine ⟨letter_ov (.inr (.inr h)), by simp, hl, ?_, ?_⟩
  · show (if isLetter (a.toNat : Int) = true then _ else if isDigit (a.toNat : Int) = true then (2 : Int) else 3) = _
    rw [h1, h2, if_neg (by simp), if_neg (by simp)]
  · show (if isLetter (a.toNat : Int) = true then (0 : Int) else if isDigit (a.toNat : Int) = true then _ else 0) = _
    rw [h1, h2, if_neg (by simp), if_neg (by simp)]
theorem tok_sign2 {a b : UInt8} {r : List UInt8} (h : (a = 45 ∧ b = 62) ∨ (a = 60 ∧ b = 62) ∨ (a = 60 ∧ b = 61) ∨ (a = 62 ∧ b = 61)) : Tok [a, b] 3 0 r := by
  have hs : sign1 (a.toNat : Int) = true ∧ isLetter (a.toNat : Int) = false ∧ isDigit (a.toNat : Int) = false := by
    rcases h with ⟨rfl, _⟩ | ⟨rfl, _⟩ | ⟨rfl, _⟩ | ⟨rfl, _⟩ <;> decide
  have hl : lenL ([a, b] ++ r) = 2 := by
    show (if isLetter (a.toNat : Int) = true then _ else if isDigit (a.toNat : Int) = true then _ else signL (a :: b :: r)) = _
    rw [hs.2.1, hs.2.2, if_neg (by simp), if_neg (by simp)]
    exact if_pos h
  refine ⟨letter_ov (.inr (.inr hs.1)), by simp, hl, ?_, ?_⟩
  · show (if isLetter (a.toNat : Int) = true then _ else if isDigit (a.toNat : Int) = true then (2 : Int) else 3) = _
    rw [hs.2.1, hs.2.2, if_neg (by simp), if_neg (by simp)]
  · show (if isLetter (a.toNat : Int) = true then (0 : Int) else if isDigit (a.toNat : Int) = true then _ else 0) = _
    rw [hs.2.1, hs.2.2, if_neg (by simp), if_neg (by simp)]
end Go.Proofs.YtnlikhjmmnaknaaGreatDoor
