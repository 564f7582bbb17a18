/-
  The tokens of an expression's text.
-/
import Derived.Test.YtnlikhjmmnaknaaGreatDoorHLex
import Derived.Test.YtnlikhjmmnaknaaGreatDoorGD
namespace Go.Proofs.YtnlikhjmmnaknaaGreatDoor
open Go.RowKit

/-! numerals -/
theorem numGo_two : ∀ (l m : List UInt8) (n : Int), numGo n (l ++ m) = (numGo n l).bind fun k => numGo k m := by
  intro l
  induction l with
  | nil => intro m n; rfl
  | cons c l ih =>
    intro m n
    rw [List.cons_append, numGo, numGo]
    split
    · rfl
    · exact ih m _
theorem dec_digit {d : Nat} (h : d < 10) : (UInt8.ofNat (48 + d)).toNat = 48 + d := by rw [UInt8.toNat_ofNat']; omega
theorem dec_one (n : Int) {d : Nat} (h : d < 10) (hn : 10 * n + d ≤ 9223372036854775807) : numGo n [UInt8.ofNat (48 + d)] = some (10 * n + d) := by
  rw [numGo, dec_digit h, if_neg (by omega), numGo]
  congr 1
  omega
theorem dec_go (u : Nat) : u ≤ 9223372036854775807 → numGo 0 (Lib.decDigits u) = some (u : Int) := by
  induction u using Nat.strongRecOn with
  | _ u ih =>
    intro hu
    rw [Lib.decDigits]
    split
    · rename_i h
      have := dec_one 0 h (by omega)
      rw [this]
      congr 1
      omega
    · rename_i h
      rw [numGo_two, ih (u / 10) (by omega) (by omega)]
      show numGo _ _ = _
      rw [dec_one _ (by omega) (by omega)]
      congr 1
      omega
theorem dec_head (u : Nat) : 1 ≤ u → ∃ c v, Lib.decDigits u = c :: v ∧ c ≠ 48 := by
  induction u using Nat.strongRecOn with
  | _ u ih =>
    intro hu
    rw [Lib.decDigits]
    split
    · rename_i h
      refine ⟨_, _, rfl, fun hc => ?_⟩
      have := congrArg UInt8.toNat hc
      rw [dec_digit h] at this
      have h48 : (48 : UInt8).toNat = 48 := rfl
      omega
    · rename_i h
      obtain ⟨c, v, h1, h2⟩ := ih (u / 10) (by omega) (by omega)
      rw [h1]
      exact ⟨c, v ++ _, rfl, h2⟩
theorem dec_all (u : Nat) : ∀ c ∈ Lib.decDigits u, isDigit (c.toNat : Int) = true := by
  induction u using Nat.strongRecOn with
  | _ u ih =>
    intro c hc
    have hd : ∀ d, d < 10 → isDigit ((UInt8.ofNat (48 + d)).toNat : Int) = true := fun d h => by
      rw [dec_digit h]; simp [isDigit]; omega
    rw [Lib.decDigits] at hc
    split at hc
    · rename_i h
      obtain rfl := List.mem_singleton.1 hc
      exact hd u h
    · rcases List.mem_append.1 hc with hc | hc
      · exact ih (u / 10) (by omega) c hc
      · obtain rfl := List.mem_singleton.1 hc
        exact hd _ (by omega)
theorem dec_num (u : Nat) (h : u ≤ 9223372036854775807) : numOf (Lib.decDigits u) = some (u : Int) := by
  unfold numOf
  rw [if_neg, dec_go u h]
  rintro ⟨h1, h2⟩
  by_cases h0 : u = 0
  · subst h0
    rw [Lib.decDigits, dif_pos (by omega)] at h1
    simp at h1
  · obtain ⟨c, v, h3, h4⟩ := dec_head u (by omega)
    rw [h3] at h2
    injection h2 with h2
    exact h4 h2
theorem dec_cons (u : Nat) : ∃ c v, Lib.decDigits u = c :: v := by
  rw [Lib.decDigits]
  split
  · exact ⟨_, _, rfl⟩
  · cases Lib.decDigits (u / 10) with
    | nil => exact ⟨_, _, rfl⟩
    | cons c v => exact ⟨_, _, rfl⟩
theorem tok_itoa {n : Int} (h0 : 0 ≤ n) (h1 : n ≤ 9223372036854775807) {r : List UInt8} (hr : NoDigit r) : Tok (Lib.itoa n) 2 n r := by
  obtain ⟨u, rfl⟩ : ∃ u : Nat, n = u := ⟨n.toNat, by omega⟩
  rw [Lib.itoa_nonneg]
  have hn := dec_num u (by omega)
  have ha := dec_all u
  obtain ⟨c, v, hd⟩ := dec_cons u
  rw [hd] at hn ha ⊢
  have ht := tok_num (r := r) (ha c (List.mem_cons_self ..)) (fun x hx => ha x (List.mem_cons_of_mem _ hx)) hr
  rw [hn] at ht
  exact ht

/-! the tokens -/
/-- a word, a sign -/
def itOf (t : List UInt8) : It := ⟨if isWord t = true then 4 else 3, t, 0⟩
def itNm (x : ByteArray) : It := ⟨1, x.data.toList, 0⟩
def wrapI (op least : Int) (t : List It) : List It := if strOf op < least then itOf [40] :: (t ++ [itOf [41]]) else t
def commaI (f : Nat → List It) : Nat → List It
  | 0 => []
  | n + 1 => commaI f n ++ ((if n = 0 then [] else [itOf [44]]) ++ f n)
def bareI (op : Int) (name : ByteArray) (n : Int) (k : Nat) (p : Nat → Int → List It) : List It :=
  if op = 1 then [⟨2, Lib.itoa n, n⟩]
  else if op = 2 then (if n = 1 then [itOf [116, 114, 117, 101]] else [itOf [102, 97, 108, 115, 101]])
  else if op = 3 then [itNm name]
  else if op = 4 then itNm name :: itOf [40] :: (commaI (fun i => p i 0) k ++ [itOf [41]])
  else if op = 5 then itOf [45] :: p 0 9
  else if op = 6 then itOf [110, 111, 116] :: p 0 9
  else if op = 21 then itOf [112, 114, 101] :: p 0 9
  else if op = 24 then p 0 3 ++ [itOf [119, 104, 101, 110], itNm name]
  else if op = 25 then p 0 3 ++ [itOf [119, 104, 101, 110], itOf [110, 111, 116], itNm name]
  else if op = 26 then itOf [109, 101, 114, 103, 101] :: itNm name :: itOf [40] :: (p 0 0 ++ (itOf [41] :: itOf [40] :: (p 1 0 ++ [itOf [41]])))
  else if op = 27 then itOf [105, 102] :: (p 0 0 ++ (itOf [116, 104, 101, 110] :: (p 1 0 ++ (itOf [101, 108, 115, 101] :: p 2 0))))
  else p 0 (leftOf op) ++ (itOf (sgnOf op).data.toList :: p 1 (rightOf op))
def Ex.bareIt : Ex → List It
  | .junk => []
  | .mk op name n k arg _ _ => bareI op name n k fun i least => wrapI (arg i).op least (arg i).bareIt
/-- the tokens of an expression's text where it has to be so strong -/
def Ex.its (e : Ex) (least : Int) : List It := wrapI e.op least e.bareIt
theorem bareIt_mk (op : Int) (name : ByteArray) (n : Int) (k : Nat) (arg : Nat → Ex) (l c : Int) : (Ex.mk op name n k arg l c).bareIt = bareI op name n k fun i least => (arg i).its least := rfl
/-- it is plain, and numbers are ints of Go -/
def Ex.fine : Ex → Prop
  | .junk => False
  | .mk op name n k arg _ _ => plainOf op name n k = true ∧ n ≤ 9223372036854775807 ∧ ∀ i, i < k → (arg i).fine

/-- a text's tokens come, and then those of what follows -/
def Lexes (t : List UInt8) (its : List It) : Prop := ∀ (w r : List UInt8) (js : List It), Blank w → NoPart r → LexTo (w ++ (t ++ r)) js → ∃ js', js = its ++ js' ∧ LexTo r js'
/-- .. whatever follows -/
def LexesAny (t : List UInt8) (its : List It) : Prop := ∀ (w r : List UInt8) (js : List It), Blank w → LexTo (w ++ (t ++ r)) js → ∃ js', js = its ++ js' ∧ LexTo r js'
theorem LexesAny.le {t : List UInt8} {its : List It} (h : LexesAny t its) : Lexes t its := fun w r js hw _ hl => h w r js hw hl
theorem nil_blank : Blank [] := by intro c hc; cases hc
theorem lexes_tok {t : List UInt8} {k n : Int} (h : ∀ r, NoPart r → Tok t k n r) : Lexes t [⟨k, t, n⟩] := fun _ r _ hw hr hl => lex_tok hw (h r hr) hl
theorem any_tok {t : List UInt8} {k n : Int} (h : ∀ r, Tok t k n r) : LexesAny t [⟨k, t, n⟩] := fun _ r _ hw hl => lex_tok hw (h r) hl
/-- two texts side by side -/
theorem lexes_two {t u : List UInt8} {its js : List It} (h1 : Lexes t its) (h2 : Lexes u js) (hu : NoPart u) (hne : u ≠ []) : Lexes (t ++ u) (its ++ js) := fun w r ks hw hr hl => by
  rw [List.append_assoc] at hl
  obtain ⟨k1, rfl, hl1⟩ := h1 w (u ++ r) ks hw (fun c v hc => by
    cases u with
    | nil => exact absurd rfl hne
    | cons a u => injection hc with ha _; subst ha; exact hu a u rfl) hl
  obtain ⟨k2, rfl, hl2⟩ := h2 [] r k1 nil_blank hr hl1
  exact ⟨k2, by rw [List.append_assoc], hl2⟩
theorem any_two {t u : List UInt8} {its js : List It} (h1 : LexesAny t its) (h2 : Lexes u js) : Lexes (t ++ u) (its ++ js) := fun w r ks hw hr hl => by
  rw [List.append_assoc] at hl
  obtain ⟨k1, rfl, hl1⟩ := h1 w (u ++ r) ks hw hl
  obtain ⟨k2, rfl, hl2⟩ := h2 [] r k1 nil_blank hr hl1
  exact ⟨k2, by rw [List.append_assoc], hl2⟩
theorem any_any {t u : List UInt8} {its js : List It} (h1 : LexesAny t its) (h2 : LexesAny u js) : LexesAny (t ++ u) (its ++ js) := fun w r ks hw hl => by
  rw [List.append_assoc] at hl
  obtain ⟨k1, rfl, hl1⟩ := h1 w (u ++ r) ks hw hl
  obtain ⟨k2, rfl, hl2⟩ := h2 [] r k1 nil_blank hl1
  exact ⟨k2, by rw [List.append_assoc], hl2⟩
theorem lexes_any {t u : List UInt8} {its js : List It} (h1 : Lexes t its) (h2 : LexesAny u js) (hu : NoPart u) (hne : u ≠ []) : LexesAny (t ++ u) (its ++ js) := fun w r ks hw hl => by
  rw [List.append_assoc] at hl
  obtain ⟨k1, rfl, hl1⟩ := h1 w (u ++ r) ks hw (fun c v hc => by
    cases u with
    | nil => exact absurd rfl hne
    | cons a u => injection hc with ha _; subst ha; exact hu a u rfl) hl
  obtain ⟨k2, rfl, hl2⟩ := h2 [] r k1 nil_blank hl1
  exact ⟨k2, by rw [List.append_assoc], hl2⟩
theorem lexes_blank {u : List UInt8} {js : List It} {c : UInt8} (hc : c = 32 ∨ c = 10) (h : Lexes u js) : Lexes (c :: u) js := fun w r ks hw hr hl => by
  refine h (w ++ [c]) r ks (fun x hx => ?_) hr (by simpa using hl)
  rcases List.mem_append.1 hx with hx | hx
  · exact hw x hx
  · obtain rfl := List.mem_singleton.1 hx; exact hc
theorem any_blank {u : List UInt8} {js : List It} {c : UInt8} (hc : c = 32 ∨ c = 10) (h : LexesAny u js) : LexesAny (c :: u) js := fun w r ks hw hl => by
  refine h (w ++ [c]) r ks (fun x hx => ?_) (by simpa using hl)
  rcases List.mem_append.1 hx with hx | hx
  · exact hw x hx
  · obtain rfl := List.mem_singleton.1 hx; exact hc

/-! words, names, signs -/
theorem nopart_digit {r : List UInt8} (h : NoPart r) : NoDigit r := fun c v hc => by
  have := h c v hc
  unfold partB at this
  rw [Bool.or_eq_false_iff] at this
  exact this.2
theorem nopart_cons {c : UInt8} {v : List UInt8} (h : partB (c.toNat : Int) = false) : NoPart (c :: v) := fun c' v' hc => by injection hc with h1 _; subst h1; exact h
theorem lexes_word {c : UInt8} {v : List UInt8} (h1 : isLetter (c.toNat : Int) = true) (h2 : v.all (fun x => partB (x.toNat : Int)) = true) (hw : isWord (c :: v) = true) : Lexes (c :: v) [itOf (c :: v)] := by
  unfold itOf
  rw [if_pos hw]
  refine lexes_tok fun r hr => ?_
  have := tok_name h1 (fun x hx => List.all_eq_true.1 h2 x hx) hr
  rw [if_pos hw] at this
  exact this
theorem named_all : ∀ (v : List UInt8) (i : Nat), namedFrom i v = true → ∀ x ∈ v, partB (x.toNat : Int) = true := by
  intro v
  induction v with
  | nil => intro i _ x hx; cases hx
  | cons c v ih =>
    intro i h x hx
    rw [namedFrom, Bool.and_eq_true] at h
    rcases List.mem_cons.1 hx with rfl | hx
    · have h1 := h.1
      unfold partAt at h1
      unfold partB
      rw [Bool.or_eq_true] at h1 ⊢
      rcases h1 with h1 | h1
      · exact .inl h1
      · rw [Bool.and_eq_true] at h1; exact .inr h1.2
    · exact ih _ h.2 x hx
theorem lexes_name {x : ByteArray} (h : isName x.data.toList = true) : Lexes x.data.toList [itNm x] := by
  unfold isName isNamed at h
  simp only [Bool.and_eq_true, decide_eq_true_eq, Bool.not_eq_true'] at h
  obtain ⟨⟨⟨h1, h2⟩, _⟩, h3⟩ := h
  unfold itNm
  cases hx : x.data.toList with
  | nil => rw [hx] at h2; simp at h2
  | cons c v =>
    rw [hx] at h1 h3
    have h0 : isLetter (c.toNat : Int) = true := by
      rw [namedFrom, Bool.and_eq_true] at h1
      have := h1.1
      simpa [partAt] using this
    refine lexes_tok fun r hr => ?_
    have := tok_name h0 (fun y hy => named_all _ _ h1 y (List.mem_cons_of_mem _ hy)) hr
    rw [h3, if_neg (by simp)] at this
    exact this
theorem name_ne {x : ByteArray} (h : isName x.data.toList = true) : ∃ c v, x.data.toList = c :: v ∧ isLetter (c.toNat : Int) = true := by
  unfold isName isNamed at h
  simp only [Bool.and_eq_true, decide_eq_true_eq, Bool.not_eq_true'] at h
  obtain ⟨⟨⟨h1, h2⟩, _⟩, _⟩ := h
  cases hx : x.data.toList with
  | nil => rw [hx] at h2; simp at h2
  | cons c v =>
    rw [hx, namedFrom, Bool.and_eq_true] at h1
    exact ⟨c, v, rfl, by simpa [partAt] using h1.1⟩
/-- a sign that makes no sign of two with anything -/
theorem any_sign {a : UInt8} (h : sign1 (a.toNat : Int) = true) (h1 : a ≠ 45 ∧ a ≠ 60 ∧ a ≠ 62) : LexesAny [a] [itOf [a]] := by
  have hw : isWord [a] = false := by
    cases hb : isWord [a] with
    | false => rfl
    | true =>
      have : ∀ x ∈ wordL, x.data.toList ≠ [a] := fun x hx hc => by
        have hl := congrArg List.length hc
        revert hl
        simp only [wordL, List.mem_cons, List.not_mem_nil, or_false] at hx
        rcases hx with rfl | rfl | rfl | rfl | rfl | rfl | rfl | rfl | rfl | rfl | rfl | rfl | rfl | rfl | rfl | rfl | rfl | rfl | rfl | rfl <;> simp
      unfold isWord at hb
      obtain ⟨x, hx, he⟩ := List.any_eq_true.1 hb
      exact absurd (by simpa using he) (this x hx)
  unfold itOf
  rw [hw, if_neg (by simp)]
  exact any_tok fun r => tok_sign1 h fun b v _ hc => by rcases hc with hc | hc | hc | hc <;> simp_all
/-- minus, where no > follows -/
theorem lexes_minus {c : UInt8} {v : List UInt8} {its : List It} (hc : c ≠ 62) (h : Lexes (c :: v) its) : Lexes (45 :: (c :: v)) (itOf [45] :: its) := fun w r js hw hr hl => by
  obtain ⟨k1, rfl, hl1⟩ := lex_tok (t := [45]) (r := (c :: v) ++ r) (k := 3) (n := 0) hw (tok_sign1 (by decide) fun b u hb hx => by
    injection hb with hb _
    subst hb
    rcases hx with ⟨_, hx⟩ | ⟨hx, _⟩ | ⟨hx, _⟩ | ⟨hx, _⟩
    · exact hc hx
    · exact absurd hx (by decide)
    · exact absurd hx (by decide)
    · exact absurd hx (by decide)) hl
  obtain ⟨k2, rfl, hl2⟩ := h [] r k1 nil_blank hr hl1
  exact ⟨k2, rfl, hl2⟩
theorem lexes_nil : Lexes [] [] := fun _ _ js hw _ hl => ⟨js, rfl, lex_blank hw hl⟩

/-! expressions -/
theorem lexes_comma {f : Nat → List UInt8} {g : Nat → List It} : ∀ n, (∀ i, i < n → Lexes (f i) (g i)) → Lexes (commaTo f n) (commaI g n) := by
  intro n
  induction n with
  | zero => intro _; exact lexes_nil
  | succ n ih =>
    intro h
    have h1 := ih fun i hi => h i (by omega)
    have h2 := h n (by omega)
    unfold commaTo commaI
    by_cases hn : n = 0
    · subst hn
      simpa [commaTo, commaI] using h2
    · rw [if_neg hn, if_neg hn]
      exact lexes_two h1 (any_two (t := [44]) (any_sign (by decide) (by decide)) (lexes_blank (.inl rfl) h2)) (nopart_cons (by decide)) (by simp)
theorem lexes_wrap {op least : Int} {t : List UInt8} {its : List It} (h : Lexes t its) : Lexes (wrapT op least t) (wrapI op least its) := by
  unfold wrapT wrapI
  by_cases hs : strOf op < least
  · rw [if_pos hs, if_pos hs]
    exact (any_any (t := [40]) (any_sign (by decide) (by decide)) (lexes_any h (any_sign (a := 41) (by decide) (by decide)) (nopart_cons (by decide)) (by simp))).le
  · rw [if_neg hs, if_neg hs]
    exact h
/-- the sign of an op of two parts, and a blank behind it -/
theorem tok_sgn {op : Int} (h : (7 ≤ op ∧ op ≤ 20) ∨ op = 22 ∨ op = 23) (r : List UInt8) : Tok (sgnOf op).data.toList (itOf (sgnOf op).data.toList).kind 0 (32 :: r) := by
  have hr : NoPart (32 :: r) := nopart_cons (by decide)
  have s1 : ∀ a : UInt8, sign1 (a.toNat : Int) = true → isWord [a] = false → Tok [a] (itOf [a]).kind 0 (32 :: r) := fun a ha hw => by
    unfold itOf
    rw [hw]
    exact tok_sign1 ha fun b v hb hx => by
      injection hb with hb _
      subst hb
      rcases hx with ⟨_, hx⟩ | ⟨_, hx⟩ | ⟨_, hx⟩ | ⟨_, hx⟩ <;> exact absurd hx (by decide)
  have s2 : ∀ a b : UInt8, ((a = 45 ∧ b = 62) ∨ (a = 60 ∧ b = 62) ∨ (a = 60 ∧ b = 61) ∨ (a = 62 ∧ b = 61)) → isWord [a, b] = false → Tok [a, b] (itOf [a, b]).kind 0 (32 :: r) := fun a b ha hw => by
    unfold itOf
    rw [hw]
    exact tok_sign2 ha
  have s3 : ∀ (c : UInt8) (v : List UInt8), isLetter (c.toNat : Int) = true → v.all (fun x => partB (x.toNat : Int)) = true → isWord (c :: v) = true → Tok (c :: v) (itOf (c :: v)).kind 0 (32 :: r) := fun c v h1 h2 hw => by
    have := tok_name h1 (fun x hx => List.all_eq_true.1 h2 x hx) hr
    rw [if_pos hw] at this
    unfold itOf
    rw [if_pos hw]
    exact this
  rcases (by omega : op = 7 ∨ op = 8 ∨ op = 9 ∨ op = 10 ∨ op = 11 ∨ op = 12 ∨ op = 13 ∨ op = 14 ∨ op = 15 ∨ op = 16 ∨ op = 17 ∨ op = 18 ∨ op = 19 ∨ op = 20 ∨ op = 22 ∨ op = 23) with rfl | rfl | rfl | rfl | rfl | rfl | rfl | rfl | rfl | rfl | rfl | rfl | rfl | rfl | rfl | rfl
  · exact s1 43 (by decide) (by decide)
  · exact s1 45 (by decide) (by decide)
  · exact s1 42 (by decide) (by decide)
  · exact s1 47 (by decide) (by decide)
  · exact s1 37 (by decide) (by decide)
  · exact s1 61 (by decide) (by decide)
  · exact s2 60 62 (by decide) (by decide)
  · exact s1 60 (by decide) (by decide)
  · exact s2 60 61 (by decide) (by decide)
  · exact s1 62 (by decide) (by decide)
  · exact s2 62 61 (by decide) (by decide)
  · exact s3 97 [110, 100] (by decide) (by decide) (by decide)
  · exact s3 111 [114] (by decide) (by decide) (by decide)
  · exact s3 120 [111, 114] (by decide) (by decide) (by decide)
  · exact s3 102 [98, 121] (by decide) (by decide) (by decide)
  · exact s2 45 62 (by decide) (by decide)
theorem lexes_sgn {op : Int} (h : (7 ≤ op ∧ op ≤ 20) ∨ op = 22 ∨ op = 23) {p : List UInt8} {its : List It} (hp : Lexes p its) : Lexes ((sgnOf op).data.toList ++ (32 :: p)) (itOf (sgnOf op).data.toList :: its) := fun w r js hw hr hl => by
  rw [List.append_assoc] at hl
  obtain ⟨k1, rfl, hl1⟩ := lex_tok hw (tok_sgn h (p ++ r)) hl
  obtain ⟨k2, rfl, hl2⟩ := lexes_blank (.inl rfl) hp [] r k1 nil_blank hr hl1
  exact ⟨k2, rfl, hl2⟩

/-- a text begins with a byte that is no > -/
def Begins (t : List UInt8) : Prop := ∃ c v, t = c :: v ∧ c ≠ 62
theorem Begins.app {t : List UInt8} (h : Begins t) (u : List UInt8) : Begins (t ++ u) := by
  obtain ⟨c, v, rfl, h2⟩ := h
  exact ⟨c, v ++ u, rfl, h2⟩
theorem Begins.ne {t : List UInt8} (h : Begins t) : t ≠ [] := by
  obtain ⟨c, v, rfl, _⟩ := h
  simp
theorem begins_letter {c : UInt8} {v : List UInt8} (h : isLetter (c.toNat : Int) = true) : Begins (c :: v) := ⟨c, v, rfl, fun hc => by subst hc; revert h; decide⟩
theorem begins_wrap {op least : Int} {t : List UInt8} (h : Begins t) : Begins (wrapT op least t) := by
  unfold wrapT
  split
  · exact ⟨40, _, rfl, by decide⟩
  · exact h
theorem lex_bare : ∀ e : Ex, e.fine → Lexes e.bare e.bareIt ∧ Begins e.bare := by
  intro e
  induction e with
  | junk => intro h; exact h.elim
  | mk op name n k arg l c ih =>
    rintro ⟨hp, hn, hargs⟩
    have F := plain_facts hp
    have hA : ∀ i, i < k → ∀ least, Lexes ((arg i).txt least) ((arg i).its least) ∧ Begins ((arg i).txt least) := fun i hi least => ⟨lexes_wrap (ih i (hargs i hi)).1, begins_wrap (ih i (hargs i hi)).2⟩
    rw [bare_mk, bareIt_mk]
    generalize hf : (fun i least => (arg i).txt least) = f
    generalize hg : (fun i least => (arg i).its least) = g
    have hP : ∀ i, i < k → ∀ least, Lexes (f i least) (g i least) ∧ Begins (f i least) := fun i hi least => by rw [← hf, ← hg]; exact hA i hi least
    clear hA hf hg
    unfold bareOf bareI
    by_cases h1 : op = 1
    · rw [if_pos h1, if_pos h1]
      refine ⟨lexes_tok fun r hr => tok_itoa (F.n1 h1) hn (nopart_digit hr), ?_⟩
      obtain ⟨u, rfl⟩ : ∃ u : Nat, n = u := ⟨n.toNat, by have := F.n1 h1; omega⟩
      rw [Lib.itoa_nonneg]
      obtain ⟨c, v, hd⟩ := dec_cons u
      refine ⟨c, v, hd, fun hc => ?_⟩
      have := dec_all u c (by rw [hd]; exact List.mem_cons_self ..)
      subst hc
      revert this
      decide
    rw [if_neg h1, if_neg h1]
    by_cases h2 : op = 2
    · rw [if_pos h2, if_pos h2]
      by_cases hn1 : n = 1
      · rw [if_pos hn1, if_pos hn1]; exact ⟨lexes_word (by decide) (by decide) (by decide), begins_letter (by decide)⟩
      · rw [if_neg hn1, if_neg hn1]; exact ⟨lexes_word (by decide) (by decide) (by decide), begins_letter (by decide)⟩
    rw [if_neg h2, if_neg h2]
    by_cases h3 : op = 3
    · rw [if_pos h3, if_pos h3]
      have hnm := F.named (.inl h3)
      obtain ⟨c, v, hc, hl⟩ := name_ne hnm
      exact ⟨lexes_name hnm, by rw [hc]; exact begins_letter hl⟩
    rw [if_neg h3, if_neg h3]
    by_cases h4 : op = 4
    · rw [if_pos h4, if_pos h4]
      have hnm := F.named (.inr (.inl h4))
      obtain ⟨c, v, hc, hl⟩ := name_ne hnm
      refine ⟨?_, by rw [hc]; exact (begins_letter (v := v) hl).app _⟩
      have hcm := lexes_comma k (f := fun i => f i 0) (g := fun i => g i 0) fun i hi => (hP i hi 0).1
      exact (lexes_any (lexes_name hnm) (any_any (t := [40]) (any_sign (by decide) (by decide)) (lexes_any hcm (any_sign (a := 41) (by decide) (by decide)) (nopart_cons (by decide)) (by simp))) (nopart_cons (by decide)) (by simp)).le
    rw [if_neg h4, if_neg h4]
    by_cases h5 : op = 5
    · rw [if_pos h5, if_pos h5]
      obtain ⟨hl, c, v, hc, hne⟩ := hP 0 (by rw [F.k1 (.inl h5)]; omega) 9
      refine ⟨?_, ⟨45, _, rfl, by decide⟩⟩
      rw [hc] at hl ⊢
      exact lexes_minus hne hl
    rw [if_neg h5, if_neg h5]
    by_cases h6 : op = 6
    · rw [if_pos h6, if_pos h6]
      have hl := (hP 0 (by rw [F.k1 (.inr (.inl h6))]; omega) 9).1
      exact ⟨lexes_two (t := [110, 111, 116]) (lexes_word (by decide) (by decide) (by decide)) (lexes_blank (.inl rfl) hl) (nopart_cons (by decide)) (by simp), begins_letter (by decide)⟩
    rw [if_neg h6, if_neg h6]
    by_cases h21 : op = 21
    · rw [if_pos h21, if_pos h21]
      have hl := (hP 0 (by rw [F.k1 (.inr (.inr (.inl h21)))]; omega) 9).1
      exact ⟨lexes_two (t := [112, 114, 101]) (lexes_word (by decide) (by decide) (by decide)) (lexes_blank (.inl rfl) hl) (nopart_cons (by decide)) (by simp), begins_letter (by decide)⟩
    rw [if_neg h21, if_neg h21]
    by_cases h24 : op = 24
    · rw [if_pos h24, if_pos h24]
      obtain ⟨hl, hb⟩ := hP 0 (by rw [F.k1 (.inr (.inr (.inr (.inl h24))))]; omega) 3
      have hnm := F.named (.inr (.inr (.inl h24)))
      exact ⟨lexes_two hl (lexes_blank (c := 32) (.inl rfl) (lexes_two (t := [119, 104, 101, 110]) (lexes_word (by decide) (by decide) (by decide)) (lexes_blank (c := 32) (.inl rfl) (lexes_name hnm)) (nopart_cons (by decide)) (by simp))) (nopart_cons (by decide)) (by simp), hb.app _⟩
    rw [if_neg h24, if_neg h24]
    by_cases h25 : op = 25
    · rw [if_pos h25, if_pos h25]
      obtain ⟨hl, hb⟩ := hP 0 (by rw [F.k1 (.inr (.inr (.inr (.inr h25))))]; omega) 3
      have hnm := F.named (.inr (.inr (.inr (.inl h25))))
      exact ⟨lexes_two hl (lexes_blank (c := 32) (.inl rfl) (lexes_two (t := [119, 104, 101, 110]) (lexes_word (by decide) (by decide) (by decide)) (lexes_blank (c := 32) (.inl rfl) (lexes_two (t := [110, 111, 116]) (lexes_word (by decide) (by decide) (by decide)) (lexes_blank (c := 32) (.inl rfl) (lexes_name hnm)) (nopart_cons (by decide)) (by simp))) (nopart_cons (by decide)) (by simp))) (nopart_cons (by decide)) (by simp), hb.app _⟩
    rw [if_neg h25, if_neg h25]
    by_cases h26 : op = 26
    · rw [if_pos h26, if_pos h26]
      have hk := F.k2 (.inr (.inr (.inr h26)))
      have hl0 := (hP 0 (by omega) 0).1
      have hl1 := (hP 1 (by omega) 0).1
      have hnm := F.named (.inr (.inr (.inr (.inr h26))))
      have sO : LexesAny [40] [itOf [40]] := any_sign (by decide) (by decide)
      have sC : LexesAny [41] [itOf [41]] := any_sign (by decide) (by decide)
      have e1 := lexes_any hl1 sC (nopart_cons (by decide)) (by simp)
      have e2 := any_any sC (any_blank (c := 32) (.inl rfl) (any_any sO e1))
      have e3 := lexes_any hl0 e2 (nopart_cons (by decide)) (by simp)
      have e4 := any_blank (c := 32) (.inl rfl) (any_any sO e3)
      have e5 := lexes_any (lexes_name hnm) e4 (nopart_cons (by decide)) (by simp)
      have e6 := lexes_any (lexes_word (c := 109) (v := [101, 114, 103, 101]) (by decide) (by decide) (by decide)) (any_blank (c := 32) (.inl rfl) e5) (nopart_cons (by decide)) (by simp)
      exact ⟨e6.le, begins_letter (by decide)⟩
    rw [if_neg h26, if_neg h26]
    by_cases h27 : op = 27
    · rw [if_pos h27, if_pos h27]
      have hk := F.k3 h27
      have hl0 := (hP 0 (by omega) 0).1
      have hl1 := (hP 1 (by omega) 0).1
      have hl2 := (hP 2 (by omega) 0).1
      have e1 := lexes_two (lexes_word (c := 101) (v := [108, 115, 101]) (by decide) (by decide) (by decide)) (lexes_blank (c := 32) (.inl rfl) hl2) (nopart_cons (by decide)) (by simp)
      have e2 := lexes_two hl1 (lexes_blank (c := 32) (.inl rfl) e1) (nopart_cons (by decide)) (by simp)
      have e3 := lexes_two (lexes_word (c := 116) (v := [104, 101, 110]) (by decide) (by decide) (by decide)) (lexes_blank (c := 32) (.inl rfl) e2) (nopart_cons (by decide)) (by simp)
      have e4 := lexes_two hl0 (lexes_blank (c := 32) (.inl rfl) e3) (nopart_cons (by decide)) (by simp)
      have e5 := lexes_two (lexes_word (c := 105) (v := [102]) (by decide) (by decide) (by decide)) (lexes_blank (c := 32) (.inl rfl) e4) (nopart_cons (by decide)) (by simp)
      exact ⟨e5, begins_letter (by decide)⟩
    rw [if_neg h27, if_neg h27]
    have hop : (7 ≤ op ∧ op ≤ 20) ∨ op = 22 ∨ op = 23 := by have := F.lo; have := F.hi; omega
    have hk := F.k2 (by omega)
    obtain ⟨hl0, hb⟩ := hP 0 (by omega) (leftOf op)
    have hl1 := (hP 1 (by omega) (rightOf op)).1
    exact ⟨lexes_two hl0 (lexes_blank (c := 32) (.inl rfl) (lexes_sgn hop hl1)) (nopart_cons (by decide)) (by simp), hb.app _⟩
/-- THE TEXT OF AN EXPRESSION IS SCANNED AS ITS TOKENS -/
theorem lex_txt {e : Ex} (h : e.fine) (least : Int) : Lexes (e.txt least) (e.its least) ∧ Begins (e.txt least) := ⟨lexes_wrap (lex_bare e h).1, begins_wrap (lex_bare e h).2⟩
end Go.Proofs.YtnlikhjmmnaknaaGreatDoor
