/-
  Texts of this claim, joined: ParP ParP2 ExIn ParS ParT ParU ParI ParM ParD Frm ParF ParZ Toks.
-/
import Derived.Test.YtnlikhjmmnaknaaGreatDoorGD
import Derived.Test.YtnlikhjmmnaknaaGreatDoorGB
import Derived.Deep.QuietTactic
import Derived.StillTailTactics
import Derived.Deep.AppendLies
import Derived.Deep.Cut
/-
  Parsing an expression, in plain Lean: by heights of strength (the reference), and with a loop (the code); they are one.
-/
namespace Go.Proofs.YtnlikhjmmnaknaaGreatDoor
open Go.RowKit

/-- what parsing comes to: an expression, and the token behind it; or the first fault, and where -/
inductive PR where
  | ok (e : Ex) (i : Nat)
  | bad (err line col : Int)
def PR.then (r : PR) (f : Ex → Nat → PR) : PR := match r with | .ok e i => f e i | .bad a b c => .bad a b c

/-- an expression of a list of parts -/
def mkEx (op : Int) (name : ByteArray) (n : Int) (xs : List Ex) (ln cl : Int) : Ex := .mk op name n xs.length (fun i => xs[i]?.getD .junk) ln cl

section
variable (s : ByteArray) (l : List Tk)
def tkN (i : Nat) : Tk := l[i]?.getD ⟨5, ⟨#[]⟩, 0, 0⟩
def lnN (i : Nat) : Int := (place s (tkN l i).pos).1
def clN (i : Nat) : Int := (place s (tkN l i).pos).2
/-- does a sign, or a word, come? -/
def isN (i : Nat) (w : List UInt8) : Bool := ((tkN l i).kind == 3 || (tkN l i).kind == 4) && (tkN l i).text.data.toList == w
def badN (err : Int) (i : Nat) : PR := .bad err (lnN s l i) (clN s l i)
/-- an expression that was read, unless it is too high -/
def madeN (e : Ex) (i : Nat) : PR := if 30 < e.height then .bad 22 e.line e.col else .ok e i
/-- a sign or word that has to come -/
def wantN (w : List UInt8) (i : Nat) (f : Nat → PR) : PR := if isN l i w = true then f (i + 1) else badN s l 21 i
def nameN (i : Nat) (f : ByteArray → Nat → PR) : PR := if (tkN l i).kind = 1 then f (tkN l i).text (i + 1) else badN s l 21 i

def wIf : List UInt8 := [105, 102]
def wThen : List UInt8 := [116, 104, 101, 110]
def wElse : List UInt8 := [101, 108, 115, 101]
def wMinus : List UInt8 := [45]
def wNot : List UInt8 := [110, 111, 116]
def wPre : List UInt8 := [112, 114, 101]
def wTrue : List UInt8 := [116, 114, 117, 101]
def wFalse : List UInt8 := [102, 97, 108, 115, 101]
def wMerge : List UInt8 := [109, 101, 114, 103, 101]
def wOpen : List UInt8 := [40]
def wShut : List UInt8 := [41]
def wComma : List UInt8 := [44]
def wWhen : List UInt8 := [119, 104, 101, 110]

/-- the op of two parts that comes; 0: there is none -/
def opText (t : List UInt8) : Int :=
  if t = [45, 62] then 23 else if t = [102, 98, 121] then 22 else if t = wWhen then 24 else if t = [111, 114] then 19 else if t = [120, 111, 114] then 20 else if t = [97, 110, 100] then 18
  else if t = [43] then 7 else if t = [45] then 8 else if t = [42] then 9 else if t = [47] then 10 else if t = [37] then 11
  else if t = [61] then 12 else if t = [60, 62] then 13 else if t = [60] then 14 else if t = [60, 61] then 15 else if t = [62] then 16 else if t = [62, 61] then 17 else 0
def opN (i : Nat) : Int := if (tkN l i).kind = 3 ∨ (tkN l i).kind = 4 then opText (tkN l i).text.data.toList else 0
/-- how strong the part on its left has to be -/
def needOf (op : Int) : Int := if strOf op = 6 ∨ strOf op = 1 ∨ strOf op = 2 then strOf op + 1 else strOf op
/-- from which strength its right part is read -/
def fromOf (op : Int) : Int := if strOf op = 1 ∨ strOf op = 2 then strOf op else strOf op + 1

variable (rec : Int → Nat → PR)
def withinN (i : Nat) (f : Ex → Nat → PR) : PR := wantN s l wOpen i fun i1 => (rec 0 i1).then fun x i2 => wantN s l wShut i2 fun i3 => f x i3
def choiceN (i : Nat) : PR :=
  wantN s l wIf i fun i1 => (rec 0 i1).then fun a i2 => wantN s l wThen i2 fun i3 => (rec 0 i3).then fun b i4 => wantN s l wElse i4 fun i5 => (rec 0 i5).then fun c i6 => madeN (mkEx 27 ⟨#[]⟩ 0 [a, b, c] (lnN s l i) (clN s l i)) i6
/-- the parts of a call, behind those that were read; the first number: how many more there may be -/
def argsN (name : ByteArray) (at_ : Nat) : Nat → List Ex → Nat → PR
  | k, xs, i =>
    if isN l i wComma = true then
      match k with
      | 0 => badN s l 3 i
      | k + 1 => (rec 0 (i + 1)).then fun x i1 => argsN name at_ k (xs ++ [x]) i1
    else wantN s l wShut i fun i1 => madeN (mkEx 4 name 0 xs (lnN s l at_) (clN s l at_)) i1
def aloneN (i : Nat) : PR :=
  if (tkN l i).kind = 2 then .ok (mkEx 1 ⟨#[]⟩ (tkN l i).num [] (lnN s l i) (clN s l i)) (i + 1)
  else if isN l i wTrue = true then .ok (mkEx 2 ⟨#[]⟩ 1 [] (lnN s l i) (clN s l i)) (i + 1)
  else if isN l i wFalse = true then .ok (mkEx 2 ⟨#[]⟩ 0 [] (lnN s l i) (clN s l i)) (i + 1)
  else if (tkN l i).kind = 1 then
    if isN l (i + 1) wOpen = true then (rec 0 (i + 2)).then fun x i1 => argsN s l rec (tkN l i).text i 7 [x] i1
    else .ok (mkEx 3 (tkN l i).text 0 [] (lnN s l i) (clN s l i)) (i + 1)
  else if isN l i wMerge = true then
    nameN s l (i + 1) fun nm i1 => withinN s l rec i1 fun a i2 => withinN s l rec i2 fun b i3 => madeN (mkEx 26 nm 0 [a, b] (lnN s l i) (clN s l i)) i3
  else withinN s l rec i .ok
/-- the op of one part that comes; 0: there is none -/
def op1N (i : Nat) : Int := if isN l i wMinus = true then 5 else if isN l i wNot = true then 6 else if isN l i wPre = true then 21 else 0
def prefN (i : Nat) : PR :=
  if op1N l i = 0 then aloneN s l rec i
  else (rec 9 (i + 1)).then fun x i1 => madeN (mkEx (op1N l i) ⟨#[]⟩ 0 [x] (lnN s l i) (clN s l i)) i1
/-- how strong it is -/
def sigN (i : Nat) : Int := if op1N l i = 0 then 10 else 9

/-- a condition behind an expression -/
def whenN (e : Ex) (i : Nat) (f : Ex → Nat → PR) : PR :=
  if isN l (i + 1) wNot = true then nameN s l (i + 2) fun nm i1 => (madeN (mkEx 25 nm 0 [e] (lnN s l i) (clN s l i)) i1).then f
  else nameN s l (i + 1) fun nm i1 => (madeN (mkEx 24 nm 0 [e] (lnN s l i) (clN s l i)) i1).then f
/-- the right part of an op of two -/
def twoN (e : Ex) (i : Nat) (op from_ : Int) (f : Ex → Nat → PR) : PR :=
  (rec from_ (i + 1)).then fun r i1 => (madeN (mkEx op ⟨#[]⟩ 0 [e, r] (lnN s l i) (clN s l i)) i1).then f

/-- the code's loop -/
def loopN (least : Int) : Nat → Ex → Int → Nat → PR
  | 0, e, _, i => .ok e i
  | f + 1, e, sg, i =>
    if opN l i = 0 ∨ strOf (opN l i) < least ∨ sg < needOf (opN l i) then .ok e i
    else if opN l i = 24 then whenN s l e i fun e1 i1 => loopN least f e1 3 i1
    else twoN s l rec e i (opN l i) (fromOf (opN l i)) fun e1 i1 => loopN least f e1 (strOf (opN l i)) i1
def oneN (least : Int) (i : Nat) : PR :=
  if least = 0 ∧ isN l i wIf = true then choiceN s l rec i else (prefN s l rec i).then fun e i1 => loopN s l rec least l.length e (sigN l i) i1

/-- the reference's loops -/
def manyN (st : Int) : Nat → Ex → Nat → PR
  | 0, e, i => .ok e i
  | f + 1, e, i => if opN l i = 0 ∨ strOf (opN l i) ≠ st then .ok e i else if opN l i = 24 then whenN s l e i fun e1 i1 => manyN st f e1 i1 else twoN s l rec e i (opN l i) (st + 1) fun e1 i1 => manyN st f e1 i1
def onceN (st from_ : Int) (e : Ex) (i : Nat) : PR := if opN l i = 0 ∨ strOf (opN l i) ≠ st then .ok e i else twoN s l rec e i (opN l i) from_ .ok
def stepN (st : Int) (e : Ex) (i : Nat) : PR := if st = 1 ∨ st = 2 then onceN s l rec st st e i else if st = 6 then onceN s l rec 6 7 e i else manyN s l rec st l.length e i
/-- the reference's heights: k heights below the ninth strength -/
def ladN : Nat → Nat → PR
  | 0, i => prefN s l rec i
  | k + 1, i => (ladN k i).then fun e i1 => stepN s l rec (8 - k) e i1
def strongN (st : Nat) (i : Nat) : PR := if st = 0 then (if isN l i wIf = true then choiceN s l rec i else ladN s l rec 8 i) else ladN s l rec (9 - st) i

/-- a level, of so many that are left -/
def exprN : Nat → Int → Nat → PR
  | 0, _, i => badN s l 22 i
  | d + 1, least, i => if i < l.length ∧ 0 ≤ least ∧ least ≤ 9 then oneN s l (exprN d) least i else .bad 0 0 0
def refN : Nat → Int → Nat → PR
  | 0, _, i => badN s l 22 i
  | d + 1, st, i => if i < l.length ∧ 0 ≤ st ∧ st ≤ 9 then strongN s l (refN d) st.toNat i else .bad 0 0 0
end
end Go.Proofs.YtnlikhjmmnaknaaGreatDoor
/-
  Parsing an expression: the reference's heights of strength and the code's loop are one.
-/
namespace Go.Proofs.YtnlikhjmmnaknaaGreatDoor
open Go.RowKit

theorem then_ok (e : Ex) (i : Nat) (f : Ex → Nat → PR) : (PR.ok e i).then f = f e i := rfl
theorem then_assoc (r : PR) (f g : Ex → Nat → PR) : (r.then f).then g = r.then fun e i => (f e i).then g := by cases r <;> rfl
theorem made_then (e : Ex) (i : Nat) (f g : Ex → Nat → PR) : ((madeN e i).then f).then g = (madeN e i).then fun e1 i1 => (f e1 i1).then g := then_assoc _ _ _

section
variable {s : ByteArray} {l : List Tk}
/-- the last token is the end, and no other -/
def Ended (l : List Tk) : Prop := ∀ i, i < l.length → (tkN l i).kind ≠ 5 → i + 1 < l.length
/-- what is read ends behind a place, and not behind the end -/
def PR.from_ (l : List Tk) (lo : Nat) (r : PR) : Prop := ∀ e i, r = .ok e i → lo ≤ i ∧ i < l.length
def Adv (l : List Tk) (rec : Int → Nat → PR) : Prop := ∀ least i, i < l.length → (rec least i).from_ l (i + 1)

theorem bad_from {lo : Nat} {a b c : Int} : (PR.bad a b c).from_ l lo := fun _ _ h => by cases h
theorem ok_from {lo i : Nat} {e : Ex} (h : lo ≤ i) (h2 : i < l.length) : (PR.ok e i).from_ l lo := fun _ _ h' => by injection h' with _ h3; subst h3; exact ⟨h, h2⟩
theorem then_from {r : PR} {f : Ex → Nat → PR} {a b : Nat} (h : r.from_ l a) (hf : ∀ e i, a ≤ i → i < l.length → (f e i).from_ l b) : (r.then f).from_ l b := by
  cases r with
  | ok e i => exact hf e i (h e i rfl).1 (h e i rfl).2
  | bad a b c => exact bad_from
theorem isN_lt (hE : Ended l) {i : Nat} {w : List UInt8} (h : isN l i w = true) (hi : i < l.length) : i + 1 < l.length := by
  unfold isN at h
  simp only [Bool.and_eq_true, Bool.or_eq_true, beq_iff_eq] at h
  exact hE i hi (by omega)
theorem want_from (hE : Ended l) {w : List UInt8} {i b : Nat} {f : Nat → PR} (hi : i < l.length) (hf : i + 1 < l.length → (f (i + 1)).from_ l b) : (wantN s l w i f).from_ l b := by
  unfold wantN
  split
  · rename_i h; exact hf (isN_lt hE h hi)
  · exact bad_from
theorem name_from (hE : Ended l) {i b : Nat} {f : ByteArray → Nat → PR} (hi : i < l.length) (hf : ∀ t, i + 1 < l.length → (f t (i + 1)).from_ l b) : (nameN s l i f).from_ l b := by
  unfold nameN
  split
  · rename_i h; exact hf _ (hE i hi (by omega))
  · exact bad_from
theorem made_from {e : Ex} {i b : Nat} (hi : i < l.length) (hb : b ≤ i) : (madeN e i).from_ l b := by
  unfold madeN
  split
  · exact bad_from
  · exact ok_from hb hi

variable {rec : Int → Nat → PR}
theorem within_from (hE : Ended l) (hA : Adv l rec) {i b : Nat} {f : Ex → Nat → PR} (hi : i < l.length) (hf : ∀ e i1, i < i1 → i1 < l.length → (f e i1).from_ l b) : (withinN s l rec i f).from_ l b :=
  want_from hE hi fun h1 => then_from (hA 0 _ h1) fun e i2 h2 h3 => want_from hE h3 fun h4 => hf _ _ (by omega) h4
theorem choice_from (hE : Ended l) (hA : Adv l rec) {i : Nat} (hi : i < l.length) : (choiceN s l rec i).from_ l (i + 1) :=
  want_from hE hi fun h1 => then_from (hA 0 _ h1) fun _ _ h2 h3 => want_from hE h3 fun h4 => then_from (hA 0 _ h4) fun _ _ h5 h6 => want_from hE h6 fun h7 => then_from (hA 0 _ h7) fun _ _ h8 h9 => made_from h9 (by omega)
theorem args_from (hE : Ended l) (hA : Adv l rec) {name : ByteArray} {at_ : Nat} : ∀ (k : Nat) (xs : List Ex) (i : Nat), i < l.length → (argsN s l rec name at_ k xs i).from_ l (i + 1) := by
  intro k
  induction k with
  | zero =>
    intro xs i hi
    unfold argsN
    split
    · exact bad_from
    · exact want_from hE hi fun h => made_from h (by omega)
  | succ k ih =>
    intro xs i hi
    unfold argsN
    split
    · rename_i h
      refine then_from (hA 0 _ (isN_lt hE h hi)) fun e i1 h1 h2 => ?_
      intro e2 i2 h3
      have := ih _ i1 h2 e2 i2 h3
      omega
    · exact want_from hE hi fun h => made_from h (by omega)
theorem alone_from (hE : Ended l) (hA : Adv l rec) {i : Nat} (hi : i < l.length) : (aloneN s l rec i).from_ l (i + 1) := by
  unfold aloneN
  by_cases h2 : (tkN l i).kind = 2
  · rw [if_pos h2]; exact ok_from (by omega) (hE i hi (by omega))
  rw [if_neg h2]
  by_cases ht : isN l i wTrue = true
  · rw [if_pos ht]; exact ok_from (by omega) (isN_lt hE ht hi)
  rw [if_neg ht]
  by_cases hf : isN l i wFalse = true
  · rw [if_pos hf]; exact ok_from (by omega) (isN_lt hE hf hi)
  rw [if_neg hf]
  by_cases h1 : (tkN l i).kind = 1
  · rw [if_pos h1]
    have h3 := hE i hi (by omega)
    by_cases ho : isN l (i + 1) wOpen = true
    · rw [if_pos ho]
      refine then_from (hA 0 _ (isN_lt hE ho h3)) fun e i1 h4 h5 => ?_
      intro e2 i2 h6
      have := args_from hE hA 7 [e] i1 h5 e2 i2 h6
      omega
    · rw [if_neg ho]; exact ok_from (by omega) h3
  rw [if_neg h1]
  by_cases hm : isN l i wMerge = true
  · rw [if_pos hm]
    exact name_from hE (isN_lt hE hm hi) fun _ h4 => within_from hE hA h4 fun _ _ h5 h6 => within_from hE hA h6 fun _ _ h7 h8 => made_from h8 (by omega)
  · rw [if_neg hm]
    exact within_from hE hA hi fun _ _ h4 h5 => ok_from (by omega) h5
theorem op1_lt (hE : Ended l) {i : Nat} (h : op1N l i ≠ 0) (hi : i < l.length) : i + 1 < l.length := by
  unfold op1N at h
  by_cases h1 : isN l i wMinus = true
  · exact isN_lt hE h1 hi
  rw [if_neg h1] at h
  by_cases h2 : isN l i wNot = true
  · exact isN_lt hE h2 hi
  rw [if_neg h2] at h
  by_cases h3 : isN l i wPre = true
  · exact isN_lt hE h3 hi
  rw [if_neg h3] at h
  exact absurd rfl h
theorem pref_from (hE : Ended l) (hA : Adv l rec) {i : Nat} (hi : i < l.length) : (prefN s l rec i).from_ l (i + 1) := by
  unfold prefN
  split
  · exact alone_from hE hA hi
  · rename_i h
    exact then_from (hA 9 _ (op1_lt hE h hi)) fun _ _ h1 h2 => made_from h2 (by omega)
theorem opN_lt (hE : Ended l) {i : Nat} (h : opN l i ≠ 0) (hi : i < l.length) : i + 1 < l.length := by
  unfold opN at h
  split at h
  · exact hE i hi (by omega)
  · exact absurd rfl h
theorem when_from (hE : Ended l) {e : Ex} {i b : Nat} {f : Ex → Nat → PR} (h : opN l i ≠ 0) (hi : i < l.length) (hf : ∀ e i1, i < i1 → i1 < l.length → (f e i1).from_ l b) : (whenN s l e i f).from_ l b := by
  have h1 := opN_lt hE h hi
  unfold whenN
  split
  · rename_i h2
    exact name_from hE (isN_lt hE h2 h1) fun _ h3 => then_from (made_from h3 (Nat.le_refl _)) fun _ _ h4 h5 => hf _ _ (by omega) h5
  · exact name_from hE h1 fun _ h3 => then_from (made_from h3 (Nat.le_refl _)) fun _ _ h4 h5 => hf _ _ (by omega) h5
theorem two_from (hE : Ended l) (hA : Adv l rec) {e : Ex} {i b : Nat} {op fr : Int} {f : Ex → Nat → PR} (h : opN l i ≠ 0) (hi : i < l.length) (hf : ∀ e i1, i < i1 → i1 < l.length → (f e i1).from_ l b) : (twoN s l rec e i op fr f).from_ l b :=
  then_from (hA fr _ (opN_lt hE h hi)) fun _ _ h1 h2 => then_from (made_from h2 (Nat.le_refl _)) fun _ _ h3 h4 => hf _ _ (by omega) h4
theorem loop_from (hE : Ended l) (hA : Adv l rec) (least : Int) : ∀ (f : Nat) (e : Ex) (sg : Int) (i : Nat), i < l.length → (loopN s l rec least f e sg i).from_ l i := by
  intro f
  induction f with
  | zero => intro e sg i hi; exact ok_from (Nat.le_refl _) hi
  | succ f ih =>
    intro e sg i hi
    unfold loopN
    by_cases h : opN l i = 0 ∨ strOf (opN l i) < least ∨ sg < needOf (opN l i)
    · rw [if_pos h]; exact ok_from (Nat.le_refl _) hi
    rw [if_neg h]
    have h0 : opN l i ≠ 0 := fun e => h (.inl e)
    by_cases h24 : opN l i = 24
    · rw [if_pos h24]
      refine when_from hE h0 hi fun e1 i1 h1 h2 e2 i2 h3 => ?_
      have := ih e1 3 i1 h2 e2 i2 h3
      omega
    · rw [if_neg h24]
      refine two_from hE hA h0 hi fun e1 i1 h1 h2 e2 i2 h3 => ?_
      have := ih e1 _ i1 h2 e2 i2 h3
      omega
theorem one_from (hE : Ended l) (hA : Adv l rec) (least : Int) {i : Nat} (hi : i < l.length) : (oneN s l rec least i).from_ l (i + 1) := by
  unfold oneN
  split
  · exact choice_from hE hA hi
  · refine then_from (pref_from hE hA hi) fun e i1 h1 h2 e2 i2 h3 => ?_
    have := loop_from hE hA least l.length e (sigN l i) i1 h2 e2 i2 h3
    omega
theorem expr_adv (hE : Ended l) : ∀ d, Adv l (exprN s l d) := by
  intro d
  induction d with
  | zero => intro least i hi; exact bad_from
  | succ d ih =>
    intro least i hi
    unfold exprN
    split
    · exact one_from hE ih least hi
    · exact bad_from

/-! what is done behind a place only -/
theorem when_congr (hE : Ended l) {e : Ex} {i : Nat} {f g : Ex → Nat → PR} (h : opN l i ≠ 0) (hi : i < l.length) (hfg : ∀ e i1, i < i1 → i1 < l.length → f e i1 = g e i1) : whenN s l e i f = whenN s l e i g := by
  have h1 := opN_lt hE h hi
  have hm : ∀ (e : Ex) (j : Nat), i < j → j < l.length → (madeN e j).then f = (madeN e j).then g := fun e j hj hl => by
    unfold madeN
    split
    · rfl
    · exact hfg e j hj hl
  unfold whenN nameN
  by_cases hn : isN l (i + 1) wNot = true
  · rw [if_pos hn, if_pos hn]
    have h2 := isN_lt hE hn h1
    by_cases hk : (tkN l (i + 2)).kind = 1
    · rw [if_pos hk, if_pos hk]; exact hm _ _ (by omega) (hE _ h2 (by omega))
    · rw [if_neg hk, if_neg hk]
  · rw [if_neg hn, if_neg hn]
    by_cases hk : (tkN l (i + 1)).kind = 1
    · rw [if_pos hk, if_pos hk]; exact hm _ _ (by omega) (hE _ h1 (by omega))
    · rw [if_neg hk, if_neg hk]
theorem two_congr (hE : Ended l) (hA : Adv l rec) {e : Ex} {i : Nat} {op fr : Int} {f g : Ex → Nat → PR} (h : opN l i ≠ 0) (hi : i < l.length) (hfg : ∀ e i1, i < i1 → i1 < l.length → f e i1 = g e i1) : twoN s l rec e i op fr f = twoN s l rec e i op fr g := by
  have h1 := hA fr _ (opN_lt hE h hi)
  unfold twoN
  cases hr : rec fr (i + 1) with
  | bad a b c => rfl
  | ok r i1 =>
    have h2 := h1 r i1 hr
    show (madeN _ i1).then f = (madeN _ i1).then g
    unfold madeN
    split
    · rfl
    · exact hfg _ _ (by omega) h2.2
theorem when_then {e : Ex} {i : Nat} {f g : Ex → Nat → PR} : (whenN s l e i f).then g = whenN s l e i fun e1 i1 => (f e1 i1).then g := by
  unfold whenN nameN
  split
  · split
    · exact then_assoc _ _ _
    · rfl
  · split
    · exact then_assoc _ _ _
    · rfl
theorem two_then {e : Ex} {i : Nat} {op fr : Int} {f g : Ex → Nat → PR} : (twoN s l rec e i op fr f).then g = twoN s l rec e i op fr fun e1 i1 => (f e1 i1).then g := by
  unfold twoN
  rw [then_assoc]
  congr 1
  funext r i1
  exact then_assoc _ _ _

/-! ops -/
theorem opText_cases (t : List UInt8) : opText t = 0 ∨ (7 ≤ opText t ∧ opText t ≤ 20) ∨ opText t = 22 ∨ opText t = 23 ∨ opText t = 24 := by
  unfold opText
  (repeat' split) <;> omega
theorem opN_cases (i : Nat) : opN l i = 0 ∨ (7 ≤ opN l i ∧ opN l i ≤ 20) ∨ opN l i = 22 ∨ opN l i = 23 ∨ opN l i = 24 := by
  unfold opN
  split
  · exact opText_cases _
  · exact .inl rfl
theorem str_cases {op : Int} (h : (7 ≤ op ∧ op ≤ 20) ∨ op = 22 ∨ op = 23 ∨ op = 24) : 1 ≤ strOf op ∧ strOf op ≤ 8 ∧ (strOf op = 3 ↔ op = 24) := by
  rw [strC_eq]; unfold strC; (repeat' split) <;> omega

/-- behind an op of a strength the loop goes on as the reference's loop of that strength -/
theorem loop_many (hE : Ended l) (hA : Adv l rec) {st : Int} (hst : st = 3 ∨ st = 4 ∨ st = 5 ∨ st = 7 ∨ st = 8) : ∀ (n f f' : Nat) (e : Ex) (i : Nat), i < l.length → l.length ≤ i + n → n ≤ f → n ≤ f' →
    loopN s l rec st f e st i = manyN s l rec st f' e i := by
  intro n
  induction n with
  | zero => intro f f' e i hi hn; omega
  | succ n ih =>
    intro f f' e i hi hn hf hf'
    obtain ⟨f, rfl⟩ : ∃ g, f = g + 1 := ⟨f - 1, by omega⟩
    obtain ⟨f', rfl⟩ : ∃ g, f' = g + 1 := ⟨f' - 1, by omega⟩
    unfold loopN manyN
    by_cases h0 : opN l i = 0
    · rw [if_pos (.inl h0), if_pos (.inl h0)]
    have hc := str_cases ((opN_cases (l := l) i).resolve_left h0)
    by_cases hs : strOf (opN l i) = st
    · have hneed : needOf (opN l i) = st := by unfold needOf; rw [hs, if_neg (by omega)]
      have hA1 : ¬ (opN l i = 0 ∨ strOf (opN l i) < st ∨ st < needOf (opN l i)) := by rw [hneed]; omega
      have hA2 : ¬ (opN l i = 0 ∨ strOf (opN l i) ≠ st) := by omega
      rw [if_neg hA1, if_neg hA2]
      by_cases h24 : opN l i = 24
      · rw [if_pos h24, if_pos h24]
        have h3 : st = 3 := by rw [← hs]; exact hc.2.2.2 h24
        subst h3
        exact when_congr hE h0 hi fun e1 i1 h1 h2 => ih f f' e1 i1 h2 (by omega) (by omega) (by omega)
      · rw [if_neg h24, if_neg h24]
        have hfrom : fromOf (opN l i) = st + 1 := by unfold fromOf; rw [hs, if_neg (by omega)]
        rw [hfrom, hs]
        exact two_congr hE hA h0 hi fun e1 i1 h1 h2 => ih f f' e1 i1 h2 (by omega) (by omega) (by omega)
    · have hneed : strOf (opN l i) ≤ needOf (opN l i) := by unfold needOf; split <;> omega
      rw [if_pos (by omega), if_pos (.inr hs)]
theorem loop_once {st : Int} (hst : st = 1 ∨ st = 2 ∨ st = 6) (f : Nat) (e : Ex) (i : Nat) : loopN s l rec st f e st i = .ok e i := by
  cases f with
  | zero => rfl
  | succ f =>
    unfold loopN
    by_cases h0 : opN l i = 0
    · rw [if_pos (.inl h0)]
    have hneed : strOf (opN l i) = st → needOf (opN l i) = st + 1 := fun h => by unfold needOf; rw [h, if_pos (by omega)]
    have hneed2 : strOf (opN l i) ≤ needOf (opN l i) := by unfold needOf; split <;> omega
    rw [if_pos]
    by_cases hs : strOf (opN l i) = st
    · have := hneed hs; omega
    · omega

/-- one height lower -/
theorem loop_step (hE : Ended l) (hA : Adv l rec) {st : Int} (h1 : 1 ≤ st) (h8 : st ≤ 8) : ∀ (n f f' : Nat) (e : Ex) (sg : Int) (i : Nat), i < l.length → l.length ≤ i + n → n ≤ f → n ≤ f' → st + 1 ≤ sg →
    (loopN s l rec (st + 1) f e sg i).then (stepN s l rec st) = loopN s l rec st f' e sg i := by
  intro n
  induction n with
  | zero => intro f f' e sg i hi hn; omega
  | succ n ih =>
    intro f f' e sg i hi hn hf hf' hsg
    obtain ⟨f, rfl⟩ : ∃ g, f = g + 1 := ⟨f - 1, by omega⟩
    obtain ⟨f', rfl⟩ : ∃ g, f' = g + 1 := ⟨f' - 1, by omega⟩
    have hneed2 : strOf (opN l i) ≤ needOf (opN l i) := by unfold needOf; split <;> omega
    have hneed3 : needOf (opN l i) ≤ strOf (opN l i) + 1 := by unfold needOf; split <;> omega
    by_cases h0 : opN l i = 0
    · unfold loopN
      rw [if_pos (.inl h0), if_pos (.inl h0), then_ok]
      unfold stepN onceN
      split
      · rw [if_pos (.inl h0)]
      · split
        · rw [if_pos (.inl h0)]
        · cases hl : l.length with
          | zero => omega
          | succ k => unfold manyN; rw [if_pos (.inl h0)]
    have hc := str_cases ((opN_cases (l := l) i).resolve_left h0)
    by_cases hacc : strOf (opN l i) < st + 1 ∨ sg < needOf (opN l i)
    · conv => lhs; unfold loopN
      rw [if_pos (.inr hacc), then_ok]
      by_cases hs : strOf (opN l i) = st
      · have hA1 : ¬ (opN l i = 0 ∨ strOf (opN l i) < st ∨ sg < needOf (opN l i)) := by omega
        have hA2 : ¬ (opN l i = 0 ∨ strOf (opN l i) ≠ st) := by omega
        conv => rhs; unfold loopN
        rw [if_neg hA1]
        unfold stepN onceN
        by_cases h12 : st = 1 ∨ st = 2
        · rw [if_pos h12, if_neg (by omega), if_neg (by omega)]
          have hfrom : fromOf (opN l i) = st := by unfold fromOf; rw [hs, if_pos h12]
          rw [hfrom, hs]
          exact two_congr hE hA h0 hi fun e1 i1 _ _ => (loop_once (st := st) (by omega) f' e1 i1).symm
        · rw [if_neg h12]
          by_cases h6 : st = 6
          · subst h6
            rw [if_pos rfl, if_neg hA2, if_neg (show ¬ opN l i = 24 from fun h => by have := hc.2.2.2 h; omega)]
            have hfrom : fromOf (opN l i) = 7 := by unfold fromOf; rw [hs]; rfl
            rw [hfrom, hs]
            exact two_congr hE hA h0 hi fun e1 i1 _ _ => (loop_once (st := 6) (.inr (.inr rfl)) f' e1 i1).symm
          · rw [if_neg h6]
            obtain ⟨k, hk⟩ : ∃ k, l.length = k + 1 := ⟨l.length - 1, by omega⟩
            rw [hk]
            unfold manyN
            rw [if_neg hA2]
            by_cases h24 : opN l i = 24
            · rw [if_pos h24, if_pos h24]
              have h3 : st = 3 := by rw [← hs]; exact hc.2.2.2 h24
              subst h3
              exact when_congr hE h0 hi fun e1 i1 h1 h2 => (loop_many hE hA (by omega) (l.length - i1) f' k e1 i1 h2 (by omega) (by omega) (by omega)).symm
            · rw [if_neg h24, if_neg h24]
              have hfrom : fromOf (opN l i) = st + 1 := by unfold fromOf; rw [hs, if_neg h12]
              rw [hfrom, hs]
              exact two_congr hE hA h0 hi fun e1 i1 h1 h2 => (loop_many hE hA (by omega) (l.length - i1) f' k e1 i1 h2 (by omega) (by omega) (by omega)).symm
      · conv => rhs; unfold loopN
        rw [if_pos (by omega)]
        unfold stepN onceN
        split
        · rw [if_pos (.inr (by omega))]
        · split
          · rw [if_pos (.inr (by omega))]
          · cases hl : l.length with
            | zero => omega
            | succ k => unfold manyN; rw [if_pos (.inr hs)]
    · conv => lhs; unfold loopN
      conv => rhs; unfold loopN
      rw [if_neg (show ¬ (opN l i = 0 ∨ strOf (opN l i) < st + 1 ∨ sg < needOf (opN l i)) from by omega), if_neg (show ¬ (opN l i = 0 ∨ strOf (opN l i) < st ∨ sg < needOf (opN l i)) from by omega)]
      by_cases h24 : opN l i = 24
      · rw [if_pos h24, if_pos h24, when_then]
        have h3 := hc.2.2.2 h24
        exact when_congr hE h0 hi fun e1 i1 h1 h2 => ih f f' e1 3 i1 h2 (by omega) (by omega) (by omega) (by omega)
      · rw [if_neg h24, if_neg h24, two_then]
        exact two_congr hE hA h0 hi fun e1 i1 h1 h2 => ih f f' e1 _ i1 h2 (by omega) (by omega) (by omega) (by omega)

theorem loop_nine (f : Nat) (e : Ex) (sg : Int) (i : Nat) : loopN s l rec 9 f e sg i = .ok e i := by
  cases f with
  | zero => rfl
  | succ f =>
    unfold loopN
    by_cases h0 : opN l i = 0
    · rw [if_pos (.inl h0)]
    have hc := str_cases ((opN_cases (l := l) i).resolve_left h0)
    rw [if_pos (by omega)]
theorem sig_le (i : Nat) : 9 ≤ sigN l i := by unfold sigN; split <;> omega

theorem lad_loop (hE : Ended l) (hA : Adv l rec) : ∀ (k : Nat), k ≤ 8 → ∀ (i : Nat), i < l.length → ladN s l rec k i = (prefN s l rec i).then fun e i1 => loopN s l rec (9 - k) l.length e (sigN l i) i1 := by
  intro k
  induction k with
  | zero =>
    intro _ i hi
    show prefN s l rec i = _
    cases prefN s l rec i with
    | bad a b c => rfl
    | ok e i1 => exact (loop_nine _ _ _ _).symm
  | succ k ih =>
    intro hk i hi
    show (ladN s l rec k i).then (fun e i1 => stepN s l rec (8 - k) e i1) = _
    rw [ih (by omega) i hi, then_assoc]
    cases hp : prefN s l rec i with
    | bad a b c => rfl
    | ok e i1 =>
      have h1 := pref_from hE hA hi e i1 hp
      have h2 := sig_le (l := l) i
      have h3 := loop_step (s := s) hE hA (st := 8 - k) (by omega) (by omega) l.length l.length l.length e (sigN l i) i1 h1.2 (by omega) (Nat.le_refl _) (Nat.le_refl _) (by omega)
      rw [show (8 - (k : Int)) + 1 = 9 - k by omega] at h3
      rw [show (9 - ((k + 1 : Nat) : Int)) = 8 - k by omega]
      exact h3

theorem strong_one (hE : Ended l) (hA : Adv l rec) (st : Nat) (h9 : st ≤ 9) (i : Nat) (hi : i < l.length) : strongN s l rec st i = oneN s l rec st i := by
  unfold strongN oneN
  by_cases h0 : st = 0
  · subst h0
    rw [if_pos rfl]
    by_cases hf : isN l i wIf = true
    · rw [if_pos hf, if_pos ⟨rfl, hf⟩]
    · rw [if_neg hf, if_neg (fun h => hf h.2), lad_loop hE hA 8 (by omega) i hi]
      have h1 : ∀ e i1, i1 < l.length → loopN s l rec (9 - ((8 : Nat) : Int)) l.length e (sigN l i) i1 = loopN s l rec ((0 : Nat) : Int) l.length e (sigN l i) i1 := by
        intro e i1 _
        have hgen : ∀ f e sg i1, loopN s l rec 1 f e sg i1 = loopN s l rec 0 f e sg i1 := by
          intro f
          induction f with
          | zero => intro e sg i1; rfl
          | succ f ih =>
            intro e sg i1
            unfold loopN
            by_cases h0 : opN l i1 = 0
            · rw [if_pos (.inl h0), if_pos (.inl h0)]
            have hc := str_cases ((opN_cases (l := l) i1).resolve_left h0)
            by_cases hx : sg < needOf (opN l i1)
            · rw [if_pos (.inr (.inr hx)), if_pos (.inr (.inr hx))]
            · rw [if_neg (show ¬ (opN l i1 = 0 ∨ strOf (opN l i1) < 1 ∨ sg < needOf (opN l i1)) from by omega), if_neg (show ¬ (opN l i1 = 0 ∨ strOf (opN l i1) < 0 ∨ sg < needOf (opN l i1)) from by omega)]
              simp only [ih]
        exact hgen _ _ _ _
      cases hp : prefN s l rec i with
      | bad a b c => rfl
      | ok e i1 => exact h1 e i1 (pref_from hE hA hi e i1 hp).2
  · rw [if_neg h0, if_neg (fun h => by have := h.1; omega), lad_loop hE hA (9 - st) (by omega) i hi]
    rw [show (9 - ((9 - st : Nat) : Int)) = (st : Int) by omega]
end

/-- THE LAW: the code's reading and the reference's are one -/
theorem expr_ref (s : ByteArray) {l : List Tk} (hE : Ended l) : ∀ d, exprN s l d = refN s l d := by
  intro d
  induction d with
  | zero => rfl
  | succ d ih =>
    funext least i
    unfold exprN refN
    by_cases h : i < l.length ∧ 0 ≤ least ∧ least ≤ 9
    · rw [if_pos h, if_pos h, ← ih]
      have h1 := strong_one (s := s) (rec := exprN s l d) hE (expr_adv hE d) least.toNat (by omega) i h.1
      rw [show ((least.toNat : Nat) : Int) = least by omega] at h1
      exact h1.symm
    · rw [if_neg h, if_neg h]
end Go.Proofs.YtnlikhjmmnaknaaGreatDoor
/-
  Expressions that lie above a block; a row of expressions; what a call keeps that writes one block alone.
-/
namespace Go.Proofs.YtnlikhjmmnaknaaGreatDoor
open Go.RowKit

/-- the numbers from one on and below another -/
def Iv (lo hi : Nat) : Nat → Prop := fun n => lo ≤ n ∧ n < hi
/-- An expression's parts lie at A, in blocks of D. -/
def ExIn (D : Nat → Prop) (w : World) : Ex → Option Addr → Nat → Prop
  | .junk, _, _ => False
  | .mk op name n k arg l c, A, cap =>
    (I64 op ∧ name.size ≤ maxLen ∧ I64 n ∧ I64 l ∧ I64 c ∧ k ≤ cap ∧ cap ≤ maxLen) ∧
    ∀ i, i < k → ∃ b o A' cap', A = some ⟨b, o, none⟩ ∧ D b ∧ CellsAt w b (o + i * 6) (arg i) A' cap' ∧ ExIn D w (arg i) A' cap'

theorem cell_lt {w : World} {b o : Nat} {v : Value} (h : w.cell? ⟨b, o, none⟩ = some v) : b < w.heap.size := by
  unfold World.cell? at h
  split at h
  · rename_i h1; exact (Array.getElem?_eq_some_iff.1 h1).1
  · cases h
theorem cell_kept {row : Option Nat} {b : Nat} {w w' : World} (hg : w.grownBy w' row) (hb : some b ≠ row) {o : Nat} {v : Value} (h : w.cell? ⟨b, o, none⟩ = some v) : w'.cell? ⟨b, o, none⟩ = some v := hg.cell h hb
theorem CellsAt.kept {row : Option Nat} {b : Nat} {w w' : World} (hg : w.grownBy w' row) (hb : some b ≠ row) {o : Nat} {e : Ex} {A : Option Addr} {cap : Nat} (h : CellsAt w b o e A cap) : CellsAt w' b o e A cap :=
  ⟨cell_kept hg hb h.c0, cell_kept hg hb h.c1, cell_kept hg hb h.c2, cell_kept hg hb h.c3, cell_kept hg hb h.c4, cell_kept hg hb h.c5⟩
/-- a block that is none of these is written, or new ones are made -/
theorem ExIn.keep {D : Nat → Prop} {row : Option Nat} {w w' : World} (hg : w.grownBy w' row) (hT : ∀ T, row = some T → ¬ D T) : ∀ (e : Ex) (A : Option Addr) (cap : Nat), ExIn D w e A cap → ExIn D w' e A cap := by
  intro e
  induction e with
  | junk => exact fun _ _ h => h
  | mk op name n k arg l c ih =>
    rintro A cap ⟨h0, h⟩
    refine ⟨h0, fun i hi => ?_⟩
    obtain ⟨b, o, A', cap', hA, hb, hc, hr⟩ := h i hi
    exact ⟨b, o, A', cap', hA, hb, hc.kept hg (fun e => hT b e.symm hb), ih i _ _ hr⟩
theorem ExIn.wide {D D' : Nat → Prop} {w : World} (h1 : ∀ n, D n → D' n) : ∀ (e : Ex) (A : Option Addr) (cap : Nat), ExIn D w e A cap → ExIn D' w e A cap := by
  intro e
  induction e with
  | junk => exact fun _ _ h => h
  | mk op name n k arg l c ih =>
    rintro A cap ⟨h0, h⟩
    refine ⟨h0, fun i hi => ?_⟩
    obtain ⟨b, o, A', cap', hA, hb, hc, hr⟩ := h i hi
    exact ⟨b, o, A', cap', hA, h1 b hb, hc, ih i _ _ hr⟩
theorem ExIn.is {D : Nat → Prop} {hi : Nat} {w : World} (hD : ∀ n, D n → n < hi) : ∀ (e : Ex) (A : Option Addr) (cap : Nat), ExIn D w e A cap → ExAt hi w e A cap := by
  intro e
  induction e with
  | junk => exact fun _ _ h => h
  | mk op name n k arg l c ih =>
    rintro A cap ⟨h0, h⟩
    refine ⟨h0, fun i hi => ?_⟩
    obtain ⟨b, o, A', cap', hA, hb, hc, hr⟩ := h i hi
    exact ⟨b, o, A', cap', hA, hD b hb, hc, ih i _ _ hr⟩
theorem ExIn.lit {D : Nat → Prop} {w : World} {op : Int} {name : ByteArray} {n ln cl : Int} (h1 : I64 op) (h2 : name.size ≤ maxLen) (h3 : I64 n) (h4 : I64 ln) (h5 : I64 cl) : ExIn D w (mkEx op name n [] ln cl) none 0 :=
  ⟨⟨h1, h2, h3, h4, h5, Nat.le_refl _, Nat.zero_le _⟩, fun i hi => absurd hi (by simp)⟩
theorem ExIn.mk_op {D : Nat → Prop} {w : World} {e : Ex} {A : Option Addr} {cap : Nat} (h : ExIn D w e A cap) : I64 e.op ∧ e.name.size ≤ maxLen ∧ I64 e.num ∧ I64 e.line ∧ I64 e.col ∧ e.k ≤ cap ∧ cap ≤ maxLen := by
  obtain _ | ⟨op, name, n, k, arg, l, c⟩ := e
  · exact h.elim
  · exact h.1

/-- an expression, and where its parts lie -/
structure LEx where
  e : Ex
  A : Option Addr
  cap : Nat
def LEx.cells (x : LEx) : List Value := [.int .i64 x.e.op, .string x.e.name, .int .i64 x.e.num, .slice x.A x.e.k x.cap, .int .i64 x.e.line, .int .i64 x.e.col]
theorem LEx.len (x : LEx) : x.cells.length = 6 := rfl
theorem LEx.one (xs : List LEx) : ∀ u ∈ xs.flatMap LEx.cells, u.oneCell' = true := by
  intro u hu
  obtain ⟨y, _, hy⟩ := List.mem_flatMap.1 hu
  simp only [LEx.cells, List.mem_cons, List.not_mem_nil, or_false] at hy
  rcases hy with rfl | rfl | rfl | rfl | rfl | rfl <;> rfl
theorem rows_at {α : Type} (cells : α → List Value) (sz : Nat) (hsz : ∀ y, (cells y).length = sz) (ys : List α) (j : Nat) (h : j < ys.length) (i : Nat) (hi : i < sz) : (ys.flatMap cells)[j * sz + i]? = (cells ys[j])[i]? := by
  induction ys generalizing j with
  | nil => simp at h
  | cons y ys ih =>
    have hl := hsz y
    cases j with
    | zero => rw [List.flatMap_cons, List.getElem?_append_left (by omega)]; simp
    | succ j =>
      rw [List.flatMap_cons, List.getElem?_append_right (by rw [hl, Nat.succ_mul]; omega), show (j + 1) * sz + i - (cells y).length = j * sz + i by rw [hl, Nat.succ_mul]; omega, ih j (by simpa using h)]
      simp
theorem rows_len {α : Type} (cells : α → List Value) (sz : Nat) (hsz : ∀ y, (cells y).length = sz) (ys : List α) : (ys.flatMap cells).length = ys.length * sz := by
  induction ys with
  | nil => simp
  | cons y ys ih => rw [List.flatMap_cons, List.length_append, ih, hsz, List.length_cons, Nat.succ_mul]; omega

/-- expressions that lie side by side, from a place of a block on -/
def ExsAt (D : Nat → Prop) (w : World) (A : Option Addr) (xs : List LEx) : Prop := ∀ j (h : j < xs.length), ∃ b o, A = some ⟨b, o, none⟩ ∧ D b ∧ (∀ i, i < 6 → w.cell? ⟨b, o + j * 6 + i, none⟩ = (xs[j]).cells[i]?) ∧ ExIn D w xs[j].e xs[j].A xs[j].cap
theorem exIn_of {D : Nat → Prop} {w : World} {A : Option Addr} {cap : Nat} {xs : List LEx} {op : Int} {name : ByteArray} {n ln cl : Int} (h : ExsAt D w A xs) (h1 : I64 op) (h2 : name.size ≤ maxLen) (h3 : I64 n) (h4 : I64 ln) (h5 : I64 cl) (h6 : xs.length ≤ cap) (h7 : cap ≤ maxLen) :
    ExIn D w (mkEx op name n (xs.map (·.e)) ln cl) A cap := by
  refine ⟨⟨h1, h2, h3, h4, h5, by simpa using h6, h7⟩, fun i hi => ?_⟩
  have hi' : i < xs.length := by simpa using hi
  obtain ⟨b, o, hA, hb, hc, hin⟩ := h i hi'
  have he : (fun i => (xs.map (·.e))[i]?.getD Ex.junk) i = xs[i].e := by
    show (xs.map (·.e))[i]?.getD Ex.junk = xs[i].e
    rw [List.getElem?_map, List.getElem?_eq_getElem hi']; rfl
  refine ⟨b, o, xs[i].A, xs[i].cap, hA, hb, ?_, by rw [he]; exact hin⟩
  rw [he]
  exact ⟨hc 0 (by omega), hc 1 (by omega), hc 2 (by omega), hc 3 (by omega), hc 4 (by omega), hc 5 (by omega)⟩
/-- .. in a block that is known whole -/
theorem exs_block {D : Nat → Prop} {g : Nat} {w : World} {xs : List LEx} {cs : Array Value} {fr : Nat × Nat} (hg : w.heap[g]? = some (.cells cs 41 fr)) (hD : D g) (hcs : ∀ j (h : j < xs.length) i, i < 6 → cs[j * 6 + i]? = (xs[j]).cells[i]?) (hin : ∀ x ∈ xs, ExIn D w x.e x.A x.cap) : ExsAt D w (some ⟨g, 0, none⟩) xs :=
  fun j hj => ⟨g, 0, rfl, hD, fun i hi => by rw [← hcs j hj i hi]; simp [World.cell?, hg], hin _ (List.getElem_mem hj)⟩
/-- .. in an owned row -/
theorem exs_own {D : Nat → Prop} {b0 : Nat} {w : World} {A : Option Addr} {c : Nat} {xs : List LEx} (h : w.ownsRow b0 41 6 (.slice A xs.length c) xs.length (xs.flatMap LEx.cells)) (hD : ∀ n, b0 ≤ n → n < w.heap.size → D n) (hin : ∀ x ∈ xs, ExIn D w x.e x.A x.cap) :
    ExsAt D w A xs ∧ xs.length ≤ c ∧ c ≤ maxLen := by
  rcases h.2 with ⟨h1, h2⟩ | ⟨g, cap, cur, h1, hb, h3, h4, h5, h6, h7⟩
  · have h0 : xs = [] := List.length_eq_zero_iff.1 h2
    subst h0
    injection h1 with _ _ hc
    subst hc
    exact ⟨fun j hj => absurd hj (by simp), Nat.le_refl _, Nat.zero_le _⟩
  · injection h1 with hA _ hc
    subst hA hc
    refine ⟨exs_block h3 (hD g hb (Array.getElem?_eq_some_iff.1 h3).1) (fun j hj i hi => ?_) hin, h4, h5⟩
    have h8 := rows_at LEx.cells 6 LEx.len xs j hj i hi
    rw [← h7, List.getElem?_take_of_lt (by omega), Array.getElem?_toList] at h8
    exact h8

theorem grown_refl (w : World) (row : Option Nat) : w.grownBy w row := ⟨rfl, rfl, rfl, Nat.le_refl _, fun _ _ _ => rfl⟩
theorem grown_trans {a b c : World} {P : Nat} (h : a.grownBy b (some P)) (k : b.grownBy c (some P)) : a.grownBy c (some P) :=
  ⟨k.os.trans h.os, k.tape.trans h.tape, k.output.trans h.output, Nat.le_trans h.size k.size, fun i hi hne => (k.block i (Nat.lt_of_lt_of_le hi h.size) hne).trans (h.block i hi hne)⟩
theorem grown_below {a b : World} (h : Below a.heap.size a b) (row : Option Nat) : a.grownBy b row := ⟨h.os, h.tape, h.output, h.size, fun i hi _ => h.block i hi⟩
theorem grown_alloc (w : World) (o : Obj) (row : Option Nat) : w.grownBy (w.alloc o) row := grown_below ((Below.refl _ _).alloc (Nat.le_refl _) o) row
theorem grown_set (w : World) (g k : Nat) (v : Value) : w.grownBy (w.setCell ⟨g, k, none⟩ v) (some g) := chg_set w g k v
/-- an append to a row of the call's own -/
theorem grown_own {a b c : World} {P : Nat} {row : Option Nat} (h : a.grownBy b (some P)) (k : b.grownBy c row) (hr : ∀ i, row = some i → a.heap.size ≤ i) : a.grownBy c (some P) :=
  ⟨k.os.trans h.os, k.tape.trans h.tape, k.output.trans h.output, Nat.le_trans h.size k.size, fun i hi hne => (k.block i (Nat.lt_of_lt_of_le hi h.size) (fun e => by have := hr i e.symm; omega)).trans (h.block i hi hne)⟩
end Go.Proofs.YtnlikhjmmnaknaaGreatDoor
/-
  The walks of the parser's small functions: now, bad, fail, is, take, want, name.
-/
namespace Go.Proofs.YtnlikhjmmnaknaaGreatDoor
open Go.RowKit

/-- the parser's block: tokens, how many were read, the first fault -/
structure PSt (s : ByteArray) (l : List Tk) (P g : Nat) (w : World) (i : Nat) (er ln cl : Int) : Prop where
  blk : ∃ c b0 pt, pt ≠ 56 ∧ w.heap[P]? = some (.cells #[.slice (some ⟨g, 0, none⟩) l.length c, .int .i64 i, .int .i64 er, .int .i64 ln, .int .i64 cl] pt (0, 0)) ∧ w.ownsRow b0 56 5 (.slice (some ⟨g, 0, none⟩) l.length c) l.length (l.flatMap (Tk.cells s))
  lt : i < l.length
  max : l.length ≤ 1000000
section
variable {s : ByteArray} {l : List Tk} {P g : Nat} {w w' : World} {i : Nat} {er ln cl : Int}
theorem PSt.size (h : PSt s l P g w i er ln cl) : P < w.heap.size := by obtain ⟨c, b0, pt, hpt, h1, h2⟩ := h.blk; exact (Array.getElem?_eq_some_iff.1 h1).1
theorem parser_ne : (53 : TypeId) ≠ 56 := by decide
/-- what a walk reads -/
theorem PSt.cells (h : PSt s l P g w i er ln cl) : ∃ c, w.cell? ⟨P, 0, none⟩ = some (.slice (some ⟨g, 0, none⟩) l.length c) ∧ w.cell? ⟨P, 1, none⟩ = some (.int .i64 i) ∧ w.cell? ⟨P, 2, none⟩ = some (.int .i64 er) ∧ w.cell? ⟨P, 3, none⟩ = some (.int .i64 ln) ∧ w.cell? ⟨P, 4, none⟩ = some (.int .i64 cl) ∧
    (∀ k, w.frozen? ⟨P, k, none⟩ = false) ∧ g < w.heap.size ∧ w.cell? ⟨g, i * 5, none⟩ = some (.int .i64 (tkN l i).kind) ∧ w.cell? ⟨g, i * 5 + 1, none⟩ = some (.string (tkN l i).text) ∧ w.cell? ⟨g, i * 5 + 2, none⟩ = some (.int .i64 (tkN l i).num) ∧ w.cell? ⟨g, i * 5 + 3, none⟩ = some (.int .i64 (lnN s l i)) ∧ w.cell? ⟨g, i * 5 + 4, none⟩ = some (.int .i64 (clN s l i)) := by
  obtain ⟨c, b0, pt, hpt, h1, h2⟩ := h.blk
  have hc : ∀ k, k < 5 → w.cell? ⟨g, i * 5 + k, none⟩ = (Tk.cells s (tkN l i))[k]? := fun k hk => by
    have h3 := rows_at (Tk.cells s) 5 (fun _ => rfl) l i h.lt k hk
    rw [h2.cellAt (i * 5 + k) (by have := h.lt; omega), h3]
    have : tkN l i = l[i]'h.lt := by unfold tkN; rw [List.getElem?_eq_getElem h.lt]; rfl
    rw [this]
  have hg : g < w.heap.size := by
    have := hc 0 (by omega)
    exact cell_lt this
  refine ⟨c, ?_, ?_, ?_, ?_, ?_, fun k => ?_, hg, hc 0 (by omega), hc 1 (by omega), hc 2 (by omega), hc 3 (by omega), hc 4 (by omega)⟩ <;> simp [World.cell?, World.frozen?, h1]
theorem PSt.below (h : PSt s l P g w i er ln cl) (hb : Below w.heap.size w w') : PSt s l P g w' i er ln cl := by
  obtain ⟨c, b0, pt, hpt, h1, h2⟩ := h.blk
  exact ⟨⟨c, b0, pt, hpt, (hb.block P h.size).trans h1, h2.kept (grown_below hb none) (.inr (by simp [Value.ownBlock]))⟩, h.lt, h.max⟩
theorem PSt.alloc (h : PSt s l P g w i er ln cl) (o : Obj) : PSt s l P g (w.alloc o) i er ln cl := h.below ((Below.refl _ _).alloc (Nat.le_refl _) o)
/-- another block is written -/
theorem PSt.off {T : Nat} (h : PSt s l P g w i er ln cl) (hg : w.grownBy w' (some T)) (hP : T ≠ P) (hT : T ≠ g) : PSt s l P g w' i er ln cl := by
  obtain ⟨c, b0, pt, hpt, h1, h2⟩ := h.blk
  refine ⟨⟨c, b0, pt, hpt, (hg.block P h.size (by simp; omega)).trans h1, h2.kept hg (.inr (by simp [Value.ownBlock]; omega))⟩, h.lt, h.max⟩
theorem PSt.gsize (h : PSt s l P g w i er ln cl) : g < w.heap.size := by
  obtain ⟨c, c0, c1, c2, c3, c4, fz, hg, -⟩ := h.cells
  exact hg
theorem PSt.set (h : PSt s l P g w i er ln cl) {j : Nat} (hj : j < l.length) : PSt s l P g (w.setCell ⟨P, 1, none⟩ (.int .i64 j)) j er ln cl := by
  obtain ⟨c, b0, pt, hpt, h1, h2⟩ := h.blk
  exact ⟨⟨c, b0, pt, hpt, blk_set h1 1 _, h2.kept (chg_set w P 1 _) (.inr (fun e => by
    simp only [Value.ownBlock, Option.some.injEq] at e
    subst e
    rcases h2.2 with ⟨h5, _⟩ | ⟨g5, cap5, cur5, h5, _, h6, _⟩
    · cases h5
    · have hgg : g5 = g := by injection h5 with h7; injection h7 with h7; injection h7 with h7; exact h7.symm
      subst hgg
      rw [h6] at h1
      injection h1 with h1
      injection h1 with _ h8 _
      exact hpt h8.symm))⟩, hj, h.max⟩
theorem PSt.fault (h : PSt s l P g w i er ln cl) (e2 l2 c2 : Int) : PSt s l P g (((w.setCell ⟨P, 2, none⟩ (.int .i64 e2)).setCell ⟨P, 3, none⟩ (.int .i64 l2)).setCell ⟨P, 4, none⟩ (.int .i64 c2)) i e2 l2 c2 := by
  obtain ⟨c, b0, pt, hpt, h1, h2⟩ := h.blk
  have hne : g ≠ P := fun e => by
    subst e
    rcases h2.2 with ⟨h5, _⟩ | ⟨g5, cap5, cur5, h5, _, h6, _⟩
    · cases h5
    · have hgg : g5 = g := by injection h5 with h7; injection h7 with h7; injection h7 with h7; exact h7.symm
      subst hgg
      rw [h6] at h1
      injection h1 with h1
      injection h1 with _ h8 _
      exact hpt h8.symm
  have hb : ∀ (w : World) k v, w.ownsRow b0 56 5 (.slice (some ⟨g, 0, none⟩) l.length c) l.length (l.flatMap (Tk.cells s)) → (w.setCell ⟨P, k, none⟩ v).ownsRow b0 56 5 (.slice (some ⟨g, 0, none⟩) l.length c) l.length (l.flatMap (Tk.cells s)) := fun w k v ho => ho.kept (chg_set w P k v) (.inr (by simp [Value.ownBlock]; exact hne))
  exact ⟨⟨c, b0, pt, hpt, blk_set (blk_set (blk_set h1 2 _) 3 _) 4 _, hb _ _ _ (hb _ _ _ (hb _ _ _ h2))⟩, h.lt, h.max⟩
end

set_option maxHeartbeats 1000000 in
theorem bad_any {s : ByteArray} {l : List Tk} {P g : Nat} {w : World} {i : Nat} {er ln cl : Int} (h : PSt s l P g w i er ln cl) :
    Calls Tryz.prog 19 #[.pointer (some ⟨P, 0, none⟩)] w fun r w' => r = .returned (.bool (er != 0)) ∧ w = w' := by
  obtain ⟨c, c0, c1, c2, c3, c4, fz, hg, k0, k1, k2, k3, k4⟩ := h.cells
  go_enter Tryz.func19, Tryz.ntmps19
  go_wp2_with fail
  go_ret
  exact ⟨rfl, rfl⟩

set_option maxHeartbeats 2000000 in
set_option maxRecDepth 100000 in
theorem now_any {s : ByteArray} {l : List Tk} {P g : Nat} {w : World} {i : Nat} {er ln cl : Int} (h : PSt s l P g w i er ln cl) :
    Calls Tryz.prog 22 #[.pointer (some ⟨P, 0, none⟩)] w fun r w' => r = .returned (.agg #[.int .i64 (tkN l i).kind, .string (tkN l i).text, .int .i64 (tkN l i).num, .int .i64 (lnN s l i), .int .i64 (clN s l i)]) ∧ Below w.heap.size w w' := by
  have hPs := h.size
  obtain ⟨c, c0, c1, c2, c3, c4, fz, hg, k0, k1, k2, k3, k4⟩ := h.cells
  have hlt := h.lt
  have hmx := h.max
  go_enter Tryz.func22, Tryz.ntmps22
  go_wp2_with fail
  go_region
  go_wp2_with fail
  have hn := World.alloc_heap_new w (.cells #[.int .i64 (tkN l i).kind, .string (tkN l i).text, .int .i64 (tkN l i).num, .int .i64 (lnN s l i), .int .i64 (clN s l i)] 56)
  have hb : Below w.heap.size w (w.alloc (.cells #[.int .i64 (tkN l i).kind, .string (tkN l i).text, .int .i64 (tkN l i).num, .int .i64 (lnN s l i), .int .i64 (clN s l i)] 56)).drew := ((Below.refl _ _).alloc (Nat.le_refl _) _).drew
  have hd : (w.alloc (.cells #[.int .i64 (tkN l i).kind, .string (tkN l i).text, .int .i64 (tkN l i).num, .int .i64 (lnN s l i), .int .i64 (clN s l i)] 56)).drew.heap[w.heap.size]? = some (.cells #[.int .i64 (tkN l i).kind, .string (tkN l i).text, .int .i64 (tkN l i).num, .int .i64 (lnN s l i), .int .i64 (clN s l i)] 56 (0, 0)) := hn
  generalize (w.alloc (.cells #[.int .i64 (tkN l i).kind, .string (tkN l i).text, .int .i64 (tkN l i).num, .int .i64 (lnN s l i), .int .i64 (clN s l i)] 56)).drew = W at *
  have q0 : W.cell? ⟨w.heap.size, 0, none⟩ = some (.int .i64 (tkN l i).kind) := Lib.cell_of_heap hd 0
  have q1 : W.cell? ⟨w.heap.size, 1, none⟩ = some (.string (tkN l i).text) := Lib.cell_of_heap hd 1
  have q2 : W.cell? ⟨w.heap.size, 2, none⟩ = some (.int .i64 (tkN l i).num) := Lib.cell_of_heap hd 2
  have q3 : W.cell? ⟨w.heap.size, 3, none⟩ = some (.int .i64 (lnN s l i)) := Lib.cell_of_heap hd 3
  have q4 : W.cell? ⟨w.heap.size, 4, none⟩ = some (.int .i64 (clN s l i)) := Lib.cell_of_heap hd 4
  exact bodyPost_ret (v := .agg #[.int .i64 (tkN l i).kind, .string (tkN l i).text, .int .i64 (tkN l i).num, .int .i64 (lnN s l i), .int .i64 (clN s l i)]) (by simp [results, Tryz.results22, go_sem, q0, q1, q2, q3, q4]) rfl ⟨rfl, hb⟩

/-- the token that comes, as a value -/
def tokV (s : ByteArray) (l : List Tk) (i : Nat) : Value := .agg #[.int .i64 (tkN l i).kind, .string (tkN l i).text, .int .i64 (tkN l i).num, .int .i64 (lnN s l i), .int .i64 (clN s l i)]
/-- nothing is wrong; or something is -/
def StOk (s : ByteArray) (l : List Tk) (P g : Nat) (w : World) (i : Nat) : Prop := PSt s l P g w i 0 0 0
def StBad (s : ByteArray) (l : List Tk) (P g : Nat) (w : World) (er ln cl : Int) : Prop := er ≠ 0 ∧ ∃ i, PSt s l P g w i er ln cl

set_option maxHeartbeats 1000000 in
theorem fail_ok {s : ByteArray} {l : List Tk} {P g : Nat} {w : World} {i : Nat} (h : StOk s l P g w i) (e l2 c2 : Int) :
    Calls Tryz.prog 21 #[.pointer (some ⟨P, 0, none⟩), .int .i64 e, .agg #[.int .i64 l2, .int .i64 c2]] w fun r w' => r = .returned (.tuple #[]) ∧ PSt s l P g w' i e l2 c2 ∧ w.grownBy w' (some P) := by
  have h1 : PSt s l P g (w.alloc (.cells #[.int .i64 l2, .int .i64 c2] 28)) i 0 0 0 := PSt.alloc h _
  have hPs : P < w.heap.size := PSt.size h
  have hf := h1.fault e l2 c2
  have hgr : w.grownBy ((((w.alloc (.cells #[.int .i64 l2, .int .i64 c2] 28)).setCell ⟨P, 2, none⟩ (.int .i64 e)).setCell ⟨P, 3, none⟩ (.int .i64 l2)).setCell ⟨P, 4, none⟩ (.int .i64 c2)) (some P) := grown_trans (grown_alloc _ _ _) (grown_trans (grown_set _ _ _ _) (grown_trans (grown_set _ _ _ _) (grown_set _ _ _ _)))
  obtain ⟨c, c0, c1, c2', c3, c4, fz, hg, k0, k1, k2, k3, k4⟩ := h1.cells
  have fz2 := fz 2
  have fz3 := fz 3
  have fz4 := fz 4
  clear k0 k1 k2 k3 k4 fz
  go_enter Tryz.func21, Tryz.ntmps21
  go_wp2_with fail
  refine (bad_any h1).mono ?_
  rintro r w1 ⟨rfl, rfl⟩
  have hn := World.alloc_heap_new w (.cells #[.int .i64 l2, .int .i64 c2] 28)
  generalize w.alloc (.cells #[.int .i64 l2, .int .i64 c2] 28) = W at *
  have q0 : W.cell? ⟨w.heap.size, 0, none⟩ = some (.int .i64 l2) := Lib.cell_of_heap hn 0
  have q1 : W.cell? ⟨w.heap.size, 1, none⟩ = some (.int .i64 c2) := Lib.cell_of_heap hn 1
  generalize w.heap.size = T at *
  go_wp2_with fail
  go_end0
  exact ⟨rfl, hf, hgr⟩
set_option maxHeartbeats 1000000 in
theorem fail_bad {s : ByteArray} {l : List Tk} {P g : Nat} {w : World} {i : Nat} {er ln cl : Int} (h : PSt s l P g w i er ln cl) (he : er ≠ 0) (e l2 c2 : Int) :
    Calls Tryz.prog 21 #[.pointer (some ⟨P, 0, none⟩), .int .i64 e, .agg #[.int .i64 l2, .int .i64 c2]] w fun r w' => r = .returned (.tuple #[]) ∧ PSt s l P g w' i er ln cl ∧ w.grownBy w' (some P) := by
  have h1 : PSt s l P g (w.alloc (.cells #[.int .i64 l2, .int .i64 c2] 28)) i er ln cl := h.alloc _
  have hb : (er != 0) = true := by rw [bne_iff_ne]; exact he
  go_enter Tryz.func21, Tryz.ntmps21
  go_wp2_with fail
  refine (bad_any h1).mono ?_
  rintro r w1 ⟨rfl, rfl⟩
  go_wp2_with fail
  go_end0
  exact ⟨rfl, h1, grown_alloc _ _ _⟩

set_option maxHeartbeats 1000000 in
theorem is_ok {s : ByteArray} {l : List Tk} {P g : Nat} {w : World} {i : Nat} (h : StOk s l P g w i) (t : ByteArray) :
    Calls Tryz.prog 20 #[.pointer (some ⟨P, 0, none⟩), .string t] w fun r w' => r = .returned (.bool (isN l i t.data.toList)) ∧ Below w.heap.size w w' := by
  go_enter Tryz.func20, Tryz.ntmps20
  go_wp2_with fail
  refine (now_any h).mono ?_
  rintro r w1 ⟨rfl, hb1⟩
  have h1 := (PSt.below h hb1).alloc (.cells #[.int .i64 (tkN l i).kind, .string (tkN l i).text, .int .i64 (tkN l i).num, .int .i64 (lnN s l i), .int .i64 (clN s l i)] 56)
  have hb2 := hb1.alloc hb1.size (.cells #[.int .i64 (tkN l i).kind, .string (tkN l i).text, .int .i64 (tkN l i).num, .int .i64 (lnN s l i), .int .i64 (clN s l i)] 56)
  go_wp2_with fail
  refine (bad_any h1).mono ?_
  rintro r w2 ⟨rfl, rfl⟩
  go_wp2_with fail
  all_goals
    go_ret
    refine ⟨ret_bool ?_, hb1.alloc hb1.size _⟩
    unfold isN
    try simp only [ByteArray.toList_eq] at *
    grind
set_option maxHeartbeats 1000000 in
theorem is_bad {s : ByteArray} {l : List Tk} {P g : Nat} {w : World} {i : Nat} {er ln cl : Int} (h : PSt s l P g w i er ln cl) (he : er ≠ 0) (t : ByteArray) :
    Calls Tryz.prog 20 #[.pointer (some ⟨P, 0, none⟩), .string t] w fun r w' => r = .returned (.bool false) ∧ Below w.heap.size w w' := by
  have hb : (er != 0) = true := by rw [bne_iff_ne]; exact he
  go_enter Tryz.func20, Tryz.ntmps20
  go_wp2_with fail
  refine (now_any h).mono ?_
  rintro r w1 ⟨rfl, hb1⟩
  have h1 := (PSt.below h hb1).alloc (.cells #[.int .i64 (tkN l i).kind, .string (tkN l i).text, .int .i64 (tkN l i).num, .int .i64 (lnN s l i), .int .i64 (clN s l i)] 56)
  have hb2 := hb1.alloc hb1.size (.cells #[.int .i64 (tkN l i).kind, .string (tkN l i).text, .int .i64 (tkN l i).num, .int .i64 (lnN s l i), .int .i64 (clN s l i)] 56)
  go_wp2_with fail
  refine (bad_any h1).mono ?_
  rintro r w2 ⟨rfl, rfl⟩
  go_wp2_with fail
  go_ret
  exact ⟨rfl, hb2⟩
end Go.Proofs.YtnlikhjmmnaknaaGreatDoor
/-
  The walks of the parser's small functions, in any state: is, take, want, name, compare, infix.
-/
namespace Go.Proofs.YtnlikhjmmnaknaaGreatDoor
open Go.RowKit

/-- a state: so many tokens were read, and nothing is wrong; or the first fault -/
inductive Md where
  | ok (i : Nat)
  | bad (er ln cl : Int)
def Sm (s : ByteArray) (l : List Tk) (P g : Nat) (w : World) : Md → Prop
  | .ok i => PSt s l P g w i 0 0 0
  | .bad er ln cl => er ≠ 0 ∧ ∃ i, PSt s l P g w i er ln cl
theorem Sm.below {s : ByteArray} {l : List Tk} {P g : Nat} {w w' : World} {m : Md} (h : Sm s l P g w m) (hb : Below w.heap.size w w') : Sm s l P g w' m := by
  cases m with
  | ok i => exact PSt.below h hb
  | bad er ln cl => obtain ⟨h1, i, h2⟩ := h; exact ⟨h1, i, h2.below hb⟩
theorem Sm.alloc {s : ByteArray} {l : List Tk} {P g : Nat} {w : World} {m : Md} (h : Sm s l P g w m) (o : Obj) : Sm s l P g (w.alloc o) m := h.below ((Below.refl _ _).alloc (Nat.le_refl _) o)
theorem Sm.off {s : ByteArray} {l : List Tk} {P g T : Nat} {w w' : World} {m : Md} (h : Sm s l P g w m) (hg : w.grownBy w' (some T)) (hP : T ≠ P) (hT : T ≠ g) : Sm s l P g w' m := by
  cases m with
  | ok i => exact PSt.off h hg hP hT
  | bad er ln cl => obtain ⟨h1, i, h2⟩ := h; exact ⟨h1, i, h2.off hg hP hT⟩
theorem Sm.gsize {s : ByteArray} {l : List Tk} {P g : Nat} {w : World} {m : Md} (h : Sm s l P g w m) : g < w.heap.size := by
  cases m with
  | ok i => exact PSt.gsize h
  | bad er ln cl => obtain ⟨h1, i, h2⟩ := h; exact h2.gsize
theorem Sm.size {s : ByteArray} {l : List Tk} {P g : Nat} {w : World} {m : Md} (h : Sm s l P g w m) : P < w.heap.size := by
  cases m with
  | ok i => exact PSt.size h
  | bad er ln cl => obtain ⟨h1, i, h2⟩ := h; exact h2.size
/-- nothing is wrong? -/
def Md.isBad : Md → Bool
  | .ok _ => false
  | .bad _ _ _ => true
/-- does such a sign or word come? -/
def Md.is (l : List Tk) (m : Md) (t : List UInt8) : Bool := match m with
  | .ok i => isN l i t
  | .bad _ _ _ => false
def Md.take (l : List Tk) (m : Md) (t : List UInt8) : Md := match m with
  | .ok i => if isN l i t = true then .ok (i + 1) else .ok i
  | .bad a b c => .bad a b c
/-- a fault, unless there is one -/
def Md.fail (m : Md) (e l2 c2 : Int) : Md := match m with
  | .ok _ => .bad e l2 c2
  | .bad a b c => .bad a b c
def Md.want (s : ByteArray) (l : List Tk) (m : Md) (t : List UInt8) : Md := match m with
  | .ok i => if isN l i t = true then .ok (i + 1) else .bad 21 (lnN s l i) (clN s l i)
  | .bad a b c => .bad a b c
def Md.name (s : ByteArray) (l : List Tk) (m : Md) (full : Bool) : Md := match m with
  | .ok i => if (tkN l i).kind = 1 then (if full = true then .bad 3 (lnN s l i) (clN s l i) else .ok (i + 1)) else .bad 21 (lnN s l i) (clN s l i)
  | .bad a b c => .bad a b c
/-- one token more -/
def Md.up (m : Md) : Md := match m with
  | .ok i => .ok (i + 1)
  | .bad a b c => .bad a b c

section
variable {s : ByteArray} {l : List Tk} {P g : Nat} {w : World} {m : Md}
theorem Sm.st (h : Sm s l P g w m) : ∃ i er ln cl, PSt s l P g w i er ln cl ∧ ((er != 0) = m.isBad) ∧ ∀ j, m = .ok j → i = j := by
  cases m with
  | ok i => exact ⟨i, 0, 0, 0, h, rfl, fun j hj => by injection hj⟩
  | bad er ln cl => obtain ⟨h1, i, h2⟩ := h; exact ⟨i, er, ln, cl, h2, by simp only [Md.isBad, bne_iff_ne]; exact h1, fun j hj => by cases hj⟩
theorem bad_m (h : Sm s l P g w m) :
    Calls Tryz.prog 19 #[.pointer (some ⟨P, 0, none⟩)] w fun r w' => r = .returned (.bool m.isBad) ∧ w = w' := by
  obtain ⟨i, er, ln, cl, h1, h2, _⟩ := h.st
  refine (bad_any h1).mono ?_
  rintro r w1 ⟨rfl, rfl⟩
  exact ⟨ret_bool h2, rfl⟩
theorem now_m (h : Sm s l P g w m) :
    Calls Tryz.prog 22 #[.pointer (some ⟨P, 0, none⟩)] w fun r w' => ∃ i, i < l.length ∧ (∀ j, m = .ok j → i = j) ∧ r = .returned (.agg #[.int .i64 (tkN l i).kind, .string (tkN l i).text, .int .i64 (tkN l i).num, .int .i64 (lnN s l i), .int .i64 (clN s l i)]) ∧ Below w.heap.size w w' := by
  obtain ⟨i, er, ln, cl, h1, h2, h3⟩ := h.st
  refine (now_any h1).mono ?_
  rintro r w1 ⟨rfl, hb⟩
  exact ⟨i, h1.lt, h3, rfl, hb⟩
theorem fail_m (h : Sm s l P g w m) {e : Int} (he : e ≠ 0) (l2 c2 : Int) :
    Calls Tryz.prog 21 #[.pointer (some ⟨P, 0, none⟩), .int .i64 e, .agg #[.int .i64 l2, .int .i64 c2]] w fun r w' => r = .returned (.tuple #[]) ∧ Sm s l P g w' (m.fail e l2 c2) ∧ w.grownBy w' (some P) := by
  cases m with
  | ok i =>
    refine (fail_ok h e l2 c2).mono ?_
    rintro r w1 ⟨rfl, h1, h2⟩
    exact ⟨rfl, ⟨he, i, h1⟩, h2⟩
  | bad er ln cl =>
    obtain ⟨h1, i, h2⟩ := h
    refine (fail_bad h2 h1 e l2 c2).mono ?_
    rintro r w1 ⟨rfl, h3, h4⟩
    exact ⟨rfl, ⟨h1, i, h3⟩, h4⟩
theorem is_m (h : Sm s l P g w m) (t : ByteArray) :
    Calls Tryz.prog 20 #[.pointer (some ⟨P, 0, none⟩), .string t] w fun r w' => r = .returned (.bool (m.is l t.data.toList)) ∧ Below w.heap.size w w' := by
  cases m with
  | ok i => exact is_ok h t
  | bad er ln cl => obtain ⟨h1, i, h2⟩ := h; exact is_bad h2 h1 t
end

/-- the place of a token -/
theorem field_at (a b c : Value) (x y : Int) (w : World) : (Instr.field 56 (.agg #[a, b, c, .int .i64 x, .int .i64 y]) 3).run Tryz.prog w = .ok (.agg #[.int .i64 x, .int .i64 y]) w := by kernel_rfl

set_option maxHeartbeats 1000000 in
theorem take_m {s : ByteArray} {l : List Tk} {P g : Nat} {w : World} {m : Md} (hE : Ended l) (h : Sm s l P g w m) (t : ByteArray) :
    Calls Tryz.prog 46 #[.pointer (some ⟨P, 0, none⟩), .string t] w fun r w' => r = .returned (.bool (m.is l t.data.toList)) ∧ Sm s l P g w' (m.take l t.data.toList) ∧ w.grownBy w' (some P) := by
  by_cases hi : m.is l t.data.toList = true
  · obtain ⟨i, rfl⟩ : ∃ i, m = .ok i := by cases m with
      | ok i => exact ⟨i, rfl⟩
      | bad a b c => cases hi
    have hi' : isN l i t.data.toList = true := hi
    have hlt := isN_lt hE hi' (PSt.lt h)
    have hmx := PSt.max h
    go_enter Tryz.func46, Tryz.ntmps46
    go_wp2_with fail
    refine (is_m h t).mono ?_
    rintro r w1 ⟨rfl, hb⟩
    have h1 := PSt.below h hb
    have hs := PSt.set h1 hlt
    have hgr : w.grownBy (w1.setCell ⟨P, 1, none⟩ (.int .i64 ((i + 1 : Nat) : Int))) (some P) := grown_trans (grown_below hb _) (grown_set _ _ _ _)
    obtain ⟨c, c0, c1, c2, c3, c4, fz, hg, -⟩ := h1.cells
    have fz1 := fz 1
    clear c0 c2 c3 c4 fz
    have hwr : IntKind.i64.wrap ((i : Int) + 1) = ((i + 1 : Nat) : Int) := by rw [show ((i : Int) + 1) = ((i + 1 : Nat) : Int) by omega]; exact IntWalk.i64_in _ (by omega)
    generalize hj : i + 1 = j at *
    rw [hi]
    go_wp2_with fail
    go_ret
    have hm : Md.take l (.ok i) t.data.toList = .ok j := by simp only [Md.take, hi', if_true, hj]
    rw [hm]
    exact ⟨ret_bool hi.symm, hs, hgr⟩
  · have hi' : m.is l t.data.toList = false := by simpa using hi
    have hm : m.take l t.data.toList = m := by
      cases m with
      | ok i => exact if_neg hi
      | bad a b c => rfl
    rw [hm]
    go_enter Tryz.func46, Tryz.ntmps46
    go_wp2_with fail
    refine (is_m h t).mono ?_
    rintro r w1 ⟨rfl, hb⟩
    rw [hi']
    go_wp2_with fail
    go_ret
    exact ⟨ret_bool hi'.symm, h.below hb, grown_below hb _⟩
set_option maxHeartbeats 1000000 in
set_option maxRecDepth 100000 in
theorem want_m {s : ByteArray} {l : List Tk} {P g : Nat} {w : World} {m : Md} (hE : Ended l) (h : Sm s l P g w m) (t : ByteArray) :
    Calls Tryz.prog 41 #[.pointer (some ⟨P, 0, none⟩), .string t] w fun r w' => r = .returned (.tuple #[]) ∧ Sm s l P g w' (m.want s l t.data.toList) ∧ w.grownBy w' (some P) := by
  by_cases hi : m.is l t.data.toList = true
  · have hm : m.take l t.data.toList = m.want s l t.data.toList := by
      cases m with
      | ok i => have hi' : isN l i t.data.toList = true := hi; simp only [Md.take, Md.want, hi', if_true]
      | bad a b c => rfl
    go_enter Tryz.func41, Tryz.ntmps41
    go_wp2_with fail
    refine (take_m hE h t).mono ?_
    rintro r w1 ⟨rfl, h1, hg⟩
    rw [hi]
    go_wp2_with fail
    go_end0
    exact ⟨rfl, hm ▸ h1, hg⟩
  · have hi' : m.is l t.data.toList = false := by simpa using hi
    have hm : m.take l t.data.toList = m := by
      cases m with
      | ok i => exact if_neg hi
      | bad a b c => rfl
    go_enter Tryz.func41, Tryz.ntmps41
    go_wp2_with fail
    refine (take_m hE h t).mono ?_
    rintro r w1 ⟨rfl, h1, hg⟩
    rw [hi']
    rw [hm] at h1
    go_wp2_with fail
    refine (now_m h1).mono ?_
    rintro r w2 ⟨i, hlt, hj, rfl, hb⟩
    have h2 := h1.below hb
    generalize hln : lnN s l i = ln at *
    generalize hcl : clN s l i = cl at *
    have hfd := field_at (.int .i64 (tkN l i).kind) (.string (tkN l i).text) (.int .i64 (tkN l i).num) ln cl
    go_wp2_with fail
    refine (fail_m h2 (e := 21) (by decide) _ _).mono ?_
    rintro r w3 ⟨rfl, h3, hg3⟩
    go_wp2_with fail
    go_end0
    subst hln hcl
    have hm2 : m.fail 21 (lnN s l i) (clN s l i) = m.want s l t.data.toList := by
      cases m with
      | ok k =>
        have : i = k := hj k rfl
        subst this
        have hi2 : isN l i t.data.toList = false := hi'
        simp only [Md.fail, Md.want, hi2]; rfl
      | bad a b c => rfl
    exact ⟨rfl, hm2 ▸ h3, grown_trans hg (grown_trans (grown_below hb _) hg3)⟩
end Go.Proofs.YtnlikhjmmnaknaaGreatDoor
/-
  The walks of the parser's name, compare and infix.
-/
namespace Go.Proofs.YtnlikhjmmnaknaaGreatDoor
open Go.RowKit

/-- a block of a row's own is written: for what was there ahead, that is no change -/
theorem grown_new {a b c : World} {P T : Nat} (h : a.grownBy b (some P)) (k : b.grownBy c (some T)) (hT : a.heap.size ≤ T) : a.grownBy c (some P) :=
  grown_own h k (fun i hi => by injection hi with hi; omega)
theorem blk_kept {P b : Nat} {w w' : World} {o : Obj} (hg : w.grownBy w' (some P)) (hb : b ≠ P) (h : w.heap[b]? = some o) : w'.heap[b]? = some o :=
  (hg.block b (Array.getElem?_eq_some_iff.1 h).1 (by simp; omega)).trans h

/-- a struct of five cells is written whole -/
theorem set5 {w : World} {T : Nat} {a0 a1 a2 a3 a4 : Value} {t : TypeId} {fr : Nat × Nat} (h : w.heap[T]? = some (.cells #[a0, a1, a2, a3, a4] t fr)) (v0 v1 v2 v3 v4 : Value) :
    (((((w.setCell ⟨T, 0, none⟩ v0).setCell ⟨T, 1, none⟩ v1).setCell ⟨T, 2, none⟩ v2).setCell ⟨T, 3, none⟩ v3).setCell ⟨T, 4, none⟩ v4).heap[T]? = some (.cells #[v0, v1, v2, v3, v4] t fr) ∧
    w.grownBy (((((w.setCell ⟨T, 0, none⟩ v0).setCell ⟨T, 1, none⟩ v1).setCell ⟨T, 2, none⟩ v2).setCell ⟨T, 3, none⟩ v3).setCell ⟨T, 4, none⟩ v4) (some T) :=
  ⟨blk_set (blk_set (blk_set (blk_set (blk_set h 0 v0) 1 v1) 2 v2) 3 v3) 4 v4, grown_trans (grown_set _ _ _ _) (grown_trans (grown_set _ _ _ _) (grown_trans (grown_set _ _ _ _) (grown_trans (grown_set _ _ _ _) (grown_set _ _ _ _))))⟩
theorem frozen_none {w : World} {T k : Nat} {cs : Array Value} {t : TypeId} (h : w.heap[T]? = some (.cells cs t (0, 0))) : w.frozen? ⟨T, k, none⟩ = false := by simp [World.frozen?, h]
theorem alloc_size (w : World) (o : Obj) : (w.alloc o).heap.size = w.heap.size + 1 := Array.size_push ..

set_option maxHeartbeats 4000000 in
set_option maxRecDepth 100000 in
theorem name_m {s : ByteArray} {l : List Tk} {P g : Nat} {w : World} {m : Md} (hE : Ended l) (h : Sm s l P g w m) (n most : Int) :
    Calls Tryz.prog 42 #[.pointer (some ⟨P, 0, none⟩), .int .i64 n, .int .i64 most] w fun r w' => ∃ i, i < l.length ∧ (∀ j, m = .ok j → i = j) ∧ r = .returned (.agg #[.int .i64 (tkN l i).kind, .string (tkN l i).text, .int .i64 (tkN l i).num, .int .i64 (lnN s l i), .int .i64 (clN s l i)]) ∧ Sm s l P g w' (m.name s l (decide (most ≤ n))) ∧ w.grownBy w' (some P) := by
  have hPs := h.size
  have hgs := h.gsize
  go_enter Tryz.func42, Tryz.ntmps42
  go_wp2_with fail
  have h0 := h.alloc (.cells #[.int .i64 0, .string ⟨#[]⟩, .int .i64 0, .int .i64 0, .int .i64 0] 56)
  have hT0 := World.alloc_heap_new w (.cells #[.int .i64 0, .string ⟨#[]⟩, .int .i64 0, .int .i64 0, .int .i64 0] 56)
  have hg0 := grown_alloc w (.cells #[.int .i64 0, .string ⟨#[]⟩, .int .i64 0, .int .i64 0, .int .i64 0] 56) (some P)
  refine (now_m h0).mono ?_
  rintro r w1 ⟨i, hlt, hj, rfl, hb⟩
  have h1 := (h0.below hb).alloc (.cells #[.int .i64 (tkN l i).kind, .string (tkN l i).text, .int .i64 (tkN l i).num, .int .i64 (lnN s l i), .int .i64 (clN s l i)] 56)
  have hU := World.alloc_heap_new w1 (.cells #[.int .i64 (tkN l i).kind, .string (tkN l i).text, .int .i64 (tkN l i).num, .int .i64 (lnN s l i), .int .i64 (clN s l i)] 56)
  have hb1 := hb.alloc hb.size (.cells #[.int .i64 (tkN l i).kind, .string (tkN l i).text, .int .i64 (tkN l i).num, .int .i64 (lnN s l i), .int .i64 (clN s l i)] 56)
  have hT := (hb1.block w.heap.size (by rw [alloc_size]; omega)).trans hT0
  have hg1 := grown_trans hg0 (grown_below hb1 (some P))
  have hTU : w.heap.size < w1.heap.size := by have := hb.size; rw [alloc_size] at this; omega
  clear hb1 hb h0 hT0 hg0
  generalize hcl : clN s l i = cl at *
  generalize hln : lnN s l i = ln at *
  generalize hw2 : w1.alloc (.cells #[.int .i64 (tkN l i).kind, .string (tkN l i).text, .int .i64 (tkN l i).num, .int .i64 ln, .int .i64 cl] 56) = w2 at *
  generalize hTs : w.heap.size = T at *
  generalize hUs : w1.heap.size = U at *
  have u0 : w2.cell? ⟨U, 0, none⟩ = some (.int .i64 (tkN l i).kind) := Lib.cell_of_heap hU 0
  have u3 : w2.cell? ⟨U, 3, none⟩ = some (.int .i64 ln) := Lib.cell_of_heap hU 3
  have u4 : w2.cell? ⟨U, 4, none⟩ = some (.int .i64 cl) := Lib.cell_of_heap hU 4
  by_cases hk : (tkN l i).kind = 1
  · have hk1 : ((tkN l i).kind != 1) = false := by simp [hk]
    have hkH := hid hk
    clear hk
    by_cases hn : most ≤ n
    · have hm : m.fail 3 ln cl = m.name s l (decide (most ≤ n)) := by
        cases m with
        | ok k =>
          have : i = k := hj k rfl
          subst this
          simp only [Md.fail, Md.name, if_pos hkH.out, hln, hcl, decide_eq_true hn, if_true]
        | bad a b c => rfl
      go_wp2_with fail
      refine (fail_m h1 (e := 3) (by decide) _ _).mono ?_
      rintro r w3 ⟨rfl, h3, hg3⟩
      have hU3 := blk_kept hg3 (by omega) hU
      have hT3 := blk_kept hg3 (by omega) hT
      have u0 : w3.cell? ⟨U, 0, none⟩ = some (.int .i64 (tkN l i).kind) := Lib.cell_of_heap hU3 0
      have u1 : w3.cell? ⟨U, 1, none⟩ = some (.string (tkN l i).text) := Lib.cell_of_heap hU3 1
      have u2 : w3.cell? ⟨U, 2, none⟩ = some (.int .i64 (tkN l i).num) := Lib.cell_of_heap hU3 2
      have u3 : w3.cell? ⟨U, 3, none⟩ = some (.int .i64 ln) := Lib.cell_of_heap hU3 3
      have u4 : w3.cell? ⟨U, 4, none⟩ = some (.int .i64 cl) := Lib.cell_of_heap hU3 4
      have t0 := Lib.cell_of_heap hT3 0
      have t1 := Lib.cell_of_heap hT3 1
      have t2 := Lib.cell_of_heap hT3 2
      have t3 := Lib.cell_of_heap hT3 3
      have t4 := Lib.cell_of_heap hT3 4
      have f0 := frozen_none (k := 0) hT3
      have f1 := frozen_none (k := 1) hT3
      have f2 := frozen_none (k := 2) hT3
      have f3 := frozen_none (k := 3) hT3
      have f4 := frozen_none (k := 4) hT3
      obtain ⟨hz, hgz⟩ := set5 hT3 (.int .i64 (tkN l i).kind) (.string (tkN l i).text) (.int .i64 (tkN l i).num) (.int .i64 ln) (.int .i64 cl)
      have hsz := h3.off hgz (by omega) (by omega)
      have hgrz := grown_new (grown_trans hg1 hg3) hgz (by omega)
      go_wp2_with fail
      have q0 := Lib.cell_of_heap hz 0
      have q1 := Lib.cell_of_heap hz 1
      have q2 := Lib.cell_of_heap hz 2
      have q3 := Lib.cell_of_heap hz 3
      have q4 := Lib.cell_of_heap hz 4
      subst hln hcl
      exact bodyPost_ret (v := .agg #[.int .i64 (tkN l i).kind, .string (tkN l i).text, .int .i64 (tkN l i).num, .int .i64 (lnN s l i), .int .i64 (clN s l i)]) (by simp [results, Tryz.results42, go_sem, q0, q1, q2, q3, q4]) rfl ⟨i, hlt, hj, rfl, hm ▸ hsz, hgrz⟩
    · cases m with
      | bad er lx cx =>
        go_wp2_with fail
        refine (bad_m h1).mono ?_
        rintro r w3 ⟨rfl, rfl⟩
        have h3 := h1
        have hg3 := grown_refl w2 (some P)
        generalize hib : Md.isBad (.bad er lx cx) = ib
        have hib' : ib = true := by rw [← hib]; rfl
        subst hib'
        clear hib
        have hU3 := blk_kept hg3 (by omega) hU
        have hT3 := blk_kept hg3 (by omega) hT
        have u0 : w2.cell? ⟨U, 0, none⟩ = some (.int .i64 (tkN l i).kind) := Lib.cell_of_heap hU3 0
        have u1 : w2.cell? ⟨U, 1, none⟩ = some (.string (tkN l i).text) := Lib.cell_of_heap hU3 1
        have u2 : w2.cell? ⟨U, 2, none⟩ = some (.int .i64 (tkN l i).num) := Lib.cell_of_heap hU3 2
        have u3 : w2.cell? ⟨U, 3, none⟩ = some (.int .i64 ln) := Lib.cell_of_heap hU3 3
        have u4 : w2.cell? ⟨U, 4, none⟩ = some (.int .i64 cl) := Lib.cell_of_heap hU3 4
        have t0 := Lib.cell_of_heap hT3 0
        have t1 := Lib.cell_of_heap hT3 1
        have t2 := Lib.cell_of_heap hT3 2
        have t3 := Lib.cell_of_heap hT3 3
        have t4 := Lib.cell_of_heap hT3 4
        have f0 := frozen_none (k := 0) hT3
        have f1 := frozen_none (k := 1) hT3
        have f2 := frozen_none (k := 2) hT3
        have f3 := frozen_none (k := 3) hT3
        have f4 := frozen_none (k := 4) hT3
        obtain ⟨hz, hgz⟩ := set5 hT3 (.int .i64 (tkN l i).kind) (.string (tkN l i).text) (.int .i64 (tkN l i).num) (.int .i64 ln) (.int .i64 cl)
        have hsz := h3.off hgz (by omega) (by omega)
        have hgrz := grown_new (grown_trans hg1 hg3) hgz (by omega)
        go_wp2_with fail
        have q0 := Lib.cell_of_heap hz 0
        have q1 := Lib.cell_of_heap hz 1
        have q2 := Lib.cell_of_heap hz 2
        have q3 := Lib.cell_of_heap hz 3
        have q4 := Lib.cell_of_heap hz 4
        subst hln hcl
        exact bodyPost_ret (v := .agg #[.int .i64 (tkN l i).kind, .string (tkN l i).text, .int .i64 (tkN l i).num, .int .i64 (lnN s l i), .int .i64 (clN s l i)]) (by simp [results, Tryz.results42, go_sem, q0, q1, q2, q3, q4]) rfl ⟨i, hlt, hj, rfl, hsz, hgrz⟩
      | ok k =>
        have hik : i = k := hj k rfl
        subst hik
        have hm : Md.ok (i + 1) = Md.name s l (.ok i) (decide (most ≤ n)) := by simp only [Md.name, if_pos hkH.out, decide_eq_false hn]; rfl
        have hlt1 := hE i hlt (by have := hkH.out; omega)
        have hmx := PSt.max h
        go_wp2_with fail
        refine (bad_m h1).mono ?_
        rintro r w3 ⟨rfl, rfl⟩
        obtain ⟨c, c0, c1, c2, c3, c4, fz, hg, -⟩ := PSt.cells h1
        have fz1 := fz 1
        clear c0 c2 c3 c4 fz
        have h3 : Sm s l P g (w2.setCell ⟨P, 1, none⟩ (.int .i64 ((i + 1 : Nat) : Int))) (.ok (i + 1)) := PSt.set h1 hlt1
        have hg3 : w2.grownBy (w2.setCell ⟨P, 1, none⟩ (.int .i64 ((i + 1 : Nat) : Int))) (some P) := grown_set _ _ _ _
        have hwr : IntKind.i64.wrap ((i : Int) + 1) = ((i + 1 : Nat) : Int) := by rw [show ((i : Int) + 1) = ((i + 1 : Nat) : Int) by omega]; exact IntWalk.i64_in _ (by omega)
        generalize hib : Md.isBad (.ok i) = ib
        have hib' : ib = false := by rw [← hib]; rfl
        subst hib'
        clear hib
        generalize hi1 : i + 1 = i1 at *
        generalize hw3 : w2.setCell ⟨P, 1, none⟩ (.int .i64 (i1 : Int)) = w3 at h3 hg3
        have hU3 := blk_kept hg3 (by omega) hU
        have hT3 := blk_kept hg3 (by omega) hT
        have u0 : w3.cell? ⟨U, 0, none⟩ = some (.int .i64 (tkN l i).kind) := Lib.cell_of_heap hU3 0
        have u1 : w3.cell? ⟨U, 1, none⟩ = some (.string (tkN l i).text) := Lib.cell_of_heap hU3 1
        have u2 : w3.cell? ⟨U, 2, none⟩ = some (.int .i64 (tkN l i).num) := Lib.cell_of_heap hU3 2
        have u3 : w3.cell? ⟨U, 3, none⟩ = some (.int .i64 ln) := Lib.cell_of_heap hU3 3
        have u4 : w3.cell? ⟨U, 4, none⟩ = some (.int .i64 cl) := Lib.cell_of_heap hU3 4
        have t0 := Lib.cell_of_heap hT3 0
        have t1 := Lib.cell_of_heap hT3 1
        have t2 := Lib.cell_of_heap hT3 2
        have t3 := Lib.cell_of_heap hT3 3
        have t4 := Lib.cell_of_heap hT3 4
        have f0 := frozen_none (k := 0) hT3
        have f1 := frozen_none (k := 1) hT3
        have f2 := frozen_none (k := 2) hT3
        have f3 := frozen_none (k := 3) hT3
        have f4 := frozen_none (k := 4) hT3
        obtain ⟨hz, hgz⟩ := set5 hT3 (.int .i64 (tkN l i).kind) (.string (tkN l i).text) (.int .i64 (tkN l i).num) (.int .i64 ln) (.int .i64 cl)
        have hsz := h3.off hgz (by omega) (by omega)
        have hgrz := grown_new (grown_trans hg1 hg3) hgz (by omega)
        subst hw3
        go_wp2_with fail
        have q0 := Lib.cell_of_heap hz 0
        have q1 := Lib.cell_of_heap hz 1
        have q2 := Lib.cell_of_heap hz 2
        have q3 := Lib.cell_of_heap hz 3
        have q4 := Lib.cell_of_heap hz 4
        subst hln hcl
        exact bodyPost_ret (v := .agg #[.int .i64 (tkN l i).kind, .string (tkN l i).text, .int .i64 (tkN l i).num, .int .i64 (lnN s l i), .int .i64 (clN s l i)]) (by simp [results, Tryz.results42, go_sem, q0, q1, q2, q3, q4]) rfl ⟨i, hlt, hj, rfl, hm ▸ hsz, hgrz⟩
  · have hk1 : ((tkN l i).kind != 1) = true := by simpa using hk
    have hm : m.fail 21 ln cl = m.name s l (decide (most ≤ n)) := by
      cases m with
      | ok k => 
        have : i = k := hj k rfl
        subst this
        simp only [Md.fail, Md.name, if_neg hk, hln, hcl]
      | bad a b c => rfl
    go_wp2_with fail
    refine (fail_m h1 (e := 21) (by decide) _ _).mono ?_
    rintro r w3 ⟨rfl, h3, hg3⟩
    have hU3 := blk_kept hg3 (by omega) hU
    have hT3 := blk_kept hg3 (by omega) hT
    have u0 : w3.cell? ⟨U, 0, none⟩ = some (.int .i64 (tkN l i).kind) := Lib.cell_of_heap hU3 0
    have u1 : w3.cell? ⟨U, 1, none⟩ = some (.string (tkN l i).text) := Lib.cell_of_heap hU3 1
    have u2 : w3.cell? ⟨U, 2, none⟩ = some (.int .i64 (tkN l i).num) := Lib.cell_of_heap hU3 2
    have u3 : w3.cell? ⟨U, 3, none⟩ = some (.int .i64 ln) := Lib.cell_of_heap hU3 3
    have u4 : w3.cell? ⟨U, 4, none⟩ = some (.int .i64 cl) := Lib.cell_of_heap hU3 4
    have t0 := Lib.cell_of_heap hT3 0
    have t1 := Lib.cell_of_heap hT3 1
    have t2 := Lib.cell_of_heap hT3 2
    have t3 := Lib.cell_of_heap hT3 3
    have t4 := Lib.cell_of_heap hT3 4
    have f0 := frozen_none (k := 0) hT3
    have f1 := frozen_none (k := 1) hT3
    have f2 := frozen_none (k := 2) hT3
    have f3 := frozen_none (k := 3) hT3
    have f4 := frozen_none (k := 4) hT3
    obtain ⟨hz, hgz⟩ := set5 hT3 (.int .i64 (tkN l i).kind) (.string (tkN l i).text) (.int .i64 (tkN l i).num) (.int .i64 ln) (.int .i64 cl)
    have hsz := h3.off hgz (by omega) (by omega)
    have hgrz := grown_new (grown_trans hg1 hg3) hgz (by omega)
    go_wp2_with fail
    have q0 := Lib.cell_of_heap hz 0
    have q1 := Lib.cell_of_heap hz 1
    have q2 := Lib.cell_of_heap hz 2
    have q3 := Lib.cell_of_heap hz 3
    have q4 := Lib.cell_of_heap hz 4
    subst hln hcl
    exact bodyPost_ret (v := .agg #[.int .i64 (tkN l i).kind, .string (tkN l i).text, .int .i64 (tkN l i).num, .int .i64 (lnN s l i), .int .i64 (clN s l i)]) (by simp [results, Tryz.results42, go_sem, q0, q1, q2, q3, q4]) rfl ⟨i, hlt, hj, rfl, hm ▸ hsz, hgrz⟩
theorem compare_any (t : ByteArray) (w : World) :
    Calls Tryz.prog 106 #[.string t] w fun r w' => r = .returned (.int .i64 (if t.data.toList = [61] then 12 else if t.data.toList = [60, 62] then 13 else if t.data.toList = [60] then 14 else if t.data.toList = [60, 61] then 15 else if t.data.toList = [62] then 16 else if t.data.toList = [62, 61] then 17 else 0)) ∧ w = w' := by
  go_enter Tryz.func106, Tryz.ntmps106
  go_wp2_with fail
  all_goals
    go_ret
    refine ⟨ret_int ?_, rfl⟩
    try simp only [ByteArray.toList_eq] at *
    try grind
end Go.Proofs.YtnlikhjmmnaknaaGreatDoor
/-
  The walk of the parser's infix.
-/
namespace Go.Proofs.YtnlikhjmmnaknaaGreatDoor
open Go.RowKit

def cmpText (t : List UInt8) : Int := if t = [61] then 12 else if t = [60, 62] then 13 else if t = [60] then 14 else if t = [60, 61] then 15 else if t = [62] then 16 else if t = [62, 61] then 17 else 0
theorem cmpText_cases (t : List UInt8) : cmpText t = 0 ∨ cmpText t = 12 ∨ cmpText t = 13 ∨ cmpText t = 14 ∨ cmpText t = 15 ∨ cmpText t = 16 ∨ cmpText t = 17 := by
  unfold cmpText
  grind
theorem compare_cmp (t : ByteArray) (w : World) : Calls Tryz.prog 106 #[.string t] w fun r w' => r = .returned (.int .i64 (cmpText t.data.toList)) ∧ w = w' := compare_any t w
/-- what infix gives: an op, and how strong the part on its left has to be -/
def needN (op : Int) : Int := if op = 0 then 0 else needOf op
theorem pair_at {a b c d : Int} (h : a = c) (h2 : b = d) : Ending.returned (.tuple #[.int .i64 a, .int .i64 b]) = .returned (.tuple #[.int .i64 c, .int .i64 d]) := by rw [h, h2]

theorem pair_op {op c d : Int} (h : c = op) (h2 : d = needN c) : Ending.returned (.tuple #[.int .i64 c, .int .i64 d]) = .returned (.tuple #[.int .i64 op, .int .i64 (needN op)]) := by subst h h2; rfl
theorem opText_cmp {t : List UInt8} (h1 : t ≠ [45, 62]) (h2 : t ≠ [102, 98, 121]) (h3 : t ≠ wWhen) (h4 : t ≠ [111, 114]) (h5 : t ≠ [120, 111, 114]) (h6 : t ≠ [97, 110, 100]) (h7 : t ≠ [43]) (h8 : t ≠ [45]) (h9 : t ≠ [42]) (h10 : t ≠ [47]) (h11 : t ≠ [37]) : opText t = cmpText t := by
  unfold opText cmpText
  rw [if_neg h1, if_neg h2, if_neg h3, if_neg h4, if_neg h5, if_neg h6, if_neg h7, if_neg h8, if_neg h9, if_neg h10, if_neg h11]
theorem field_kind (n : Int) (x : ByteArray) (c d e : Int) (w : World) : (Instr.field 56 (.agg #[.int .i64 n, .string x, .int .i64 c, .int .i64 d, .int .i64 e]) 0).run Tryz.prog w = .ok (.int .i64 n) w := by kernel_rfl
theorem field_text (n : Int) (x : ByteArray) (c d e : Int) (w : World) : (Instr.field 56 (.agg #[.int .i64 n, .string x, .int .i64 c, .int .i64 d, .int .i64 e]) 1).run Tryz.prog w = .ok (.string x) w := by kernel_rfl

set_option maxHeartbeats 4000000 in
set_option maxRecDepth 100000 in
/-- .. where the text is known, from the strength on -/
theorem infix_any {s : ByteArray} {l : List Tk} {P g : Nat} {w : World} {i : Nat} {er ln cl : Int} (h : PSt s l P g w i er ln cl) :
    Calls Tryz.prog 72 #[.pointer (some ⟨P, 0, none⟩)] w fun r w' => r = .returned (.tuple #[.int .i64 (opN l i), .int .i64 (needN (opN l i))]) ∧ Below w.heap.size w w' := by
  have hop : ((tkN l i).kind = 3 ∨ (tkN l i).kind = 4) → opN l i = opText (tkN l i).text.data.toList := fun h => by unfold opN; rw [if_pos h]
  have hno : ¬ ((tkN l i).kind = 3 ∨ (tkN l i).kind = 4) → opN l i = 0 := fun h => by unfold opN; rw [if_neg h]
  by_cases hk : (tkN l i).kind = 3 ∨ (tkN l i).kind = 4
  · have hop' := hop hk
    clear hop hno
    have e23 : strOf 23 = 1 := rfl
    have e22 : strOf 22 = 2 := rfl
    have e24 : strOf 24 = 3 := rfl
    have e19 : strOf 19 = 4 := rfl
    have e20 : strOf 20 = 4 := rfl
    have e18 : strOf 18 = 5 := rfl
    have e7 : strOf 7 = 7 := rfl
    have e8 : strOf 8 = 7 := rfl
    have e9 : strOf 9 = 8 := rfl
    have e10 : strOf 10 = 8 := rfl
    have e11 : strOf 11 = 8 := rfl
    have e12 : strOf 12 = 6 := rfl
    have e13 : strOf 13 = 6 := rfl
    have e14 : strOf 14 = 6 := rfl
    have e15 : strOf 15 = 6 := rfl
    have e16 : strOf 16 = 6 := rfl
    have e17 : strOf 17 = 6 := rfl
    rcases hk with hk | hk
    · have k3 : ((tkN l i).kind != 3) = false := by simp [hk]
      have hR := hid hop'
      clear hop' hk
      have hfk := field_kind (tkN l i).kind (tkN l i).text (tkN l i).num (lnN s l i) (clN s l i)
      have hft := field_text (tkN l i).kind (tkN l i).text (tkN l i).num (lnN s l i) (clN s l i)
      go_enter Tryz.func72, Tryz.ntmps72
      go_wp2_with fail
      refine (now_any h).mono ?_
      rintro r w1 ⟨rfl, hb⟩
      have h1 := h.below hb
      go_wp2_with fail
      refine (now_any h1).mono ?_
      rintro r w2 ⟨rfl, hb2⟩
      have h2 := h1.below hb2
      have hb12 := hb.trans (hb2.mono hb.size)
      clear hb hb2 h h1
      go_wp2_with fail
      all_goals first
        | (refine (now_any h2).mono ?_
           rintro r w4 ⟨rfl, hb4⟩
           have hb124 := hb12.trans (hb4.mono hb12.size)
           go_wp2_with fail
           refine (compare_cmp _ _).mono ?_
           rintro r w5 ⟨rfl, rfl⟩
           have hc := cmpText_cases (tkN l i).text.data.toList
           have hcH : Hid (cmpText (tkN l i).text.data.toList = opN l i) := hid (by rw [hR.out]; refine (opText_cmp ?_ ?_ ?_ ?_ ?_ ?_ ?_ ?_ ?_ ?_ ?_).symm <;> (clear hfk hft; simp_all [ByteArray.toList_eq, wWhen]))
           generalize cmpText (tkN l i).text.data.toList = op at hc hcH ⊢
           rcases hc with rfl | rfl | rfl | rfl | rfl | rfl | rfl
           · go_wp2_with fail
             go_ret2
             exact ⟨pair_op hcH.out rfl, by assumption⟩
           all_goals
             go_wp2_with fail
             refine (strength_any _ _).mono ?_
             rintro r w6 ⟨rfl, rfl⟩
             go_wp2_with fail
             go_ret2
             exact ⟨pair_op hcH.out (by first | rfl | decide), by assumption⟩)
        | (refine (strength_any _ _).mono ?_
           rintro r w4 ⟨rfl, rfl⟩
           go_wp2_with fail
           go_ret2
           refine ⟨pair_op ?_ (by first | rfl | decide), by assumption⟩; rw [hR.out]; clear hfk hft; simp only [ByteArray.toList_eq, beq_iff_eq] at *; simp_all [opText, wWhen])
    · have k3 : ((tkN l i).kind != 3) = true := by simp [hk]
      have k4 : ((tkN l i).kind != 4) = false := by simp [hk]
      have hR := hid hop'
      clear hop' hk
      have hfk := field_kind (tkN l i).kind (tkN l i).text (tkN l i).num (lnN s l i) (clN s l i)
      have hft := field_text (tkN l i).kind (tkN l i).text (tkN l i).num (lnN s l i) (clN s l i)
      go_enter Tryz.func72, Tryz.ntmps72
      go_wp2_with fail
      refine (now_any h).mono ?_
      rintro r w1 ⟨rfl, hb⟩
      have h1 := h.below hb
      go_wp2_with fail
      refine (now_any h1).mono ?_
      rintro r w2 ⟨rfl, hb2⟩
      have h2 := h1.below hb2
      have hb12 := hb.trans (hb2.mono hb.size)
      go_wp2_with fail
      refine (now_any h2).mono ?_
      rintro r w3 ⟨rfl, hb3⟩
      have h3 := h2.below hb3
      have hb13 := hb12.trans (hb3.mono hb12.size)
      clear hb12 h2
      obtain ⟨h2, hb12⟩ := And.intro h3 hb13
      clear h3 hb13 hb3
      clear hb hb2 h h1
      go_wp2_with fail
      all_goals first
        | (refine (now_any h2).mono ?_
           rintro r w4 ⟨rfl, hb4⟩
           have hb124 := hb12.trans (hb4.mono hb12.size)
           go_wp2_with fail
           refine (compare_cmp _ _).mono ?_
           rintro r w5 ⟨rfl, rfl⟩
           have hc := cmpText_cases (tkN l i).text.data.toList
           have hcH : Hid (cmpText (tkN l i).text.data.toList = opN l i) := hid (by rw [hR.out]; refine (opText_cmp ?_ ?_ ?_ ?_ ?_ ?_ ?_ ?_ ?_ ?_ ?_).symm <;> (clear hfk hft; simp_all [ByteArray.toList_eq, wWhen]))
           generalize cmpText (tkN l i).text.data.toList = op at hc hcH ⊢
           rcases hc with rfl | rfl | rfl | rfl | rfl | rfl | rfl
           · go_wp2_with fail
             go_ret2
             exact ⟨pair_op hcH.out rfl, by assumption⟩
           all_goals
             go_wp2_with fail
             refine (strength_any _ _).mono ?_
             rintro r w6 ⟨rfl, rfl⟩
             go_wp2_with fail
             go_ret2
             exact ⟨pair_op hcH.out (by first | rfl | decide), by assumption⟩)
        | (refine (strength_any _ _).mono ?_
           rintro r w4 ⟨rfl, rfl⟩
           go_wp2_with fail
           go_ret2
           refine ⟨pair_op ?_ (by first | rfl | decide), by assumption⟩; rw [hR.out]; clear hfk hft; simp only [ByteArray.toList_eq, beq_iff_eq] at *; simp_all [opText, wWhen])
  · have hop' := hno hk
    have k3 : ((tkN l i).kind != 3) = true := by simp; omega
    have k4 : ((tkN l i).kind != 4) = true := by simp; omega
    clear hop hno
    have hR := hid hop'
    clear hop' hk
    have hfk := field_kind (tkN l i).kind (tkN l i).text (tkN l i).num (lnN s l i) (clN s l i)
    go_enter Tryz.func72, Tryz.ntmps72
    go_wp2_with fail
    refine (now_any h).mono ?_
    rintro r w1 ⟨rfl, hb⟩
    have h1 := h.below hb
    go_wp2_with fail
    refine (now_any h1).mono ?_
    rintro r w2 ⟨rfl, hb2⟩
    go_wp2_with fail
    go_ret2
    exact ⟨pair_at hR.out.symm (by rw [hR.out]; rfl), hb.trans (hb2.mono hb.size)⟩
end Go.Proofs.YtnlikhjmmnaknaaGreatDoor
/-
  The walk of the parser's made.
-/
namespace Go.Proofs.YtnlikhjmmnaknaaGreatDoor
open Go.RowKit

/-- heights that lie side by side -/
def IntsAt (w : World) (A : Option Addr) (hs : List Int) : Prop := ∀ j (h : j < hs.length), ∃ b o, A = some ⟨b, o, none⟩ ∧ w.cell? ⟨b, o + j, none⟩ = some (.int .i64 hs[j])
/-- one more than the highest -/
def topTo (hs : List Int) : Nat → Int
  | 0 => 1
  | j + 1 => max (topTo hs j) ((hs[j]?.getD 0) + 1)
def topOf (hs : List Int) : Int := topTo hs hs.length
theorem topTo_in {hs : List Int} {t : Int} (h : ∀ x ∈ hs, 0 ≤ x ∧ x ≤ t) (j : Nat) : 1 ≤ topTo hs j ∧ (0 ≤ t → topTo hs j ≤ t + 1) := by
  induction j with
  | zero => exact ⟨Int.le_refl _, fun h0 => by unfold topTo; omega⟩
  | succ j ih =>
    unfold topTo
    refine ⟨by omega, fun h0 => ?_⟩
    have : hs[j]?.getD 0 ≤ t := by
      by_cases hj : j < hs.length
      · rw [List.getElem?_eq_getElem hj]; exact (h _ (List.getElem_mem hj)).2
      · rw [List.getElem?_eq_none (by omega)]; exact h0
    have := ih.2 h0
    omega
/-- an expression's own block -/
def BxE (w : World) (T : Nat) (v0 v1 v2 v3 v4 v5 : Value) : Prop := w.heap[T]? = some (.cells #[v0, v1, v2, v3, v4, v5] 41 (0, 0))
theorem set6 {w : World} {T : Nat} {a0 a1 a2 a3 a4 a5 : Value} {t : TypeId} {fr : Nat × Nat} (h : w.heap[T]? = some (.cells #[a0, a1, a2, a3, a4, a5] t fr)) (v0 v1 v2 v3 v4 v5 : Value) :
    ((((((w.setCell ⟨T, 0, none⟩ v0).setCell ⟨T, 1, none⟩ v1).setCell ⟨T, 2, none⟩ v2).setCell ⟨T, 3, none⟩ v3).setCell ⟨T, 4, none⟩ v4).setCell ⟨T, 5, none⟩ v5).heap[T]? = some (.cells #[v0, v1, v2, v3, v4, v5] t fr) ∧
    w.grownBy ((((((w.setCell ⟨T, 0, none⟩ v0).setCell ⟨T, 1, none⟩ v1).setCell ⟨T, 2, none⟩ v2).setCell ⟨T, 3, none⟩ v3).setCell ⟨T, 4, none⟩ v4).setCell ⟨T, 5, none⟩ v5) (some T) :=
  ⟨blk_set (blk_set (blk_set (blk_set (blk_set (blk_set h 0 v0) 1 v1) 2 v2) 3 v3) 4 v4) 5 v5, grown_trans (grown_set _ _ _ _) (grown_trans (grown_set _ _ _ _) (grown_trans (grown_set _ _ _ _) (grown_trans (grown_set _ _ _ _) (grown_trans (grown_set _ _ _ _) (grown_set _ _ _ _)))))⟩

set_option maxHeartbeats 1000000 in
set_option maxRecDepth 100000 in
theorem made_m {s : ByteArray} {l : List Tk} {P g : Nat} {w : World} {m : Md} (h : Sm s l P g w m) (op : Int) (name : ByteArray) (num : Int) (vA : Option Addr) (vn vc : Nat) (ln cl : Int) (hs : List Int) (A : Option Addr) (c : Nat) (hA : IntsAt w A hs) (hb : ∀ x ∈ hs, 0 ≤ x ∧ x ≤ 200) (hc : hs.length ≤ c ∧ c ≤ maxLen) :
    Calls Tryz.prog 73 #[.pointer (some ⟨P, 0, none⟩), .agg #[.int .i64 op, .string name, .int .i64 num, (.slice vA vn vc), .int .i64 ln, .int .i64 cl], .slice A hs.length c] w fun r w' => r = .returned (.tuple #[.agg #[.int .i64 op, .string name, .int .i64 num, (.slice vA vn vc), .int .i64 ln, .int .i64 cl], .int .i64 (topOf hs)]) ∧ Sm s l P g w' (if 30 < topOf hs then m.fail 22 ln cl else m) ∧ w.grownBy w' (some P) := by
  have hPs := h.size
  have hgs := h.gsize
  have hn := hc.1
  have hcx := hc.2
  unfold maxLen at hcx
  go_enter Tryz.func73, Tryz.ntmps73
  go_wp2_with fail
  have hE1 := World.alloc_heap_new w (.cells #[.int .i64 op, .string name, .int .i64 num, (.slice vA vn vc), .int .i64 ln, .int .i64 cl] 41)
  have hb1 : Below w.heap.size w (w.alloc (.cells #[.int .i64 op, .string name, .int .i64 num, (.slice vA vn vc), .int .i64 ln, .int .i64 cl] 41)) := (Below.refl _ _).alloc (Nat.le_refl _) _
  have hs1 : (w.alloc (.cells #[.int .i64 op, .string name, .int .i64 num, (.slice vA vn vc), .int .i64 ln, .int .i64 cl] 41)).heap.size = w.heap.size + 1 := alloc_size _ _
  generalize w.alloc (.cells #[.int .i64 op, .string name, .int .i64 num, (.slice vA vn vc), .int .i64 ln, .int .i64 cl] 41) = w1 at *
  have hZ := World.alloc_heap_new w1 (.cells #[.int .i64 0, .string ⟨#[]⟩, .int .i64 0, .slice none 0 0, .int .i64 0, .int .i64 0] 41)
  have hb2 := hb1.alloc (by omega) (.cells #[.int .i64 0, .string ⟨#[]⟩, .int .i64 0, .slice none 0 0, .int .i64 0, .int .i64 0] 41)
  have hE2 := (Below.heap_alloc w1 (.cells #[.int .i64 0, .string ⟨#[]⟩, .int .i64 0, .slice none 0 0, .int .i64 0, .int .i64 0] 41) w.heap.size (by omega)).trans hE1
  generalize w1.alloc (.cells #[.int .i64 0, .string ⟨#[]⟩, .int .i64 0, .slice none 0 0, .int .i64 0, .int .i64 0] 41) = W at *
  clear hE1 hb1
  have hg := grown_below hb2 (some P)
  have h1 := h.below hb2
  have hA1 : IntsAt W A hs := fun j hj => by
    obtain ⟨b, o, h3, h4⟩ := hA j hj
    exact ⟨b, o, h3, (hb2.cell (p := ⟨b, o + j, none⟩) (cell_lt h4)).trans h4⟩
  clear hA hb2 h
  generalize hTs : w.heap.size = T at *
  rw [hs1] at hZ
  clear hs1
  obtain ⟨U, hU⟩ : ∃ U, T + 1 = U := ⟨_, rfl⟩
  rw [hU] at hZ ⊢
  have hTU : T < U := by omega
  clear hU
  have e4 : W.cell? ⟨T, 4, none⟩ = some (.int .i64 ln) := Lib.cell_of_heap hE2 4
  have e5 : W.cell? ⟨T, 5, none⟩ = some (.int .i64 cl) := Lib.cell_of_heap hE2 5
  go_loopw [8, 13] (fun h i wr => ∃ j : Nat, j ≤ hs.length ∧ i = .int .i64 j ∧ h = .int .i64 (topTo hs j) ∧ wr = W) (fun _ i _ => hs.length - (intOf i).toNat)
  case atStart => exact ⟨0, by omega, rfl, rfl, rfl⟩
  case round =>
    obtain ⟨j, hj, rfl, rfl, rfl⟩ := hrel
    by_cases hlt : j < hs.length
    · obtain ⟨b, o, rfl, c0⟩ := hA1 j hlt
      have hx := hb _ (List.getElem_mem hlt)
      have htj := topTo_in hb j
      have ht2 := htj.2 (by omega)
      have ht1 := htj.1
      clear htj
      have hsu : topTo hs (j + 1) = max (topTo hs j) (hs[j] + 1) := by
        show max _ _ = _
        rw [List.getElem?_eq_getElem hlt]; rfl
      generalize hs[j] = x at *
      generalize topTo hs j = t at *
      generalize hs.length = n at *
      go_wp2_with fail
      exact ⟨⟨j + 1, by omega, by go_num, by rw [hsu]; try (congr 1; try (split <;> omega)), trivial⟩, by simp [intOf]; omega⟩
    · have : j = hs.length := by omega
      subst this
      have htj := topTo_in hb hs.length
      have ht2 := htj.2 (by omega)
      have ht1 := htj.1
      clear htj
      have htop : topTo hs hs.length = topOf hs := rfl
      rw [htop] at *
      clear htop hlt
      generalize htp : topOf hs = tp at *
      by_cases h30 : 30 < tp
      · have hgr : tp > 30 := h30
        go_wp2_with fail
        refine (fail_m h1 (e := 22) (by decide) _ _).mono ?_
        rintro r w3 ⟨rfl, h3, hg3⟩
        have hE3 := blk_kept hg3 (by omega) hE2
        have hZ3 := blk_kept hg3 (by omega) hZ
        have x0 : w3.cell? ⟨T, 0, none⟩ = some (.int .i64 op) := Lib.cell_of_heap hE3 0
        have x1 : w3.cell? ⟨T, 1, none⟩ = some (.string name) := Lib.cell_of_heap hE3 1
        have x2 : w3.cell? ⟨T, 2, none⟩ = some (.int .i64 num) := Lib.cell_of_heap hE3 2
        have x3 : w3.cell? ⟨T, 3, none⟩ = some (.slice vA vn vc) := Lib.cell_of_heap hE3 3
        have x4 : w3.cell? ⟨T, 4, none⟩ = some (.int .i64 ln) := Lib.cell_of_heap hE3 4
        have x5 : w3.cell? ⟨T, 5, none⟩ = some (.int .i64 cl) := Lib.cell_of_heap hE3 5
        have z0 := Lib.cell_of_heap hZ3 0
        have z1 := Lib.cell_of_heap hZ3 1
        have z2 := Lib.cell_of_heap hZ3 2
        have z3 := Lib.cell_of_heap hZ3 3
        have z4 := Lib.cell_of_heap hZ3 4
        have z5 := Lib.cell_of_heap hZ3 5
        have f0 := frozen_none (k := 0) hZ3
        have f1 := frozen_none (k := 1) hZ3
        have f2 := frozen_none (k := 2) hZ3
        have f3 := frozen_none (k := 3) hZ3
        have f4 := frozen_none (k := 4) hZ3
        have f5 := frozen_none (k := 5) hZ3
        go_wp2_with fail
        obtain ⟨hz, hgz⟩ := set6 hZ3 (.int .i64 op) (.string name) (.int .i64 num) (.slice vA vn vc) (.int .i64 ln) (.int .i64 cl)
        have hsz := h3.off hgz (by omega) (by omega)
        have hgrz := grown_new (grown_trans hg hg3) hgz (by omega)
        have q0 := Lib.cell_of_heap hz 0
        have q1 := Lib.cell_of_heap hz 1
        have q2 := Lib.cell_of_heap hz 2
        have q3 := Lib.cell_of_heap hz 3
        have q4 := Lib.cell_of_heap hz 4
        have q5 := Lib.cell_of_heap hz 5
        subst htp
        try simp only [Exit.inBlock, Exit.then]
        exact bodyPost_ret (v := .tuple #[.agg #[.int .i64 op, .string name, .int .i64 num, (.slice vA vn vc), .int .i64 ln, .int .i64 cl], .int .i64 (topOf hs)]) (by simp [results, Tryz.results73, go_sem, q0, q1, q2, q3, q4, q5]) rfl ⟨rfl, (if_pos h30 : (if 30 < topOf hs then m.fail 22 ln cl else m) = m.fail 22 ln cl).symm ▸ hsz, hgrz⟩
      · have h30H := hid h30
        have hle : (decide (tp > 30)) = false := by simp; omega
        have hle2 : tp ≤ 30 := by omega
        clear h30 e4 e5
        have hE3 := hE2
        have hZ3 := hZ
        have x0 : wr.cell? ⟨T, 0, none⟩ = some (.int .i64 op) := Lib.cell_of_heap hE3 0
        have x1 : wr.cell? ⟨T, 1, none⟩ = some (.string name) := Lib.cell_of_heap hE3 1
        have x2 : wr.cell? ⟨T, 2, none⟩ = some (.int .i64 num) := Lib.cell_of_heap hE3 2
        have x3 : wr.cell? ⟨T, 3, none⟩ = some (.slice vA vn vc) := Lib.cell_of_heap hE3 3
        have x4 : wr.cell? ⟨T, 4, none⟩ = some (.int .i64 ln) := Lib.cell_of_heap hE3 4
        have x5 : wr.cell? ⟨T, 5, none⟩ = some (.int .i64 cl) := Lib.cell_of_heap hE3 5
        have z0 := Lib.cell_of_heap hZ3 0
        have z1 := Lib.cell_of_heap hZ3 1
        have z2 := Lib.cell_of_heap hZ3 2
        have z3 := Lib.cell_of_heap hZ3 3
        have z4 := Lib.cell_of_heap hZ3 4
        have z5 := Lib.cell_of_heap hZ3 5
        have f0 := frozen_none (k := 0) hZ3
        have f1 := frozen_none (k := 1) hZ3
        have f2 := frozen_none (k := 2) hZ3
        have f3 := frozen_none (k := 3) hZ3
        have f4 := frozen_none (k := 4) hZ3
        have f5 := frozen_none (k := 5) hZ3
        go_wp2_with fail
        obtain ⟨hz, hgz⟩ := set6 hZ3 (.int .i64 op) (.string name) (.int .i64 num) (.slice vA vn vc) (.int .i64 ln) (.int .i64 cl)
        have hsz := h1.off hgz (by omega) (by omega)
        have hgrz := grown_new (hg) hgz (by omega)
        have q0 := Lib.cell_of_heap hz 0
        have q1 := Lib.cell_of_heap hz 1
        have q2 := Lib.cell_of_heap hz 2
        have q3 := Lib.cell_of_heap hz 3
        have q4 := Lib.cell_of_heap hz 4
        have q5 := Lib.cell_of_heap hz 5
        subst htp
        try simp only [Exit.inBlock, Exit.then]
        exact bodyPost_ret (v := .tuple #[.agg #[.int .i64 op, .string name, .int .i64 num, (.slice vA vn vc), .int .i64 ln, .int .i64 cl], .int .i64 (topOf hs)]) (by simp [results, Tryz.results73, go_sem, q0, q1, q2, q3, q4, q5]) rfl ⟨rfl, (if_neg (by have := h30H.out; omega) : (if 30 < topOf hs then m.fail 22 ln cl else m) = m).symm ▸ hsz, hgrz⟩
end Go.Proofs.YtnlikhjmmnaknaaGreatDoor
/-
  What the parser's functions that give an expression come to.
-/
namespace Go.Proofs.YtnlikhjmmnaknaaGreatDoor
open Go.RowKit

def Md.seq (m : Md) (f : Nat → PR) : PR := match m with
  | .ok i => f i
  | .bad a b c => .bad a b c
/-- the state behind a reading, and what was read, are as the plain reading says -/
def Came (q : PR) (m' : Md) (e : Ex) (h : Int) : Prop := match q with
  | .ok e' i' => m' = .ok i' ∧ e = e' ∧ h = e'.height
  | .bad a b c => m' = .bad a b c
structure Got (s : ByteArray) (l : List Tk) (P g : Nat) (w : World) (q : PR) (top : Int) (w' : World) (e : Ex) (A : Option Addr) (c : Nat) (h : Int) (m' : Md) : Prop where
  inn : ExIn (Iv w.heap.size w'.heap.size) w' e A c
  st : Sm s l P g w' m'
  grown : w.grownBy w' (some P)
  low : 0 ≤ h
  top : h ≤ top
  ok : ∀ i, m' = .ok i → h ≤ 30
  came : Came q m' e h
/-- a function that gives an expression and its height -/
def Gives (s : ByteArray) (l : List Tk) (P g : Nat) (F : FuncId) (args : Array Value) (f : Nat → PR) (top : Int) : Prop :=
  ∀ (m : Md) (w : World), Sm s l P g w m → Calls Tryz.prog F args w fun r w' => ∃ e A c h m', r = .returned (.tuple #[e.val A c, .int .i64 h]) ∧ Got s l P g w (m.seq f) top w' e A c h m'

theorem Ex.val_eq (e : Ex) (A : Option Addr) (c : Nat) : e.val A c = .agg #[.int .i64 e.op, .string e.name, .int .i64 e.num, .slice A e.k c, .int .i64 e.line, .int .i64 e.col] := rfl
/-- an expression's block, as cells -/
def exB (e : Ex) (A : Option Addr) (c : Nat) : Obj := .cells #[.int .i64 e.op, .string e.name, .int .i64 e.num, .slice A e.k c, .int .i64 e.line, .int .i64 e.col] 41 (0, 0)
/-- what a walk reads of a block of six cells, and that it may write there -/
theorem blk6 {w : World} {T : Nat} {v0 v1 v2 v3 v4 v5 : Value} (h : w.heap[T]? = some (.cells #[v0, v1, v2, v3, v4, v5] 41 (0, 0))) :
    w.cell? ⟨T, 0, none⟩ = some v0 ∧ w.cell? ⟨T, 1, none⟩ = some v1 ∧ w.cell? ⟨T, 2, none⟩ = some v2 ∧ w.cell? ⟨T, 3, none⟩ = some v3 ∧ w.cell? ⟨T, 4, none⟩ = some v4 ∧ w.cell? ⟨T, 5, none⟩ = some v5 ∧
    w.frozen? ⟨T, 0, none⟩ = false ∧ w.frozen? ⟨T, 1, none⟩ = false ∧ w.frozen? ⟨T, 2, none⟩ = false ∧ w.frozen? ⟨T, 3, none⟩ = false ∧ w.frozen? ⟨T, 4, none⟩ = false ∧ w.frozen? ⟨T, 5, none⟩ = false :=
  ⟨Lib.cell_of_heap h 0, Lib.cell_of_heap h 1, Lib.cell_of_heap h 2, Lib.cell_of_heap h 3, Lib.cell_of_heap h 4, Lib.cell_of_heap h 5, frozen_none h, frozen_none h, frozen_none h, frozen_none h, frozen_none h, frozen_none h⟩
/-- a new block: what was is kept, and the block is there -/
theorem new_blk (w : World) (o : Obj) : (w.alloc o).heap[w.heap.size]? = some o ∧ (w.alloc o).heap.size = w.heap.size + 1 ∧ Below w.heap.size w (w.alloc o) :=
  ⟨World.alloc_heap_new w o, alloc_size w o, (Below.refl _ _).alloc (Nat.le_refl _) o⟩
theorem blk_below {w w' : World} {T : Nat} {o : Obj} (hb : Below w.heap.size w w') (h : w.heap[T]? = some o) : w'.heap[T]? = some o :=
  (hb.block T (Array.getElem?_eq_some_iff.1 h).1).trans h
theorem blk_off {w w' : World} {T U : Nat} {o : Obj} (hg : w.grownBy w' (some U)) (hne : T ≠ U) (h : w.heap[T]? = some o) : w'.heap[T]? = some o := blk_kept hg hne h
theorem blk_lt {w : World} {T : Nat} {o : Obj} (h : w.heap[T]? = some o) : T < w.heap.size := (Array.getElem?_eq_some_iff.1 h).1
theorem ints1 {w : World} {H : Nat} {t : Int} (h : w.heap[H]? = some (.cells #[.int .i64 t] 3 (0, 0))) : IntsAt w (some ⟨H, 0, none⟩) [t] := fun j hj => by
  have : j = 0 := by simpa using hj
  subst this
  exact ⟨H, 0, rfl, Lib.cell_of_heap h 0⟩
section
variable {s : ByteArray} {l : List Tk} {P g : Nat} {w : World}
theorem take_yes (hE : Ended l) {i : Nat} (h : Sm s l P g w (.ok i)) {t : ByteArray} (hi : isN l i t.data.toList = true) :
    Calls Tryz.prog 46 #[.pointer (some ⟨P, 0, none⟩), .string t] w fun r w' => r = .returned (.bool true) ∧ Sm s l P g w' (.ok (i + 1)) ∧ w.grownBy w' (some P) := by
  refine (take_m hE h t).mono ?_
  rintro r w1 ⟨rfl, h1, h2⟩
  have hm : Md.take l (.ok i) t.data.toList = .ok (i + 1) := if_pos hi
  exact ⟨ret_bool hi, hm ▸ h1, h2⟩
theorem take_no (hE : Ended l) {m : Md} (h : Sm s l P g w m) {t : ByteArray} (hi : m.is l t.data.toList = false) :
    Calls Tryz.prog 46 #[.pointer (some ⟨P, 0, none⟩), .string t] w fun r w' => r = .returned (.bool false) ∧ Sm s l P g w' m ∧ w.grownBy w' (some P) := by
  refine (take_m hE h t).mono ?_
  rintro r w1 ⟨rfl, h1, h2⟩
  have hm : m.take l t.data.toList = m := by
    cases m with
    | ok i => exact if_neg (by have : isN l i t.data.toList = false := hi; simp [this])
    | bad a b c => rfl
  exact ⟨ret_bool hi, hm ▸ h1, h2⟩
theorem is_val {m : Md} (h : Sm s l P g w m) {t : ByteArray} {b : Bool} (hi : m.is l t.data.toList = b) :
    Calls Tryz.prog 20 #[.pointer (some ⟨P, 0, none⟩), .string t] w fun r w' => r = .returned (.bool b) ∧ Below w.heap.size w w' := by
  refine (is_m h t).mono ?_
  rintro r w1 ⟨rfl, h2⟩
  exact ⟨ret_bool hi, h2⟩
end
/-- the highest of the parts, and one more -/
theorem mk_height {op : Int} {name : ByteArray} {n ln cl : Int} (xs : List Ex) : ((mkEx op name n xs ln cl).height : Int) = topOf (xs.map fun x => (x.height : Int)) := by
  show ((maxTo (fun i => (xs[i]?.getD .junk).height) xs.length + 1 : Nat) : Int) = _
  unfold topOf
  rw [List.length_map]
  have h : ∀ j, j ≤ xs.length → ((maxTo (fun i => (xs[i]?.getD .junk).height) j + 1 : Nat) : Int) = topTo (xs.map fun x => (x.height : Int)) j := by
    intro j
    induction j with
    | zero => intro _; rfl
    | succ j ih =>
      intro hj
      have := ih (by omega)
      unfold maxTo topTo
      rw [← this, List.getElem?_map, List.getElem?_eq_getElem (by omega)]
      simp only [Option.map_some, Option.getD_some]
      omega
  exact h _ (Nat.le_refl _)
theorem came_made {q : PR} {m1 : Md} {x : Ex} {t : Int} (hc : Came q m1 x t) (op : Int) (name : ByteArray) (ln cl : Int) :
    Came (q.then fun x i1 => madeN (mkEx op name 0 [x] ln cl) i1) (if 30 < topOf [t] then m1.fail 22 ln cl else m1) (mkEx op name 0 [x] ln cl) (topOf [t]) := by
  cases q with
  | bad a b c => have hc : m1 = .bad a b c := hc; subst hc; show (if _ then _ else _) = _; split <;> rfl
  | ok e i =>
    obtain ⟨rfl, rfl, rfl⟩ := hc
    have hh := mk_height (op := op) (name := name) (n := 0) (ln := ln) (cl := cl) [x]
    simp only [List.map_cons, List.map_nil] at hh
    show Came (madeN _ _) _ _ _
    unfold madeN
    by_cases h : 30 < topOf [(x.height : Int)]
    · rw [if_pos h, if_pos (by omega)]; rfl
    · rw [if_neg h, if_neg (by omega)]; exact ⟨rfl, rfl, hh.symm⟩
/-- what a token may hold -/
def TkOk (s : ByteArray) (l : List Tk) : Prop := ∀ i, I64 (lnN s l i) ∧ I64 (clN s l i) ∧ (tkN l i).text.size ≤ maxLen ∧ I64 (tkN l i).num
/-- an expression of one part, in a block of its own -/
theorem inn1 {D : Nat → Prop} {B : Nat} {w : World} {x : Ex} {A : Option Addr} {c : Nat} (hB : w.heap[B]? = some (.cells #[.int .i64 x.op, .string x.name, .int .i64 x.num, .slice A x.k c, .int .i64 x.line, .int .i64 x.col] 41 (0, 0))) (hD : D B) (hx : ExIn D w x A c)
    {op : Int} {name : ByteArray} {n ln cl : Int} (h1 : I64 op) (h2 : name.size ≤ maxLen) (h3 : I64 n) (h4 : I64 ln) (h5 : I64 cl) : ExIn D w (mkEx op name n [x] ln cl) (some ⟨B, 0, none⟩) 1 := by
  refine exIn_of (xs := [⟨x, A, c⟩]) (exs_block hB hD (fun j hj i hi => ?_) (fun y hy => ?_)) h1 h2 h3 h4 h5 (Nat.le_refl _) (by simp [maxLen])
  · have : j = 0 := by simpa using hj
    subst this
    simp [LEx.cells]
  · have : y = ⟨x, A, c⟩ := by simpa using hy
    subst this
    exact hx
theorem topOf_in {hs : List Int} {t : Int} (h : ∀ x ∈ hs, 0 ≤ x ∧ x ≤ t) (h0 : 0 ≤ t) : 0 ≤ topOf hs ∧ topOf hs ≤ t + 1 := by
  have := topTo_in h hs.length
  unfold topOf
  exact ⟨by omega, this.2 h0⟩
theorem made_ok {t : Int} {m : Md} {a b c : Int} : ∀ j, (if 30 < t then m.fail a b c else m) = .ok j → t ≤ 30 := by
  intro j hj
  by_cases h : 30 < t
  · rw [if_pos h] at hj; cases m <;> cases hj
  · omega
theorem nil_le : (⟨#[]⟩ : ByteArray).size ≤ maxLen := Nat.zero_le _
end Go.Proofs.YtnlikhjmmnaknaaGreatDoor
/-
  Facts of parts of memory, kept from world to world.
-/
namespace Go.Proofs.YtnlikhjmmnaknaaGreatDoor
open Go.RowKit

/-- a goal at which the walk stands still -/
def Held (p : Prop) : Prop := p
theorem Held.stop {p : Prop} (h : Held p) : p := h
theorem Held.go {p : Prop} (h : p) : Held p := h
/-- a fact of some blocks -/
structure Kp where
  In : Nat → Prop
  Q : World → Prop
/-- .. it holds on while none of these blocks is written -/
def Kp.Ok (k : Kp) : Prop := ∀ (w w' : World) (row : Option Nat), (∀ n, k.In n → n < w.heap.size) → k.Q w → w.grownBy w' row → (∀ T, row = some T → ¬ k.In T) → k.Q w'
/-- .. and may be had from any world on -/
structure Kp.At (k : Kp) (b : Nat) (w : World) : Prop where
  lo : ∀ n, k.In n → b ≤ n
  hi : ∀ n, k.In n → n < w.heap.size
  q : k.Q w
  ok : k.Ok
def Kp.off (a b : Kp) : Prop := ∀ n, a.In n → ¬ b.In n
theorem Kp.off_symm {a b : Kp} (h : a.off b) : b.off a := fun n h1 h2 => h n h2 h1

/-- a block, whole -/
def blkK (T : Nat) (o : Obj) : Kp := ⟨fun n => n = T, fun w => w.heap[T]? = some o⟩
theorem blkK_ok (T : Nat) (o : Obj) : (blkK T o).Ok := fun _ _ _ _ hq hg hr =>
  (hg.block T (Array.getElem?_eq_some_iff.1 hq).1 (fun e => hr T e.symm rfl)).trans hq
/-- an expression's parts -/
def exK (D : Nat → Prop) (e : Ex) (A : Option Addr) (c : Nat) : Kp := ⟨D, fun w => ExIn D w e A c⟩
theorem exK_ok (D : Nat → Prop) (e : Ex) (A : Option Addr) (c : Nat) : (exK D e A c).Ok := fun _ _ _ _ hq hg hr => ExIn.keep hg hr e A c hq
/-- a row of the call's own -/
def rowK (w0 : World) (t : TypeId) (sz : Nat) (v : Value) (n : Nat) (xs : List Value) : Kp := ⟨fun n => v.ownBlock = some n, fun w => w.ownsRow w0.heap.size t sz v n xs⟩
theorem rowK_ok (w0 : World) (t : TypeId) (sz : Nat) (v : Value) (n : Nat) (xs : List Value) : (rowK w0 t sz v n xs).Ok := fun _ _ _ _ hq hg hr => by
  refine hq.kept hg ?_
  cases h : v.ownBlock with
  | none => exact .inl rfl
  | some g => exact .inr (fun e => hr g e.symm h)

/-- what is known in a world of what was made since another, with a state that lies below and one block that may be written -/
structure Fr (P : Option Nat) (S : World → Prop) (w0 w : World) (ks : List Kp) : Prop where
  st : S w
  ss : ∀ (w w' : World) (row : Option Nat), S w → w0.heap.size ≤ w.heap.size → w.grownBy w' row → (∀ T, row = some T → w0.heap.size ≤ T) → S w'
  gr : w0.grownBy w P
  lt : ∀ p, P = some p → p < w0.heap.size
  k : ∀ x ∈ ks, x.At w0.heap.size w
  ap : ks.Pairwise Kp.off

theorem grown_row {a b c : World} {P row : Option Nat} (h : a.grownBy b P) (k : b.grownBy c row) (hr : ∀ T, row = some T → a.heap.size ≤ T) : a.grownBy c P :=
  ⟨k.os.trans h.os, k.tape.trans h.tape, k.output.trans h.output, Nat.le_trans h.size k.size, fun i hi hne => (k.block i (Nat.lt_of_lt_of_le hi h.size) (fun e => by have := hr i e.symm; omega)).trans (h.block i hi hne)⟩
theorem grown_both {a b c : World} {P : Option Nat} (h : a.grownBy b P) (k : b.grownBy c P) : a.grownBy c P :=
  ⟨k.os.trans h.os, k.tape.trans h.tape, k.output.trans h.output, Nat.le_trans h.size k.size, fun i hi hne => (k.block i (Nat.lt_of_lt_of_le hi h.size) hne).trans (h.block i hi hne)⟩
theorem below_row {w w' : World} (h : Below w.heap.size w w') : w.grownBy w' none := grown_below h none

section
variable {P : Option Nat} {S : World → Prop} {w0 w w' : World} {ks : List Kp} {a b c d e f g : Kp} {x : Kp}
theorem Fr.start (h : S w) (hP : ∀ p, P = some p → p < w.heap.size) (ss : ∀ (w1 w' : World) (row : Option Nat), S w1 → w.heap.size ≤ w1.heap.size → w1.grownBy w' row → (∀ T, row = some T → w.heap.size ≤ T) → S w') : Fr P S w w [] :=
  ⟨h, ss, grown_refl _ _, hP, by simp, .nil⟩
/-- none of these blocks is written -/
theorem Fr.step (h : Fr P S w0 w ks) {row : Option Nat} (hg : w.grownBy w' row) (hr : ∀ T, row = some T → w0.heap.size ≤ T) (hk : ∀ x ∈ ks, ∀ T, row = some T → ¬ x.In T) : Fr P S w0 w' ks :=
  ⟨h.ss w w' row h.st h.gr.size hg hr, h.ss, grown_row h.gr hg hr, h.lt, fun x hx => by
    obtain ⟨h1, h3, h4, h5⟩ := h.k x hx
    exact ⟨h1, fun n hn => Nat.lt_of_lt_of_le (h3 n hn) hg.size, h5 w w' row h3 h4 hg (hk x hx), h5⟩, h.ap⟩
theorem Fr.below (h : Fr P S w0 w ks) (hb : Below w.heap.size w w') : Fr P S w0 w' ks := h.step (below_row hb) (by simp) (by simp)
/-- a call that writes the one block alone -/
theorem Fr.call {S' : World → Prop} (h : Fr P S w0 w ks) (hs : S' w') (ss : ∀ (w w' : World) (row : Option Nat), S' w → w0.heap.size ≤ w.heap.size → w.grownBy w' row → (∀ T, row = some T → w0.heap.size ≤ T) → S' w') (hg : w.grownBy w' P) : Fr P S' w0 w' ks :=
  ⟨hs, ss, grown_both h.gr hg, h.lt, fun x hx => by
    obtain ⟨h1, h3, h4, h5⟩ := h.k x hx
    exact ⟨h1, fun n hn => Nat.lt_of_lt_of_le (h3 n hn) hg.size, h5 w w' _ h3 h4 hg (fun T hT hn => by have := h.lt T hT; have := h1 T hn; omega), h5⟩, h.ap⟩
/-- a new fact of new blocks -/
theorem Fr.add (h : Fr P S w0 w ks) {n : Nat} (hx : x.At n w) (hn : w0.heap.size ≤ n) (hk : ∀ y ∈ ks, ∀ m, y.In m → m < n) : Fr P S w0 w (x :: ks) :=
  ⟨h.st, h.ss, h.gr, h.lt, fun y hy => by
    rcases List.mem_cons.1 hy with rfl | hy
    · exact ⟨fun m hm => Nat.le_trans hn (hx.lo m hm), hx.hi, hx.q, hx.ok⟩
    · exact h.k y hy, List.pairwise_cons.2 ⟨fun y hy m h1 h2 => by have := hk y hy m h2; have := hx.lo m h1; omega, h.ap⟩⟩
theorem Fr.alloc (h : Fr P S w0 w ks) (o : Obj) : Fr P S w0 (w.alloc o) (blkK w.heap.size o :: ks) := by
  have h1 := h.below ((Below.refl _ _).alloc (Nat.le_refl _) o)
  exact h1.add (x := blkK w.heap.size o) (n := w.heap.size) ⟨fun m hm => Nat.le_of_eq hm.symm, fun m hm => by have hm : m = _ := hm; rw [World.size_alloc]; omega, World.alloc_heap_new w o, blkK_ok _ _⟩ h.gr.size (fun y hy m hm => (h.k y hy).hi m hm)
/-- a walk that writes nothing that was there -/
theorem Fr.start0 (w : World) : Fr none (fun _ => True) w w [] := Fr.start trivial (by simp) (by simp)
theorem Fr.low (h : Fr none S w0 w ks) : Below w0.heap.size w0 w := ⟨h.gr.os, h.gr.tape, h.gr.output, h.gr.size, fun i hi => h.gr.block i hi (by simp)⟩
theorem Fr.perm {ks' : List Kp} (h : Fr P S w0 w ks) (hp : ks.Perm ks') : Fr P S w0 w ks' :=
  ⟨h.st, h.ss, h.gr, h.lt, fun x hx => h.k x (hp.mem_iff.2 hx), (hp.pairwise_iff (fun h => Kp.off_symm h)).1 h.ap⟩
theorem Fr.sub {ks' : List Kp} (h : Fr P S w0 w ks) (hp : ks'.Sublist ks) : Fr P S w0 w ks' :=
  ⟨h.st, h.ss, h.gr, h.lt, fun x hx => h.k x (hp.subset hx), h.ap.sublist hp⟩
/-- the head is written -/
theorem Fr.put {T : Nat} {o o' : Obj} (h : Fr P S w0 w (blkK T o :: ks)) (hg : w.grownBy w' (some T)) (ho : w'.heap[T]? = some o') : Fr P S w0 w' (blkK T o' :: ks) := by
  have h0 := h.k _ (.head _)
  have h1 := List.pairwise_cons.1 h.ap
  have h2 : Fr P S w0 w ks := h.sub (List.sublist_cons_self _ _)
  have h3 : Fr P S w0 w' ks := h2.step hg (fun U hU => by injection hU with hU; subst hU; exact h0.lo _ rfl) (fun y hy U hU => by injection hU with hU; subst hU; exact h1.1 y hy _ rfl)
  exact ⟨h3.st, h3.ss, h3.gr, h3.lt, fun y hy => by
    rcases List.mem_cons.1 hy with rfl | hy
    · exact ⟨h0.lo, fun n hn => Nat.lt_of_lt_of_le (h0.hi n hn) hg.size, ho, blkK_ok _ _⟩
    · exact h3.k y hy, List.pairwise_cons.2 ⟨h1.1, h3.ap⟩⟩
theorem Fr.set {T n : Nat} {cs : Array Value} {t : TypeId} {fr : Nat × Nat} (h : Fr P S w0 w (blkK T (.cells cs t fr) :: ks)) (v : Value) : Fr P S w0 (w.setCell ⟨T, n, none⟩ v) (blkK T (.cells (cs.setIfInBounds n v) t fr) :: ks) :=
  h.put (grown_set w T n v) (blk_set (h.k _ (.head _)).q n v)
/-- an append to the row at the head -/
theorem Fr.app {t : TypeId} {sz n m G cap : Nat} {v : Value} {xs ys : List Value} (h : Fr P S w0 w (rowK w0 t sz v n xs :: ks)) (hown : w'.ownsRow w0.heap.size t sz (.slice (some ⟨G, 0, none⟩) m cap) m ys) (hg : w.grownBy w' v.ownBlock) (hat : v.ownBlock = some G ∨ G = w.heap.size) (hlt : G < w'.heap.size) :
    Fr P S w0 w' (rowK w0 t sz (.slice (some ⟨G, 0, none⟩) m cap) m ys :: ks) := by
  have h0 := h.k _ (.head _)
  have h1 := List.pairwise_cons.1 h.ap
  have h2 : Fr P S w0 w ks := h.sub (List.sublist_cons_self _ _)
  have h3 : Fr P S w0 w' ks := h2.step hg (fun U hU => h0.lo U hU) (fun y hy U hU => h1.1 y hy U hU)
  have hG : w0.heap.size ≤ G := (hown.lt G rfl).1
  have hn : ∀ n, (rowK w0 t sz (.slice (some ⟨G, 0, none⟩) m cap) m ys).In n → n = G := fun n hn => by
    have hn : some G = some n := hn
    injection hn with hn
    exact hn.symm
  exact ⟨h3.st, h3.ss, h3.gr, h3.lt, fun y hy => by
    rcases List.mem_cons.1 hy with rfl | hy
    · exact ⟨fun n h => by rw [hn n h]; exact hG, fun n h => by rw [hn n h]; exact hlt, hown, rowK_ok _ _ _ _ _ _⟩
    · exact h3.k y hy, List.pairwise_cons.2 ⟨fun y hy n h => by
      rw [hn n h]
      rcases hat with hat | hat
      · exact h1.1 y hy G hat
      · intro h4
        have := (h2.k y hy).hi G h4
        omega, h3.ap⟩⟩
/-- a row that is nil -/
theorem Fr.nilRow (h : Fr P S w0 w ks) (t : TypeId) (sz : Nat) : Fr P S w0 w (rowK w0 t sz (.slice none 0 0) 0 [] :: ks) :=
  ⟨h.st, h.ss, h.gr, h.lt, fun y hy => by
    rcases List.mem_cons.1 hy with rfl | hy
    · exact ⟨(fun n hn => by cases hn), (fun n hn => by cases hn), World.ownsRow_nil _ _ _ _, rowK_ok _ _ _ _ _ _⟩
    · exact h.k y hy, List.pairwise_cons.2 ⟨(fun y hy n hn => by cases hn), h.ap⟩⟩
theorem Fr.rot1 (h : Fr P S w0 w (a :: b :: ks)) : Fr P S w0 w (b :: a :: ks) := h.perm (.swap _ _ _)
theorem Fr.rot2 (h : Fr P S w0 w (a :: b :: c :: ks)) : Fr P S w0 w (c :: a :: b :: ks) := h.perm ((List.Perm.cons _ (.swap _ _ _)).trans (.swap _ _ _))
theorem Fr.rot3 (h : Fr P S w0 w (a :: b :: c :: d :: ks)) : Fr P S w0 w (d :: a :: b :: c :: ks) := h.perm ((List.Perm.cons _ ((List.Perm.cons _ (.swap _ _ _)).trans (.swap _ _ _))).trans (.swap _ _ _))
theorem Fr.rot4 (h : Fr P S w0 w (a :: b :: c :: d :: e :: ks)) : Fr P S w0 w (e :: a :: b :: c :: d :: ks) := h.perm ((List.Perm.cons _ ((List.Perm.cons _ ((List.Perm.cons _ (.swap _ _ _)).trans (.swap _ _ _))).trans (.swap _ _ _))).trans (.swap _ _ _))
theorem Fr.rot5 (h : Fr P S w0 w (a :: b :: c :: d :: e :: f :: ks)) : Fr P S w0 w (f :: a :: b :: c :: d :: e :: ks) := h.perm ((List.Perm.cons _ ((List.Perm.cons _ ((List.Perm.cons _ ((List.Perm.cons _ (.swap _ _ _)).trans (.swap _ _ _))).trans (.swap _ _ _))).trans (.swap _ _ _))).trans (.swap _ _ _))
theorem Fr.rot6 (h : Fr P S w0 w (a :: b :: c :: d :: e :: f :: g :: ks)) : Fr P S w0 w (g :: a :: b :: c :: d :: e :: f :: ks) := h.perm ((List.Perm.cons _ ((List.Perm.cons _ ((List.Perm.cons _ ((List.Perm.cons _ ((List.Perm.cons _ (.swap _ _ _)).trans (.swap _ _ _))).trans (.swap _ _ _))).trans (.swap _ _ _))).trans (.swap _ _ _))).trans (.swap _ _ _))
theorem perm_last {α : Type} (xs : List α) (i : α) (ys : List α) : (xs ++ i :: ys).Perm (i :: (xs ++ ys)) := List.perm_middle
theorem Fr.rot7 {a b c d e f g i : Kp} (h : Fr P S w0 w (a :: b :: c :: d :: e :: f :: g :: i :: ks)) : Fr P S w0 w (i :: a :: b :: c :: d :: e :: f :: g :: ks) := h.perm (perm_last [a, b, c, d, e, f, g] i ks)
theorem Fr.rot8 {a b c d e f g i j : Kp} (h : Fr P S w0 w (a :: b :: c :: d :: e :: f :: g :: i :: j :: ks)) : Fr P S w0 w (j :: a :: b :: c :: d :: e :: f :: g :: i :: ks) := h.perm (perm_last [a, b, c, d, e, f, g, i] j ks)
theorem Fr.head (h : Fr P S w0 w (a :: ks)) : a.At w0.heap.size w := h.k _ (.head _)
theorem Fr.tail (h : Fr P S w0 w (a :: ks)) : Fr P S w0 w ks := h.sub (List.sublist_cons_self _ _)
theorem Fr.blk {T : Nat} {o : Obj} (h : Fr P S w0 w (blkK T o :: ks)) : w.heap[T]? = some o := h.head.q
/-- the walk's append: to the row behind the head, of what lies in the block at the head -/
theorem Fr.wpApp {Pr : Program} {ops : Array Oper} {rest : List Oper} {o : Oper} {a : Act} {Q : Exit → Act → World → Prop} {B : Nat} {cs : Array Value} {te : TypeId} {fr : Nat × Nat} {e : TypeId} {i : TypeInfo} {z : Value} {size bytes n m c : Nat} {v : Value} {xs : List Value}
    (f : Fr P S w0 w (blkK B (.cells cs te fr) :: rowK w0 e size v n xs :: ks)) (hgd : o.guard = none) (s x : Operand) (t : TypeId)
    (ho : o.op = .call { callee := .builtin .append, args := #[s, x], argTypes := #[t, t] })
    (ht : Pr.underlying t = some (.slice e)) (hi : Pr.info? e = some i) (hz : i.zero = some z) (hsize : i.size = size) (hby : i.bytes = bytes) (hzs : z.cells.size = size) (hsz : 0 < size)
    (hs : a.eval s = v) (hx : a.eval x = .slice (some ⟨B, 0, none⟩) m c) (hl : cs.toList.length = m * size) (h1 : ∀ u ∈ cs.toList, u.oneCell' = true) (hm : 0 < m) (h63 : n + m ≤ maxLen) (hbytes : (n + m) * bytes ≤ 140737488355328)
    (h : ∀ G cap w', Fr P S w0 w' (rowK w0 e size (.slice (some ⟨G, 0, none⟩) (n + m) cap) (n + m) (xs ++ cs.toList) :: blkK B (.cells cs te fr) :: ks) → wpList Pr ops Q rest (a.put o.dst (.slice (some ⟨G, 0, none⟩) (n + m) cap)) w') :
    wpList Pr ops Q (o :: rest) a w :=
  wpList_append_lies w hgd s x t ho w0.heap.size e i z size bytes ht hi hz hsize hby hzs hsz v n xs hs f.tail.head.q ⟨B, 0, none⟩ m c cs.toList hx hl (World.news_of_block f.blk) h1 hm h63 hbytes f.gr.size _ rfl fun G cap w' hown hg hat hlt => h G cap w' (f.rot1.app hown hg hat hlt)
/-- .. at a step of a region that draws its order -/
theorem Fr.stepApp {Pr : Program} {ops : Array Oper} {o : Oper} {a : Act} {K : Act → World → Prop} {Q : Exit → Act → World → Prop} {E : Prop} {B : Nat} {cs : Array Value} {te : TypeId} {fr : Nat × Nat} {e : TypeId} {i : TypeInfo} {z : Value} {size bytes n m c : Nat} {v : Value} {xs : List Value}
    (f : Fr P S w0 w (blkK B (.cells cs te fr) :: rowK w0 e size v n xs :: ks)) (hgd : o.guard = none) (s x : Operand) (t : TypeId)
    (ho : o.op = .call { callee := .builtin .append, args := #[s, x], argTypes := #[t, t] })
    (ht : Pr.underlying t = some (.slice e)) (hi : Pr.info? e = some i) (hz : i.zero = some z) (hsize : i.size = size) (hby : i.bytes = bytes) (hzs : z.cells.size = size) (hsz : 0 < size)
    (hs : a.eval s = v) (hx : a.eval x = .slice (some ⟨B, 0, none⟩) m c) (hl : cs.toList.length = m * size) (h1 : ∀ u ∈ cs.toList, u.oneCell' = true) (hm : 0 < m) (h63 : n + m ≤ maxLen) (hbytes : (n + m) * bytes ≤ 140737488355328)
    (h : ∀ G cap w', Fr P S w0 w' (rowK w0 e size (.slice (some ⟨G, 0, none⟩) (n + m) cap) (n + m) (xs ++ cs.toList) :: blkK B (.cells cs te fr) :: ks) → K (a.put o.dst (.slice (some ⟨G, 0, none⟩) (n + m) cap)) w') :
    if Region.wanted o (yielded ops a.tmps) = true then Oper.wp Pr o a w K Q else E :=
  step_append_lies w hgd s x t ho w0.heap.size e i z size bytes ht hi hz hsize hby hzs hsz v n xs hs f.tail.head.q ⟨B, 0, none⟩ m c cs.toList hx hl (World.news_of_block f.blk) h1 hm h63 hbytes f.gr.size _ rfl fun G cap w' hown hg hat hlt => h G cap w' (f.rot1.app hown hg hat hlt)
end
end Go.Proofs.YtnlikhjmmnaknaaGreatDoor
/-
  What is known in the middle of a walk of the parser: its state, own blocks, expressions read.
-/
namespace Go.Proofs.YtnlikhjmmnaknaaGreatDoor
open Go.RowKit

/-- the parser's state, for one who began in a world -/
def SmS (s : ByteArray) (l : List Tk) (P g : Nat) (w0 : World) (m : Md) : World → Prop := fun w => Sm s l P g w m ∧ g < w0.heap.size ∧ P < w0.heap.size
theorem SmS.keep {s : ByteArray} {l : List Tk} {P g : Nat} {w0 : World} {m : Md} : ∀ (w w' : World) (row : Option Nat), SmS s l P g w0 m w → w0.heap.size ≤ w.heap.size → w.grownBy w' row → (∀ T, row = some T → w0.heap.size ≤ T) → SmS s l P g w0 m w' := by
  rintro w w' row ⟨h1, h2, h3⟩ hs hg hr
  refine ⟨?_, h2, h3⟩
  cases row with
  | none => exact h1.off (T := w.heap.size) ⟨hg.os, hg.tape, hg.output, hg.size, fun i hi _ => hg.block i hi (by simp)⟩ (by omega) (by omega)
  | some T => have := hr T rfl; exact h1.off hg (by omega) (by omega)
abbrev PF (s : ByteArray) (l : List Tk) (P g : Nat) (w0 : World) (m : Md) (w : World) (ks : List Kp) : Prop := Fr (some P) (SmS s l P g w0 m) w0 w ks
section
variable {s : ByteArray} {l : List Tk} {P g : Nat} {w0 w w' : World} {m m' : Md} {ks : List Kp}
theorem PF.start (h : Sm s l P g w m) : PF s l P g w m w [] := Fr.start ⟨h, h.gsize, h.size⟩ (fun p hp => by injection hp with hp; subst hp; exact h.size) SmS.keep
theorem Fr.sm (h : PF s l P g w0 m w ks) : Sm s l P g w m := h.st.1
/-- a call that turns the state -/
theorem Fr.turn (h : PF s l P g w0 m w ks) (hs : Sm s l P g w' m') (hg : w.grownBy w' (some P)) : PF s l P g w0 m' w' ks := Fr.call h ⟨hs, h.st.2⟩ SmS.keep hg
/-- a call that gives an expression -/
theorem Fr.expr {q : PR} {top t : Int} {e : Ex} {A : Option Addr} {c : Nat} (h : PF s l P g w0 m w ks) (G : Got s l P g w q top w' e A c t m') : ∃ D, PF s l P g w0 m' w' (exK D e A c :: ks) := by
  have h1 : PF s l P g w0 m' w' ks := h.turn G.st G.grown
  exact ⟨_, h1.add (x := exK (Iv w.heap.size w'.heap.size) e A c) (n := w.heap.size) ⟨fun n hn => hn.1, fun n hn => hn.2, G.inn, exK_ok _ _ _ _⟩ h.gr.size (fun y hy m hm => (h.k y hy).hi m hm)⟩
theorem Got.facts {q : PR} {top t : Int} {e : Ex} {A : Option Addr} {c : Nat} (G : Got s l P g w q top w' e A c t m') : 0 ≤ t ∧ t ≤ top ∧ (∀ i, m' = .ok i → t ≤ 30) ∧ Hid (Came q m' e t) := ⟨G.low, G.top, G.ok, hid G.came⟩
theorem Fr.ex {D : Nat → Prop} {e : Ex} {A : Option Addr} {c : Nat} (h : PF s l P g w0 m w (exK D e A c :: ks)) : ExIn (Iv w0.heap.size w.heap.size) w e A c := ExIn.wide (fun n hn => ⟨h.head.lo n hn, h.head.hi n hn⟩) _ _ _ h.head.q
/-- two facts become one of an expression -/
theorem Fr.fold {P : Option Nat} {S : World → Prop} {a b : Kp} {e : Ex} {A : Option Addr} {c : Nat} (h : Fr P S w0 w (a :: b :: ks)) (hx : ExIn (fun n => a.In n ∨ b.In n) w e A c) : Fr P S w0 w (exK (fun n => a.In n ∨ b.In n) e A c :: ks) :=
  ⟨h.st, h.ss, h.gr, h.lt, fun y hy => by
    rcases List.mem_cons.1 hy with rfl | hy
    · exact ⟨fun n hn => hn.elim (h.head.lo n) (h.tail.head.lo n), fun n hn => hn.elim (h.head.hi n) (h.tail.head.hi n), hx, exK_ok _ _ _ _⟩
    · exact h.tail.tail.k y hy, List.pairwise_cons.2 ⟨fun y hy n hn => hn.elim ((List.pairwise_cons.1 h.ap).1 y (List.mem_cons_of_mem _ hy) n) ((List.pairwise_cons.1 h.tail.ap).1 y hy n), h.tail.tail.ap⟩⟩
theorem Fr.fold3 {P : Option Nat} {S : World → Prop} {a b c : Kp} {e : Ex} {A : Option Addr} {k : Nat} (h : Fr P S w0 w (a :: b :: c :: ks)) (hx : ExIn (fun n => a.In n ∨ b.In n ∨ c.In n) w e A k) : Fr P S w0 w (exK (fun n => a.In n ∨ b.In n ∨ c.In n) e A k :: ks) :=
  ⟨h.st, h.ss, h.gr, h.lt, fun y hy => by
    rcases List.mem_cons.1 hy with rfl | hy
    · exact ⟨fun n hn => hn.elim (h.head.lo n) (fun hn => hn.elim (h.tail.head.lo n) (h.tail.tail.head.lo n)), fun n hn => hn.elim (h.head.hi n) (fun hn => hn.elim (h.tail.head.hi n) (h.tail.tail.head.hi n)), hx, exK_ok _ _ _ _⟩
    · exact h.tail.tail.tail.k y hy, List.pairwise_cons.2 ⟨fun y hy n hn => hn.elim ((List.pairwise_cons.1 h.ap).1 y (List.mem_cons_of_mem _ (List.mem_cons_of_mem _ hy)) n) (fun hn => hn.elim ((List.pairwise_cons.1 h.tail.ap).1 y (List.mem_cons_of_mem _ hy) n) ((List.pairwise_cons.1 h.tail.tail.ap).1 y hy n)), h.tail.tail.tail.ap⟩⟩
theorem inn2 {D : Nat → Prop} {B : Nat} {x y : Ex} {A A' : Option Addr} {c c' : Nat} (hB : w.heap[B]? = some (.cells #[.int .i64 x.op, .string x.name, .int .i64 x.num, .slice A x.k c, .int .i64 x.line, .int .i64 x.col, .int .i64 y.op, .string y.name, .int .i64 y.num, .slice A' y.k c', .int .i64 y.line, .int .i64 y.col] 41 (0, 0))) (hD : D B) (hx : ExIn D w x A c) (hy : ExIn D w y A' c')
    {op : Int} {name : ByteArray} {n ln cl : Int} (h1 : I64 op) (h2 : name.size ≤ maxLen) (h3 : I64 n) (h4 : I64 ln) (h5 : I64 cl) : ExIn D w (mkEx op name n [x, y] ln cl) (some ⟨B, 0, none⟩) 2 := by
  refine exIn_of (xs := [⟨x, A, c⟩, ⟨y, A', c'⟩]) (exs_block hB hD (fun j hj i hi => ?_) (fun z hz => ?_)) h1 h2 h3 h4 h5 (Nat.le_refl _) (by simp [maxLen])
  · have hj' : j = 0 ∨ j = 1 := by have : j < 2 := hj; omega
    rcases hj' with rfl | rfl
    · rcases (by omega : i = 0 ∨ i = 1 ∨ i = 2 ∨ i = 3 ∨ i = 4 ∨ i = 5) with rfl | rfl | rfl | rfl | rfl | rfl <;> rfl
    · rcases (by omega : i = 0 ∨ i = 1 ∨ i = 2 ∨ i = 3 ∨ i = 4 ∨ i = 5) with rfl | rfl | rfl | rfl | rfl | rfl <;> rfl
  · have : z = ⟨x, A, c⟩ ∨ z = ⟨y, A', c'⟩ := by simpa using hz
    rcases this with rfl | rfl
    · exact hx
    · exact hy
/-- an expression of one part, that lies in a block of its own -/
theorem Fr.fold1 {P : Option Nat} {S : World → Prop} {B : Nat} {D : Nat → Prop} {x : Ex} {A : Option Addr} {c : Nat} (h : Fr P S w0 w (blkK B (.cells #[.int .i64 x.op, .string x.name, .int .i64 x.num, .slice A x.k c, .int .i64 x.line, .int .i64 x.col] 41 (0, 0)) :: exK D x A c :: ks))
    {op : Int} {name : ByteArray} {n ln cl : Int} (h1 : I64 op) (h2 : name.size ≤ maxLen) (h3 : I64 n) (h4 : I64 ln) (h5 : I64 cl) : ∃ D, Fr P S w0 w (exK D (mkEx op name n [x] ln cl) (some ⟨B, 0, none⟩) 1 :: ks) :=
  ⟨_, h.fold (inn1 h.blk (.inl rfl) (ExIn.wide (fun _ hn => .inr hn) _ _ _ h.tail.head.q) h1 h2 h3 h4 h5)⟩
/-- .. of two -/
theorem Fr.fold2 {P : Option Nat} {S : World → Prop} {B : Nat} {D D' : Nat → Prop} {x y : Ex} {A A' : Option Addr} {c c' : Nat} (h : Fr P S w0 w (blkK B (.cells #[.int .i64 x.op, .string x.name, .int .i64 x.num, .slice A x.k c, .int .i64 x.line, .int .i64 x.col, .int .i64 y.op, .string y.name, .int .i64 y.num, .slice A' y.k c', .int .i64 y.line, .int .i64 y.col] 41 (0, 0)) :: exK D x A c :: exK D' y A' c' :: ks))
    {op : Int} {name : ByteArray} {n ln cl : Int} (h1 : I64 op) (h2 : name.size ≤ maxLen) (h3 : I64 n) (h4 : I64 ln) (h5 : I64 cl) : ∃ D, Fr P S w0 w (exK D (mkEx op name n [x, y] ln cl) (some ⟨B, 0, none⟩) 2 :: ks) :=
  ⟨_, h.fold3 (inn2 h.blk (.inl rfl) (ExIn.wide (fun _ hn => .inr (.inl hn)) _ _ _ h.tail.head.q) (ExIn.wide (fun _ hn => .inr (.inr hn)) _ _ _ h.tail.tail.head.q) h1 h2 h3 h4 h5)⟩
theorem Fr.inn1 {B : Nat} {D : Nat → Prop} {x : Ex} {A : Option Addr} {c : Nat} (h : PF s l P g w0 m w (blkK B (.cells #[.int .i64 x.op, .string x.name, .int .i64 x.num, .slice A x.k c, .int .i64 x.line, .int .i64 x.col] 41 (0, 0)) :: exK D x A c :: ks))
    {op : Int} {name : ByteArray} {n ln cl : Int} (h1 : I64 op) (h2 : name.size ≤ maxLen) (h3 : I64 n) (h4 : I64 ln) (h5 : I64 cl) : ExIn (Iv w0.heap.size w.heap.size) w (mkEx op name n [x] ln cl) (some ⟨B, 0, none⟩) 1 :=
  Go.Proofs.YtnlikhjmmnaknaaGreatDoor.inn1 h.blk ⟨h.head.lo _ rfl, h.head.hi _ rfl⟩ (Fr.ex h.tail) h1 h2 h3 h4 h5
end
theorem size_set (w : World) (T k : Nat) (v : Value) : (w.setCell ⟨T, k, none⟩ v).heap.size = w.heap.size := by simp [World.setCell]
theorem Fr.set6 {P : Option Nat} {T : Nat} {S : World → Prop} {w0 w : World} {ks : List Kp} {a0 a1 a2 a3 a4 a5 : Value} {t : TypeId} {fr : Nat × Nat} (h : Fr P S w0 w (blkK T (.cells #[a0, a1, a2, a3, a4, a5] t fr) :: ks)) (v0 v1 v2 v3 v4 v5 : Value) :
    Fr P S w0 ((((((w.setCell ⟨T, 0, none⟩ v0).setCell ⟨T, 1, none⟩ v1).setCell ⟨T, 2, none⟩ v2).setCell ⟨T, 3, none⟩ v3).setCell ⟨T, 4, none⟩ v4).setCell ⟨T, 5, none⟩ v5) (blkK T (.cells #[v0, v1, v2, v3, v4, v5] t fr) :: ks) :=
  h.put (Go.Proofs.YtnlikhjmmnaknaaGreatDoor.set6 h.blk v0 v1 v2 v3 v4 v5).2 (Go.Proofs.YtnlikhjmmnaknaaGreatDoor.set6 h.blk v0 v1 v2 v3 v4 v5).1

/-- a function that gives an expression, where nothing is wrong yet -/
def GivesOk (s : ByteArray) (l : List Tk) (P g : Nat) (F : FuncId) (args : Array Value) (f : Nat → PR) (top : Int) : Prop :=
  ∀ (i : Nat) (w : World), Sm s l P g w (.ok i) → Calls Tryz.prog F args w fun r w' => ∃ e A c h m', r = .returned (.tuple #[e.val A c, .int .i64 h]) ∧ Got s l P g w (f i) top w' e A c h m'
theorem blk5 {w : World} {T : Nat} {v0 v1 v2 v3 v4 : Value} {t : TypeId} (h : w.heap[T]? = some (.cells #[v0, v1, v2, v3, v4] t (0, 0))) :
    w.cell? ⟨T, 0, none⟩ = some v0 ∧ w.cell? ⟨T, 1, none⟩ = some v1 ∧ w.cell? ⟨T, 2, none⟩ = some v2 ∧ w.cell? ⟨T, 3, none⟩ = some v3 ∧ w.cell? ⟨T, 4, none⟩ = some v4 ∧
    w.frozen? ⟨T, 0, none⟩ = false ∧ w.frozen? ⟨T, 1, none⟩ = false ∧ w.frozen? ⟨T, 2, none⟩ = false ∧ w.frozen? ⟨T, 3, none⟩ = false ∧ w.frozen? ⟨T, 4, none⟩ = false :=
  ⟨Lib.cell_of_heap h 0, Lib.cell_of_heap h 1, Lib.cell_of_heap h 2, Lib.cell_of_heap h 3, Lib.cell_of_heap h 4, frozen_none h, frozen_none h, frozen_none h, frozen_none h, frozen_none h⟩
section
variable {s : ByteArray} {l : List Tk} {P g : Nat} {w0 w w' : World} {ks : List Kp}
/-- the place of the next token, as a walk reads it and turns it -/
theorem Fr.at1 {i : Nat} (h : PF s l P g w0 (.ok i) w ks) : w.cell? ⟨P, 1, none⟩ = some (.int .i64 i) ∧ w.frozen? ⟨P, 1, none⟩ = false ∧ ∃ i1, i + 1 = i1 ∧ IntKind.i64.wrap ((i : Int) + 1) = (i1 : Int) := by
  obtain ⟨c, c0, c1, c2, c3, c4, fz, hg, -⟩ := PSt.cells h.sm
  have hmx := PSt.max h.sm
  have hlt := PSt.lt h.sm
  exact ⟨c1, fz 1, i + 1, rfl, by rw [show ((i : Int) + 1) = ((i + 1 : Nat) : Int) by omega]; exact IntWalk.i64_in _ (by omega)⟩
theorem Fr.up {i j : Nat} (h : PF s l P g w0 (.ok i) w ks) (hj : j < l.length) : PF s l P g w0 (.ok j) (w.setCell ⟨P, 1, none⟩ (.int .i64 j)) ks := h.turn (PSt.set h.sm hj) (grown_set _ _ _ _)
end
theorem Fr.drew {P : Option Nat} {S : World → Prop} {w0 w : World} {ks : List Kp} (h : Fr P S w0 w ks) : Fr P S w0 w.drew ks := h.below (Below.drew (Below.refl _ _))
theorem want_ok {s : ByteArray} {l : List Tk} {m : Md} {t : List UInt8} {i : Nat} (h : m.want s l t = .ok i) : ∃ j, m = .ok j := by
  cases m with
  | ok j => exact ⟨j, rfl⟩
  | bad a b c => cases h
theorem want_seq {s : ByteArray} {l : List Tk} {t : List UInt8} {i : Nat} {f : Nat → PR} : (Md.want s l (.ok i) t).seq f = wantN s l t i f := by
  unfold Md.want wantN badN
  dsimp only
  split <;> rfl
theorem want_came {s : ByteArray} {l : List Tk} {q : PR} {m : Md} {e : Ex} {h : Int} (hc : Came q m e h) (t : List UInt8) : Came (q.then fun x i2 => wantN s l t i2 fun i3 => .ok x i3) (m.want s l t) e h := by
  cases q with
  | bad a b c => have hc : m = _ := hc; subst hc; exact rfl
  | ok e1 i1 =>
    obtain ⟨rfl, rfl, rfl⟩ := hc
    show Came (wantN s l t i1 _) _ _ _
    rw [← want_seq]
    unfold Md.want
    dsimp only
    split
    · exact ⟨rfl, rfl, rfl⟩
    · exact rfl
theorem name_seq {s : ByteArray} {l : List Tk} {i : Nat} {f : ByteArray → Nat → PR} : nameN s l i f = (Md.name s l (.ok i) false).seq (f (tkN l i).text) := by
  unfold Md.name nameN badN
  dsimp only
  split
  · rfl
  · rfl
theorem seq_then {m : Md} {f : Nat → PR} {g : Ex → Nat → PR} : (m.seq f).then g = m.seq fun i => (f i).then g := by cases m <;> rfl
theorem top_nil {m : Md} {a b c : Int} : (if 30 < topOf [] then m.fail a b c else m) = m := rfl
theorem ints0 (w : World) : IntsAt w none [] := fun j hj => absurd hj (by simp)
section
variable {s : ByteArray} {l : List Tk} {rec : Int → Nat → PR} {i : Nat}
theorem alone_int (h : (tkN l i).kind = 2) : aloneN s l rec i = .ok (mkEx 1 ⟨#[]⟩ (tkN l i).num [] (lnN s l i) (clN s l i)) (i + 1) := if_pos h
theorem isN_kind {t : List UInt8} (h : isN l i t = true) : (tkN l i).kind ≠ 2 ∧ (tkN l i).kind ≠ 1 := by
  unfold isN at h
  simp only [Bool.and_eq_true, Bool.or_eq_true, beq_iff_eq] at h
  omega
theorem alone_true (h : isN l i wTrue = true) : aloneN s l rec i = .ok (mkEx 2 ⟨#[]⟩ 1 [] (lnN s l i) (clN s l i)) (i + 1) := by
  unfold aloneN; rw [if_neg (isN_kind h).1, if_pos h]
theorem alone_false (h0 : isN l i wTrue = false) (h : isN l i wFalse = true) : aloneN s l rec i = .ok (mkEx 2 ⟨#[]⟩ 0 [] (lnN s l i) (clN s l i)) (i + 1) := by
  unfold aloneN; rw [if_neg (isN_kind h).1, if_neg (by simp [h0]), if_pos h]
theorem isN_off {t : List UInt8} (h : (tkN l i).kind = 1 ∨ (tkN l i).kind = 2) : isN l i t = false := by
  unfold isN
  rcases h with h | h <;> simp [h]
theorem alone_var (h : (tkN l i).kind = 1) (h1 : isN l (i + 1) wOpen = false) : aloneN s l rec i = .ok (mkEx 3 (tkN l i).text 0 [] (lnN s l i) (clN s l i)) (i + 1) := by
  unfold aloneN; rw [if_neg (by omega), if_neg (by simp [isN_off (.inl h)]), if_neg (by simp [isN_off (.inl h)]), if_pos h, if_neg (by simp [h1])]
theorem alone_call (h : (tkN l i).kind = 1) (h1 : isN l (i + 1) wOpen = true) : aloneN s l rec i = (rec 0 (i + 2)).then fun x i1 => argsN s l rec (tkN l i).text i 7 [x] i1 := by
  unfold aloneN; rw [if_neg (by omega), if_neg (by simp [isN_off (.inl h)]), if_neg (by simp [isN_off (.inl h)]), if_pos h, if_pos h1]
theorem alone_merge (h : isN l i wMerge = true) (h0 : isN l i wTrue = false) (h1 : isN l i wFalse = false) : aloneN s l rec i = nameN s l (i + 1) fun nm i1 => withinN s l rec i1 fun a i2 => withinN s l rec i2 fun b i3 => madeN (mkEx 26 nm 0 [a, b] (lnN s l i) (clN s l i)) i3 := by
  unfold aloneN; rw [if_neg (isN_kind h).1, if_neg (by simp [h0]), if_neg (by simp [h1]), if_neg (isN_kind h).2, if_pos h]
theorem alone_in (h : (tkN l i).kind ≠ 1 ∧ (tkN l i).kind ≠ 2) (h0 : isN l i wTrue = false) (h1 : isN l i wFalse = false) (h2 : isN l i wMerge = false) : aloneN s l rec i = withinN s l rec i .ok := by
  unfold aloneN; rw [if_neg h.2, if_neg (by simp [h0]), if_neg (by simp [h1]), if_neg h.1, if_neg (by simp [h2])]
end
end Go.Proofs.YtnlikhjmmnaknaaGreatDoor
/-
  How great an expression is that was read: a token at least for each part.
-/
namespace Go.Proofs.YtnlikhjmmnaknaaGreatDoor
open Go.RowKit

/-- what is read has at most so many parts as tokens that were gone over -/
def PR.sz (lo : Nat) (r : PR) : Prop := ∀ e i, r = .ok e i → e.size + lo ≤ i
def szSum (xs : List Ex) : Nat := (xs.map Ex.size).sum
theorem mk_size {op : Int} {name : ByteArray} {n ln cl : Int} (xs : List Ex) : (mkEx op name n xs ln cl).size = 1 + szSum xs := by
  show 1 + sumTo (fun i => (xs[i]?.getD .junk).size) xs.length = _
  congr 1
  unfold szSum
  have h : ∀ j, j ≤ xs.length → sumTo (fun i => (xs[i]?.getD .junk).size) j = ((xs.take j).map Ex.size).sum := by
    intro j
    induction j with
    | zero => intro _; rfl
    | succ j ih =>
      intro hj
      show sumTo _ j + _ = _
      rw [ih (by omega), List.take_add_one, List.map_append, List.sum_append, List.getElem?_eq_getElem (show j < xs.length by omega)]
      show _ + (xs[j]?.getD Ex.junk).size = _
      rw [List.getElem?_eq_getElem (show j < xs.length by omega)]
      simp
  rw [h _ (Nat.le_refl _), List.take_length]
theorem sz_bad {lo : Nat} {a b c : Int} : (PR.bad a b c).sz lo := fun _ _ h => by cases h
theorem sz_ok {lo i : Nat} {e : Ex} (h : e.size + lo ≤ i) : (PR.ok e i).sz lo := fun _ _ h' => by injection h' with h1 h2; subst h1 h2; exact h
theorem sz_then {r : PR} {f : Ex → Nat → PR} {a b : Nat} (h : r.sz a) (hf : ∀ e i, e.size + a ≤ i → (f e i).sz b) : (r.then f).sz b := by
  cases r with
  | ok e i => exact hf e i (h e i rfl)
  | bad a b c => exact sz_bad
section
variable {s : ByteArray} {l : List Tk}
theorem sz_want {w : List UInt8} {i b : Nat} {f : Nat → PR} (hf : (f (i + 1)).sz b) : (wantN s l w i f).sz b := by
  unfold wantN
  split
  · exact hf
  · exact sz_bad
theorem sz_name {i b : Nat} {f : ByteArray → Nat → PR} (hf : ∀ t, (f t (i + 1)).sz b) : (nameN s l i f).sz b := by
  unfold nameN
  split
  · exact hf _
  · exact sz_bad
theorem sz_made {e : Ex} {i b : Nat} (h : e.size + b ≤ i) : (madeN e i).sz b := by
  unfold madeN
  split
  · exact sz_bad
  · exact sz_ok h
variable {rec : Int → Nat → PR}
def SzR (rec : Int → Nat → PR) : Prop := ∀ x i, (rec x i).sz i
theorem sz_within (hA : SzR rec) {i b : Nat} {f : Ex → Nat → PR} (hf : ∀ e i1, e.size + (i + 2) ≤ i1 → (f e i1).sz b) : (withinN s l rec i f).sz b :=
  sz_want (sz_then (hA 0 _) fun e i2 h2 => sz_want (hf _ _ (by omega)))
theorem sz1 (x : Ex) : szSum [x] = x.size := by simp [szSum]
theorem sz2 (x y : Ex) : szSum [x, y] = x.size + y.size := by simp [szSum]
theorem sz3 (x y z : Ex) : szSum [x, y, z] = x.size + y.size + z.size := by simp [szSum]; omega
theorem szPush (xs : List Ex) (x : Ex) : szSum (xs ++ [x]) = szSum xs + x.size := by simp [szSum]
theorem sz_choice (hA : SzR rec) {i : Nat} : (choiceN s l rec i).sz i :=
  sz_want (sz_then (hA 0 _) fun _ _ h2 => sz_want (sz_then (hA 0 _) fun _ _ h5 => sz_want (sz_then (hA 0 _) fun _ _ h8 => sz_made (by rw [mk_size, sz3]; omega))))
theorem sz_args (hA : SzR rec) {name : ByteArray} {at_ lo : Nat} : ∀ (k : Nat) (xs : List Ex) (i : Nat), szSum xs + (lo + 1) ≤ i → (argsN s l rec name at_ k xs i).sz lo := by
  intro k
  induction k with
  | zero =>
    intro xs i hi
    unfold argsN
    split
    · exact sz_bad
    · exact sz_want (sz_made (by rw [mk_size]; omega))
  | succ k ih =>
    intro xs i hi
    unfold argsN
    split
    · refine sz_then (hA 0 _) fun e i1 h1 => ih _ _ (by rw [szPush]; omega)
    · exact sz_want (sz_made (by rw [mk_size]; omega))
theorem sz0 : szSum [] = 0 := rfl
theorem sz_alone (hA : SzR rec) {i : Nat} : (aloneN s l rec i).sz i := by
  unfold aloneN
  by_cases h2 : (tkN l i).kind = 2
  · rw [if_pos h2]; exact sz_ok (by rw [mk_size, sz0]; omega)
  rw [if_neg h2]
  by_cases ht : isN l i wTrue = true
  · rw [if_pos ht]; exact sz_ok (by rw [mk_size, sz0]; omega)
  rw [if_neg ht]
  by_cases hf : isN l i wFalse = true
  · rw [if_pos hf]; exact sz_ok (by rw [mk_size, sz0]; omega)
  rw [if_neg hf]
  by_cases h1 : (tkN l i).kind = 1
  · rw [if_pos h1]
    by_cases ho : isN l (i + 1) wOpen = true
    · rw [if_pos ho]
      exact sz_then (hA 0 _) fun e i1 h4 => sz_args hA 7 [e] i1 (by rw [sz1]; omega)
    · rw [if_neg ho]; exact sz_ok (by rw [mk_size, sz0]; omega)
  rw [if_neg h1]
  by_cases hm : isN l i wMerge = true
  · rw [if_pos hm]
    exact sz_name fun _ => sz_within hA fun _ _ h5 => sz_within hA fun _ _ h7 => sz_made (by rw [mk_size, sz2]; omega)
  · rw [if_neg hm]
    exact sz_within hA fun _ _ h4 => sz_ok (by omega)
theorem sz_pref (hA : SzR rec) {i : Nat} : (prefN s l rec i).sz i := by
  unfold prefN
  split
  · exact sz_alone hA
  · exact sz_then (hA 9 _) fun _ _ h1 => sz_made (by rw [mk_size, sz1]; omega)
theorem sz_then_made {e : Ex} {i b : Nat} {f : Ex → Nat → PR} (hf : (f e i).sz b) : ((madeN e i).then f).sz b := by
  unfold madeN
  split
  · exact sz_bad
  · exact hf
theorem sz_when {e : Ex} {i b : Nat} {f : Ex → Nat → PR} (hf : ∀ e1 i1, e1.size + i ≤ e.size + i1 → (f e1 i1).sz b) : (whenN s l e i f).sz b := by
  unfold whenN
  split
  · exact sz_name fun _ => sz_then_made (hf _ _ (by rw [mk_size, sz1]; omega))
  · exact sz_name fun _ => sz_then_made (hf _ _ (by rw [mk_size, sz1]; omega))
theorem sz_two (hA : SzR rec) {e : Ex} {i b : Nat} {op fr : Int} {f : Ex → Nat → PR} (hf : ∀ e1 i1, e1.size + i ≤ e.size + i1 → (f e1 i1).sz b) : (twoN s l rec e i op fr f).sz b :=
  sz_then (hA fr _) fun _ _ h1 => sz_then_made (hf _ _ (by rw [mk_size, sz2]; omega))
theorem sz_loop (hA : SzR rec) (least : Int) {lo : Nat} : ∀ (f : Nat) (e : Ex) (sg : Int) (i : Nat), e.size + lo ≤ i → (loopN s l rec least f e sg i).sz lo := by
  intro f
  induction f with
  | zero => intro e sg i hi; exact sz_ok hi
  | succ f ih =>
    intro e sg i hi
    unfold loopN
    by_cases h : opN l i = 0 ∨ strOf (opN l i) < least ∨ sg < needOf (opN l i)
    · rw [if_pos h]; exact sz_ok hi
    rw [if_neg h]
    by_cases h24 : opN l i = 24
    · rw [if_pos h24]
      exact sz_when fun e1 i1 h1 => ih _ _ _ (by omega)
    · rw [if_neg h24]
      exact sz_two hA fun e1 i1 h1 => ih _ _ _ (by omega)
theorem sz_one (hA : SzR rec) (least : Int) {i : Nat} : (oneN s l rec least i).sz i := by
  unfold oneN
  split
  · exact sz_choice hA
  · exact sz_then (sz_pref hA) fun e i1 h1 => sz_loop hA least _ _ _ _ h1
theorem sz_expr : ∀ d, SzR (exprN s l d) := by
  intro d
  induction d with
  | zero => intro x i; exact sz_bad
  | succ d ih =>
    intro x i
    unfold exprN
    split
    · exact sz_one ih x
    · exact sz_bad
end
end Go.Proofs.YtnlikhjmmnaknaaGreatDoor
/-
  A text's tokens, from a byte on; what they hold.
-/
namespace Go.Proofs.YtnlikhjmmnaknaaGreatDoor
open Go.RowKit

/-- the tokens from a byte on -/
inductive Toks (s : ByteArray) : Nat → List Tk → Prop where
  | last {i : Nat} : over s i = s.size → Toks s i [tkEnd s.size]
  | cons {i : Nat} {l : List Tk} : over s i < s.size → tokOk s (over s i) = true → Toks s (over s i + tokLen s (over s i)) l → Toks s i (tkAt s (over s i) :: l)

theorem go_toks (s : ByteArray) : ∀ (f n i : Nat) (l m : List Tk), i ≤ s.size → s.size + 1 ≤ i + f → n ≤ 4096 → scanGo s f n i l = .toks m → ∃ r, m = l ++ r ∧ Toks s i r ∧ n + r.length ≤ 4097 := by
  intro f
  induction f with
  | zero => intro n i l m hi hf _ _; omega
  | succ f ih =>
    intro n i l m hi hf hn h
    unfold scanGo at h
    have hov := over_le s i hi
    by_cases he : over s i = s.size
    · rw [if_pos he] at h
      injection h with h
      exact ⟨_, h.symm, .last he, by simp; omega⟩
    · rw [if_neg he] at h
      by_cases h4 : n = 4096
      · rw [if_pos h4] at h; cases h
      · rw [if_neg h4] at h
        by_cases hk : tokOk s (over s i) = true
        · rw [if_pos hk] at h
          have hlt : over s i < s.size := by omega
          have hp := tok_pos hlt hk
          have hle := tok_le hlt
          obtain ⟨r, rfl, hr, hl⟩ := ih (n + 1) _ _ m hle (by omega) (by omega) h
          exact ⟨_, by rw [List.append_assoc]; rfl, .cons hlt hk hr, by simp; omega⟩
        · rw [if_neg hk] at h; cases h

theorem scan_toks {s : ByteArray} {l : List Tk} (h : scanOf s = .toks l) : Toks s 0 l ∧ l.length ≤ 4097 ∧ s.size ≤ 16384 := by
  unfold scanOf at h
  split at h
  · cases h
  · obtain ⟨r, h1, h2, h3⟩ := go_toks s _ _ _ _ _ (Nat.zero_le _) (by omega) (by omega) h
    rw [List.nil_append] at h1
    subst h1
    exact ⟨h2, by omega, by omega⟩
theorem tokKind_in (s : ByteArray) (i : Nat) : 1 ≤ tokKind s i ∧ tokKind s i ≤ 4 := by
  unfold tokKind
  (repeat' split) <;> omega
/-- the last token, and no other, is the end -/
theorem toks_ends {s : ByteArray} {i : Nat} {l : List Tk} (h : Toks s i l) : 0 < l.length ∧ ∀ j (hj : j < l.length), (l[j]).kind ≠ 5 → j + 1 < l.length := by
  induction h with
  | last h =>
    refine ⟨by simp, fun j hj => ?_⟩
    have : j = 0 := by simpa using hj
    subst this
    exact fun h => absurd rfl h
  | cons h1 h2 h3 ih =>
    refine ⟨by simp, fun j hj hk => ?_⟩
    cases j with
    | zero => simp; exact ih.1
    | succ j =>
      have := ih.2 j (by simpa using hj) (by simpa using hk)
      simpa using this
theorem numGo_in (X : ByteArray) (hd : ∀ q, q < X.size → 48 ≤ bt X q ∧ bt X q ≤ 57) : ∀ (k p : Nat) (n m : Int), p + k = X.size → 0 ≤ n → n ≤ 9223372036854775807 → numGo n (X.data.toList.drop p) = some m → 0 ≤ m ∧ m ≤ 9223372036854775807 := by
  intro k
  induction k with
  | zero =>
    intro p n m hp h0 h1 h
    rw [show p = X.size by omega, numGo_end] at h
    injection h with h
    omega
  | succ k ih =>
    intro p n m hp h0 h1 h
    have hq : p < X.size := by omega
    have := hd p hq
    by_cases hc : (9223372036854775807 - (bt X p - 48)) / 10 < n
    · rw [numGo_off hq hc] at h; cases h
    · rw [numGo_on hq hc] at h
      have h2 := numGo_bd (bt X p - 48) n (by omega) (by omega) h0 hc
      exact ih (p + 1) _ m (by omega) h2.1 h2.2 h
/-- what a token may hold -/
theorem toks_hold {s : ByteArray} {i : Nat} {l : List Tk} (hs : s.size ≤ 16384) (h : Toks s i l) : ∀ t ∈ l, t.pos ≤ s.size ∧ t.text.size ≤ 16384 ∧ -9223372036854775808 ≤ t.num ∧ t.num ≤ 9223372036854775807 := by
  induction h with
  | last h => intro t ht; have : t = tkEnd s.size := by simpa using ht
              subst this
              exact ⟨Nat.le_refl _, Nat.zero_le _, by show _ ≤ (0 : Int); omega, by show (0 : Int) ≤ _; omega⟩
  | @cons i l h1 h2 h3 ih =>
    intro t ht
    rcases List.mem_cons.1 ht with rfl | ht
    · refine ⟨Nat.le_of_lt h1, ?_, ?_⟩
      · have h5 := size_extract' s (over s i) (over s i + tokLen s (over s i)) (tok_le h1)
        have h6 := tok_le h1
        show (s.extract (over s i) (over s i + tokLen s (over s i))).size ≤ _
        omega
      · show _ ≤ tokNum s _ ∧ tokNum s _ ≤ _
        unfold tokNum
        split
        · omega
        · rename_i hnl
          split
          · rename_i hdg
            cases hn : numOf (textOf s (over s i) (tokLen s (over s i))).data.toList with
            | none => simp
            | some n =>
              have : 0 ≤ n ∧ n ≤ 9223372036854775807 := by
                unfold numOf at hn
                split at hn
                · cases hn
                · have h6 := tok_le h1
                  have h5 := size_extract' s (over s i) (over s i + tokLen s (over s i)) h6
                  refine numGo_in (textOf s (over s i) (tokLen s (over s i))) (fun q hq => ?_) _ 0 0 n (Nat.zero_add _) (by omega) (by omega) hn
                  unfold textOf at hq ⊢
                  rw [bt_extract _ _ _ _ (by omega)]
                  have h7 : tokLen s (over s i) = rn isDigit (s.data.toList.drop (over s i)) := by unfold tokLen; rw [if_neg hnl, if_pos hdg]
                  have := rn_all isDigit s (over s i) q (by omega)
                  simpa [isDigit] using this
              simp only [Option.getD_some]
              omega
          · omega
    · exact ih t ht
theorem go_bad (s : ByteArray) : ∀ (f n i : Nat) (l : List Tk) (e : Int) (p : Nat), scanGo s f n i l = .bad e p → (e == 0) = false := by
  intro f
  induction f with
  | zero => intro n i l e p h; unfold scanGo at h; cases h
  | succ f ih =>
    intro n i l e p h
    unfold scanGo at h
    split at h
    · cases h
    · split at h
      · injection h with h1 _; subst h1; rfl
      · split at h
        · exact ih _ _ _ _ _ h
        · injection h with h1 _; subst h1; rfl
theorem scan_bad {s : ByteArray} {e : Int} {p : Nat} (h : scanOf s = .bad e p) : (e == 0) = false := by
  unfold scanOf at h
  split at h
  · injection h with h1 _; subst h1; rfl
  · exact go_bad _ _ _ _ _ _ _ h

end Go.Proofs.YtnlikhjmmnaknaaGreatDoor
