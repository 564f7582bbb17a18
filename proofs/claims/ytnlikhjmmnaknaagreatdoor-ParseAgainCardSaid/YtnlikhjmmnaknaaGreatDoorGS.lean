/-
  Texts of this claim, joined: SpP SpQ SpK SpA SpV SpB SpW SpC SpD SpX.
-/
import Derived.Test.YtnlikhjmmnaknaaGreatDoorGP
import Derived.Test.YtnlikhjmmnaknaaGreatDoorGF
import Derived.Test.YtnlikhjmmnaknaaGreatDoorGQ
import Derived.Test.YtnlikhjmmnaknaaGreatDoorHParO
import Derived.Deep.CutRange
import Derived.Laws.AppendOwnNone
/-
  Parsing a source, in plain Lean: each function takes the parser's state and gives what was read, and the state behind it; where the state is bad, what was read says nothing.
-/
namespace Go.Proofs.YtnlikhjmmnaknaaGreatDoor
open Go.RowKit

def wInt : List UInt8 := [105, 110, 116]
def wBool : List UInt8 := [98, 111, 111, 108]
def wColon : List UInt8 := [58]
def wSemi : List UInt8 := [59]
def wVar : List UInt8 := [118, 97, 114]
def wLet : List UInt8 := [108, 101, 116]
def wTel : List UInt8 := [116, 101, 108]
def wNode : List UInt8 := [110, 111, 100, 101]
def wRet : List UInt8 := [114, 101, 116, 117, 114, 110, 115]
def wEq : List UInt8 := [61]

section
variable (s : ByteArray) (l : List Tk)
/-- something is wrong with the token that comes -/
def Md.err (m : Md) (e : Int) : Md := match m with
  | .ok i => .bad e (lnN s l i) (clN s l i)
  | .bad a b c => .bad a b c
/-- the token that comes: its text, its place -/
def Md.text (m : Md) : ByteArray := match m with
  | .ok i => (tkN l i).text
  | .bad _ _ _ => ⟨#[]⟩
def Md.ln (m : Md) : Int := match m with
  | .ok i => lnN s l i
  | .bad _ _ _ => 0
def Md.cl (m : Md) : Int := match m with
  | .ok i => clN s l i
  | .bad _ _ _ => 0
/-- is it the end? -/
def Md.last (m : Md) : Bool := match m with
  | .ok i => (tkN l i).kind == 5
  | .bad _ _ _ => false

def kindP (m : Md) : Int × Md := if m.is l wInt = true then (1, m.take l wInt) else (2, m.want s l wBool)
/-- conditions behind those that were read; the first number: how many more there may be -/
def litsP : Nat → List LitE → Md → List LitE × Md
  | k, xs, m => if m.is l wWhen = true then
      match k with
      | 0 => (xs, m.err s l 3)
      | k + 1 => litsP k (xs ++ [⟨((m.take l wWhen).take l wNot).text l, (m.take l wWhen).is l wNot⟩]) (((m.take l wWhen).take l wNot).name s l false)
    else (xs, m)
/-- names of a group -/
def namesP (most : Nat) : Nat → List VarE → Md → List VarE × Md
  | 0, xs, m => (xs, m)
  | k + 1, xs, m => if (m.name s l (decide (most ≤ xs.length))).is l wComma = true then namesP most k (xs ++ [⟨m.text l, 0, [], m.ln s l, m.cl s l⟩]) ((m.name s l (decide (most ≤ xs.length))).take l wComma)
    else (xs ++ [⟨m.text l, 0, [], m.ln s l, m.cl s l⟩], m.name s l (decide (most ≤ xs.length)))
/-- variables from one on get a type and a clock -/
def setVars (n : Nat) (ys : List VarE) (k : Int) (c : List LitE) : List VarE := ys.take n ++ (ys.drop n).map fun v => { v with type := k, clock := c }
/-- a group, behind variables that were read -/
def groupP (most : Nat) (xs : List VarE) (m : Md) : List VarE × Md :=
  let a := namesP s l most (most + 1 - xs.length) xs m
  let b := kindP s l (a.2.want s l wColon)
  let c := litsP s l 4 [] b.2
  (setVars xs.length a.1 b.1 c.1, c.2)
def portsGo : Nat → List VarE → Md → List VarE × Md
  | 0, xs, m => (xs, m)
  | k + 1, xs, m => if (groupP s l 8 xs m).2.is l wSemi = true then portsGo k (groupP s l 8 xs m).1 ((groupP s l 8 xs m).2.take l wSemi) else groupP s l 8 xs m
def portsP (m : Md) : List VarE × Md := ((portsGo s l 9 [] (m.want s l wOpen)).1, (portsGo s l 9 [] (m.want s l wOpen)).2.want s l wShut)
def localsGo : Nat → List VarE → Md → List VarE × Md
  | 0, xs, m => (xs, m)
  | k + 1, xs, m => if ((groupP s l 40 xs m).2.want s l wSemi).isBad = true ∨ ((groupP s l 40 xs m).2.want s l wSemi).is l wLet = true then ((groupP s l 40 xs m).1, (groupP s l 40 xs m).2.want s l wSemi)
    else localsGo k (groupP s l 40 xs m).1 ((groupP s l 40 xs m).2.want s l wSemi)
def localsP (m : Md) : List VarE × Md := if m.is l wVar = true then localsGo s l 41 [] (m.take l wVar) else ([], m)
/-- names of a left side between brackets -/
def strsP : Nat → List ByteArray → Md → List ByteArray × Md
  | 0, xs, m => (xs, m)
  | k + 1, xs, m => if (m.name s l (decide (8 ≤ xs.length))).is l wComma = true then strsP k (xs ++ [m.text l]) ((m.name s l (decide (8 ≤ xs.length))).take l wComma)
    else (xs ++ [m.text l], m.name s l (decide (8 ≤ xs.length)))
/-- an equation's left side, behind so many equations -/
def leftP (n : Nat) (m : Md) : List ByteArray × Md :=
  if m.is l wOpen = true then
    let a := strsP s l 9 [] ((if n = 48 then m.err s l 3 else m).want s l wOpen)
    (a.1, a.2.want s l wShut)
  else ([m.text l], m.name s l (decide (48 ≤ n)))
/-- an expression -/
def exP (m : Md) : Ex × Md := match m.seq (exprN s l 64 0) with
  | .ok e i => (e, .ok i)
  | .bad a b c => (.junk, .bad a b c)
def eqP (n : Nat) (m : Md) : EqE × Md :=
  let a := leftP s l n m
  let b := exP s l (a.2.want s l wEq)
  (⟨a.1, b.1, m.ln s l, m.cl s l⟩, b.2.want s l wSemi)
def eqsGo : Nat → List EqE → Md → List EqE × Md
  | 0, xs, m => (xs, m)
  | k + 1, xs, m => if (eqP s l xs.length m).2.isBad = true ∨ (eqP s l xs.length m).2.is l wTel = true then (xs ++ [(eqP s l xs.length m).1], (eqP s l xs.length m).2.take l wTel)
    else eqsGo k (xs ++ [(eqP s l xs.length m).1]) (eqP s l xs.length m).2
def nodeP (m : Md) : NodeE × Md :=
  let m1 := m.want s l wNode
  let a := portsP s l (m1.name s l false)
  let b := portsP s l (a.2.want s l wRet)
  let c := localsP s l (b.2.want s l wSemi)
  let d := eqsGo s l 49 [] (c.2.want s l wLet)
  (⟨m1.text l, a.1, b.1, c.1, d.1, m1.ln s l, m1.cl s l⟩, d.2)
def srcGo : Nat → List NodeE → Md → List NodeE × Md
  | 0, xs, m => (xs, m)
  | k + 1, xs, m =>
    let a := nodeP s l (if xs.length = 16 ∧ m.is l wNode = true then m.err s l 3 else m)
    if a.2.isBad = true ∨ a.2.last l = true then (xs ++ [a.1], a.2) else srcGo k (xs ++ [a.1]) a.2
end
/-- the source of a text; or what is wrong, and where -/
def sourceOf (s : ByteArray) : List NodeE × Md := match scanOf s with
  | .bad e p => ([], .bad e (place s p).1 (place s p).2)
  | .toks l => srcGo s l 17 [] (.ok 0)
end Go.Proofs.YtnlikhjmmnaknaaGreatDoor
/-
  Plain laws of parsing a source: a state that is good behind was good ahead; how many there are.
-/
namespace Go.Proofs.YtnlikhjmmnaknaaGreatDoor
open Go.RowKit

section
variable {s : ByteArray} {l : List Tk} {m : Md}
theorem fail_err {i : Nat} (hj : ∀ j, m = .ok j → i = j) (e : Int) : m.fail e (lnN s l i) (clN s l i) = m.err s l e := by
  cases m with
  | ok j => obtain rfl := hj j rfl; rfl
  | bad a b c => rfl
theorem want_take {t : List UInt8} (h : m.is l t = true) : m.want s l t = m.take l t := by
  cases m with
  | ok i => have h : isN l i t = true := h; unfold Md.want Md.take; simp only [h, if_true]
  | bad a b c => rfl
theorem want_err {t : List UInt8} (h : m.is l t = false) : m.want s l t = m.err s l 21 := by
  cases m with
  | ok i => have h : isN l i t = false := h; unfold Md.want Md.err; simp [h]
  | bad a b c => rfl
theorem take_not {t : List UInt8} (h : m.is l t = false) : m.take l t = m := by
  cases m with
  | ok i => have h : isN l i t = false := h; unfold Md.take; simp [h]
  | bad a b c => rfl
theorem take_ok {t : List UInt8} {j : Nat} (h : m.take l t = .ok j) : ∃ i, m = .ok i := by
  cases m with
  | ok i => exact ⟨i, rfl⟩
  | bad a b c => cases h
theorem err_ok {e : Int} {j : Nat} (h : m.err s l e = .ok j) : False := by
  cases m <;> cases h
theorem bad_is {t : List UInt8} (h : m.isBad = true) : m.is l t = false := by
  cases m with
  | ok i => cases h
  | bad a b c => rfl
theorem bad_keep (h : m.isBad = true) : (∀ t, m.take l t = m) ∧ (∀ t, m.want s l t = m) ∧ (∀ b, m.name s l b = m) ∧ (∀ e, m.err s l e = m) := by
  cases m with
  | ok i => cases h
  | bad a b c => exact ⟨fun _ => rfl, fun _ => rfl, fun _ => rfl, fun _ => rfl⟩
theorem not_bad (h : m.isBad = false) : ∃ i, m = .ok i := by
  cases m with
  | ok i => exact ⟨i, rfl⟩
  | bad a b c => cases h
theorem ok_not_bad {i : Nat} (h : m = .ok i) : m.isBad = false := by subst h; rfl

theorem take_is (l : List Tk) (i : Nat) (t : List UInt8) : ∃ j, (Md.ok i).take l t = .ok j := by
  unfold Md.take
  dsimp only
  split
  · exact ⟨_, rfl⟩
  · exact ⟨_, rfl⟩
theorem kind_ok {j : Nat} (h : (kindP s l m).2 = .ok j) : ∃ i, m = .ok i := by
  unfold kindP at h
  split at h
  · exact take_ok h
  · exact want_ok h
theorem kind_in : (kindP s l m).1 = 1 ∨ (kindP s l m).1 = 2 := by
  unfold kindP
  split
  · exact .inl rfl
  · exact .inr rfl
theorem lits_ok : ∀ (k : Nat) (xs : List LitE) {m : Md} {j : Nat}, (litsP s l k xs m).2 = .ok j → ∃ i, m = .ok i := by
  intro k
  induction k with
  | zero =>
    intro xs m j h
    unfold litsP at h
    split at h
    · exact absurd h (fun h => err_ok h)
    · exact ⟨j, h⟩
  | succ k ih =>
    intro xs m j h
    unfold litsP at h
    split at h
    · rename_i hw
      exact ⟨_, (is_yes hw).choose_spec.1⟩
    · exact ⟨j, h⟩
theorem lits_len : ∀ (k : Nat) (xs : List LitE) (m : Md), (litsP s l k xs m).1.length ≤ xs.length + k := by
  intro k
  induction k with
  | zero =>
    intro xs m
    unfold litsP
    split <;> simp
  | succ k ih =>
    intro xs m
    unfold litsP
    split
    · refine Nat.le_trans (ih _ _) ?_
      simp only [List.length_append, List.length_cons, List.length_nil]
      omega
    · show xs.length ≤ _; omega
theorem name_full {i j : Nat} {b : Bool} (h : (Md.ok i).name s l b = .ok j) : b = false := by
  cases b with
  | false => rfl
  | true =>
    unfold Md.name at h
    dsimp only at h
    split at h
    · simp at h
    · cases h
theorem names_ok (most : Nat) : ∀ (k : Nat) (xs : List VarE) {m : Md} {j : Nat}, xs.length ≤ most → k = most + 1 - xs.length → (namesP s l most k xs m).2 = .ok j → (∃ i, m = .ok i) ∧ xs.length < (namesP s l most k xs m).1.length ∧ (namesP s l most k xs m).1.length ≤ most := by
  intro k
  induction k with
  | zero => intro xs m j h1 h2; omega
  | succ k ih =>
    intro xs m j h1 h2 h
    have hstep : ∀ {i : Nat}, m.name s l (decide (most ≤ xs.length)) = .ok i → (∃ i, m = .ok i) ∧ xs.length < most := fun {i} hn => by
      obtain ⟨i0, rfl, _⟩ := name_ok hn
      have := name_full hn
      simp at this
      exact ⟨⟨i0, rfl⟩, this⟩
    unfold namesP at h ⊢
    by_cases hc : (m.name s l (decide (most ≤ xs.length))).is l wComma = true
    · rw [if_pos hc] at h ⊢
      obtain ⟨i1, hi1, _⟩ := is_yes hc
      obtain ⟨h3, h4⟩ := hstep hi1
      obtain ⟨_, h5, h6⟩ := ih (xs ++ [⟨m.text l, 0, [], m.ln s l, m.cl s l⟩]) (by simp; omega) (by simp; omega) h
      simp only [List.length_append, List.length_cons, List.length_nil] at h5
      exact ⟨h3, by omega, h6⟩
    · rw [if_neg hc] at h ⊢
      obtain ⟨h3, h4⟩ := hstep h
      refine ⟨h3, ?_, ?_⟩ <;> simp only [List.length_append, List.length_cons, List.length_nil] <;> omega
theorem names_len (most : Nat) : ∀ (k : Nat) (xs : List VarE) (m : Md), (namesP s l most k xs m).1.length ≤ xs.length + k := by
  intro k
  induction k with
  | zero => intro xs m; exact Nat.le_refl _
  | succ k ih =>
    intro xs m
    unfold namesP
    split
    · refine Nat.le_trans (ih _ _) ?_
      simp only [List.length_append, List.length_cons, List.length_nil]; omega
    · simp only [List.length_append, List.length_cons, List.length_nil]; omega
theorem setVars_len (n : Nat) (ys : List VarE) (k : Int) (c : List LitE) : (setVars n ys k c).length = ys.length := by
  unfold setVars
  simp only [List.length_append, List.length_take, List.length_map, List.length_drop]
  omega
theorem group_ok {most : Nat} {xs : List VarE} {j : Nat} (hx : xs.length ≤ most) (h : (groupP s l most xs m).2 = .ok j) : (∃ i, m = .ok i) ∧ xs.length < (groupP s l most xs m).1.length ∧ (groupP s l most xs m).1.length ≤ most := by
  unfold groupP at h ⊢
  dsimp only at h ⊢
  obtain ⟨i1, h1⟩ := lits_ok _ _ h
  obtain ⟨i2, h2⟩ := kind_ok h1
  obtain ⟨i3, h3⟩ := want_ok h2
  rw [setVars_len]
  exact names_ok most _ xs hx rfl h3
theorem ports_go : ∀ (k : Nat) (xs : List VarE) {m : Md} {j : Nat}, xs.length ≤ 8 → 9 ≤ xs.length + k → (portsGo s l k xs m).2 = .ok j → (∃ i, m = .ok i) ∧ (portsGo s l k xs m).1.length ≤ 8 := by
  intro k
  induction k with
  | zero => intro xs m j h1 h2; omega
  | succ k ih =>
    intro xs m j h1 h2 h
    unfold portsGo at h ⊢
    by_cases hc : (groupP s l 8 xs m).2.is l wSemi = true
    · rw [if_pos hc] at h ⊢
      obtain ⟨i1, hi1, _⟩ := is_yes hc
      obtain ⟨h3, h4, h5⟩ := group_ok h1 hi1
      exact ⟨h3, (ih _ h5 (by omega) h).2⟩
    · rw [if_neg hc] at h ⊢
      obtain ⟨h3, h4, h5⟩ := group_ok h1 h
      exact ⟨h3, h5⟩
theorem ports_ok {j : Nat} (h : (portsP s l m).2 = .ok j) : ∃ i, m = .ok i := by
  unfold portsP at h
  obtain ⟨i1, h1⟩ := want_ok h
  obtain ⟨⟨i2, h2⟩, _⟩ := ports_go 9 [] (by simp) (by simp) h1
  exact want_ok h2
theorem locals_go : ∀ (k : Nat) (xs : List VarE) {m : Md} {j : Nat}, xs.length ≤ 40 → 41 ≤ xs.length + k → (localsGo s l k xs m).2 = .ok j → ∃ i, m = .ok i := by
  intro k
  induction k with
  | zero => intro xs m j h1 h2; omega
  | succ k ih =>
    intro xs m j h1 h2 h
    unfold localsGo at h
    by_cases hc : ((groupP s l 40 xs m).2.want s l wSemi).isBad = true ∨ ((groupP s l 40 xs m).2.want s l wSemi).is l wLet = true
    · rw [if_pos hc] at h
      obtain ⟨i1, h1'⟩ := want_ok h
      exact (group_ok h1 h1').1
    · rw [if_neg hc] at h
      have hb : ((groupP s l 40 xs m).2.want s l wSemi).isBad = false := eq_false_of_ne_true fun h => hc (.inl h)
      obtain ⟨i0, hi0⟩ := not_bad hb
      obtain ⟨i1, h1'⟩ := want_ok hi0
      exact (group_ok h1 h1').1
theorem locals_ok {j : Nat} (h : (localsP s l m).2 = .ok j) : ∃ i, m = .ok i := by
  unfold localsP at h
  split at h
  · exact take_ok (locals_go 41 [] (by simp) (by simp) h).choose_spec
  · exact ⟨j, h⟩
theorem strs_ok : ∀ (k : Nat) (xs : List ByteArray) {m : Md} {j : Nat}, xs.length ≤ 8 → k = 9 - xs.length → (strsP s l k xs m).2 = .ok j → ∃ i, m = .ok i := by
  intro k
  induction k with
  | zero => intro xs m j h1 h2; omega
  | succ k ih =>
    intro xs m j h1 h2 h
    unfold strsP at h
    by_cases hc : (m.name s l (decide (8 ≤ xs.length))).is l wComma = true
    · obtain ⟨i1, hi1, _⟩ := is_yes hc
      obtain ⟨i0, h0, _⟩ := name_ok hi1
      exact ⟨i0, h0⟩
    · rw [if_neg hc] at h
      obtain ⟨i0, h0, _⟩ := name_ok h
      exact ⟨i0, h0⟩
theorem left_ok {n j : Nat} (h : (leftP s l n m).2 = .ok j) : (∃ i, m = .ok i) ∧ (n ≤ 48 → n < 48) := by
  unfold leftP at h
  by_cases ho : m.is l wOpen = true
  · rw [if_pos ho] at h
    dsimp only at h
    obtain ⟨i1, h1⟩ := want_ok h
    obtain ⟨i2, h2⟩ := strs_ok 9 [] (by simp) (by simp) h1
    obtain ⟨i3, h3⟩ := want_ok h2
    by_cases hn : n = 48
    · rw [if_pos hn] at h3; exact absurd h3 (fun h => err_ok h)
    · rw [if_neg hn] at h3; exact ⟨⟨i3, h3⟩, fun h => by omega⟩
  · rw [if_neg ho] at h
    obtain ⟨i0, rfl, _⟩ := name_ok h
    have := name_full h
    simp at this
    exact ⟨⟨i0, rfl⟩, fun _ => this⟩
theorem ex_ok {j : Nat} (h : (exP s l m).2 = .ok j) : ∃ i, m = .ok i := by
  cases m with
  | ok i => exact ⟨i, rfl⟩
  | bad a b c => cases h
theorem eq_ok {n j : Nat} (h : (eqP s l n m).2 = .ok j) : (∃ i, m = .ok i) ∧ (n ≤ 48 → n < 48) := by
  unfold eqP at h
  dsimp only at h
  obtain ⟨i1, h1⟩ := want_ok h
  obtain ⟨i2, h2⟩ := ex_ok h1
  obtain ⟨i3, h3⟩ := want_ok h2
  exact left_ok h3
theorem eqs_go : ∀ (k : Nat) (xs : List EqE) {m : Md} {j : Nat}, xs.length ≤ 48 → k = 49 - xs.length → (eqsGo s l k xs m).2 = .ok j → ∃ i, m = .ok i := by
  intro k
  induction k with
  | zero => intro xs m j h1 h2; omega
  | succ k ih =>
    intro xs m j h1 h2 h
    unfold eqsGo at h
    by_cases hc : (eqP s l xs.length m).2.isBad = true ∨ (eqP s l xs.length m).2.is l wTel = true
    · rw [if_pos hc] at h
      obtain ⟨i1, h1'⟩ := take_ok h
      exact (eq_ok h1').1
    · have hb : (eqP s l xs.length m).2.isBad = false := eq_false_of_ne_true fun h => hc (.inl h)
      obtain ⟨i1, h1'⟩ := not_bad hb
      exact (eq_ok h1').1
theorem node_ok {j : Nat} (h : (nodeP s l m).2 = .ok j) : ∃ i, m = .ok i ∧ isN l i wNode = true := by
  unfold nodeP at h
  dsimp only at h
  obtain ⟨i1, h1⟩ := eqs_go 49 [] (by simp) (by simp) h
  obtain ⟨i2, h2⟩ := want_ok h1
  obtain ⟨i3, h3⟩ := locals_ok h2
  obtain ⟨i4, h4⟩ := want_ok h3
  obtain ⟨i5, h5⟩ := ports_ok h4
  obtain ⟨i6, h6⟩ := want_ok h5
  obtain ⟨i7, h7⟩ := ports_ok h6
  obtain ⟨i8, h8, _⟩ := name_ok h7
  obtain ⟨i9, rfl⟩ := want_ok h8
  refine ⟨i9, rfl, ?_⟩
  unfold Md.want at h8
  dsimp only at h8
  split at h8
  · assumption
  · cases h8
end
end Go.Proofs.YtnlikhjmmnaknaaGreatDoor
/-
  Parts of a source in blocks of a set; facts of them that walks keep.
-/
namespace Go.Proofs.YtnlikhjmmnaknaaGreatDoor
open Go.RowKit

/-- rows of elements in an owned block -/
theorem sl_own {α : Type} (cells : α → List Value) (sz : Nat) (hsz : ∀ y, (cells y).length = sz) {D : Nat → Prop} {P : Nat → Nat → α → Prop} {t : TypeId} {b0 n c : Nat} {w : World} {A : Option Addr} {ys : List α} (hn : ys.length = n) (h : w.ownsRow b0 t sz (.slice A n c) n (ys.flatMap cells)) (hD : ∀ g, (Value.slice A n c).ownBlock = some g → D g)
    (hP : ∀ b o j (hj : j < ys.length), D b → (∀ i, i < sz → w.cell? ⟨b, o + i, none⟩ = (cells ys[j])[i]?) → P b o ys[j]) : (⟨A, c⟩ : Sl).fits n ∧ SlAt sz P A ys := by
  subst hn
  rcases h.2 with ⟨h1, h2⟩ | ⟨g, cap, cur, h1, hb, h3, h4, h5, h6, h7⟩
  · have h0 : ys = [] := List.length_eq_zero_iff.1 h2
    subst h0
    injection h1 with _ _ hc
    subst hc
    exact ⟨⟨Nat.le_refl _, Nat.zero_le _⟩, fun j hj => absurd hj (by simp)⟩
  · injection h1 with hA _ hc
    subst hA hc
    refine ⟨⟨h4, h5⟩, fun j hj => ⟨g, 0, rfl, hP _ _ j hj (hD g rfl) fun i hi => ?_⟩⟩
    have hlt : j * sz + i < ys.length * sz := by
      have h9 : (j + 1) * sz ≤ ys.length * sz := Nat.mul_le_mul_right sz hj
      rw [Nat.succ_mul] at h9
      omega
    rw [show 0 + j * sz + i = j * sz + i by omega, h.cellAt _ hlt, rows_at cells sz hsz ys j hj i hi]

section
variable (D : Nat → Prop) (w : World)
def StrIn (b o : Nat) (x : ByteArray) : Prop := D b ∧ x.size ≤ maxLen ∧ w.cell? ⟨b, o, none⟩ = some (.string x)
structure LitIn (b o : Nat) (x : LitE) : Prop where
  d : D b
  name : x.name.size ≤ maxLen
  c0 : w.cell? ⟨b, o, none⟩ = some (.string x.name)
  c1 : w.cell? ⟨b, o + 1, none⟩ = some (.bool x.neg)
structure VarOf (v : VarE) (S : Sl) : Prop where
  name : v.name.size ≤ maxLen
  type : I64 v.type
  line : I64 v.line
  col : I64 v.col
  fits : S.fits v.clock.length
  clock : SlAt 2 (LitIn D w) S.A v.clock
def VarIn (b o : Nat) (v : VarE) : Prop := D b ∧ ∃ S, VarCells w b o v S ∧ VarOf D w v S
structure EqOf (q : EqE) (S : Sl) (A : Option Addr) (cap : Nat) : Prop where
  line : I64 q.line
  col : I64 q.col
  fits : S.fits q.left.length
  left : SlAt 1 (StrIn D w) S.A q.left
  right : ExIn D w q.right A cap
def EqIn (b o : Nat) (q : EqE) : Prop := D b ∧ ∃ S A cap, EqCells w b o q S A cap ∧ EqOf D w q S A cap
structure NodeOf (n : NodeE) (S : NSl) : Prop where
  name : n.name.size ≤ maxLen
  line : I64 n.line
  col : I64 n.col
  fi : S.i.fits n.ins.length
  fo : S.o.fits n.outs.length
  fv : S.v.fits n.vars.length
  fe : S.e.fits n.eqs.length
  ins : SlAt 5 (VarIn D w) S.i.A n.ins
  outs : SlAt 5 (VarIn D w) S.o.A n.outs
  vars : SlAt 5 (VarIn D w) S.v.A n.vars
  eqs : SlAt 9 (EqIn D w) S.e.A n.eqs
def NodeIn (b o : Nat) (n : NodeE) : Prop := D b ∧ ∃ S, NodeCells w b o n S ∧ NodeOf D w n S
end

/-- what lies in blocks of a set lies as it lay -/
def Stay (D : Nat → Prop) (w w' : World) : Prop := ∀ b o v, D b → w.cell? ⟨b, o, none⟩ = some v → w'.cell? ⟨b, o, none⟩ = some v
theorem stay_grown {D : Nat → Prop} {w w' : World} {row : Option Nat} (hg : w.grownBy w' row) (hr : ∀ T, row = some T → ¬ D T) : Stay D w w' := fun _ _ _ hb h => cell_kept hg (fun e => hr _ e.symm hb) h
section
variable {D D' : Nat → Prop} {w w' : World}
theorem StrIn.keep (hk : Stay D w w') (hw : ∀ n, D n → D' n) {b o : Nat} {x : ByteArray} (h : StrIn D w b o x) : StrIn D' w' b o x := ⟨hw _ h.1, h.2.1, hk _ _ _ h.1 h.2.2⟩
theorem LitIn.keep (hk : Stay D w w') (hw : ∀ n, D n → D' n) {b o : Nat} {x : LitE} (h : LitIn D w b o x) : LitIn D' w' b o x := ⟨hw _ h.d, h.name, hk _ _ _ h.d h.c0, hk _ _ _ h.d h.c1⟩
theorem VarOf.keep (hk : Stay D w w') (hw : ∀ n, D n → D' n) {v : VarE} {S : Sl} (h : VarOf D w v S) : VarOf D' w' v S := ⟨h.name, h.type, h.line, h.col, h.fits, h.clock.imp fun _ _ _ => LitIn.keep hk hw⟩
theorem VarIn.keep (hk : Stay D w w') (hw : ∀ n, D n → D' n) {b o : Nat} {v : VarE} (h : VarIn D w b o v) : VarIn D' w' b o v := by
  obtain ⟨hb, S, hc, hi⟩ := h
  exact ⟨hw _ hb, S, ⟨hk _ _ _ hb hc.c0, hk _ _ _ hb hc.c1, hk _ _ _ hb hc.c2, hk _ _ _ hb hc.c3, hk _ _ _ hb hc.c4⟩, hi.keep hk hw⟩
theorem ExIn.stay (hk : Stay D w w') (hw : ∀ n, D n → D' n) : ∀ (e : Ex) (A : Option Addr) (cap : Nat), ExIn D w e A cap → ExIn D' w' e A cap := by
  intro e
  induction e with
  | junk => exact fun _ _ h => h
  | mk op name n k arg l c ih =>
    rintro A cap ⟨h0, h⟩
    refine ⟨h0, fun i hi => ?_⟩
    obtain ⟨b, o, A', cap', hA, hb, hc, hr⟩ := h i hi
    exact ⟨b, o, A', cap', hA, hw _ hb, ⟨hk _ _ _ hb hc.c0, hk _ _ _ hb hc.c1, hk _ _ _ hb hc.c2, hk _ _ _ hb hc.c3, hk _ _ _ hb hc.c4, hk _ _ _ hb hc.c5⟩, ih i _ _ hr⟩
theorem EqOf.keep (hk : Stay D w w') (hw : ∀ n, D n → D' n) {q : EqE} {S : Sl} {A : Option Addr} {cap : Nat} (h : EqOf D w q S A cap) : EqOf D' w' q S A cap :=
  ⟨h.line, h.col, h.fits, h.left.imp fun _ _ _ => StrIn.keep hk hw, ExIn.stay hk hw _ _ _ h.right⟩
theorem EqIn.keep (hk : Stay D w w') (hw : ∀ n, D n → D' n) {b o : Nat} {q : EqE} (h : EqIn D w b o q) : EqIn D' w' b o q := by
  obtain ⟨hb, S, A, cap, hc, hi⟩ := h
  exact ⟨hw _ hb, S, A, cap, ⟨hk _ _ _ hb hc.c0, hk _ _ _ hb hc.c1, hk _ _ _ hb hc.c2, hk _ _ _ hb hc.c3, hk _ _ _ hb hc.c4, hk _ _ _ hb hc.c5, hk _ _ _ hb hc.c6, hk _ _ _ hb hc.c7, hk _ _ _ hb hc.c8⟩, hi.keep hk hw⟩
theorem NodeOf.keep (hk : Stay D w w') (hw : ∀ n, D n → D' n) {n : NodeE} {S : NSl} (h : NodeOf D w n S) : NodeOf D' w' n S :=
  ⟨h.name, h.line, h.col, h.fi, h.fo, h.fv, h.fe, h.ins.imp fun _ _ _ => VarIn.keep hk hw, h.outs.imp fun _ _ _ => VarIn.keep hk hw, h.vars.imp fun _ _ _ => VarIn.keep hk hw, h.eqs.imp fun _ _ _ => EqIn.keep hk hw⟩
theorem NodeIn.keep (hk : Stay D w w') (hw : ∀ n, D n → D' n) {b o : Nat} {n : NodeE} (h : NodeIn D w b o n) : NodeIn D' w' b o n := by
  obtain ⟨hb, S, hc, hi⟩ := h
  exact ⟨hw _ hb, S, ⟨hk _ _ _ hb hc.c0, hk _ _ _ hb hc.c1, hk _ _ _ hb hc.c2, hk _ _ _ hb hc.c3, hk _ _ _ hb hc.c4, hk _ _ _ hb hc.c5, hk _ _ _ hb hc.c6⟩, hi.keep hk hw⟩

/-! as they lie below a block -/
variable {B : Nat}
theorem LitIn.at (hB : ∀ n, D n → n < B) {b o : Nat} {x : LitE} (h : LitIn D w b o x) : LitAt B w b o x := ⟨hB _ h.d, h.name, h.c0, h.c1⟩
theorem VarIn.at (hB : ∀ n, D n → n < B) {b o : Nat} {v : VarE} (h : VarIn D w b o v) : VarAt B w b o v := by
  obtain ⟨hb, S, hc, hi⟩ := h
  exact ⟨hB _ hb, S, hc, ⟨hi.name, hi.type, hi.line, hi.col, hi.fits, hi.clock.imp fun _ _ _ => LitIn.at hB⟩⟩
theorem EqIn.at (hB : ∀ n, D n → n < B) {b o : Nat} {q : EqE} (h : EqIn D w b o q) : EqAt B w b o q := by
  obtain ⟨hb, S, A, cap, hc, hi⟩ := h
  exact ⟨hB _ hb, S, A, cap, hc, ⟨hi.line, hi.col, hi.fits, hi.left.imp fun _ _ _ h => ⟨hB _ h.1, h.2⟩, ExIn.is hB _ _ _ hi.right⟩⟩
theorem NodeIn.at (hB : ∀ n, D n → n < B) {b o : Nat} {n : NodeE} (h : NodeIn D w b o n) : NodeAt B w b o n := by
  obtain ⟨hb, S, hc, hi⟩ := h
  exact ⟨hB _ hb, S, hc, ⟨hi.name, hi.line, hi.col, hi.fi, hi.fo, hi.fv, hi.fe, hi.ins.imp fun _ _ _ => VarIn.at hB, hi.outs.imp fun _ _ _ => VarIn.at hB, hi.vars.imp fun _ _ _ => VarIn.at hB, hi.eqs.imp fun _ _ _ => EqIn.at hB⟩⟩
end

/-! facts for walks -/
def LitE.cells (x : LitE) : List Value := [.string x.name, .bool x.neg]
/-- a variable and where its clock lies -/
structure LVar where
  v : VarE
  S : Sl
def LVar.cells (x : LVar) : List Value := [.string x.v.name, .int .i64 x.v.type, x.S.v x.v.clock.length, .int .i64 x.v.line, .int .i64 x.v.col]
structure LEq where
  q : EqE
  S : Sl
  A : Option Addr
  cap : Nat
def LEq.cells (x : LEq) : List Value := [x.S.v x.q.left.length, .int .i64 x.q.right.op, .string x.q.right.name, .int .i64 x.q.right.num, .slice x.A x.q.right.k x.cap, .int .i64 x.q.right.line, .int .i64 x.q.right.col, .int .i64 x.q.line, .int .i64 x.q.col]
structure LNode where
  n : NodeE
  S : NSl
def LNode.cells (x : LNode) : List Value := [.string x.n.name, x.S.i.v x.n.ins.length, x.S.o.v x.n.outs.length, x.S.v.v x.n.vars.length, x.S.e.v x.n.eqs.length, .int .i64 x.n.line, .int .i64 x.n.col]

/-- what the variables of a row have besides -/
def varsK (D : Nat → Prop) (xs : List LVar) : Kp := ⟨D, fun w => ∀ x ∈ xs, VarOf D w x.v x.S⟩
theorem varsK_ok (D : Nat → Prop) (xs : List LVar) : (varsK D xs).Ok := fun _ _ _ _ hq hg hr x hx => (hq x hx).keep (stay_grown hg hr) fun _ h => h
/-- a row of variables that is done -/
def vrowK (D : Nat → Prop) (S : Sl) (xs : List VarE) : Kp := ⟨D, fun w => S.fits xs.length ∧ SlAt 5 (VarIn D w) S.A xs⟩
theorem vrowK_ok (D : Nat → Prop) (S : Sl) (xs : List VarE) : (vrowK D S xs).Ok := fun _ _ _ _ hq hg hr => ⟨hq.1, hq.2.imp fun _ _ _ => VarIn.keep (stay_grown hg hr) fun _ h => h⟩
/-- names that lie side by side -/
def srowK (D : Nat → Prop) (S : Sl) (xs : List ByteArray) : Kp := ⟨D, fun w => S.fits xs.length ∧ SlAt 1 (StrIn D w) S.A xs⟩
theorem srowK_ok (D : Nat → Prop) (S : Sl) (xs : List ByteArray) : (srowK D S xs).Ok := fun _ _ _ _ hq hg hr => ⟨hq.1, hq.2.imp fun _ _ _ => StrIn.keep (stay_grown hg hr) fun _ h => h⟩
def eqK (D : Nat → Prop) (q : EqE) (S : Sl) (A : Option Addr) (cap : Nat) : Kp := ⟨D, fun w => EqOf D w q S A cap⟩
theorem eqK_ok (D : Nat → Prop) (q : EqE) (S : Sl) (A : Option Addr) (cap : Nat) : (eqK D q S A cap).Ok := fun _ _ _ _ hq hg hr => EqOf.keep (stay_grown hg hr) (fun _ h => h) hq
def eqsK (D : Nat → Prop) (xs : List LEq) : Kp := ⟨D, fun w => ∀ x ∈ xs, EqOf D w x.q x.S x.A x.cap⟩
theorem eqsK_ok (D : Nat → Prop) (xs : List LEq) : (eqsK D xs).Ok := fun _ _ _ _ hq hg hr x hx => (hq x hx).keep (stay_grown hg hr) fun _ h => h
def erowK (D : Nat → Prop) (S : Sl) (xs : List EqE) : Kp := ⟨D, fun w => S.fits xs.length ∧ SlAt 9 (EqIn D w) S.A xs⟩
theorem erowK_ok (D : Nat → Prop) (S : Sl) (xs : List EqE) : (erowK D S xs).Ok := fun _ _ _ _ hq hg hr => ⟨hq.1, hq.2.imp fun _ _ _ => EqIn.keep (stay_grown hg hr) fun _ h => h⟩
def nodeK (D : Nat → Prop) (n : NodeE) (S : NSl) : Kp := ⟨D, fun w => NodeOf D w n S⟩
theorem nodeK_ok (D : Nat → Prop) (n : NodeE) (S : NSl) : (nodeK D n S).Ok := fun _ _ _ _ hq hg hr => NodeOf.keep (stay_grown hg hr) (fun _ h => h) hq
def nodesK (D : Nat → Prop) (xs : List LNode) : Kp := ⟨D, fun w => ∀ x ∈ xs, NodeOf D w x.n x.S⟩
theorem nodesK_ok (D : Nat → Prop) (xs : List LNode) : (nodesK D xs).Ok := fun _ _ _ _ hq hg hr x hx => (hq x hx).keep (stay_grown hg hr) fun _ h => h
def nrowK (D : Nat → Prop) (S : Sl) (xs : List NodeE) : Kp := ⟨D, fun w => S.fits xs.length ∧ SlAt 7 (NodeIn D w) S.A xs⟩
theorem nrowK_ok (D : Nat → Prop) (S : Sl) (xs : List NodeE) : (nrowK D S xs).Ok := fun _ _ _ _ hq hg hr => ⟨hq.1, hq.2.imp fun _ _ _ => NodeIn.keep (stay_grown hg hr) fun _ h => h⟩

section
variable {P : Option Nat} {S : World → Prop} {w0 w w' : World} {ks : List Kp} {a b c d x : Kp}
/-- two facts become one -/
theorem Fr.fuse (h : Fr P S w0 w (a :: b :: ks)) (hin : ∀ n, x.In n → a.In n ∨ b.In n) (hx : x.Q w) (hok : x.Ok) : Fr P S w0 w (x :: ks) :=
  ⟨h.st, h.ss, h.gr, h.lt, fun y hy => by
    rcases List.mem_cons.1 hy with rfl | hy
    · exact ⟨fun n hn => (hin n hn).elim (h.head.lo n) (h.tail.head.lo n), fun n hn => (hin n hn).elim (h.head.hi n) (h.tail.head.hi n), hx, hok⟩
    · exact h.tail.tail.k y hy, List.pairwise_cons.2 ⟨fun y hy n hn => (hin n hn).elim ((List.pairwise_cons.1 h.ap).1 y (List.mem_cons_of_mem _ hy) n) ((List.pairwise_cons.1 h.tail.ap).1 y hy n), h.tail.tail.ap⟩⟩
/-- one becomes another of the same blocks -/
theorem Fr.turn1 (h : Fr P S w0 w (a :: ks)) (hin : ∀ n, x.In n → a.In n) (hx : x.Q w) (hok : x.Ok) : Fr P S w0 w (x :: ks) :=
  ⟨h.st, h.ss, h.gr, h.lt, fun y hy => by
    rcases List.mem_cons.1 hy with rfl | hy
    · exact ⟨fun n hn => h.head.lo n (hin n hn), fun n hn => h.head.hi n (hin n hn), hx, hok⟩
    · exact h.tail.k y hy, List.pairwise_cons.2 ⟨fun y hy n hn => (List.pairwise_cons.1 h.ap).1 y hy n (hin n hn), h.tail.ap⟩⟩
/-- a fact that speaks of no block -/
theorem Fr.free (h : Fr P S w0 w ks) (hin : ∀ n, ¬ x.In n) (hx : x.Q w) (hok : x.Ok) : Fr P S w0 w (x :: ks) :=
  ⟨h.st, h.ss, h.gr, h.lt, fun y hy => by
    rcases List.mem_cons.1 hy with rfl | hy
    · exact ⟨fun n hn => absurd hn (hin n), fun n hn => absurd hn (hin n), hx, hok⟩
    · exact h.k y hy, List.pairwise_cons.2 ⟨fun y hy n hn => absurd hn (hin n), h.ap⟩⟩
end
/-- a row that is not empty has a block -/
theorem row_some {t : TypeId} {sz b0 n c : Nat} {w : World} {A : Option Addr} {xs : List Value} (h : w.ownsRow b0 t sz (.slice A n c) n xs) (hn : 0 < n) : ∃ G, A = some ⟨G, 0, none⟩ ∧ ∃ cur, w.heap[G]? = some (.cells cur t (0, 0)) := by
  rcases h.2 with ⟨_, h2⟩ | ⟨g, cap, cur, h1, hb, h3, _⟩
  · omega
  · injection h1 with hA _ hc
    exact ⟨g, hA, cur, h3⟩
theorem row_set {t : TypeId} {sz b0 n c G : Nat} {w : World} {xs : List Value} (h : w.ownsRow b0 t sz (.slice (some ⟨G, 0, none⟩) n c) n xs) (k : Nat) (v : Value) : (w.setCell ⟨G, k, none⟩ v).ownsRow b0 t sz (.slice (some ⟨G, 0, none⟩) n c) n (xs.set k v) := by
  refine ⟨by rw [List.length_set]; exact h.1, ?_⟩
  rcases h.2 with ⟨h1, _⟩ | ⟨g, cap, cur, h1, hb, h3, h4, h5, h6, h7⟩
  · cases h1
  · injection h1 with hA _ hc
    injection hA with hA
    injection hA with hA
    subst hA hc
    refine .inr ⟨G, c, cur.setIfInBounds k v, rfl, hb, blk_set h3 k v, h4, h5, by simpa using h6, ?_⟩
    rw [← h7, Array.toList_setIfInBounds, List.take_set]
theorem Fr.setRow {P : Option Nat} {S : World → Prop} {w0 w : World} {ks : List Kp} {t : TypeId} {sz n c G : Nat} {xs : List Value} (h : Fr P S w0 w (rowK w0 t sz (.slice (some ⟨G, 0, none⟩) n c) n xs :: ks)) (k : Nat) (v : Value) :
    Fr P S w0 (w.setCell ⟨G, k, none⟩ v) (rowK w0 t sz (.slice (some ⟨G, 0, none⟩) n c) n (xs.set k v) :: ks) := by
  have h0 := h.head
  have h1 := List.pairwise_cons.1 h.ap
  have hg := grown_set w G k v
  have h3 : Fr P S w0 (w.setCell ⟨G, k, none⟩ v) ks := h.tail.step hg (fun U hU => by injection hU with hU; subst hU; exact h0.lo _ rfl) (fun y hy U hU => by injection hU with hU; subst hU; exact h1.1 y hy _ rfl)
  exact ⟨h3.st, h3.ss, h3.gr, h3.lt, fun y hy => by
    rcases List.mem_cons.1 hy with rfl | hy
    · exact ⟨h0.lo, fun n hn => Nat.lt_of_lt_of_le (h0.hi n hn) hg.size, row_set h0.q k v, rowK_ok _ _ _ _ _ _⟩
    · exact h3.k y hy, List.pairwise_cons.2 ⟨h1.1, h3.ap⟩⟩
end Go.Proofs.YtnlikhjmmnaknaaGreatDoor
/-
  The walks of the parser's kind and clock (printed by gen_p4.py).
-/
namespace Go.Proofs.YtnlikhjmmnaknaaGreatDoor
open Go.RowKit

/-- how long a slice is -/
def lenOf : Value → Nat
  | .slice _ n _ => n
  | _ => 0
theorem Lit.info : (Tryz.prog.info? 115).map (fun i => (i.zero, i.size, i.bytes)) = some (some (.agg #[.string ⟨#[]⟩, .bool false]), 2, 24) := by kernel_rfl
theorem info_Lit : ∃ i z, Tryz.prog.info? 115 = some i ∧ i.zero = some z ∧ i.size = 2 ∧ i.bytes = 24 ∧ z.cells.size = 2 := by
  have hi := Lit.info
  cases h : Tryz.prog.info? 115 with
  | none => rw [h] at hi; cases hi
  | some i0 => rw [h] at hi; simp only [Option.map_some, Option.some.injEq, Prod.mk.injEq] at hi; exact ⟨i0, _, rfl, hi.1, hi.2.1, hi.2.2, rfl⟩
theorem lit_one {b : ByteArray} {x : Bool} : ∀ u ∈ (#[.string b, .bool x] : Array Value).toList, u.oneCell' = true := by
  intro u hu
  simp only [List.mem_cons, List.not_mem_nil, or_false] at hu
  rcases hu with rfl | rfl <;> rfl

set_option maxHeartbeats 4000000 in
set_option maxRecDepth 100000 in
theorem kind_m {s : ByteArray} {l : List Tk} {P g : Nat} (hE : Ended l) {w : World} {m : Md} (h : Sm s l P g w m) :
    Calls Tryz.prog 108 #[.pointer (some ⟨P, 0, none⟩)] w fun r w' => ∃ k, r = .returned (.int .i64 k) ∧ I64 k ∧ Sm s l P g w' (kindP s l m).2 ∧ w.grownBy w' (some P) ∧ ∀ j, (kindP s l m).2 = .ok j → k = (kindP s l m).1 := by
  by_cases h0 : m.is l (⟨#[105, 110, 116]⟩ : ByteArray).data.toList = true
  · rw [show kindP s l m = (1, m.take l wInt) from if_pos h0]
    have f_1 := PF.start h
    go_enter Tryz.func108, Tryz.ntmps108
    go_wp2_with fail
    refine (take_m hE f_1.sm ⟨#[105, 110, 116]⟩).mono ?_
    rintro r W2 ⟨rfl, t_2, q_2⟩
    have f_2 := f_1.turn t_2 q_2
    clear f_1 t_2 q_2
    rw [h0]
    go_wp2_with fail
    go_ret
    exact ⟨1, rfl, by unfold I64; omega, f_2.sm, f_2.gr, fun _ _ => rfl⟩
  · rw [show kindP s l m = (2, m.want s l wBool) from if_neg h0]
    have h0 := eq_false_of_ne_true h0
    have f_1 := PF.start h
    by_cases h1 : m.is l (⟨#[98, 111, 111, 108]⟩ : ByteArray).data.toList = true
    · rw [show m.want s l wBool = m.take l wBool from want_take h1]
      go_enter Tryz.func108, Tryz.ntmps108
      go_wp2_with fail
      refine (take_no hE f_1.sm h0).mono ?_
      rintro r W2 ⟨rfl, t_2, q_2⟩
      have f_2 := f_1.turn t_2 q_2
      clear f_1 t_2 q_2
      go_wp2_with fail
      refine (take_m hE f_2.sm ⟨#[98, 111, 111, 108]⟩).mono ?_
      rintro r W3 ⟨rfl, t_3, q_3⟩
      have f_3 := f_2.turn t_3 q_3
      clear f_2 t_3 q_3
      rw [h1]
      go_wp2_with fail
      go_ret
      exact ⟨2, rfl, by unfold I64; omega, f_3.sm, f_3.gr, fun _ _ => rfl⟩
    · have h1 := eq_false_of_ne_true h1
      rw [show m.want s l wBool = m.err s l 21 from want_err h1]
      go_enter Tryz.func108, Tryz.ntmps108
      go_wp2_with fail
      refine (take_no hE f_1.sm h0).mono ?_
      rintro r W2 ⟨rfl, t_2, q_2⟩
      have f_2 := f_1.turn t_2 q_2
      clear f_1 t_2 q_2
      go_wp2_with fail
      refine (take_no hE f_2.sm h1).mono ?_
      rintro r W3 ⟨rfl, t_3, q_3⟩
      have f_3 := f_2.turn t_3 q_3
      clear f_2 t_3 q_3
      go_wp2_with fail
      refine (now_m f_3.sm).mono ?_
      rintro r W4 ⟨i, hlt_i, hj_i, rfl, b_4⟩
      have f_4 := f_3.below b_4
      clear f_3 b_4
      have hfd := field_at (.int .i64 (tkN l i).kind) (.string (tkN l i).text) (.int .i64 (tkN l i).num) (lnN s l i) (clN s l i)
      go_wp2_with fail
      clear hfd
      refine (fail_m f_4.sm (e := 21) (by decide) (lnN s l i) (clN s l i)).mono ?_
      rintro r W5 ⟨rfl, t_5, q_5⟩
      have f_5 := f_4.turn t_5 q_5
      clear f_4 t_5 q_5
      rw [fail_err hj_i] at f_5
      go_wp2_with fail
      go_ret
      exact ⟨0, rfl, by unfold I64; omega, f_5.sm, f_5.gr, fun j hj => absurd hj (fun h => err_ok h)⟩

set_option maxHeartbeats 4000000 in
set_option maxRecDepth 100000 in
theorem clock_m {s : ByteArray} {l : List Tk} {P g : Nat} (hE : Ended l) (hK : TkOk s l) {w0 w : World} {m : Md} {ks : List Kp} (f : PF s l P g w0 m w ks) :
    Calls Tryz.prog 109 #[.pointer (some ⟨P, 0, none⟩)] w fun r w' => ∃ (A : Option Addr) (n c : Nat) (xs : List LitE) (m' : Md), r = .returned (.slice A n c) ∧ xs.length = n ∧ PF s l P g w0 m' w' (rowK w0 115 2 (.slice A n c) n (xs.flatMap LitE.cells) :: ks) ∧ m' = (litsP s l 4 [] m).2 ∧ (∀ j, m' = .ok j → xs = (litsP s l 4 [] m).1) ∧ (∀ x ∈ xs, x.name.size ≤ maxLen) ∧ n ≤ 5 ∧ (n = 0 → A = none ∧ c = 0) := by
  obtain ⟨il, zl, hiil, hizl, hisl, hibl, hicl⟩ := info_Lit
  go_enter Tryz.func109, Tryz.ntmps109
  go_wp2_with fail
  have fs := f.nilRow 115 2
  go_loopw [3] (fun v wr => ∃ (A : Option Addr) (n c : Nat) (xs : List LitE) (m1 : Md), v = .slice A n c ∧ xs.length = n ∧ n ≤ 4 ∧ PF s l P g w0 m1 wr (rowK w0 115 2 (.slice A n c) n (xs.flatMap LitE.cells) :: ks) ∧ Hid (litsP s l (4 - n) xs m1 = litsP s l 4 [] m) ∧ (∀ x ∈ xs, x.name.size ≤ maxLen) ∧ (n = 0 → A = none ∧ c = 0)) (fun v _ => 5 - lenOf v)
  case atStart => exact ⟨none, 0, 0, [], m, rfl, rfl, by omega, fs, rfl, by simp, fun _ => ⟨rfl, rfl⟩⟩
  case round =>
    clear fs f
    obtain ⟨A, n, c, xs, m1, rfl, hxn, hn4, f_0, hq, hnm, hnil⟩ := hrel
    by_cases h0 : m1.is l (⟨#[119, 104, 101, 110]⟩ : ByteArray).data.toList = true
    · obtain ⟨i, rfl, hi⟩ := is_yes h0
      by_cases h4 : n = 4
      · subst h4
        have hlit : litsP s l 4 [] m = (xs, (Md.ok i).err s l 3) := by rw [← hq.out]; exact if_pos h0
        clear hq
        go_wp2_with fail
        refine (is_val f_0.sm h0).mono ?_
        rintro r W1 ⟨rfl, b_1⟩
        have f_1 := f_0.below b_1
        clear f_0 b_1
        go_wp2_with fail
        refine (now_m f_1.sm).mono ?_
        rintro r W2 ⟨j, hlt_j, hj_j, rfl, b_2⟩
        have f_2 := f_1.below b_2
        clear f_1 b_2
        obtain rfl : j = i := hj_j i rfl
        have hfd := field_at (.int .i64 (tkN l j).kind) (.string (tkN l j).text) (.int .i64 (tkN l j).num) (lnN s l j) (clN s l j)
        go_wp2_with fail
        clear hfd
        refine (fail_m f_2.sm (e := 3) (by decide) (lnN s l j) (clN s l j)).mono ?_
        rintro r W3 ⟨rfl, t_3, q_3⟩
        have f_3 := f_2.turn t_3 q_3
        clear f_2 t_3 q_3
        go_wp2_with fail
        go_ret
        exact ⟨none, 0, 0, [], (Md.ok j).err s l 3, rfl, rfl, f_3.tail.nilRow _ _, by rw [hlit], fun j hj => absurd hj (fun h => err_ok h), by simp, by omega, fun _ => ⟨rfl, rfl⟩⟩
      · have hlit : litsP s l 4 [] m = litsP s l (4 - (n + 1)) (xs ++ [⟨(((Md.ok i).take l wWhen).take l wNot).text l, ((Md.ok i).take l wWhen).is l wNot⟩]) ((((Md.ok i).take l wWhen).take l wNot).name s l false) := by
          rw [← hq.out, show 4 - n = (4 - (n + 1)) + 1 by omega]
          exact if_pos h0
        have hlH := hid hlit
        clear hq hlit
        rw [show (Md.ok i).take l wWhen = .ok (i + 1) from if_pos hi] at hlH
        generalize hi1 : i + 1 = i1 at *
        have h4a : (n : Int) ≠ 4 := by omega
        have h4b : ((n : Int) == 4) = false := by simpa using h4a
        go_wp2_with fail
        refine (is_val f_0.sm h0).mono ?_
        rintro r W1 ⟨rfl, b_1⟩
        have f_1 := f_0.below b_1
        clear f_0 b_1
        go_wp2_with fail
        clear h4a h4b
        refine (take_yes hE f_1.sm hi).mono ?_
        rintro r W2 ⟨rfl, t_2, q_2⟩
        have f_2 := f_1.turn t_2 q_2
        clear f_1 t_2 q_2
        rw [hi1] at f_2
        go_wp2_with fail
        refine (take_m hE f_2.sm ⟨#[110, 111, 116]⟩).mono ?_
        rintro r W3 ⟨rfl, t_3, q_3⟩
        have f_3 := f_2.turn t_3 q_3
        clear f_2 t_3 q_3
        obtain ⟨i2, hi2⟩ := take_is l i1 (⟨#[110, 111, 116]⟩ : ByteArray).data.toList
        rw [show (Md.ok i1).take l wNot = .ok i2 from hi2] at hlH
        rw [hi2] at f_3
        generalize hng : (Md.ok i1).is l (⟨#[110, 111, 116]⟩ : ByteArray).data.toList = ng at *
        rw [show (Md.ok i1).is l wNot = ng from hng] at hlH
        clear hi2 hng
        go_wp2_with fail
        refine (name_m hE f_3.sm 0 1).mono ?_
        rintro r W4 ⟨k, hlt_k, hj_k, rfl, t_4, q_4⟩
        have f_4 := f_3.turn t_4 q_4
        clear f_3 t_4 q_4
        obtain rfl : k = i2 := hj_k i2 rfl
        have hfd := field_text (tkN l k).kind (tkN l k).text (tkN l k).num (lnN s l k) (clN s l k)
        go_wp2_with (at_builtin; refine Held.stop ?_)
        clear hfd
        refine Held.go ?_
        have f_5 := f_4.alloc (.cells #[.string (tkN l k).text, .bool ng] 115)
        have z_5 := alloc_size W4 (.cells #[.string (tkN l k).text, .bool ng] 115)
        clear f_4
        generalize W4.heap.size = B at *
        generalize W4.alloc (.cells #[.string (tkN l k).text, .bool ng] 115) = W5 at *
        clear z_5
        refine Fr.wpApp (f_5.rot1.rot1) rfl _ _ _ rfl Tryz.underlying101 hiil hizl hisl hibl hicl (by decide) rfl rfl rfl lit_one (by decide) (by unfold maxLen; omega) (by omega) ?_
        intro GA capA W6 f_6
        clear f_5
        have fin := f_6.rot1.tail
        have hr : xs.flatMap LitE.cells ++ (#[.string (tkN l k).text, .bool ng] : Array Value).toList = (xs ++ [LitE.mk (tkN l k).text ng]).flatMap LitE.cells := by
          simp [LitE.cells]
        rw [hr] at fin
        clear hr f_6
        go_wp2_with fail
        go_roundw
        case rel => exact ⟨_, n + 1, _, xs ++ [LitE.mk (tkN l k).text ng], _, rfl, by simp [hxn], by omega, fin, hid hlH.out.symm, fun x hx => by
          rcases List.mem_append.1 hx with hx | hx
          · exact hnm x hx
          · obtain rfl : x = _ := by simpa using hx
            exact (hK k).2.2.1, fun h => absurd h (by omega)⟩
        case measure => simp [lenOf]; omega
    · have h0 := eq_false_of_ne_true h0
      have hlit : litsP s l 4 [] m = (xs, m1) := by
        rw [← hq.out]
        cases hk : 4 - n <;> exact if_neg (by rw [show m1.is l wWhen = false from h0]; simp)
      clear hq
      go_wp2_with fail
      refine (is_val f_0.sm h0).mono ?_
      rintro r W1 ⟨rfl, b_1⟩
      have f_1 := f_0.below b_1
      clear f_0 b_1
      go_wp2_with fail
      go_ret
      exact ⟨A, n, c, xs, m1, rfl, hxn, f_1, by rw [hlit], fun j hj => by rw [hlit], hnm, by omega, hnil⟩
end Go.Proofs.YtnlikhjmmnaknaaGreatDoor
/-
  What the walk of a group needs: variables that are pushed, or set in their row.
-/
namespace Go.Proofs.YtnlikhjmmnaknaaGreatDoor
open Go.RowKit

theorem Var.info : (Tryz.prog.info? 103).map (fun i => (i.zero, i.size, i.bytes)) = some (some (.agg #[.string ⟨#[]⟩, .int .i64 0, .slice none 0 0, .int .i64 0, .int .i64 0]), 5, 64) := by kernel_rfl
theorem info_Var : ∃ i z, Tryz.prog.info? 103 = some i ∧ i.zero = some z ∧ i.size = 5 ∧ i.bytes = 64 ∧ z.cells.size = 5 := by
  have hi := Var.info
  cases h : Tryz.prog.info? 103 with
  | none => rw [h] at hi; cases hi
  | some i0 => rw [h] at hi; simp only [Option.map_some, Option.some.injEq, Prod.mk.injEq] at hi; exact ⟨i0, _, rfl, hi.1, hi.2.1, hi.2.2, rfl⟩
theorem var_one {a : ByteArray} {b d e : Int} {A : Option Addr} {k n : Nat} : ∀ u ∈ (#[.string a, .int .i64 b, .slice A k n, .int .i64 d, .int .i64 e] : Array Value).toList, u.oneCell' = true := by
  intro u hu
  simp only [List.mem_cons, List.not_mem_nil, or_false] at hu
  rcases hu with rfl | rfl | rfl | rfl | rfl <;> rfl
theorem lits_one (xs : List LitE) : ∀ u ∈ xs.flatMap LitE.cells, u.oneCell' = true := by
  intro u hu
  obtain ⟨y, _, hy⟩ := List.mem_flatMap.1 hu
  simp only [LitE.cells, List.mem_cons, List.not_mem_nil, or_false] at hy
  rcases hy with rfl | rfl <;> rfl
theorem lits_len_cells (xs : List LitE) : (xs.flatMap LitE.cells).length = xs.length * 2 := rows_len LitE.cells 2 (fun _ => rfl) xs

section
variable {s : ByteArray} {l : List Tk} {m : Md}
theorem kind_bad (h : m.isBad = true) : (kindP s l m).2 = m := by
  unfold kindP
  rw [if_neg (by rw [bad_is h]; simp)]
  exact (bad_keep h).2.1 _
theorem lits_bad (h : m.isBad = true) (k : Nat) (xs : List LitE) : litsP s l k xs m = (xs, m) := by
  unfold litsP
  rw [if_neg (by rw [bad_is h]; simp)]
theorem names_bad {most k : Nat} {ys : List VarE} (h : (m.name s l (decide (most ≤ ys.length))).isBad = true) : namesP s l most (k + 1) ys m = (ys ++ [⟨m.text l, 0, [], m.ln s l, m.cl s l⟩], m.name s l (decide (most ≤ ys.length))) :=
  if_neg (by rw [bad_is h]; simp)
theorem group_bad {most : Nat} {xs : List VarE} (h : (namesP s l most (most + 1 - xs.length) xs m).2.isBad = true) : (groupP s l most xs m).2 = (namesP s l most (most + 1 - xs.length) xs m).2 := by
  unfold groupP
  dsimp only
  generalize namesP s l most (most + 1 - xs.length) xs m = q at *
  rw [(bad_keep h).2.1, kind_bad h, lits_bad h]
end

/-- a variable that was just named -/
theorem vars_push {s : ByteArray} {l : List Tk} {D : Nat → Prop} {w : World} {ys : List LVar} {k : Nat} (h : (varsK D ys).Q w) (hK : I64 (lnN s l k) ∧ I64 (clN s l k) ∧ (tkN l k).text.size ≤ maxLen ∧ I64 (tkN l k).num) : (varsK D (ys ++ [⟨⟨(tkN l k).text, 0, [], lnN s l k, clN s l k⟩, ⟨none, 0⟩⟩])).Q w := by
  intro x hx
  rcases List.mem_append.1 hx with hx | hx
  · exact h x hx
  · have : x = _ := List.mem_singleton.1 hx
    subst this
    exact ⟨hK.2.2.1, (by show I64 0; unfold I64; omega), hK.1, hK.2.1, ⟨Nat.le_refl _, Nat.zero_le _⟩, fun j hj => absurd hj (by simp)⟩
/-- a variable's type and clock are set -/
theorem vars_set {D D' : Nat → Prop} {w : World} {us : List LVar} {j : Nat} {hj : j < us.length} {kd : Int} {cs : List LitE} {S : Sl} (h : (varsK D us).Q w) (hD : ∀ n, D n → D' n) (hk : I64 kd) (hf : S.fits cs.length) (hc : SlAt 2 (LitIn D' w) S.A cs) : (varsK D' (us.set j ⟨{ (us[j]'hj).v with type := kd, clock := cs }, S⟩)).Q w := by
  intro x hx
  have hst : Stay D w w := fun _ _ _ _ h => h
  rcases List.mem_or_eq_of_mem_set hx with hx | rfl
  · exact (h x hx).keep hst hD
  · have h1 := h _ (List.getElem_mem hj)
    exact ⟨h1.name, hk, h1.line, h1.col, hf, hc⟩
theorem flat_upd {α : Type} (cells : α → List Value) (sz : Nat) (hsz : ∀ y, (cells y).length = sz) (ys : List α) : ∀ (j : Nat) (h : j < ys.length) (k : Nat) (v : Value) (y : α), k < sz → cells y = (cells ys[j]).set k v → (ys.flatMap cells).set (j * sz + k) v = (ys.set j y).flatMap cells := by
  induction ys with
  | nil => intro j h; exact absurd h (by simp)
  | cons y0 ys ih =>
    intro j h k v y hk hy
    cases j with
    | zero =>
      rw [List.flatMap_cons, List.set_append, if_pos (by rw [hsz]; omega), List.set_cons_zero, List.flatMap_cons, Nat.zero_mul, Nat.zero_add]
      rw [hy]; rfl
    | succ j =>
      rw [List.flatMap_cons, List.set_append, if_neg (by rw [hsz, Nat.succ_mul]; omega), List.set_cons_succ, List.flatMap_cons, hsz, show (j + 1) * sz + k - sz = j * sz + k by rw [Nat.succ_mul]; omega, ih j (by simpa using h) k v y hk (by simpa using hy)]
section
variable {b0 n c G j : Nat} {w : World} {us : List LVar}
theorem vrow_at {A : Option Addr} (h : w.ownsRow b0 103 5 (.slice A n c) n (us.flatMap LVar.cells)) (hun : us.length = n) (hlt : j < n) :
    ∃ G, A = some ⟨G, 0, none⟩ ∧ w.cell? ⟨G, j * 5 + 1, none⟩ = some (.int .i64 (us[j]'(by omega)).v.type) ∧ w.cell? ⟨G, j * 5 + 2, none⟩ = some ((us[j]'(by omega)).S.v (us[j]'(by omega)).v.clock.length) ∧ ∀ k, w.frozen? ⟨G, k, none⟩ = false := by
  obtain ⟨G, rfl, cur, hG⟩ := row_some h (by omega)
  refine ⟨G, rfl, ?_, ?_, fun k => frozen_none hG⟩
  · rw [h.cellAt _ (by omega), rows_at LVar.cells 5 (fun _ => rfl) us j (by omega) 1 (by omega)]; rfl
  · rw [h.cellAt _ (by omega), rows_at LVar.cells 5 (fun _ => rfl) us j (by omega) 2 (by omega)]; rfl
theorem vrow_in (h : w.ownsRow b0 103 5 (.slice (some ⟨G, 0, none⟩) n c) n (us.flatMap LVar.cells)) (hun : us.length = n) (hlt : j < n) :
    w.cell? ⟨G, j * 5 + 1, none⟩ = some (.int .i64 (us[j]'(by omega)).v.type) ∧ w.cell? ⟨G, j * 5 + 2, none⟩ = some (.slice (us[j]'(by omega)).S.A (us[j]'(by omega)).v.clock.length (us[j]'(by omega)).S.cap) ∧ w.frozen? ⟨G, j * 5 + 1, none⟩ = false ∧ w.frozen? ⟨G, j * 5 + 2, none⟩ = false := by
  obtain ⟨G', hG, h1, h2, h3⟩ := vrow_at h hun hlt
  injection hG with hG
  injection hG with hG
  subst hG
  exact ⟨h1, h2, h3 _, h3 _⟩
theorem vrow_set (hlt : j < n) (hun : us.length = n) (kd : Int) (cs : List LitE) (A : Option Addr) (cap m : Nat) (hm : cs.length = m) : ((us.flatMap LVar.cells).set (j * 5 + 1) (.int .i64 kd)).set (j * 5 + 2) (.slice A m cap) = (us.set j ⟨{ (us[j]'(by omega)).v with type := kd, clock := cs }, ⟨A, cap⟩⟩).flatMap LVar.cells := by
  subst hm
  rw [flat_upd LVar.cells 5 (fun _ => rfl) us j (by omega) 1 (.int .i64 kd) ⟨{ (us[j]'(by omega)).v with type := kd }, (us[j]'(by omega)).S⟩ (by omega) rfl,
    flat_upd LVar.cells 5 (fun _ => rfl) _ j (by rw [List.length_set]; omega) 2 (.slice A cs.length cap) ⟨{ (us[j]'(by omega)).v with type := kd, clock := cs }, ⟨A, cap⟩⟩ (by omega) (by rw [List.getElem_set_self]; rfl), List.set_set]
end
/-- the variables from one on and up to another have a type and a clock -/
def SetTo (n j : Nat) (zs us : List LVar) (k : Int) (c : List LitE) : Prop := ∀ x, (us.map (·.v))[x]? = ((zs.map (·.v))[x]?).map fun v => if n ≤ x ∧ x < j then { v with type := k, clock := c } else v
theorem SetTo.start (n : Nat) (zs : List LVar) (k : Int) (c : List LitE) : SetTo n n zs zs k c := fun x => by
  cases (zs.map (·.v))[x]? with
  | none => rfl
  | some v => rw [Option.map_some, if_neg (by omega)]
theorem SetTo.step {n j n2 : Nat} {zs us : List LVar} {k : Int} {c : List LitE} {S : Sl} (h : SetTo n j zs us k c) (hun : us.length = n2) (hlt : j < n2) (hj : n ≤ j) : SetTo n (j + 1) zs (us.set j ⟨{ (us[j]'(by omega)).v with type := k, clock := c }, S⟩) k c := fun x => by
  have hx := h x
  rw [List.getElem?_map, List.getElem?_map] at hx ⊢
  by_cases hxj : x = j
  · subst hxj
    rw [List.getElem?_set_self (by omega), Option.map_some]
    rw [List.getElem?_eq_getElem (by omega), Option.map_some] at hx
    cases hz : zs[x]? with
    | none => rw [hz] at hx; cases hx
    | some z =>
      rw [hz, Option.map_some, Option.map_some, if_neg (by omega), Option.some.injEq] at hx
      rw [Option.map_some, Option.map_some, if_pos (by omega), hx]
  · rw [List.getElem?_set_ne (by omega), hx]
    cases zs[x]? with
    | none => rfl
    | some z =>
      rw [Option.map_some, Option.map_some, Option.map_some]
      by_cases hc : n ≤ x ∧ x < j
      · rw [if_pos hc, if_pos (by omega)]
      · rw [if_neg hc, if_neg (by omega)]
theorem setVars_at (n : Nat) (ys : List VarE) (k : Int) (c : List LitE) (x : Nat) : (setVars n ys k c)[x]? = ys[x]?.map fun v => if n ≤ x then { v with type := k, clock := c } else v := by
  unfold setVars
  rw [List.getElem?_append]
  split
  · rename_i h
    rw [List.length_take] at h
    rw [List.getElem?_take_of_lt (by omega)]
    cases ys[x]? with
    | none => rfl
    | some v => rw [Option.map_some, if_neg (by omega)]
  · rename_i h
    rw [List.length_take] at h ⊢
    rw [List.getElem?_map, List.getElem?_drop]
    by_cases hn : n ≤ ys.length
    · rw [show n + (x - min n ys.length) = x by omega]
      cases ys[x]? with
      | none => rfl
      | some v => rw [Option.map_some, Option.map_some, if_pos (by omega)]
    · rw [List.getElem?_eq_none (by omega), List.getElem?_eq_none (by omega)]; rfl
theorem SetTo.all {n j : Nat} {zs us : List LVar} {k : Int} {c : List LitE} (h : SetTo n j zs us k c) (hz : zs.length = j) (hu : us.length = j) : us.map (·.v) = setVars n (zs.map (·.v)) k c := by
  apply List.ext_getElem?
  intro x
  rw [h x, setVars_at]
  by_cases hx : x < j
  · cases (zs.map (·.v))[x]? with
    | none => rfl
    | some v =>
      rw [Option.map_some, Option.map_some]
      by_cases hn : n ≤ x
      · rw [if_pos ⟨hn, hx⟩, if_pos hn]
      · rw [if_neg (by omega), if_neg hn]
  · rw [List.getElem?_eq_none (by simp; omega)]; rfl
/-- a block becomes a row -/
theorem Fr.rowOf {P : Option Nat} {S : World → Prop} {w0 w : World} {ks : List Kp} {T sz n : Nat} {cs : Array Value} {t : TypeId} (h : Fr P S w0 w (blkK T (.cells cs t (0, 0)) :: ks)) (hcs : cs.size = n * sz) (hn : n ≤ maxLen) : Fr P S w0 w (rowK w0 t sz (.slice (some ⟨T, 0, none⟩) n n) n cs.toList :: ks) :=
  h.turn1 (x := rowK w0 t sz (.slice (some ⟨T, 0, none⟩) n n) n cs.toList) (fun g hg => by injection hg with hg; exact hg.symm)
    ⟨by simpa using hcs, .inr ⟨T, n, cs, rfl, h.head.lo T rfl, h.head.q, Nat.le_refl _, hn, hcs, List.take_of_length_le (by rw [Array.length_toList, hcs]; exact Nat.le_refl _)⟩⟩ (rowK_ok _ _ _ _ _ _)
end Go.Proofs.YtnlikhjmmnaknaaGreatDoor
/-
  The walk of the parser's group (printed by gen_p4.py).
-/
namespace Go.Proofs.YtnlikhjmmnaknaaGreatDoor
open Go.RowKit


set_option maxHeartbeats 4000000 in
set_option maxRecDepth 100000 in
theorem group_m {s : ByteArray} {l : List Tk} {P g : Nat} (hE : Ended l) (hK : TkOk s l) (most : Nat) (hmo : most ≤ 40) {w0 w : World} {m : Md} {ks : List Kp} {A : Option Addr} {n c : Nat} {xs : List LVar} {D : Nat → Prop} (hxn : xs.length = n) (hn : n ≤ most) (f : PF s l P g w0 m w (rowK w0 103 5 (.slice A n c) n (xs.flatMap LVar.cells) :: varsK D xs :: ks)) :
    Calls Tryz.prog 82 #[.pointer (some ⟨P, 0, none⟩), .slice A n c, .int .i64 most] w fun r w' => ∃ (A' : Option Addr) (n' c' : Nat) (xs' : List LVar) (D' : Nat → Prop) (m' : Md), r = .returned (.slice A' n' c') ∧ xs'.length = n' ∧ n' ≤ 50 ∧ PF s l P g w0 m' w' (rowK w0 103 5 (.slice A' n' c') n' (xs'.flatMap LVar.cells) :: varsK D' xs' :: ks) ∧ m' = (groupP s l most (xs.map (·.v)) m).2 ∧ (∀ j, m' = .ok j → xs'.map (·.v) = (groupP s l most (xs.map (·.v)) m).1) := by
  obtain ⟨iv, zv, hiiv, hizv, hisv, hibv, hicv⟩ := info_Var
  obtain ⟨il, zl, hiil, hizl, hisl, hibl, hicl⟩ := info_Lit
  go_enter Tryz.func82, Tryz.ntmps82
  go_wp2_with fail
  have hml : (xs.map (·.v)).length = n := by simpa using hxn
  obtain ⟨q0, hq0⟩ : ∃ q0, q0 = namesP s l most (most + 1 - (xs.map (·.v)).length) (xs.map (·.v)) m := ⟨_, rfl⟩
  go_loopw [1] (fun v wr => ∃ (A : Option Addr) (n1 c : Nat) (ys : List LVar) (m1 : Md), v = .slice A n1 c ∧ ys.length = n1 ∧ n ≤ n1 ∧ n1 ≤ most ∧ PF s l P g w0 m1 wr (rowK w0 103 5 (.slice A n1 c) n1 (ys.flatMap LVar.cells) :: varsK D ys :: ks) ∧ Hid (q0 = namesP s l most (most + 1 - n1) (ys.map (·.v)) m1)) (fun v _ => most + 1 - lenOf v)
  case atStart => exact ⟨A, n, c, xs, m, rfl, hxn, Nat.le_refl _, hn, f, hid (by rw [hq0, hml])⟩
  case round =>
    clear f
    obtain ⟨A, n1, c, ys, m1, rfl, hyn, hn1, hn2, f_0, hq⟩ := hrel
    have hq0H := hid hq0
    clear hq0
    go_wp2_with fail
    refine (name_m hE f_0.sm n1 most).mono ?_
    rintro r W1 ⟨k, hlt_k, hj_k, rfl, t_1, q_1⟩
    have f_1 := f_0.turn t_1 q_1
    clear f_0 t_1 q_1
    rw [show decide ((most : Int) ≤ (n1 : Int)) = decide (most ≤ n1) from decide_eq_decide.2 Int.ofNat_le] at f_1
    generalize hm2 : m1.name s l (decide (most ≤ n1)) = m2 at *
    have hm2H := hid hm2
    clear hm2
    go_upto_region 3 with fail
    have f_2 := f_1.alloc (.cells #[.int .i64 (tkN l k).kind, .string (tkN l k).text, .int .i64 (tkN l k).num, .int .i64 (lnN s l k), .int .i64 (clN s l k)] 56)
    have z_2 := alloc_size W1 (.cells #[.int .i64 (tkN l k).kind, .string (tkN l k).text, .int .i64 (tkN l k).num, .int .i64 (lnN s l k), .int .i64 (clN s l k)] 56)
    clear f_1
    generalize W1.heap.size = T at *
    generalize W1.alloc (.cells #[.int .i64 (tkN l k).kind, .string (tkN l k).text, .int .i64 (tkN l k).num, .int .i64 (lnN s l k), .int .i64 (clN s l k)] 56) = W2 at *
    clear z_2
    go_wp2_with fail
    refine (bad_m f_2.sm).mono ?_
    rintro r W3 ⟨rfl, rfl⟩
    by_cases hb : m2.isBad = true
    · rw [hb]
      go_wp2_with fail
      have hnb : q0 = (ys.map (·.v) ++ [⟨m1.text l, 0, [], m1.ln s l, m1.cl s l⟩], m2) := by
        rw [hq.out, show most + 1 - n1 = (most - n1) + 1 by omega, ← hm2H.out, show n1 = (ys.map (·.v)).length by simp [hyn]]
        exact names_bad (by rw [show (ys.map (·.v)).length = n1 by simp [hyn], hm2H.out]; exact hb)
      have hg := group_bad (s := s) (l := l) (most := most) (xs := xs.map (·.v)) (m := m) (by rw [← hq0H.out, hnb]; exact hb)
      rw [← hq0H.out, hnb] at hg
      have fin := f_2.rot2.rot2.rot2
      have fin := (fin.tail.tail.turn1 (x := varsK D []) (fun n h => h) (by simp [varsK]) (varsK_ok D [])).nilRow 103 5
      go_ret
      exact ⟨none, 0, 0, [], D, m2, rfl, rfl, by omega, fin, hg.symm, fun j hj => by rw [hj] at hb; cases hb⟩
    · have hb := eq_false_of_ne_true hb
      rw [hb]
      obtain ⟨i2, rfl⟩ := not_bad hb
      obtain ⟨i, rfl, _⟩ := name_ok hm2H.out
      obtain rfl : k = i := hj_k i rfl
      have hful : n1 < most := by have := name_full hm2H.out; simpa using this
      clear hb
      obtain ⟨kT0, kT1, kT2, kT3, kT4, fT0, fT1, fT2, fT3, fT4⟩ := blk5 f_2.blk
      go_wp2_with (at_builtin; refine Held.stop ?_)
      clear kT0 kT1 kT2 kT3 kT4 fT0 fT1 fT2 fT3 fT4
      refine Held.go ?_
      have f_4 := f_2.alloc (.cells #[.string (tkN l k).text, .int .i64 0, .slice none 0 0, .int .i64 (lnN s l k), .int .i64 (clN s l k)] 103)
      have z_4 := alloc_size W2 (.cells #[.string (tkN l k).text, .int .i64 0, .slice none 0 0, .int .i64 (lnN s l k), .int .i64 (clN s l k)] 103)
      clear f_2
      generalize W2.heap.size = B at *
      generalize W2.alloc (.cells #[.string (tkN l k).text, .int .i64 0, .slice none 0 0, .int .i64 (lnN s l k), .int .i64 (clN s l k)] 103) = W4 at *
      clear z_4
      refine Fr.wpApp (f_4.rot2.rot1) rfl _ _ _ rfl Tryz.underlying58 hiiv hizv hisv hibv hicv (by decide) rfl rfl rfl var_one (by decide) (by unfold maxLen; omega) (by omega) ?_
      intro GA capA W5 f_5
      clear f_4
      have fin := f_5.rot3.rot1.rot3.rot3
      have hr : ys.flatMap LVar.cells ++ (#[.string (tkN l k).text, .int .i64 0, .slice none 0 0, .int .i64 (lnN s l k), .int .i64 (clN s l k)] : Array Value).toList = (ys ++ [(⟨⟨(tkN l k).text, 0, [], lnN s l k, clN s l k⟩, ⟨none, 0⟩⟩ : LVar)]).flatMap LVar.cells := by
        simp [LVar.cells, Sl.v]
      rw [hr] at fin
      clear hr f_5
      have fin := (fin.tail.tail.rot1.turn1 (x := varsK D (ys ++ [(⟨⟨(tkN l k).text, 0, [], lnN s l k, clN s l k⟩, ⟨none, 0⟩⟩ : LVar)])) (fun n h => h) (vars_push (Fr.head (Fr.tail (Fr.tail fin.tail))).q (hK k)) (varsK_ok D _)).rot1
      have hzn : (ys ++ [(⟨⟨(tkN l k).text, 0, [], lnN s l k, clN s l k⟩, ⟨none, 0⟩⟩ : LVar)]).length = n1 + 1 := by simp [hyn]
      have hzm : (ys ++ [(⟨⟨(tkN l k).text, 0, [], lnN s l k, clN s l k⟩, ⟨none, 0⟩⟩ : LVar)]).map (·.v) = ys.map (·.v) ++ [⟨(Md.ok k).text l, 0, [], (Md.ok k).ln s l, (Md.ok k).cl s l⟩] := by simp [Md.text, Md.ln, Md.cl]
      have hyl : (ys.map (·.v)).length = n1 := by simp [hyn]
      go_wp2_with fail
      by_cases h0 : (Md.ok i2).is l (⟨#[44]⟩ : ByteArray).data.toList = true
      · have hnx : q0 = namesP s l most (most + 1 - (n1 + 1)) (ys.map (·.v) ++ [⟨(Md.ok k).text l, 0, [], (Md.ok k).ln s l, (Md.ok k).cl s l⟩]) ((Md.ok i2).take l wComma) := by
          rw [hq.out, show most + 1 - n1 = (most + 1 - (n1 + 1)) + 1 by omega, ← hm2H.out, ← hyl]
          exact if_pos (by rw [hyl, hm2H.out]; exact h0)
        rw [← hzm] at hnx
        have hnxH := hid hnx
        clear hnx hq
        refine (take_m hE fin.sm ⟨#[44]⟩).mono ?_
        rintro r W6 ⟨rfl, t_6, q_6⟩
        have f_6 := fin.turn t_6 q_6
        clear fin t_6 q_6
        rw [h0]
        generalize (ys ++ [(⟨⟨(tkN l k).text, 0, [], lnN s l k, clN s l k⟩, ⟨none, 0⟩⟩ : LVar)]) = zs at *
        go_wp2_with fail
        go_roundw
        case rel => exact ⟨_, n1 + 1, _, zs, _, rfl, hzn, by omega, by omega, f_6, hnxH⟩
        case measure => simp [lenOf]; omega
      · have h0 := eq_false_of_ne_true h0
        have hnx : q0 = (ys.map (·.v) ++ [⟨(Md.ok k).text l, 0, [], (Md.ok k).ln s l, (Md.ok k).cl s l⟩], .ok i2) := by
          rw [hq.out, show most + 1 - n1 = (most + 1 - (n1 + 1)) + 1 by omega, ← hm2H.out, ← hyl]
          exact if_neg (by rw [hyl, hm2H.out, show (Md.ok i2).is l wComma = false from h0]; simp)
        rw [← hzm] at hnx
        have hnxH := hid hnx
        clear hnx hq
        refine (take_no hE fin.sm h0).mono ?_
        rintro r W6 ⟨rfl, t_6, q_6⟩
        have f_6 := fin.turn t_6 q_6
        clear fin t_6 q_6
        generalize (ys ++ [(⟨⟨(tkN l k).text, 0, [], lnN s l k, clN s l k⟩, ⟨none, 0⟩⟩ : LVar)]) = zs at *
        generalize hn3 : n1 + 1 = n2 at *
        go_wp2_with fail
        refine (want_m hE f_6.sm ⟨#[58]⟩).mono ?_
        rintro r W7 ⟨rfl, t_7, q_7⟩
        have f_7 := f_6.turn t_7 q_7
        clear f_6 t_7 q_7
        go_wp2_with fail
        refine (kind_m hE f_7.sm).mono ?_
        rintro r W8 ⟨kd, rfl, hkd, t_8, q_8, hkv⟩
        have f_8 := f_7.turn t_8 q_8
        clear f_7 t_8 q_8
        go_wp2_with fail
        refine (clock_m hE hK f_8).mono ?_
        rintro r W9 ⟨Ac, nc, cc, cs, m4, rfl, hcn, f_9, hm4, hcv, hcl, hc5, hc0⟩
        clear f_8
        have hgr : groupP s l most (xs.map (·.v)) m = (setVars n (zs.map (·.v)) (kindP s l ((Md.ok i2).want s l wColon)).1 (litsP s l 4 [] (kindP s l ((Md.ok i2).want s l wColon)).2).1, (litsP s l 4 [] (kindP s l ((Md.ok i2).want s l wColon)).2).2) := by
          unfold groupP
          rw [← hq0H.out, hnxH.out, hml]
        have hmg : m4 = (groupP s l most (xs.map (·.v)) m).2 := by rw [hgr]; exact hm4
        have hvg : ∀ j, m4 = .ok j → setVars n (zs.map (·.v)) kd cs = (groupP s l most (xs.map (·.v)) m).1 := fun j hj => by
          rw [hgr]
          have h1 := hcv j hj
          obtain ⟨i5, h5⟩ := lits_ok 4 [] (hm4.symm.trans hj)
          have h2 := hkv i5 h5
          show _ = setVars _ _ _ _
          rw [h2, h1]
          rfl
        have hmgH := hid hmg
        have hvgH := hid hvg
        clear hmg hvg hgr hm4 hcv hkv hq0H hnxH hm2H
        have fs := f_9.rot2.rot2
        clear f_9
        go_wp2_with fail
        go_loopw [11] (fun i wr => ∃ (j : Nat) (us : List LVar) (D2 : Nat → Prop), i = .int .i64 j ∧ n ≤ j ∧ j ≤ n2 ∧ us.length = n2 ∧ PF s l P g w0 m4 wr (rowK w0 103 5 (.slice (some ⟨GA, 0, none⟩) n2 capA) n2 (us.flatMap LVar.cells) :: varsK D2 us :: rowK w0 115 2 (.slice Ac nc cc) nc (cs.flatMap LitE.cells) :: ks) ∧ Hid (SetTo n j zs us kd cs)) (fun i _ => n2 - (intOf i).toNat)
        case atStart => exact ⟨n, zs, D, rfl, Nat.le_refl _, by omega, hzn, fs, SetTo.start _ _ _ _⟩
        case round =>
          clear fs
          obtain ⟨j, us, D2, rfl, hj1, hj2, hun, f_90, hset⟩ := hrel
          by_cases hlt : j < n2
          · have hj0 : (0 : Int) ≤ (j : Int) := by omega
            have hj3 : (j : Int) < (n2 : Int) := by omega
            go_wp2_with (at_builtin; refine Held.stop ?_)
            refine Held.go ?_
            have f_91 := f_90.alloc (.cells #[] 115)
            have z_91 := alloc_size wr (.cells #[] 115)
            clear f_90
            generalize wr.heap.size = E at *
            generalize wr.alloc (.cells #[] 115) = W91 at *
            clear z_91
            have f_91r := Fr.rowOf (sz := 2) (n := 0) f_91 rfl (by decide)
            clear f_91
            by_cases hnc : nc = 0
            · subst hnc
              obtain ⟨rfl, rfl⟩ := hc0 rfl
              obtain rfl := List.length_eq_zero_iff.1 hcn
              refine wpList_append_own_none rfl _ _ _ rfl w0.heap.size 115 il 2 Tryz.underlying101 hiil _ 0 [] rfl f_91r.head.q rfl ?_
              obtain ⟨hx1, hx2, hx3, hx4⟩ := vrow_in f_91r.rot1.head.q hun hlt
              go_wp2_with fail
              have fq := Fr.setRow (Fr.setRow f_91r.rot1 (j * 5 + 1) (.int .i64 kd)) (j * 5 + 2) (.slice (some ⟨E, 0, none⟩) 0 0)
              rw [vrow_set hlt hun kd [] (some ⟨E, 0, none⟩) 0 0 rfl] at fq
              clear f_91r
              have fq := (fq.rot1.tail.rot1.turn1 (x := varsK D2 (us.set j ⟨{ (us[j]'(by omega)).v with type := kd, clock := [] }, ⟨some ⟨E, 0, none⟩, 0⟩⟩)) (fun n h => h) (vars_set fq.rot2.head.q (fun n h => h) hkd ⟨Nat.le_refl _, Nat.zero_le _⟩ (fun j hj => absurd hj (by simp))) (varsK_ok _ _)).rot1
              go_roundw
              case rel => exact ⟨j + 1, _, _, by go_num, by omega, by omega, by simpa using hun, fq, SetTo.step hset.out hun hlt hj1⟩
              case measure => simp [intOf]; omega
            · have hnc1 : 0 < nc := by omega
              have hcow := f_91r.rot3.head.q
              obtain ⟨Gc, rfl, -⟩ := row_some hcow hnc1
              refine wpList_append_lies _ rfl _ _ _ rfl w0.heap.size 115 il zl 2 24 Tryz.underlying101 hiil hizl hisl hibl hicl (by decide) _ 0 [] rfl f_91r.head.q ⟨Gc, 0, none⟩ nc cc (cs.flatMap LitE.cells) rfl (by rw [lits_len_cells, hcn]) (hcow.cells rfl) (lits_one cs) hnc1 (by unfold maxLen; omega) (by omega) f_91r.gr.size _ rfl ?_
              intro GE capE W92 hown hg hat hltE
              have f_92 := f_91r.app hown hg hat hltE
              clear hown hg hat hltE hcow f_91r
              simp only [Nat.zero_add, List.nil_append] at f_92 ⊢
              obtain ⟨hx1, hx2, hx3, hx4⟩ := vrow_in f_92.rot1.head.q hun hlt
              go_wp2_with fail
              have fq := Fr.setRow (Fr.setRow f_92.rot1 (j * 5 + 1) (.int .i64 kd)) (j * 5 + 2) (.slice (some ⟨GE, 0, none⟩) nc capE)
              rw [vrow_set hlt hun kd cs (some ⟨GE, 0, none⟩) capE nc hcn] at fq
              clear f_92
              have hsl := sl_own LitE.cells 2 (fun _ => rfl) (D := fun n => D2 n ∨ n = GE) hcn fq.rot1.head.q (fun g hg => .inr (by injection hg with hg; exact hg.symm)) (P := LitIn (fun n => D2 n ∨ n = GE) _) (fun b o j hj hD hc => ⟨hD, hcl _ (List.getElem_mem _), hc 0 (by omega), hc 1 (by omega)⟩)
              have fq := (Fr.fuse (x := varsK (fun n => D2 n ∨ n = GE) (us.set j ⟨{ (us[j]'(by omega)).v with type := kd, clock := cs }, ⟨some ⟨GE, 0, none⟩, capE⟩⟩)) fq.rot1.rot2 (fun n hn => hn.elim .inl (fun h => .inr (by rw [h]; rfl))) (vars_set fq.rot2.head.q (fun n h => .inl h) hkd (by rw [hcn]; exact hsl.1) hsl.2) (varsK_ok _ _)).rot1
              go_roundw
              case rel => exact ⟨j + 1, _, _, by go_num, by omega, by omega, by simpa using hun, fq, SetTo.step hset.out hun hlt hj1⟩
              case measure => simp [intOf]; omega
          · have hj4 : j = n2 := by omega
            subst hj4
            go_wp2_with fail
            go_ret
            exact ⟨_, j, _, us, D2, m4, rfl, hun, by omega, f_90.rot2.tail, hmgH.out, fun i hi => by rw [← hvgH.out i hi]; exact hset.out.all hzn hun⟩
end Go.Proofs.YtnlikhjmmnaknaaGreatDoor
/-
  Rows that are done; plain laws of left sides.
-/
namespace Go.Proofs.YtnlikhjmmnaknaaGreatDoor
open Go.RowKit

theorem slat_map {α β : Type} {sz : Nat} {P : Nat → Nat → β → Prop} {f : α → β} {A : Option Addr} {xs : List α} (h : SlAt sz (fun b o x => P b o (f x)) A xs) : SlAt sz P A (xs.map f) := fun j hj => by
  obtain ⟨b, o, hA, hp⟩ := h j (by simpa using hj)
  exact ⟨b, o, hA, by simpa using hp⟩
section
variable {P : Option Nat} {S : World → Prop} {w0 w : World} {ks : List Kp} {A : Option Addr} {n c : Nat} {D : Nat → Prop}
theorem Fr.vrow {xs : List LVar} (h : Fr P S w0 w (rowK w0 103 5 (.slice A n c) n (xs.flatMap LVar.cells) :: varsK D xs :: ks)) (hn : xs.length = n) : ∃ D', Fr P S w0 w (vrowK D' ⟨A, c⟩ (xs.map (·.v)) :: ks) := by
  refine ⟨fun g => (Value.slice A n c).ownBlock = some g ∨ D g, h.fuse (fun n h => h) ?_ (vrowK_ok _ _ _)⟩
  have h1 := sl_own LVar.cells 5 (fun _ => rfl) (D := fun g => (Value.slice A n c).ownBlock = some g ∨ D g) hn h.head.q (fun g hg => .inl hg)
    (P := fun b o (x : LVar) => VarIn (fun g => (Value.slice A n c).ownBlock = some g ∨ D g) w b o x.v) (fun b o j hj hD hc => ⟨hD, xs[j].S, ⟨hc 0 (by omega), hc 1 (by omega), hc 2 (by omega), hc 3 (by omega), hc 4 (by omega)⟩, (h.tail.head.q _ (List.getElem_mem hj)).keep (fun _ _ _ _ h => h) (fun _ h => .inr h)⟩)
  exact ⟨by rw [List.length_map, hn]; exact h1.1, slat_map h1.2⟩
theorem Fr.srow {xs : List ByteArray} (h : Fr P S w0 w (rowK w0 9 1 (.slice A n c) n (xs.flatMap fun x => [.string x]) :: ks)) (hn : xs.length = n) (hs : ∀ x ∈ xs, x.size ≤ maxLen) : ∃ D', Fr P S w0 w (srowK D' ⟨A, c⟩ xs :: ks) := by
  refine ⟨fun g => (Value.slice A n c).ownBlock = some g, h.turn1 (fun n h => h) ?_ (srowK_ok _ _ _)⟩
  have h1 := sl_own (fun x : ByteArray => [Value.string x]) 1 (fun _ => rfl) (D := fun g => (Value.slice A n c).ownBlock = some g) hn h.head.q (fun g hg => hg)
    (P := StrIn (fun g => (Value.slice A n c).ownBlock = some g) w) (fun b o j hj hD hc => ⟨hD, hs _ (List.getElem_mem hj), hc 0 (by omega)⟩)
  exact ⟨by rw [hn]; exact h1.1, h1.2⟩
theorem Fr.noVars (h : Fr P S w0 w ks) : Fr P S w0 w (rowK w0 103 5 (.slice none 0 0) 0 (([] : List LVar).flatMap LVar.cells) :: varsK (fun _ => False) [] :: ks) :=
  (h.free (x := varsK (fun _ => False) []) (fun n h => h) (by simp [varsK]) (varsK_ok _ _)).nilRow 103 5
theorem Fr.noVrow (h : Fr P S w0 w ks) : Fr P S w0 w (vrowK (fun _ => False) ⟨none, 0⟩ [] :: ks) :=
  h.free (x := vrowK (fun _ => False) ⟨none, 0⟩ []) (fun n h => h) ⟨⟨Nat.le_refl _, Nat.zero_le _⟩, fun j hj => absurd hj (by simp)⟩ (vrowK_ok _ _ _)
end
theorem string.info : (Tryz.prog.info? 9).map (fun i => (i.zero, i.size, i.bytes)) = some (some (.string ⟨#[]⟩), 1, 16) := by kernel_rfl
theorem info_string : ∃ i z, Tryz.prog.info? 9 = some i ∧ i.zero = some z ∧ i.size = 1 ∧ i.bytes = 16 ∧ z.cells.size = 1 := by
  have hi := string.info
  cases h : Tryz.prog.info? 9 with
  | none => rw [h] at hi; cases hi
  | some i0 => rw [h] at hi; simp only [Option.map_some, Option.some.injEq, Prod.mk.injEq] at hi; exact ⟨i0, _, rfl, hi.1, hi.2.1, hi.2.2, rfl⟩
theorem str_one {a : ByteArray} : ∀ u ∈ (#[.string a] : Array Value).toList, u.oneCell' = true := by
  intro u hu
  simp only [List.mem_cons, List.not_mem_nil, or_false] at hu
  subst hu; rfl
section
variable {s : ByteArray} {l : List Tk} {m : Md}
/-- the code's left, behind its tests -/
def leftQ (s : ByteArray) (l : List Tk) (m : Md) : List ByteArray × Md :=
  if m.is l wOpen = true then ((strsP s l 9 [] (m.take l wOpen)).1, (strsP s l 9 [] (m.take l wOpen)).2.want s l wShut)
  else ([m.text l], m.name s l false)
/-- the code's tests -/
def testQ (s : ByteArray) (l : List Tk) (n : Nat) (m : Md) : Md :=
  let a := match m with
    | .ok i => if (tkN l i).kind ≠ 1 ∧ isN l i wOpen = false then (Md.ok i).err s l 21 else .ok i
    | .bad _ _ _ => m
  if n = 48 then a.err s l 3 else a
theorem strs_bad (h : m.isBad = true) : ∀ (k : Nat) (xs : List ByteArray), (strsP s l k xs m).2 = m := by
  intro k
  cases k with
  | zero => intro xs; rfl
  | succ k =>
    intro xs
    unfold strsP
    rw [(bad_keep h).2.2.1, if_neg (by rw [bad_is h]; simp)]
theorem leftQ_bad (h : m.isBad = true) : (leftQ s l m).2 = m := by
  unfold leftQ
  rw [if_neg (by rw [bad_is h]; simp)]
  exact (bad_keep h).2.2.1 _
theorem isN_not {i : Nat} {t : List UInt8} (h : (tkN l i).kind = 1) : isN l i t = false := isN_off (.inl h)
theorem left_eq (n : Nat) (hn : n ≤ 48) : (leftQ s l (testQ s l n m)).2 = (leftP s l n m).2 ∧ ∀ j, (leftP s l n m).2 = .ok j → (leftQ s l (testQ s l n m)).1 = (leftP s l n m).1 := by
  cases m with
  | bad a b c =>
    have ht : testQ s l n (.bad a b c) = .bad a b c := by unfold testQ; dsimp only; split <;> rfl
    rw [ht]
    refine ⟨?_, fun j hj => absurd hj fun h => by have := (left_ok h).1; obtain ⟨i, hi⟩ := this; cases hi⟩
    rw [leftQ_bad rfl]
    unfold leftP
    rw [if_neg (by rw [bad_is rfl]; simp)]; rfl
  | ok i =>
    by_cases hk : (tkN l i).kind = 1
    · have ho : isN l i wOpen = false := isN_not hk
      have hb : ∀ _ : Nat, ¬ ((Md.ok i).is l wOpen = true) := fun _ => by show ¬ isN l i wOpen = true; simp [ho]
      have hP : leftP s l n (.ok i) = ([(Md.ok i).text l], (Md.ok i).name s l (decide (48 ≤ n))) := by unfold leftP; rw [if_neg (hb 0)]
      rw [hP]
      by_cases h48 : n = 48
      · have ht : testQ s l n (.ok i) = .bad 3 (lnN s l i) (clN s l i) := by unfold testQ; dsimp only; rw [if_pos h48, if_neg (by simp [hk])]; rfl
        rw [ht, leftQ_bad rfl]
        have hnm : (Md.ok i).name s l (decide (48 ≤ n)) = .bad 3 (lnN s l i) (clN s l i) := by
          unfold Md.name; dsimp only; rw [if_pos hk, if_pos (by simp; omega)]
        rw [hnm]
        exact ⟨rfl, fun j hj => by cases hj⟩
      · have ht : testQ s l n (.ok i) = .ok i := by unfold testQ; dsimp only; rw [if_neg h48, if_neg (by simp [hk])]
        rw [ht]
        unfold leftQ
        rw [if_neg (hb 0), show decide (48 ≤ n) = false by simp; omega]
        exact ⟨rfl, fun _ _ => rfl⟩
    · by_cases ho : isN l i wOpen = true
      · have hP : leftP s l n (.ok i) = ((strsP s l 9 [] ((if n = 48 then (Md.ok i).err s l 3 else .ok i).want s l wOpen)).1, (strsP s l 9 [] ((if n = 48 then (Md.ok i).err s l 3 else .ok i).want s l wOpen)).2.want s l wShut) := if_pos ho
        rw [hP]
        by_cases h48 : n = 48
        · have ht : testQ s l n (.ok i) = .bad 3 (lnN s l i) (clN s l i) := by unfold testQ; dsimp only; rw [if_pos h48, if_neg (by simp [ho])]; rfl
          rw [ht, leftQ_bad rfl, if_pos h48]
          have hw : ((Md.ok i).err s l 3).want s l wOpen = .bad 3 (lnN s l i) (clN s l i) := rfl
          rw [hw, strs_bad rfl]
          exact ⟨rfl, fun j hj => by cases hj⟩
        · have ht : testQ s l n (.ok i) = .ok i := by unfold testQ; dsimp only; rw [if_neg h48, if_neg (by simp [ho])]
          rw [ht, if_neg h48]
          have h2 : (Md.ok i).want s l wOpen = (Md.ok i).take l wOpen := want_take ho
          have h3 : leftQ s l (.ok i) = ((strsP s l 9 [] ((Md.ok i).take l wOpen)).1, (strsP s l 9 [] ((Md.ok i).take l wOpen)).2.want s l wShut) := if_pos ho
          rw [h3, h2]
          exact ⟨rfl, fun _ _ => rfl⟩
      · have ho' := eq_false_of_ne_true ho
        have hP : leftP s l n (.ok i) = ([(Md.ok i).text l], (Md.ok i).name s l (decide (48 ≤ n))) := if_neg ho
        rw [hP]
        have ht : testQ s l n (.ok i) = .bad 21 (lnN s l i) (clN s l i) := by
          unfold testQ; dsimp only; rw [if_pos (show (tkN l i).kind ≠ 1 ∧ isN l i wOpen = false from ⟨hk, ho'⟩)]
          split <;> rfl
        have hnm : (Md.ok i).name s l (decide (48 ≤ n)) = .bad 21 (lnN s l i) (clN s l i) := by
          unfold Md.name; dsimp only; rw [if_neg hk]
        rw [ht, leftQ_bad rfl, hnm]
        exact ⟨rfl, fun j hj => by cases hj⟩
end
end Go.Proofs.YtnlikhjmmnaknaaGreatDoor
/-
  The walks of the parser's ports and locals (printed by gen_p4.py).
-/
namespace Go.Proofs.YtnlikhjmmnaknaaGreatDoor
open Go.RowKit


set_option maxHeartbeats 4000000 in
set_option maxRecDepth 100000 in
theorem ports_m {s : ByteArray} {l : List Tk} {P g : Nat} (hE : Ended l) (hK : TkOk s l) {w0 w : World} {m : Md} {ks : List Kp} (f : PF s l P g w0 m w ks) :
    Calls Tryz.prog 43 #[.pointer (some ⟨P, 0, none⟩)] w fun r w' => ∃ (A : Option Addr) (n c : Nat) (vs : List VarE) (D : Nat → Prop) (m' : Md), r = .returned (.slice A n c) ∧ vs.length = n ∧ PF s l P g w0 m' w' (vrowK D ⟨A, c⟩ vs :: ks) ∧ m' = (portsP s l m).2 ∧ (∀ j, m' = .ok j → vs = (portsP s l m).1) := by
  go_enter Tryz.func43, Tryz.ntmps43
  go_wp2_with fail
  refine (want_m hE f.sm ⟨#[40]⟩).mono ?_
  rintro r W1 ⟨rfl, t_1, q_1⟩
  have f_1 := f.turn t_1 q_1
  clear f t_1 q_1
  go_wp2_with fail
  obtain ⟨q0, hq0⟩ : ∃ q0, q0 = portsGo s l 9 [] (m.want s l wOpen) := ⟨_, rfl⟩
  have fs := f_1.noVars
  clear f_1
  go_loopw [3] (fun v wr => ∃ (A : Option Addr) (n c : Nat) (xs : List LVar) (D : Nat → Prop) (m1 : Md) (k : Nat), v = .slice A n c ∧ xs.length = n ∧ n ≤ 8 ∧ 9 ≤ n + k ∧ PF s l P g w0 m1 wr (rowK w0 103 5 (.slice A n c) n (xs.flatMap LVar.cells) :: varsK D xs :: ks) ∧ Hid (q0 = portsGo s l k (xs.map (·.v)) m1)) (fun v _ => 9 - lenOf v)
  case atStart => exact ⟨none, 0, 0, [], _, _, 9, rfl, rfl, by omega, by omega, fs, hid hq0⟩
  case round =>
    clear fs
    obtain ⟨A, n, c, xs, D, m1, k, rfl, hxn, hn8, hk, f_20, hq⟩ := hrel
    have hq0H := hid hq0
    clear hq0
    go_wp2_with fail
    refine (group_m hE hK 8 (by omega) hxn hn8 f_20).mono ?_
    rintro r W21 ⟨A2, n2, c2, zs, D2, m2, rfl, hzn, hz50, f_21, hm2, hv2⟩
    clear f_20
    obtain ⟨k, rfl⟩ : ∃ k2, k = k2 + 1 := ⟨k - 1, by omega⟩
    have hml : (xs.map (·.v)).length = n := by simpa using hxn
    go_wp2_with fail
    by_cases h0 : m2.is l (⟨#[59]⟩ : ByteArray).data.toList = true
    · obtain ⟨i, rfl, hi⟩ := is_yes h0
      have hlen := group_ok (s := s) (l := l) (most := 8) (xs := xs.map (·.v)) (m := m1) (by omega) hm2.symm
      rw [← hv2 i rfl, hml, List.length_map, hzn] at hlen
      have hqx : q0 = portsGo s l k (zs.map (·.v)) ((Md.ok i).take l wSemi) := by
        rw [hq.out, hv2 i rfl, hm2]
        exact if_pos (by rw [← hm2]; exact h0)
      have hqH := hid hqx
      clear hqx hq hv2 hm2
      refine (take_m hE f_21.sm ⟨#[59]⟩).mono ?_
      rintro r W22 ⟨rfl, t_22, q_22⟩
      have f_22 := f_21.turn t_22 q_22
      clear f_21 t_22 q_22
      rw [h0]
      go_wp2_with fail
      go_roundw
      case rel => exact ⟨A2, n2, c2, zs, D2, _, k, rfl, hzn, by omega, by omega, f_22, hqH⟩
      case measure => simp [lenOf]; omega
    · have h0 := eq_false_of_ne_true h0
      have hqx : q0 = groupP s l 8 (xs.map (·.v)) m1 := by
        rw [hq.out]
        exact if_neg (by rw [← hm2, show m2.is l wSemi = false from h0]; simp)
      have hp2 : (portsP s l m).2 = m2.want s l wShut := by
        unfold portsP
        rw [← hq0H.out, hqx, ← hm2]
      have hp1 : ∀ j, m2.want s l wShut = .ok j → zs.map (·.v) = (portsP s l m).1 := fun j hj => by
        obtain ⟨i, hi⟩ := want_ok hj
        unfold portsP
        rw [← hq0H.out, hqx]
        exact hv2 i hi
      have hp1H := hid hp1
      have hp2H := hid hp2
      clear hp1 hp2 hqx hq hv2 hm2
      refine (take_no hE f_21.sm h0).mono ?_
      rintro r W22 ⟨rfl, t_22, q_22⟩
      have f_22 := f_21.turn t_22 q_22
      clear f_21 t_22 q_22
      go_wp2_with fail
      refine (want_m hE f_22.sm ⟨#[41]⟩).mono ?_
      rintro r W23 ⟨rfl, t_23, q_23⟩
      have f_23 := f_22.turn t_23 q_23
      clear f_22 t_23 q_23
      go_wp2_with fail
      obtain ⟨D3, fin⟩ := f_23.vrow hzn
      go_ret
      exact ⟨A2, n2, c2, _, D3, _, rfl, by simpa using hzn, fin, hp2H.out.symm, hp1H.out⟩

set_option maxHeartbeats 4000000 in
set_option maxRecDepth 100000 in
theorem locals_m {s : ByteArray} {l : List Tk} {P g : Nat} (hE : Ended l) (hK : TkOk s l) {w0 w : World} {m : Md} {ks : List Kp} (f : PF s l P g w0 m w ks) :
    Calls Tryz.prog 44 #[.pointer (some ⟨P, 0, none⟩)] w fun r w' => ∃ (A : Option Addr) (n c : Nat) (vs : List VarE) (D : Nat → Prop) (m' : Md), r = .returned (.slice A n c) ∧ vs.length = n ∧ PF s l P g w0 m' w' (vrowK D ⟨A, c⟩ vs :: ks) ∧ m' = (localsP s l m).2 ∧ (∀ j, m' = .ok j → vs = (localsP s l m).1) := by
  by_cases h0 : m.is l (⟨#[118, 97, 114]⟩ : ByteArray).data.toList = true
  · obtain ⟨i, rfl, hi⟩ := is_yes h0
    have hloc : localsP s l (.ok i) = localsGo s l 41 [] (.ok (i + 1)) := by
      rw [show localsP s l (.ok i) = localsGo s l 41 [] ((Md.ok i).take l wVar) from if_pos h0, show (Md.ok i).take l wVar = .ok (i + 1) from if_pos hi]
    rw [hloc]
    clear hloc
    obtain ⟨q0, hq0⟩ : ∃ q0, q0 = localsGo s l 41 [] (.ok (i + 1)) := ⟨_, rfl⟩
    have hq0H := hid hq0.symm
    rw [hq0H.out]
    go_enter Tryz.func44, Tryz.ntmps44
    go_wp2_with fail
    refine (take_yes hE f.sm hi).mono ?_
    rintro r W1 ⟨rfl, t_1, q_1⟩
    have f_1 := f.turn t_1 q_1
    clear f t_1 q_1
    have fs := f_1.noVars
    clear f_1
    go_wp2_with fail
    go_loopw [3] (fun v wr => ∃ (A : Option Addr) (n c : Nat) (xs : List LVar) (D : Nat → Prop) (m1 : Md) (k : Nat), v = .slice A n c ∧ xs.length = n ∧ n ≤ 40 ∧ 41 ≤ n + k ∧ PF s l P g w0 m1 wr (rowK w0 103 5 (.slice A n c) n (xs.flatMap LVar.cells) :: varsK D xs :: ks) ∧ Hid (q0 = localsGo s l k (xs.map (·.v)) m1)) (fun v _ => 41 - lenOf v)
    case atStart => exact ⟨none, 0, 0, [], _, _, 41, rfl, rfl, by omega, by omega, fs, hid hq0⟩
    case round =>
      clear fs
      obtain ⟨A, n, c, xs, D, m1, k, rfl, hxn, hn8, hk, f_20, hq⟩ := hrel
      clear hq0 hq0H
      go_wp2_with fail
      refine (group_m hE hK 40 (by omega) hxn hn8 f_20).mono ?_
      rintro r W21 ⟨A2, n2, c2, zs, D2, m2, rfl, hzn, hz50, f_21, hm2, hv2⟩
      clear f_20
      obtain ⟨k, rfl⟩ : ∃ k2, k = k2 + 1 := ⟨k - 1, by omega⟩
      have hml : (xs.map (·.v)).length = n := by simpa using hxn
      go_wp2_with fail
      refine (want_m hE f_21.sm ⟨#[59]⟩).mono ?_
      rintro r W22 ⟨rfl, t_22, q_22⟩
      have f_22 := f_21.turn t_22 q_22
      clear f_21 t_22 q_22
      go_wp2_with fail
      refine (bad_m f_22.sm).mono ?_
      rintro r W23 ⟨rfl, rfl⟩
      obtain ⟨m3, hm3⟩ : ∃ m3, m3 = m2.want s l wSemi := ⟨_, rfl⟩
      rw [show m2.want s l (⟨#[59]⟩ : ByteArray).data.toList = m3 from hm3.symm] at *
      by_cases hb : m3.isBad = true
      · rw [hb]
        have hqx : q0 = ((groupP s l 40 (xs.map (·.v)) m1).1, m3) := by
          rw [hq.out, hm3, hm2]
          exact if_pos (by rw [← hm2, ← hm3]; exact .inl hb)
        have hp1 : ∀ j, m3 = .ok j → zs.map (·.v) = q0.1 := fun j hj => by
          obtain ⟨i, hi⟩ := want_ok (hm3.symm.trans hj)
          rw [hqx]
          exact hv2 i hi
        have hp1H := hid hp1
        have hp2H := hid hqx
        clear hp1 hqx hq hv2 hm2
        go_wp2_with fail
        obtain ⟨D3, fin⟩ := f_22.vrow hzn
        go_ret
        exact ⟨A2, n2, c2, _, D3, _, rfl, by simpa using hzn, fin, by rw [hp2H.out], hp1H.out⟩
      · have hb := eq_false_of_ne_true hb
        rw [hb]
        obtain ⟨i3, rfl⟩ := not_bad hb
        obtain ⟨i4, hi4⟩ := want_ok hm3.symm
        subst hi4
        by_cases h1 : (Md.ok i3).is l (⟨#[108, 101, 116]⟩ : ByteArray).data.toList = true
        · skip
          go_wp2_with fail
          refine (is_val f_22.sm h1).mono ?_
          rintro r W24 ⟨rfl, b_24⟩
          have f_24 := f_22.below b_24
          clear f_22 b_24
          have hqx : q0 = ((groupP s l 40 (xs.map (·.v)) m1).1, (Md.ok i3)) := by
            rw [hq.out, hm3, hm2]
            exact if_pos (by rw [← hm2, ← hm3]; exact .inr h1)
          have hp1 : ∀ j, (Md.ok i3) = .ok j → zs.map (·.v) = q0.1 := fun j hj => by
            obtain ⟨i, hi⟩ := want_ok (hm3.symm.trans hj)
            rw [hqx]
            exact hv2 i hi
          have hp1H := hid hp1
          have hp2H := hid hqx
          clear hp1 hqx hq hv2 hm2
          go_wp2_with fail
          obtain ⟨D3, fin⟩ := f_24.vrow hzn
          go_ret
          exact ⟨A2, n2, c2, _, D3, _, rfl, by simpa using hzn, fin, by rw [hp2H.out], hp1H.out⟩
        · have h1 := eq_false_of_ne_true h1
          have hlen := group_ok (s := s) (l := l) (most := 40) (xs := xs.map (·.v)) (m := m1) (by omega) hm2.symm
          rw [← hv2 i4 rfl, hml, List.length_map, hzn] at hlen
          have hqx : q0 = localsGo s l k (zs.map (·.v)) (.ok i3) := by
            rw [hq.out, hv2 i4 rfl, hm3, hm2]
            exact if_neg (by rw [← hm2, ← hm3]; rintro (h | h); exact absurd h (by simp [Md.isBad]); rw [show (Md.ok i3).is l wLet = false from h1] at h; cases h)
          have hqH := hid hqx
          clear hqx hq hv2 hm2
          go_wp2_with fail
          refine (is_val f_22.sm h1).mono ?_
          rintro r W24 ⟨rfl, b_24⟩
          have f_24 := f_22.below b_24
          clear f_22 b_24
          go_wp2_with fail
          go_roundw
          case rel => exact ⟨A2, n2, c2, zs, D2, _, k, rfl, hzn, by omega, by omega, f_24, hqH⟩
          case measure => simp [lenOf]; omega
  · have h0 := eq_false_of_ne_true h0
    rw [show localsP s l m = ([], m) from if_neg (by rw [show m.is l wVar = false from h0]; simp)]
    go_enter Tryz.func44, Tryz.ntmps44
    go_wp2_with fail
    refine (take_no hE f.sm h0).mono ?_
    rintro r W1 ⟨rfl, t_1, q_1⟩
    have f_1 := f.turn t_1 q_1
    clear f t_1 q_1
    go_wp2_with fail
    go_ret
    exact ⟨none, 0, 0, [], _, m, rfl, rfl, f_1.noVrow, rfl, fun _ _ => rfl⟩
end Go.Proofs.YtnlikhjmmnaknaaGreatDoor
/-
  The walk of the parser's left (printed by gen_p4.py).
-/
namespace Go.Proofs.YtnlikhjmmnaknaaGreatDoor
open Go.RowKit


set_option maxHeartbeats 4000000 in
set_option maxRecDepth 100000 in
theorem left_m {s : ByteArray} {l : List Tk} {P g : Nat} (hE : Ended l) (hK : TkOk s l) {w0 w : World} {m : Md} {ks : List Kp} (f : PF s l P g w0 m w ks) :
    Calls Tryz.prog 83 #[.pointer (some ⟨P, 0, none⟩)] w fun r w' => ∃ (A : Option Addr) (n c : Nat) (xs : List ByteArray) (D : Nat → Prop) (m' : Md), r = .returned (.slice A n c) ∧ xs.length = n ∧ PF s l P g w0 m' w' (srowK D ⟨A, c⟩ xs :: ks) ∧ m' = (leftQ s l m).2 ∧ (∀ j, m' = .ok j → xs = (leftQ s l m).1) := by
  obtain ⟨is, zs, hiis, hizs, hiss, hibs, hics⟩ := info_string
  by_cases h0 : m.is l (⟨#[40]⟩ : ByteArray).data.toList = true
  · obtain ⟨i, rfl, hi⟩ := is_yes h0
    have hloc : leftQ s l (.ok i) = ((strsP s l 9 [] (.ok (i + 1))).1, (strsP s l 9 [] (.ok (i + 1))).2.want s l wShut) := by
      rw [show leftQ s l (.ok i) = ((strsP s l 9 [] ((Md.ok i).take l wOpen)).1, (strsP s l 9 [] ((Md.ok i).take l wOpen)).2.want s l wShut) from if_pos h0, show (Md.ok i).take l wOpen = .ok (i + 1) from if_pos hi]
    rw [hloc]
    clear hloc
    obtain ⟨q0, hq0⟩ : ∃ q0, q0 = strsP s l 9 [] (.ok (i + 1)) := ⟨_, rfl⟩
    have hq0H := hid hq0.symm
    rw [hq0H.out]
    go_enter Tryz.func83, Tryz.ntmps83
    go_wp2_with fail
    refine (take_yes hE f.sm hi).mono ?_
    rintro r W1 ⟨rfl, t_1, q_1⟩
    have f_1 := f.turn t_1 q_1
    clear f t_1 q_1
    have fs := f_1.nilRow 9 1
    clear f_1
    go_wp2_with fail
    go_loopw [3] (fun v wr => ∃ (A : Option Addr) (n c : Nat) (xs : List ByteArray) (m1 : Md), v = .slice A n c ∧ xs.length = n ∧ n ≤ 8 ∧ PF s l P g w0 m1 wr (rowK w0 9 1 (.slice A n c) n (xs.flatMap fun x => [.string x]) :: ks) ∧ (∀ x ∈ xs, x.size ≤ maxLen) ∧ (∃ i, m1 = .ok i) ∧ Hid (q0 = strsP s l (9 - n) xs m1)) (fun v _ => 9 - lenOf v)
    case atStart => exact ⟨none, 0, 0, [], _, rfl, rfl, by omega, fs, by simp, ⟨_, rfl⟩, hid hq0⟩
    case round =>
      clear fs
      obtain ⟨A, n, c, xs, m1, rfl, hxn, hn8, f_20, hsz, ⟨i1, rfl⟩, hq⟩ := hrel
      clear hq0 hq0H
      go_wp2_with fail
      refine (name_m hE f_20.sm n 8).mono ?_
      rintro r W21 ⟨k, hlt_k, hj_k, rfl, t_21, q_21⟩
      have f_21 := f_20.turn t_21 q_21
      clear f_20 t_21 q_21
      obtain rfl : k = i1 := hj_k i1 rfl
      rw [show decide ((8 : Int) ≤ (n : Int)) = decide (8 ≤ n) from decide_eq_decide.2 (by omega)] at f_21
      generalize hm2 : (Md.ok k).name s l (decide (8 ≤ n)) = m2 at *
      have hm2H := hid hm2
      clear hm2
      have hfd := field_text (tkN l k).kind (tkN l k).text (tkN l k).num (lnN s l k) (clN s l k)
      go_wp2_with (at_builtin; refine Held.stop ?_)
      clear hfd
      refine Held.go ?_
      have f_22 := f_21.alloc (.cells #[.string (tkN l k).text] 9)
      have z_22 := alloc_size W21 (.cells #[.string (tkN l k).text] 9)
      clear f_21
      generalize W21.heap.size = B at *
      generalize W21.alloc (.cells #[.string (tkN l k).text] 9) = W22 at *
      clear z_22
      refine Fr.wpApp (f_22.rot1.rot1) rfl _ _ _ rfl Tryz.underlying77 hiis hizs hiss hibs hics (by decide) rfl rfl rfl str_one (by decide) (by unfold maxLen; omega) (by omega) ?_
      intro GA capA W23 f_23
      clear f_22
      have fin := f_23.rot1.tail
      have hr : xs.flatMap (fun x => [Value.string x]) ++ (#[.string (tkN l k).text] : Array Value).toList = (xs ++ [(tkN l k).text]).flatMap fun x => [Value.string x] := by
        simp
      rw [hr] at fin
      clear hr f_23
      have hzn : (xs ++ [(tkN l k).text]).length = n + 1 := by simp [hxn]
      have hzs : ∀ x ∈ xs ++ [(tkN l k).text], x.size ≤ maxLen := fun x hx => by
        rcases List.mem_append.1 hx with hx | hx
        · exact hsz x hx
        · obtain rfl : x = _ := List.mem_singleton.1 hx
          exact (hK k).2.2.1
      go_wp2_with fail
      by_cases h1 : m2.is l (⟨#[44]⟩ : ByteArray).data.toList = true
      · obtain ⟨i2, rfl, hi2⟩ := is_yes h1
        have hful : n < 8 := by have := name_full hm2H.out; simpa using this
        have hnx : q0 = strsP s l (9 - (n + 1)) (xs ++ [(tkN l k).text]) ((Md.ok i2).take l wComma) := by
          rw [hq.out, show 9 - n = (9 - (n + 1)) + 1 by omega, ← hm2H.out, ← hxn]
          exact if_pos (by rw [hxn, hm2H.out]; exact h1)
        have hnxH := hid hnx
        clear hnx hq
        refine (take_m hE fin.sm ⟨#[44]⟩).mono ?_
        rintro r W24 ⟨rfl, t_24, q_24⟩
        have f_24 := fin.turn t_24 q_24
        clear fin t_24 q_24
        rw [h1]
        have hok := take_is l i2 wComma
        go_wp2_with fail
        go_roundw
        case rel => exact ⟨_, n + 1, _, _, _, rfl, hzn, by omega, f_24, hzs, hok, hnxH⟩
        case measure => simp [lenOf]; omega
      · have h1 := eq_false_of_ne_true h1
        have hnx : q0 = (xs ++ [(tkN l k).text], m2) := by
          rw [hq.out, show 9 - n = (8 - n) + 1 by omega, ← hm2H.out, ← hxn]
          exact if_neg (by rw [hxn, hm2H.out, show m2.is l wComma = false from h1]; simp)
        have hnxH := hid hnx
        clear hnx hq
        refine (take_no hE fin.sm h1).mono ?_
        rintro r W24 ⟨rfl, t_24, q_24⟩
        have f_24 := fin.turn t_24 q_24
        clear fin t_24 q_24
        go_wp2_with fail
        refine (want_m hE f_24.sm ⟨#[41]⟩).mono ?_
        rintro r W25 ⟨rfl, t_25, q_25⟩
        have f_25 := f_24.turn t_25 q_25
        clear f_24 t_25 q_25
        go_wp2_with fail
        obtain ⟨D3, fin2⟩ := f_25.srow hzn hzs
        go_ret
        exact ⟨_, n + 1, _, _, D3, _, rfl, hzn, fin2, by rw [hnxH.out]; rfl, fun _ _ => by rw [hnxH.out]⟩
  · have h0 := eq_false_of_ne_true h0
    rw [show leftQ s l m = ([m.text l], m.name s l false) from if_neg (by rw [show m.is l wOpen = false from h0]; simp)]
    go_enter Tryz.func83, Tryz.ntmps83
    go_wp2_with fail
    refine (take_no hE f.sm h0).mono ?_
    rintro r W1 ⟨rfl, t_1, q_1⟩
    have f_1 := f.turn t_1 q_1
    clear f t_1 q_1
    go_wp2_with fail
    refine (name_m hE f_1.sm 0 1).mono ?_
    rintro r W2 ⟨k, hlt_k, hj_k, rfl, t_2, q_2⟩
    have f_2 := f_1.turn t_2 q_2
    clear f_1 t_2 q_2
    have hfd := field_text (tkN l k).kind (tkN l k).text (tkN l k).num (lnN s l k) (clN s l k)
    go_wp2_with fail
    clear hfd
    have f_3 := f_2.alloc (.cells #[.string (tkN l k).text] 9)
    have z_3 := alloc_size W2 (.cells #[.string (tkN l k).text] 9)
    clear f_2
    generalize W2.heap.size = B at *
    generalize W2.alloc (.cells #[.string (tkN l k).text] 9) = W3 at *
    clear z_3
    have fin := Fr.rowOf (sz := 1) (n := 1) f_3 rfl (by decide)
    obtain ⟨D3, fin2⟩ := Fr.srow (xs := [(tkN l k).text]) fin rfl (fun x hx => by obtain rfl : x = _ := List.mem_singleton.1 hx; exact (hK k).2.2.1)
    go_ret
    exact ⟨_, 1, _, _, D3, _, rfl, rfl, fin2, rfl, fun j hj => by
      obtain ⟨i, rfl, _⟩ := name_ok hj
      obtain rfl : k = i := hj_k i rfl
      rfl⟩
end Go.Proofs.YtnlikhjmmnaknaaGreatDoor
/-
  Equations and nodes in a walk: their blocks, their rows.
-/
namespace Go.Proofs.YtnlikhjmmnaknaaGreatDoor
open Go.RowKit

theorem blk7 {w : World} {T : Nat} {v0 v1 v2 v3 v4 v5 v6 : Value} {t : TypeId} (h : w.heap[T]? = some (.cells #[v0, v1, v2, v3, v4, v5, v6] t (0, 0))) :
    w.cell? ⟨T, 0, none⟩ = some v0 ∧ w.cell? ⟨T, 1, none⟩ = some v1 ∧ w.cell? ⟨T, 2, none⟩ = some v2 ∧ w.cell? ⟨T, 3, none⟩ = some v3 ∧ w.cell? ⟨T, 4, none⟩ = some v4 ∧ w.cell? ⟨T, 5, none⟩ = some v5 ∧ w.cell? ⟨T, 6, none⟩ = some v6 ∧
    w.frozen? ⟨T, 0, none⟩ = false ∧ w.frozen? ⟨T, 1, none⟩ = false ∧ w.frozen? ⟨T, 2, none⟩ = false ∧ w.frozen? ⟨T, 3, none⟩ = false ∧ w.frozen? ⟨T, 4, none⟩ = false ∧ w.frozen? ⟨T, 5, none⟩ = false ∧ w.frozen? ⟨T, 6, none⟩ = false :=
  ⟨Lib.cell_of_heap h 0, Lib.cell_of_heap h 1, Lib.cell_of_heap h 2, Lib.cell_of_heap h 3, Lib.cell_of_heap h 4, Lib.cell_of_heap h 5, Lib.cell_of_heap h 6, frozen_none h, frozen_none h, frozen_none h, frozen_none h, frozen_none h, frozen_none h, frozen_none h⟩
theorem Fr.set7 {P : Option Nat} {T : Nat} {S : World → Prop} {w0 w : World} {ks : List Kp} {a0 a1 a2 a3 a4 a5 a6 : Value} {t : TypeId} {fr : Nat × Nat} (h : Fr P S w0 w (blkK T (.cells #[a0, a1, a2, a3, a4, a5, a6] t fr) :: ks)) (v0 v1 v2 v3 v4 v5 v6 : Value) :
    Fr P S w0 (((((((w.setCell ⟨T, 0, none⟩ v0).setCell ⟨T, 1, none⟩ v1).setCell ⟨T, 2, none⟩ v2).setCell ⟨T, 3, none⟩ v3).setCell ⟨T, 4, none⟩ v4).setCell ⟨T, 5, none⟩ v5).setCell ⟨T, 6, none⟩ v6) (blkK T (.cells #[v0, v1, v2, v3, v4, v5, v6] t fr) :: ks) := by
  have h0 := Fr.set (n := 0) h v0
  simp only [List.setIfInBounds_toArray, List.set_cons_zero] at h0
  have h1 := Fr.set (n := 1) h0 v1
  simp only [List.setIfInBounds_toArray, List.set_cons_zero, List.set_cons_succ] at h1
  have h2 := Fr.set (n := 2) h1 v2
  simp only [List.setIfInBounds_toArray, List.set_cons_zero, List.set_cons_succ] at h2
  have h3 := Fr.set (n := 3) h2 v3
  simp only [List.setIfInBounds_toArray, List.set_cons_zero, List.set_cons_succ] at h3
  have h4 := Fr.set (n := 4) h3 v4
  simp only [List.setIfInBounds_toArray, List.set_cons_zero, List.set_cons_succ] at h4
  have h5 := Fr.set (n := 5) h4 v5
  simp only [List.setIfInBounds_toArray, List.set_cons_zero, List.set_cons_succ] at h5
  have h6 := Fr.set (n := 6) h5 v6
  simp only [List.setIfInBounds_toArray, List.set_cons_zero, List.set_cons_succ] at h6
  exact h6
theorem blk9 {w : World} {T : Nat} {v0 v1 v2 v3 v4 v5 v6 v7 v8 : Value} {t : TypeId} (h : w.heap[T]? = some (.cells #[v0, v1, v2, v3, v4, v5, v6, v7, v8] t (0, 0))) :
    w.cell? ⟨T, 0, none⟩ = some v0 ∧ w.cell? ⟨T, 1, none⟩ = some v1 ∧ w.cell? ⟨T, 2, none⟩ = some v2 ∧ w.cell? ⟨T, 3, none⟩ = some v3 ∧ w.cell? ⟨T, 4, none⟩ = some v4 ∧ w.cell? ⟨T, 5, none⟩ = some v5 ∧ w.cell? ⟨T, 6, none⟩ = some v6 ∧ w.cell? ⟨T, 7, none⟩ = some v7 ∧ w.cell? ⟨T, 8, none⟩ = some v8 ∧
    w.frozen? ⟨T, 0, none⟩ = false ∧ w.frozen? ⟨T, 1, none⟩ = false ∧ w.frozen? ⟨T, 2, none⟩ = false ∧ w.frozen? ⟨T, 3, none⟩ = false ∧ w.frozen? ⟨T, 4, none⟩ = false ∧ w.frozen? ⟨T, 5, none⟩ = false ∧ w.frozen? ⟨T, 6, none⟩ = false ∧ w.frozen? ⟨T, 7, none⟩ = false ∧ w.frozen? ⟨T, 8, none⟩ = false :=
  ⟨Lib.cell_of_heap h 0, Lib.cell_of_heap h 1, Lib.cell_of_heap h 2, Lib.cell_of_heap h 3, Lib.cell_of_heap h 4, Lib.cell_of_heap h 5, Lib.cell_of_heap h 6, Lib.cell_of_heap h 7, Lib.cell_of_heap h 8, frozen_none h, frozen_none h, frozen_none h, frozen_none h, frozen_none h, frozen_none h, frozen_none h, frozen_none h, frozen_none h⟩
theorem Fr.set9 {P : Option Nat} {T : Nat} {S : World → Prop} {w0 w : World} {ks : List Kp} {a0 a1 a2 a3 a4 a5 a6 a7 a8 : Value} {t : TypeId} {fr : Nat × Nat} (h : Fr P S w0 w (blkK T (.cells #[a0, a1, a2, a3, a4, a5, a6, a7, a8] t fr) :: ks)) (v0 v1 v2 v3 v4 v5 v6 v7 v8 : Value) :
    Fr P S w0 (((((((((w.setCell ⟨T, 0, none⟩ v0).setCell ⟨T, 1, none⟩ v1).setCell ⟨T, 2, none⟩ v2).setCell ⟨T, 3, none⟩ v3).setCell ⟨T, 4, none⟩ v4).setCell ⟨T, 5, none⟩ v5).setCell ⟨T, 6, none⟩ v6).setCell ⟨T, 7, none⟩ v7).setCell ⟨T, 8, none⟩ v8) (blkK T (.cells #[v0, v1, v2, v3, v4, v5, v6, v7, v8] t fr) :: ks) := by
  have h0 := Fr.set (n := 0) h v0
  simp only [List.setIfInBounds_toArray, List.set_cons_zero] at h0
  have h1 := Fr.set (n := 1) h0 v1
  simp only [List.setIfInBounds_toArray, List.set_cons_zero, List.set_cons_succ] at h1
  have h2 := Fr.set (n := 2) h1 v2
  simp only [List.setIfInBounds_toArray, List.set_cons_zero, List.set_cons_succ] at h2
  have h3 := Fr.set (n := 3) h2 v3
  simp only [List.setIfInBounds_toArray, List.set_cons_zero, List.set_cons_succ] at h3
  have h4 := Fr.set (n := 4) h3 v4
  simp only [List.setIfInBounds_toArray, List.set_cons_zero, List.set_cons_succ] at h4
  have h5 := Fr.set (n := 5) h4 v5
  simp only [List.setIfInBounds_toArray, List.set_cons_zero, List.set_cons_succ] at h5
  have h6 := Fr.set (n := 6) h5 v6
  simp only [List.setIfInBounds_toArray, List.set_cons_zero, List.set_cons_succ] at h6
  have h7 := Fr.set (n := 7) h6 v7
  simp only [List.setIfInBounds_toArray, List.set_cons_zero, List.set_cons_succ] at h7
  have h8 := Fr.set (n := 8) h7 v8
  simp only [List.setIfInBounds_toArray, List.set_cons_zero, List.set_cons_succ] at h8
  exact h8
theorem Equation.info : (Tryz.prog.info? 79).map (fun i => (i.zero, i.size, i.bytes)) = some (some (.agg #[.slice none 0 0, .int .i64 0, .string ⟨#[]⟩, .int .i64 0, .slice none 0 0, .int .i64 0, .int .i64 0, .int .i64 0, .int .i64 0]), 9, 112) := by kernel_rfl
theorem info_Equation : ∃ i z, Tryz.prog.info? 79 = some i ∧ i.zero = some z ∧ i.size = 9 ∧ i.bytes = 112 ∧ z.cells.size = 9 := by
  have hi := Equation.info
  cases h : Tryz.prog.info? 79 with
  | none => rw [h] at hi; cases hi
  | some i0 => rw [h] at hi; simp only [Option.map_some, Option.some.injEq, Prod.mk.injEq] at hi; exact ⟨i0, _, rfl, hi.1, hi.2.1, hi.2.2, rfl⟩
theorem Node.info : (Tryz.prog.info? 61).map (fun i => (i.zero, i.size, i.bytes)) = some (some (.agg #[.string ⟨#[]⟩, .slice none 0 0, .slice none 0 0, .slice none 0 0, .slice none 0 0, .int .i64 0, .int .i64 0]), 7, 128) := by kernel_rfl
theorem info_Node : ∃ i z, Tryz.prog.info? 61 = some i ∧ i.zero = some z ∧ i.size = 7 ∧ i.bytes = 128 ∧ z.cells.size = 7 := by
  have hi := Node.info
  cases h : Tryz.prog.info? 61 with
  | none => rw [h] at hi; cases hi
  | some i0 => rw [h] at hi; simp only [Option.map_some, Option.some.injEq, Prod.mk.injEq] at hi; exact ⟨i0, _, rfl, hi.1, hi.2.1, hi.2.2, rfl⟩
theorem eq_one {A A' : Option Addr} {n c n' c' : Nat} {a b d e f g : Int} {x : ByteArray} : ∀ u ∈ (#[.slice A n c, .int .i64 a, .string x, .int .i64 b, .slice A' n' c', .int .i64 d, .int .i64 e, .int .i64 f, .int .i64 g] : Array Value).toList, u.oneCell' = true := by
  intro u hu
  simp only [List.mem_cons, List.not_mem_nil, or_false] at hu
  rcases hu with rfl | rfl | rfl | rfl | rfl | rfl | rfl | rfl | rfl <;> rfl
theorem node_one {x : ByteArray} {A1 A2 A3 A4 : Option Addr} {n1 n2 n3 n4 c1 c2 c3 c4 : Nat} {a b : Int} : ∀ u ∈ (#[.string x, .slice A1 n1 c1, .slice A2 n2 c2, .slice A3 n3 c3, .slice A4 n4 c4, .int .i64 a, .int .i64 b] : Array Value).toList, u.oneCell' = true := by
  intro u hu
  simp only [List.mem_cons, List.not_mem_nil, or_false] at hu
  rcases hu with rfl | rfl | rfl | rfl | rfl | rfl | rfl <;> rfl
section
variable {P : Option Nat} {S : World → Prop} {w0 w : World} {ks : List Kp} {A : Option Addr} {n c : Nat} {D D' : Nat → Prop}
theorem stay_rfl : Stay D w w := fun _ _ _ _ h => h
/-- an equation's parts -/
theorem Fr.eqFold {xs : List ByteArray} {e : Ex} {Ae : Option Addr} {ce : Nat} (h : Fr P S w0 w (srowK D ⟨A, c⟩ xs :: exK D' e Ae ce :: ks)) {ln cl : Int} (h1 : I64 ln) (h2 : I64 cl) : ∃ D2, Fr P S w0 w (eqK D2 ⟨xs, e, ln, cl⟩ ⟨A, c⟩ Ae ce :: ks) :=
  ⟨fun n => D n ∨ D' n, h.fuse (fun _ h => h) ⟨h1, h2, h.head.q.1, h.head.q.2.imp (fun _ _ _ => StrIn.keep stay_rfl (fun _ h => .inl h)), ExIn.wide (fun _ h => .inr h) _ _ _ h.tail.head.q⟩ (eqK_ok _ _ _ _ _)⟩
theorem eqs_push {w : World} {xs : List LEq} {x : LEq} (h : (eqsK D xs).Q w) (hx : EqOf D' w x.q x.S x.A x.cap) : (eqsK (fun n => D n ∨ D' n) (xs ++ [x])).Q w := by
  intro y hy
  rcases List.mem_append.1 hy with hy | hy
  · exact (h y hy).keep stay_rfl fun _ h => .inl h
  · obtain rfl : y = x := List.mem_singleton.1 hy
    exact hx.keep stay_rfl fun _ h => .inr h
theorem Fr.erow {xs : List LEq} (h : Fr P S w0 w (rowK w0 79 9 (.slice A n c) n (xs.flatMap LEq.cells) :: eqsK D xs :: ks)) (hn : xs.length = n) : ∃ D', Fr P S w0 w (erowK D' ⟨A, c⟩ (xs.map (·.q)) :: ks) := by
  refine ⟨fun g => (Value.slice A n c).ownBlock = some g ∨ D g, h.fuse (fun n h => h) ?_ (erowK_ok _ _ _)⟩
  have h1 := sl_own LEq.cells 9 (fun _ => rfl) (D := fun g => (Value.slice A n c).ownBlock = some g ∨ D g) hn h.head.q (fun g hg => .inl hg)
    (P := fun b o (x : LEq) => EqIn (fun g => (Value.slice A n c).ownBlock = some g ∨ D g) w b o x.q) (fun b o j hj hD hc => ⟨hD, xs[j].S, xs[j].A, xs[j].cap, ⟨hc 0 (by omega), hc 1 (by omega), hc 2 (by omega), hc 3 (by omega), hc 4 (by omega), hc 5 (by omega), hc 6 (by omega), hc 7 (by omega), hc 8 (by omega)⟩, (h.tail.head.q _ (List.getElem_mem hj)).keep stay_rfl (fun _ h => .inr h)⟩)
  exact ⟨by rw [List.length_map, hn]; exact h1.1, slat_map h1.2⟩
theorem Fr.noEqs (h : Fr P S w0 w ks) : Fr P S w0 w (rowK w0 79 9 (.slice none 0 0) 0 (([] : List LEq).flatMap LEq.cells) :: eqsK (fun _ => False) [] :: ks) :=
  (h.free (x := eqsK (fun _ => False) []) (fun n h => h) (by simp [eqsK]) (eqsK_ok _ _)).nilRow 79 9
theorem nodes_push {w : World} {xs : List LNode} {x : LNode} (h : (nodesK D xs).Q w) (hx : NodeOf D' w x.n x.S) : (nodesK (fun n => D n ∨ D' n) (xs ++ [x])).Q w := by
  intro y hy
  rcases List.mem_append.1 hy with hy | hy
  · exact (h y hy).keep stay_rfl fun _ h => .inl h
  · obtain rfl : y = x := List.mem_singleton.1 hy
    exact hx.keep stay_rfl fun _ h => .inr h
theorem Fr.nrow {xs : List LNode} (h : Fr P S w0 w (rowK w0 61 7 (.slice A n c) n (xs.flatMap LNode.cells) :: nodesK D xs :: ks)) (hn : xs.length = n) : ∃ D', Fr P S w0 w (nrowK D' ⟨A, c⟩ (xs.map (·.n)) :: ks) := by
  refine ⟨fun g => (Value.slice A n c).ownBlock = some g ∨ D g, h.fuse (fun n h => h) ?_ (nrowK_ok _ _ _)⟩
  have h1 := sl_own LNode.cells 7 (fun _ => rfl) (D := fun g => (Value.slice A n c).ownBlock = some g ∨ D g) hn h.head.q (fun g hg => .inl hg)
    (P := fun b o (x : LNode) => NodeIn (fun g => (Value.slice A n c).ownBlock = some g ∨ D g) w b o x.n) (fun b o j hj hD hc => ⟨hD, xs[j].S, ⟨hc 0 (by omega), hc 1 (by omega), hc 2 (by omega), hc 3 (by omega), hc 4 (by omega), hc 5 (by omega), hc 6 (by omega)⟩, (h.tail.head.q _ (List.getElem_mem hj)).keep stay_rfl (fun _ h => .inr h)⟩)
  exact ⟨by rw [List.length_map, hn]; exact h1.1, slat_map h1.2⟩
theorem Fr.noNodes (h : Fr P S w0 w ks) : Fr P S w0 w (rowK w0 61 7 (.slice none 0 0) 0 (([] : List LNode).flatMap LNode.cells) :: nodesK (fun _ => False) [] :: ks) :=
  (h.free (x := nodesK (fun _ => False) []) (fun n h => h) (by simp [nodesK]) (nodesK_ok _ _)).nilRow 61 7
/-- a node's parts -/
theorem Fr.nodeFold {D1 D2 D3 D4 : Nat → Prop} {A1 A2 A3 A4 : Option Addr} {c1 c2 c3 c4 : Nat} {vs us ts : List VarE} {qs : List EqE} (h : Fr P S w0 w (vrowK D1 ⟨A1, c1⟩ vs :: vrowK D2 ⟨A2, c2⟩ us :: vrowK D3 ⟨A3, c3⟩ ts :: erowK D4 ⟨A4, c4⟩ qs :: ks)) {name : ByteArray} {ln cl : Int} (hn : name.size ≤ maxLen) (h1 : I64 ln) (h2 : I64 cl) :
    ∃ D, Fr P S w0 w (nodeK D ⟨name, vs, us, ts, qs, ln, cl⟩ ⟨⟨A1, c1⟩, ⟨A2, c2⟩, ⟨A3, c3⟩, ⟨A4, c4⟩⟩ :: ks) := by
  have hA := h.fuse (x := ⟨fun n => D1 n ∨ D2 n, fun w => ((vrowK D1 ⟨A1, c1⟩ vs).Q w ∧ (vrowK D2 ⟨A2, c2⟩ us).Q w)⟩) (fun _ h => h) ⟨h.head.q, h.tail.head.q⟩ (fun w w' row hlt hq hg hr => ⟨vrowK_ok _ _ _ w w' row (fun n hn => hlt n (.inl hn)) hq.1 hg (fun T hT hn => hr T hT (.inl hn)), vrowK_ok _ _ _ w w' row (fun n hn => hlt n (.inr hn)) hq.2 hg (fun T hT hn => hr T hT (.inr hn))⟩)
  have hB := (hA.rot1.rot2).fuse (x := ⟨fun n => D4 n ∨ D3 n, fun w => ((vrowK D3 ⟨A3, c3⟩ ts).Q w ∧ (erowK D4 ⟨A4, c4⟩ qs).Q w)⟩) (fun _ h => h) ⟨h.tail.tail.head.q, h.tail.tail.tail.head.q⟩ (fun w w' row hlt hq hg hr => ⟨vrowK_ok _ _ _ w w' row (fun n hn => hlt n (.inr hn)) hq.1 hg (fun T hT hn => hr T hT (.inr hn)), erowK_ok _ _ _ w w' row (fun n hn => hlt n (.inl hn)) hq.2 hg (fun T hT hn => hr T hT (.inl hn))⟩)
  refine ⟨fun n => (D4 n ∨ D3 n) ∨ (D1 n ∨ D2 n), hB.fuse (fun _ h => h) ?_ (nodeK_ok _ _ _)⟩
  have a := h.head.q
  have b := h.tail.head.q
  have c := h.tail.tail.head.q
  have d := h.tail.tail.tail.head.q
  exact ⟨hn, h1, h2, a.1, b.1, c.1, d.1, a.2.imp (fun _ _ _ => VarIn.keep stay_rfl fun _ h => .inr (.inl h)), b.2.imp (fun _ _ _ => VarIn.keep stay_rfl fun _ h => .inr (.inr h)), c.2.imp (fun _ _ _ => VarIn.keep stay_rfl fun _ h => .inl (.inr h)), d.2.imp (fun _ _ _ => EqIn.keep stay_rfl fun _ h => .inl (.inl h))⟩
end
section
variable {s : ByteArray} {l : List Tk} {m : Md}
theorem came_ex {mx : Md} {e : Ex} {t : Int} (h : Came (m.seq (exprN s l 64 0)) mx e t) : mx = (exP s l m).2 ∧ ∀ j, mx = .ok j → e = (exP s l m).1 := by
  unfold exP
  generalize m.seq (exprN s l 64 0) = q at *
  cases q with
  | ok e' i' => obtain ⟨h1, h2, _⟩ := h; exact ⟨h1, fun _ _ => h2⟩
  | bad a b c => have h : mx = _ := h; exact ⟨h, fun j hj => by rw [h] at hj; cases hj⟩
theorem eqs_bad (h : m.isBad = true) {k : Nat} {xs : List EqE} : (eqsGo s l k xs m).2 = m := by
  cases k with
  | zero => rfl
  | succ k =>
    have h2 : (eqP s l xs.length m).2 = m := by
      cases hm : (eqP s l xs.length m).2 with
      | ok j => obtain ⟨⟨i, rfl⟩, _⟩ := eq_ok hm; cases h
      | bad a b c =>
        cases m with
        | ok i => cases h
        | bad a' b' c' =>
          have h3 : (leftP s l xs.length (.bad a' b' c')).2 = .bad a' b' c' := by
            unfold leftP; rw [if_neg (by rw [bad_is rfl]; simp)]; rfl
          have h4 : (eqP s l xs.length (.bad a' b' c')).2 = .bad a' b' c' := by
            unfold eqP; dsimp only; rw [h3]; rfl
          rw [← hm, h4]
    unfold eqsGo
    rw [if_pos (.inl (by rw [h2]; exact h)), h2]
    exact (bad_keep (s := s) h).1 _
theorem eqs_stop {k : Nat} {xs : List EqE} {m9 : Md} (h : (eqP s l xs.length m).2 = m9) (hc : m9.isBad = true ∨ m9.is l wTel = true) : eqsGo s l (k + 1) xs m = (xs ++ [(eqP s l xs.length m).1], m9.take l wTel) := by
  subst h; exact if_pos hc
theorem eqs_more {k : Nat} {xs : List EqE} {m9 : Md} (h : (eqP s l xs.length m).2 = m9) (h1 : m9.isBad = false) (h2 : m9.is l wTel = false) : eqsGo s l (k + 1) xs m = eqsGo s l k (xs ++ [(eqP s l xs.length m).1]) m9 := by
  subst h; exact if_neg (by rw [h1, h2]; simp)
theorem src_stop {k : Nat} {xs : List NodeE} {m0 m9 : Md} (h0 : m0 = if xs.length = 16 ∧ m.is l wNode = true then m.err s l 3 else m) (h : (nodeP s l m0).2 = m9) (hc : m9.isBad = true ∨ m9.last l = true) : srcGo s l (k + 1) xs m = (xs ++ [(nodeP s l m0).1], m9) := by
  subst h0; subst h; exact if_pos hc
theorem src_more {k : Nat} {xs : List NodeE} {m0 m9 : Md} (h0 : m0 = if xs.length = 16 ∧ m.is l wNode = true then m.err s l 3 else m) (h : (nodeP s l m0).2 = m9) (h1 : m9.isBad = false) (h2 : m9.last l = false) : srcGo s l (k + 1) xs m = srcGo s l k (xs ++ [(nodeP s l m0).1]) m9 := by
  subst h0; subst h; exact if_neg (by rw [h1, h2]; simp)
theorem testQ_no {n i : Nat} (hj : ∀ j, m = .ok j → i = j) (hk : (tkN l i).kind ≠ 1) (ho : m.is l wOpen = false) : testQ s l n m = if n = 48 then (m.err s l 21).err s l 3 else m.err s l 21 := by
  unfold testQ
  cases m with
  | ok j => obtain rfl := hj j rfl; dsimp only; rw [if_pos (show (tkN l i).kind ≠ 1 ∧ isN l i wOpen = false from ⟨hk, ho⟩)]
  | bad a b c => rfl
theorem testQ_yes {n i : Nat} (hj : ∀ j, m = .ok j → i = j) (hk : (tkN l i).kind = 1 ∨ m.is l wOpen = true) : testQ s l n m = if n = 48 then m.err s l 3 else m := by
  unfold testQ
  cases m with
  | ok j =>
    obtain rfl := hj j rfl
    dsimp only
    rw [if_neg (show ¬ ((tkN l i).kind ≠ 1 ∧ isN l i wOpen = false) from fun h => hk.elim h.1 (fun h2 => by rw [show isN l i wOpen = true from h2] at h; exact absurd h.2 (by simp)))]
  | bad a b c => rfl
end
end Go.Proofs.YtnlikhjmmnaknaaGreatDoor
